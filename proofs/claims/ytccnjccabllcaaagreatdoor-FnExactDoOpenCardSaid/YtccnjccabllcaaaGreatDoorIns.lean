/-
  slices.Insert on lists of accounts, where there is room: after the guide's proof for lists of texts.
-/
import Derived.Test.YtccnjccabllcaaaGreatDoorChg
import Derived.Shelf.Spec.SlicesInsertGrow
namespace Go.Proofs.YtccnjccabllcaaaGreatDoor
open Sx Go.RowKit Go.Lib
set_option maxRecDepth 100000
theorem run_copy_wide {P:Program} (w:World) (dT sT ty elem:TypeId) (k n b o dLen dCap:Nat) (a:Addr) (sLen sCap:Nat) (cs:List Value)
  (hu:P.underlying dT=some (.slice elem)) (hs:(P.info? elem).map (·.size)=some k) (hn:n=Nat.min sLen dLen) (hl:cs.length=n*k)
  (hsrc:∀ j v,cs[j]?=some v→w.cell? (a.add j)=some v) (hc:∀ j,j<cs.length→(w.cell? ⟨b,o+j,none⟩).isSome=true) (hf:∀ j,j<cs.length→w.frozen? ⟨b,o+j,none⟩=false) (h1:∀ v∈cs,v.oneCell'=true) :
  (Builtin.copy_ #[dT,sT] ty #[.slice (some ⟨b,o,none⟩) dLen dCap,.slice (some a) sLen sCap]).run P w=.ok (goInt n) (w.setCells b o cs):=by
 have hld:=run_loadCells_list (P:=P) w a cs hsrc
 have hst:=run_storeCells_cells (P:=P) b o cs 0 w (by simpa using hc) (by simpa using hf) h1
 rw [hl] at hld
 cases hq:P.info? elem with
 | none=>simp [hq] at hs
 | some i =>
  have hi:i.size=k:=by simpa [hq] using hs
  simp [Builtin.copy_,run_underlying hu,Builtin.lenOf,Builtin.firstCells,sizeOf,typeInfo,hq,hi,← hn,hld,hst]
set_option maxHeartbeats 4000000 in
theorem ins_shift (b n c i vb:Nat) (cs vs:List Value) (w:World) (hi:i<n) (hroom:n+1≤c) (hc63:n+1≤9223372036854775807) (hvb:vb≠b)
  (hcl:cs.length=n*4) (hvl:vs.length=4)
  (hcs:∀ j v,cs[j]?=some v→w.cell? ⟨b,j,none⟩=some v) (hsp:∀ j,j<(n+1)*4→(w.cell? ⟨b,j,none⟩).isSome=true) (hfz:∀ j,w.frozen? ⟨b,j,none⟩=false)
  (hvs:∀ j v,vs[j]?=some v→w.cell? ⟨vb,j,none⟩=some v) (h1c:∀ v∈cs,v.oneCell'=true) (h1v:∀ v∈vs,v.oneCell'=true)
  (tA tB:TypeId) (kA kB:Nat) (hsa:w.shape? vb=some (tA,kA)) (hsb:w.shape? b=some (tB,kB)) (hkB:kB≠0) (hfa:w.frozen? ⟨vb,0,none⟩=false) (hfe:w.frozen? ⟨vb,kA,none⟩=false) :
  Calls Tryz.prog 197 #[.slice (some ⟨b,0,none⟩) n c,.int .i64 i,.slice (some ⟨vb,0,none⟩) 1 1] w fun e w' =>
   e=.returned (.slice (some ⟨b,0,none⟩) (n+1) c)∧w'=(w.drew.setCells b ((i+1)*4) (cs.drop (i*4))).setCells b (i*4) vs:=by
 have hz2:¬ ((i:Int)=(n:Int)):=by omega
 have hsz:(Tryz.prog.info? 135).map (·.size)=some 4:=by kernel_rfl
 have hzz:∀ w,(Go.sizeOf 135).run Tryz.prog w=.ok 4 w:=fun w=>prun_run (by kernel_rfl) w
 have hul:Tryz.prog.underlying 32=some (.slice 135):=by kernel_rfl
 have hov:∀ lb cb,(callFunc 199 #[.slice (some ⟨vb,0,none⟩) 1 1,.slice (some ⟨b,(i+1)*4,none⟩) lb cb]).run Tryz.prog w=.ok (.value (.bool false)) w:=fun lb cb=>by
  rw [run_callFunc_extern Tryz.func199 (by kernel_rfl) (by kernel_rfl) (by kernel_rfl) (e:=Extern.SlicesOverlaps.overlaps #[32,32] #[4]) (by kernel_rfl),
   Lib.run_overlaps_apart w 32 4 135 hul 4 hzz ⟨vb,0,none⟩ ⟨b,(i+1)*4,none⟩ 1 1 lb cb hvb tA tB kA kB hsa hsb hkB hfa hfe]
  rfl
 have hdl:(cs.drop (i*4)).length=(n-i)*4:=by rw [List.length_drop,hcl,← Nat.sub_mul]
 have hmul:(i+1)*4+(n-i)*4=(n+1)*4:=by omega
 have mixed:=Tryz.mix
 have hb1:(0:Int)≤(i:Int)+1:=by omega
 have hin:i≤n:=by omega
 have hin1:i≤n+1:=by omega
 have hb3:(i:Int)≤(n:Int)+1:=by omega
 have hw1:IntKind.i64.wrap ((i:Int)+1)=(i:Int)+1:=by rw [IntKind.wrap_i64]; omega
 have hb2:¬ (c=i+1):=by omega
 have hb4:¬ (c=i):=by omega
 have hcp1:∀ ty dc sc,(Builtin.copy_ #[32,32] ty #[.slice (some ⟨b,(i+1)*4,none⟩) (n-i) dc,.slice (some ⟨b,i*4,none⟩) (n+1-i) sc]).run Tryz.prog w.drew=.ok (goInt (n-i:Nat)) (w.drew.setCells b ((i+1)*4) (cs.drop (i*4))):=fun ty dc sc =>
  run_copy_wide w.drew _ _ ty 135 4 (n-i) b ((i+1)*4) (n-i) dc ⟨b,i*4,none⟩ (n+1-i) sc (cs.drop (i*4)) hul hsz (by simp only [Nat.min_def]; split <;> omega) hdl
   (fun j v hj=>by rw [Addr.add_lit]; exact hcs (i*4+j) v (by rwa [List.getElem?_drop] at hj))
   (fun j hj=>hsp _ (by omega)) (fun j _=>hfz _) (fun v hv=>h1c v (List.mem_of_mem_drop hv))
 obtain⟨W1,hW1⟩:∃ W1,W1=w.drew.setCells b ((i+1)*4) (cs.drop (i*4)):=⟨_,rfl⟩
 have hsp1:∀ k,k<(n+1)*4→(W1.cell? ⟨b,k,none⟩).isSome=true:=fun k hk=>by
  rw [hW1]
  exact isSome_setCells b (cs.drop (i*4)) ((i+1)*4) w.drew (fun j hj=>hsp _ (by omega)) k (hsp k hk)
 have hcp2:∀ (W:World),(∀ x,W.cell? x=W1.cell? x)→(∀ x,W.frozen? x=W1.frozen? x)→∀ ty dc,(Builtin.copy_ #[32,32] ty #[.slice (some ⟨b,i*4,none⟩) (n+1-i) dc,.slice (some ⟨vb,0,none⟩) 1 1]).run Tryz.prog W=.ok (goInt (1:Nat)) (W.setCells b (i*4) vs):=fun W hWc hWf ty dc =>
  run_copy_wide W _ _ ty 135 4 1 b (i*4) (n+1-i) dc ⟨vb,0,none⟩ 1 1 vs hul hsz (by simp only [Nat.min_def]; split <;> omega) (by rw [hvl])
   (fun j v hj=>by
    rw [Addr.add_lit,Nat.zero_add,hWc,hW1,World.cell?_setCells_out b _ _ _ _ (fun h _=>absurd h hvb)]
    exact hvs j v hj)
   (fun j hj=>by rw [hWc]; exact hsp1 _ (by omega)) (fun j _=>by rw [hWf,hW1,World.frozen?_setCells]; exact hfz _) h1v
 rw [← hW1] at hcp1
 go_enter Tryz.func197,Tryz.ntmps197
 go_wp2_with (simp only [hov])
 go_region_law_o (refine step_copy_runI rfl _ _ 32 32 rfl _ _ (by simp [Act.eval,Act.put]) (by simp [Act.eval,Act.put]) (hcp1 _ _ _) ?_)
 go_wp2_with (at_builtin; refine wpList_copy_runI _ rfl _ _ 32 32 rfl _ _ rfl rfl (hcp2 _ (fun _=>rfl) (fun _=>rfl) _ _) ?_)
 go_ret
 first | exact⟨rfl,rfl⟩ | exact⟨rfl,by rw [hW1]⟩
set_option maxHeartbeats 4000000 in
theorem ins_end (b n c vb:Nat) (vs:List Value) (w:World) (hroom:n+1≤c) (hvl:vs.length=4)
  (hsp:∀ j,j<(n+1)*4→(w.cell? ⟨b,j,none⟩).isSome=true) (hfz:∀ j,w.frozen? ⟨b,j,none⟩=false) (hvs:∀ j v,vs[j]?=some v→w.cell? ⟨vb,j,none⟩=some v) (h1v:∀ v∈vs,v.oneCell'=true) :
  Calls Tryz.prog 197 #[.slice (some ⟨b,0,none⟩) n c,.int .i64 n,.slice (some ⟨vb,0,none⟩) 1 1] w fun e w' =>
   e=.returned (.slice (some ⟨b,0,none⟩) (n+1) c)∧w'=w.setCells b (n*4) vs:=by
 have hul:Tryz.prog.underlying 32=some (.slice 135):=by kernel_rfl
 have hsz:(Tryz.prog.info? 135).map (·.size)=some 4:=by kernel_rfl
 obtain⟨i0,hi0,hi4⟩:=Option.map_eq_some_iff.1 hsz
 have mixed:=Tryz.mix
 have hsrc:Src Tryz.prog i0.size 32 (.slice (some ⟨vb,0,none⟩) 1 1) 1 vs w:=Src.ofSlice w hul ⟨vb,0,none⟩ 1 1 vs (by rw [hi4,hvl]) (fun j u hj=>by rw [Addr.add_lit,Nat.zero_add]; exact hvs j u hj) h1v
 have hk:∀ j,0+n*i0.size+j=n*4+j:=fun j=>by rw [hi4]; omega
 have hk0:0+n*i0.size=n*4:=by rw [hi4]; omega
 go_enter Tryz.func197,Tryz.ntmps197
 go_wp2_with (at_builtin; refine wpList_append_room_src _ rfl _ _ 32 32 rfl 135 i0 hul hi0 b 0 n c rfl _ rfl 1 vs hsrc hroom (fun j hj=>by rw [hk]; exact hsp _ (by omega)) (fun j _=>by rw [hk]; exact hfz _) ?_)
 go_ret
 exact⟨rfl,by first | rfl | rw [hk0] | simp [hi4]⟩
structure Other (w w':World) (b:Nat):Prop where
 os:w'.os=w.os
 tape:w'.tape=w.tape
 output:w'.output=w.output
 keep:∀ k,k≠b→w'.heap[k]?=w.heap[k]?
theorem Other.trans {w w1 w2:World} {b:Nat} (h:Other w w1 b) (k:Other w1 w2 b):Other w w2 b:=⟨k.os.trans h.os,k.tape.trans h.tape,k.output.trans h.output,fun j hj=>(k.keep j hj).trans (h.keep j hj)⟩
theorem heap_setCell {w:World} {b o:Nat} {x:Value} {L:List Value} {t:TypeId} {fr:Nat × Nat} (h:w.heap[b]?=some (.cells L.toArray t fr)) (ho:o<L.length) :
  (w.setCell ⟨b,o,none⟩ x).heap[b]?=some (.cells (setl L o [x]).toArray t fr)∧Other w (w.setCell ⟨b,o,none⟩ x) b:=by
 refine⟨?_,rfl,rfl,rfl,fun k hk=>?_⟩
 ·simp only [World.setCell,Array.getElem?_modify,if_true,h,Option.map_some,Option.isSome_none,Bool.false_eq_true,if_false]
  congr 2
  apply Array.ext'
  simp only [Array.toList_setIfInBounds,setl,List.length_cons,List.length_nil,List.append_assoc]
  rw [List.set_eq_take_append_cons_drop,if_pos ho]
  rfl
 ·simp only [World.setCell,Array.getElem?_modify]
  rw [if_neg (fun e:b=k=>hk e.symm)]
theorem setl_cons {L xs:List Value} {o:Nat} {x:Value} (h:o+1+xs.length≤L.length):setl (setl L o [x]) (o+1) xs=setl L o (x :: xs):=by
 simp only [setl,List.length_cons,List.length_nil]
 have h1:(L.take o).length=o:=by rw [List.length_take]; omega
 have e1:List.take (o+1) (List.take o L++[x]++List.drop (o+(0+1)) L)=List.take o L++[x]:=by
  rw [List.take_append_of_le_length (by simp [h1])]
  exact List.take_of_length_le (by simp [h1])
 have e2:List.drop (o+1+xs.length) (List.take o L++[x]++List.drop (o+(0+1)) L)=List.drop (o+(xs.length+1)) L:=by
  have e3:o+1+xs.length=(List.take o L++[x]).length+xs.length:=by simp [h1]
  rw [e3,List.drop_length_add_append,List.drop_drop]
  congr 1
  omega
 rw [e1,e2]
 simp
theorem setl_len {L xs:List Value} {o:Nat} (h:o+xs.length≤L.length):(setl L o xs).length=L.length:=by
 simp only [setl,List.length_append,List.length_take,List.length_drop]
 omega
theorem setl_zero {L:List Value} {o:Nat}:setl L o []=L:=by simp [setl]
theorem heap_setCells {b:Nat} {t:TypeId} {fr:Nat × Nat}:∀ {xs:List Value} {w:World} {o:Nat} {L:List Value},w.heap[b]?=some (.cells L.toArray t fr)→o+xs.length≤L.length →
  (w.setCells b o xs).heap[b]?=some (.cells (setl L o xs).toArray t fr)∧Other w (w.setCells b o xs) b
 | [],w,o,L,h,_=>⟨by rw [setl_zero]; exact h,rfl,rfl,rfl,fun _ _=>rfl⟩
 | x :: xs,w,o,L,h,ho=>by
  simp only [List.length_cons] at ho
  obtain⟨h1,h2⟩:=heap_setCell (x:=x) h (show o<L.length by omega)
  obtain⟨h3,h4⟩:=heap_setCells (xs:=xs) (o:=o+1) h1 (by rw [setl_len (by simp; omega)]; omega)
  rw [setl_cons (by omega)] at h3
  exact⟨h3,h2.trans h4⟩
def NewRow (n:Nat) (L:List Value) (w:World) (e:Ending) (w':World):Prop :=
 ∃ (G:Nat) (sp:List Value),n≤G∧e=.returned (.slice (some ⟨w.heap.size,0,none⟩) n G)∧w'.heap[w.heap.size]?=some (.cells (L++sp).toArray 135 (0,0))∧Other w w' w.heap.size
theorem other_alloc (w:World) (o:Obj):Other w (w.drew.alloc o) w.heap.size∧(w.drew.alloc o).heap[w.heap.size]?=some o:=by
 refine⟨⟨rfl,rfl,rfl,fun k hk=>?_⟩,?_⟩
 ·show(w.heap.push o)[k]?=_
  rw [Array.getElem?_push,if_neg hk]
 ·show(w.heap.push o)[w.heap.size]?=_
  rw [Array.getElem?_push,if_pos rfl]
set_option maxHeartbeats 4000000 in
theorem ins_new (base:Option Addr) (n c vb:Nat) (cs vs:List Value) (w:World) (hroom:c<n+1) (hbig:(n+1)*64≤140737488355328) (hcl:cs.length=n*4) (hvl:vs.length=4) (hnil:base=none→n=0) (hnc:n≤c)
  (hcs:∀ a,base=some a→∀ j v,cs[j]?=some v→w.cell? (a.add j)=some v) (hvs:∀ j v,vs[j]?=some v→w.cell? ⟨vb,j,none⟩=some v) (h1v:∀ v∈vs,v.oneCell'=true) :
  Calls Tryz.prog 197 #[.slice base n c,.int .i64 n,.slice (some ⟨vb,0,none⟩) 1 1] w (NewRow (n+1) (cs++vs) w):=by
 have hul:Tryz.prog.underlying 32=some (.slice 135):=by kernel_rfl
 have hsz:(Tryz.prog.info? 135).map (fun i=>(i.zero.isSome,i.size,i.bytes))=some (true,4,64):=by kernel_rfl
 obtain⟨i0,hi0,hi4⟩:=Option.map_eq_some_iff.1 hsz
 simp only [Prod.mk.injEq] at hi4
 obtain⟨hz,hi4,hi64⟩:=hi4
 obtain⟨z,hz⟩:=Option.isSome_iff_exists.1 hz
 have mixed:=Tryz.mix
 have hsrc:Src Tryz.prog i0.size 32 (.slice (some ⟨vb,0,none⟩) 1 1) 1 vs w:=Src.ofSlice w hul ⟨vb,0,none⟩ 1 1 vs (by rw [hi4,hvl]) (fun j u hj=>by rw [Addr.add_lit,Nat.zero_add]; exact hvs j u hj) h1v
 have hold:(Builtin.firstCells i0.size n (.slice base n c)).run Tryz.prog w.drew=.ok cs.toArray w.drew:=by
  rw [hi4]
  cases base with
  | none =>
   obtain rfl:=hnil rfl
   obtain rfl:cs=[]:=List.eq_nil_of_length_eq_zero (by omega)
   rfl
  | some a=>exact run_firstCells_some w.drew 4 n a n c cs hcl (fun j v hj=>hcs a rfl j v hj)
 have hrz:=fun ty=>run_append_grow_src (P:=Tryz.prog) (w:=w) 32 32 ty 135 i0 z hul hi0 hz base n c cs hold _ 1 vs hsrc hroom (by omega) (by rw [hi64]; exact growslice_fits hroom hbig)
 obtain⟨G,hG⟩:∃ G,G=grownCap w (n+1) c 135:=⟨_,rfl⟩
 have hGn:n+1≤G:=by rw [hG]; exact grownCap_ge w _ _ _
 rw [← hG] at hrz
 obtain⟨sp,hsp⟩:∃ sp:Array Value,sp=Builtin.zeroCells z.cells (G-(n+1)):=⟨_,rfl⟩
 rw [← hsp] at hrz
 obtain⟨W,hW⟩:∃ W,W=w.drew.alloc (.cells ((cs++vs).toArray++sp) 135):=⟨_,rfl⟩
 rw [← hW] at hrz
 have fin:NewRow (n+1) (cs++vs) w (.returned (.slice (some ⟨w.heap.size,0,none⟩) (n+1) G)) W:=by
  obtain⟨q1,q2⟩:=other_alloc w (.cells ((cs++vs).toArray++sp) 135)
  rw [← hW] at q1 q2
  refine⟨G,sp.toList,hGn,rfl,?_,q1⟩
  rw [q2]
  congr 2
  apply Array.ext'
  simp
 clear hold hsp hW hG
 go_enter Tryz.func197,Tryz.ntmps197
 go_wp2_with (at_builtin; refine Lib.wpList_append_run _ rfl _ _ _ _ rfl _ _ rfl rfl _ _ (hrz _) ?_)
 go_ret
 exact fin
set_option maxHeartbeats 4000000 in
theorem ins_grow (b n c i vb:Nat) (cs vs:List Value) (w:World) (hi:i<n) (hnc:n≤c) (hroom:c<n+1) (hbig:(n+1)*64≤140737488355328) (hcl:cs.length=n*4) (hvl:vs.length=4)
  (hcs:∀ j v,cs[j]?=some v→w.cell? ⟨b,j,none⟩=some v) (hvs:∀ j v,vs[j]?=some v→w.cell? ⟨vb,j,none⟩=some v) (h1c:∀ v∈cs,v.oneCell'=true) (h1v:∀ v∈vs,v.oneCell'=true) :
  Calls Tryz.prog 197 #[.slice (some ⟨b,0,none⟩) n c,.int .i64 i,.slice (some ⟨vb,0,none⟩) 1 1] w (NewRow (n+1) (cs.take (i*4)++vs++cs.drop (i*4)) w):=by
 have hul:Tryz.prog.underlying 32=some (.slice 135):=by kernel_rfl
 have hui:Tryz.prog.underlying 3=some (.int .i64):=by kernel_rfl
 have hsz:(Tryz.prog.info? 135).map (·.size)=some 4:=by kernel_rfl
 have hsz2:(Tryz.prog.info? 135).map (fun i=>((i.zero.map (·.cells.size)),i.size,i.bytes))=some (some 4,4,64):=by kernel_rfl
 obtain⟨i0,hi0,hi4⟩:=Option.map_eq_some_iff.1 hsz2
 simp only [Prod.mk.injEq] at hi4
 obtain⟨hz,hi4,hi64⟩:=hi4
 obtain⟨z,hz,hz4⟩:=Option.map_eq_some_iff.1 hz
 have mixed:=Tryz.mix
 have hz2:¬ ((i:Int)=(n:Int)):=by omega
 have hz3:(c:Int)<(n:Int)+1:=by omega
 have hbw:b<w.heap.size:=block_lt_of_cell (hcs 0 _ (List.getElem?_eq_getElem (by omega)))
 have hvw:vb<w.heap.size:=block_lt_of_cell (hvs 0 _ (List.getElem?_eq_getElem (by omega)))
 have hkk:(n:Int)+1-(i:Int)=((n+1-i:Nat):Int):=by omega
 have hik:i+(n+1-i)=n+1:=by omega
 have htl:(cs.take (i*4)).length=i*4:=by rw [List.length_take]; omega
 have hdl:(cs.drop (i*4)).length=(n-i)*4:=by rw [List.length_drop,hcl,← Nat.sub_mul]
 have hold:(Builtin.firstCells i0.size i (.slice (some ⟨b,0,none⟩) i c)).run Tryz.prog w.drew=.ok (cs.take (i*4)).toArray w.drew:=by
  rw [hi4]
  exact run_firstCells_some w.drew 4 i ⟨b,0,none⟩ i c (cs.take (i*4)) htl (fun j v hj=>by
   rw [Addr.add_lit,Nat.zero_add]
   rw [List.getElem?_take] at hj
   split at hj
   ·exact hcs j v hj
   ·cases hj)
 obtain⟨G,hG⟩:∃ G,G=grownCap w (n+1) c 135:=⟨_,rfl⟩
 obtain⟨ROW,hROW⟩:∃ ROW:Array Value,ROW=(cs.take (i*4)).toArray++Builtin.zeroCells z.cells (n+1-i)++Builtin.zeroCells z.cells (G-(n+1)):=⟨_,rfl⟩
 have hrz:∀ ty,(Builtin.append_ #[32,3] ty #[.slice (some ⟨b,0,none⟩) i c,.int .i64 ((n:Int)+1-(i:Int))]).run Tryz.prog w =
   .ok (.slice (some ⟨w.heap.size,0,none⟩) (n+1) G) (w.drew.alloc (.cells ROW 135)):=fun ty=>by
  have h:=Lib.run_append_grow_zeros w 32 3 ty 135 i0 z .i64 .i64 hul hui hi0 hz (some ⟨b,0,none⟩) i c (cs.take (i*4)) hold (n+1-i) (by omega) (by omega) (by omega) (by omega) (by rw [hi64]; omega) (by rw [hi64,hik]; exact growslice_fits hroom hbig)
  rw [hik] at h
  rw [hkk,hROW,hG]
  exact h
 have hGn:n+1≤G:=by rw [hG]; exact grownCap_ge w _ _ _
 have hRl:ROW.size=G*4:=by
  rw [hROW]
  simp only [Array.size_append,Builtin.zeroCells,List.size_toArray,htl]
  simp [hz4]; omega
 obtain⟨W1,hW1⟩:∃ W1,W1=w.drew.alloc (.cells ROW 135):=⟨_,rfl⟩
 rw [← hW1] at hrz
 have hN:∀ j,j<(n+1)*4→(W1.cell? ⟨w.heap.size,j,none⟩).isSome=true:=fun j hj=>by
  rw [hW1,World.cell?_alloc_at (w:=w.drew) ROW _ w.heap.size j rfl,Array.getElem?_eq_getElem (by omega)]; rfl
 have hNf:∀ j,W1.frozen? ⟨w.heap.size,j,none⟩=false:=fun j=>by rw [hW1]; exact World.frozen?_alloc_at (w:=w.drew) ROW _ w.heap.size j rfl
 have hOb:∀ j v,w.cell? ⟨b,j,none⟩=some v→W1.cell? ⟨b,j,none⟩=some v:=fun j v h=>by rw [hW1,World.cell?_alloc_past (w:=w.drew) _ b j hbw]; exact h
 have hOv:∀ j v,w.cell? ⟨vb,j,none⟩=some v→W1.cell? ⟨vb,j,none⟩=some v:=fun j v h=>by rw [hW1,World.cell?_alloc_past (w:=w.drew) _ vb j hvw]; exact h
 have hcpA:∀ (W:World),(∀ x,W.cell? x=W1.cell? x)→(∀ x,W.frozen? x=W1.frozen? x)→∀ ty dc,(Builtin.copy_ #[32,32] ty #[.slice (some ⟨w.heap.size,i*4,none⟩) (n+1-i) dc,.slice (some ⟨vb,0,none⟩) 1 1]).run Tryz.prog W=.ok (goInt (1:Nat)) (W.setCells w.heap.size (i*4) vs):=fun W hWc hWf ty dc =>
  run_copy_wide W _ _ ty 135 4 1 w.heap.size (i*4) (n+1-i) dc ⟨vb,0,none⟩ 1 1 vs hul hsz (by simp only [Nat.min_def]; split <;> omega) (by rw [hvl])
   (fun j v hj=>by rw [Addr.add_lit,Nat.zero_add,hWc]; exact hOv _ v (hvs j v hj))
   (fun j hj=>by rw [hWc]; exact hN _ (by omega)) (fun j _=>by rw [hWf]; exact hNf _) h1v
 have hGi:¬ (G=i):=by omega
 have hGim:¬ (G=i+1):=by omega
 have hci:¬ (c=i):=by omega
 have hbN:b≠w.heap.size:=by omega
 have hcpB:∀ (W:World),(∀ x,W.cell? x=(W1.setCells w.heap.size (i*4) vs).cell? x)→(∀ x,W.frozen? x=(W1.setCells w.heap.size (i*4) vs).frozen? x)→∀ ty dc sc,(Builtin.copy_ #[32,32] ty #[.slice (some ⟨w.heap.size,(i+1)*4,none⟩) (n-i) dc,.slice (some ⟨b,i*4,none⟩) (n-i) sc]).run Tryz.prog W=.ok (goInt (n-i:Nat)) (W.setCells w.heap.size ((i+1)*4) (cs.drop (i*4))):=fun W hWc hWf ty dc sc =>
  run_copy_wide W _ _ ty 135 4 (n-i) w.heap.size ((i+1)*4) (n-i) dc ⟨b,i*4,none⟩ (n-i) sc (cs.drop (i*4)) hul hsz (by simp only [Nat.min_def]; split <;> omega) hdl
   (fun j v hj=>by
    rw [Addr.add_lit,hWc,World.cell?_setCells_out _ _ _ _ _ (fun h _=>absurd h hbN)]
    exact hOb _ v (hcs (i*4+j) v (by rwa [List.getElem?_drop] at hj)))
   (fun j hj=>by rw [hWc]; exact isSome_setCells _ vs (i*4) W1 (fun t ht=>hN _ (by omega)) _ (hN _ (by omega)))
   (fun j hj=>by rw [hWf,World.frozen?_setCells]; exact hNf _) (fun v hv=>h1c v (List.mem_of_mem_drop hv))
 have fin:NewRow (n+1) (cs.take (i*4)++vs++cs.drop (i*4)) w (.returned (.slice (some ⟨w.heap.size,0,none⟩) (n+1) G)) ((((w.alloc (.cells ROW 135)).drew.setCells w.heap.size (i*4) vs).drew).setCells w.heap.size ((i+1)*4) (cs.drop (i*4))):=by
  obtain⟨q1,q2⟩:=other_alloc w (.cells ROW 135)
  have hR2:ROW.toList.length=G*4:=by rw [← hRl]; simp
  have q2':((w.alloc (.cells ROW 135)).drew).heap[w.heap.size]?=some (.cells (ROW.toList).toArray 135 (0,0)):=by
   rw [Array.toArray_toList]; exact q2
  obtain⟨r1,r2⟩:=heap_setCells (xs:=vs) (o:=i*4) q2' (by rw [hvl,hR2]; omega)
  have r1':(((w.alloc (.cells ROW 135)).drew.setCells w.heap.size (i*4) vs).drew).heap[w.heap.size]?=some (.cells (setl ROW.toList (i*4) vs).toArray 135 (0,0)):=r1
  obtain⟨s1,s2⟩:=heap_setCells (xs:=cs.drop (i*4)) (o:=(i+1)*4) r1' (by rw [setl_len (by rw [hvl,hR2]; omega),hdl,hR2]; omega)
  have r2':Other w (((w.alloc (.cells ROW 135)).drew.setCells w.heap.size (i*4) vs).drew) w.heap.size:=⟨r2.os.trans q1.os,r2.tape.trans q1.tape,r2.output.trans q1.output,fun k hk=>(r2.keep k hk).trans (q1.keep k hk)⟩
  refine⟨G,ROW.toList.drop ((n+1)*4),hGn,rfl,?_,r2'.trans s2⟩
  rw [s1]
  congr 2
  have hRT:ROW.toList.take (i*4)=cs.take (i*4):=by
   rw [hROW]
   simp only [Array.toList_append,List.append_assoc]
   rw [List.take_append_of_le_length (by simp [htl])]
   exact List.take_of_length_le (by simp [htl])
  simp only [setl]
  have e1:i*4+vs.length=(i+1)*4:=by rw [hvl]; omega
  have e2:(i+1)*4+(cs.drop (i*4)).length=(n+1)*4:=by rw [hdl]; omega
  have e3:(ROW.toList.take (i*4)++vs).length=(i+1)*4:=by rw [List.length_append,List.length_take,hR2,hvl]; omega
  have e6:List.drop ((n+1)*4) (ROW.toList.take (i*4)++vs++ROW.toList.drop ((i+1)*4))=ROW.toList.drop ((n+1)*4):=by
   have e4:(n+1)*4=(ROW.toList.take (i*4)++vs).length+(n-i)*4:=by rw [e3]; omega
   have e5:(i+1)*4+(n-i)*4=(n+1)*4:=by omega
   conv=>lhs; rw [e4]
   rw [List.drop_length_add_append,List.drop_drop,e5]
  rw [e1,e2,List.take_append_of_le_length (by omega),List.take_of_length_le (by omega),e6,hRT]
 subst hW1
 have hE1:∀ x,((w.alloc (.cells ROW 135)).drew).cell? x=(w.drew.alloc (.cells ROW 135)).cell? x:=fun x=>rfl
 have hE2:∀ x,((w.alloc (.cells ROW 135)).drew).frozen? x=(w.drew.alloc (.cells ROW 135)).frozen? x:=fun x=>rfl
 have hF1:∀ x,(((w.alloc (.cells ROW 135)).drew.setCells w.heap.size (i*4) vs).drew).cell? x=((w.drew.alloc (.cells ROW 135)).setCells w.heap.size (i*4) vs).cell? x:=fun x=>rfl
 have hF2:∀ x,(((w.alloc (.cells ROW 135)).drew.setCells w.heap.size (i*4) vs).drew).frozen? x=((w.drew.alloc (.cells ROW 135)).setCells w.heap.size (i*4) vs).frozen? x:=fun x=>rfl
 have hw1:IntKind.i64.wrap ((i:Int)+1)=(i:Int)+1:=by rw [IntKind.wrap_i64]; omega
 have hb1:(0:Int)≤(i:Int)+1:=by omega
 have hin:i≤n:=by omega
 have hin1:i≤n+1:=by omega
 have hb3:(i:Int)≤(n:Int):=by omega
 clear hkk hik hold hROW hG hRl
 go_enter Tryz.func197,Tryz.ntmps197
 go_wp2_with (first
  | (at_builtin; refine Lib.wpList_append_run _ rfl _ _ _ _ rfl _ _ rfl rfl _ _ (hrz _) ?_)
  | (at_builtin; refine wpList_copy_runI _ rfl _ _ 32 32 rfl _ _ rfl rfl (hcpA _ hE1 hE2 _ _) ?_)
  | (at_builtin; refine wpList_copy_runI _ rfl _ _ 32 32 rfl _ _ rfl rfl (hcpB _ (fun _=>rfl) (fun _=>rfl) _ _ _) ?_))
 go_region_law_o (refine step_copy_runI rfl _ _ 32 32 rfl (.slice (some ⟨w.heap.size,(i+1)*4,none⟩) (n-i) (G-(i+1))) (.slice (some ⟨b,i*4,none⟩) (n-i) (c-i)) (by simp [Act.eval,Act.put]) (by simp [Act.eval,Act.put]) (hcpB _ hF1 hF2 3 (G-(i+1)) (c-i)) ?_)
 go_wp2
 go_ret
 exact fin
end Go.Proofs.YtccnjccabllcaaaGreatDoor
