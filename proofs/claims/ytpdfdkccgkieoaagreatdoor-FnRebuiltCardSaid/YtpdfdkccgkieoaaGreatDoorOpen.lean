/-
  An account opened in a book, in the program and in the reference; DoOpen.
-/
import Derived.Test.YtpdfdkccgkieoaaGreatDoorPostX
import Derived.Shelf.Spec.SlicesInsertGrow
import Derived.Test.YtpdfdkccgkieoaaGreatDoorPerfL
namespace Go.Proofs.YtpdfdkccgkieoaaGreatDoor
open Sx Go.RowKit Go.Lib
set_option maxRecDepth 100000
theorem run_copy_wide {P:Program} (w:World) (dT sT ty elem:TypeId) (k n b o dLen dCap:Nat) (a:Addr) (sLen sCap:Nat) (cs:List Value)
  (hu:P.underlying dT=some (.slice elem)) (hs:(P.info? elem).map (·.size)=some k) (hn:n=Nat.min sLen dLen) (hl:cs.length=n*k)
  (hsrc:∀ j v,cs[j]?=some v→w.cell? (a.add j)=some v) (hc:∀ j,j<cs.length→(w.cell? ⟨b,o+j,none⟩).isSome=true) (hf:∀ j,j<cs.length→w.frozen? ⟨b,o+j,none⟩=false) (h1:∀ v∈cs,v.oneCell'=true) :
  (Builtin.copy_ #[dT,sT] ty #[.slice (some ⟨b,o,none⟩) dLen dCap,.slice (some a) sLen sCap]).run P w=.ok (goInt n) (w.setCells b o cs):=by
 have hld:=run_loadCells_list (P:=P) w a cs hsrc
 have hst:=run_storeCells_cells (P:=P) b o cs 0 w (by simpa using hc) (by simpa using hf) h1
 rw [hl] at hld
 cases hq:P.info? elem with
 | none=>simp [hq] at hs
 | some i =>
  have hi:i.size=k:=by simpa [hq] using hs
  simp [Builtin.copy_,run_underlying hu,Builtin.lenOf,Builtin.firstCells,sizeOf,typeInfo,hq,hi,← hn,hld,hst]
set_option maxHeartbeats 4000000 in
theorem ins_shift (b n c i vb:Nat) (cs vs:List Value) (w:World) (hi:i<n) (hroom:n+1≤c) (hc63:n+1≤9223372036854775807) (hvb:vb≠b)
  (hcl:cs.length=n*4) (hvl:vs.length=4)
  (hcs:∀ j v,cs[j]?=some v→w.cell? ⟨b,j,none⟩=some v) (hsp:∀ j,j<(n+1)*4→(w.cell? ⟨b,j,none⟩).isSome=true) (hfz:∀ j,w.frozen? ⟨b,j,none⟩=false)
  (hvs:∀ j v,vs[j]?=some v→w.cell? ⟨vb,j,none⟩=some v) (h1c:∀ v∈cs,v.oneCell'=true) (h1v:∀ v∈vs,v.oneCell'=true)
  (tA tB:TypeId) (kA kB:Nat) (hsa:w.shape? vb=some (tA,kA)) (hsb:w.shape? b=some (tB,kB)) (hkB:kB≠0) (hfa:w.frozen? ⟨vb,0,none⟩=false) (hfe:w.frozen? ⟨vb,kA,none⟩=false) :
  Calls Tryz.prog 286 #[.slice (some ⟨b,0,none⟩) n c,.int .i64 i,.slice (some ⟨vb,0,none⟩) 1 1] w fun e w' =>
   e=.returned (.slice (some ⟨b,0,none⟩) (n+1) c)∧w'=(w.drew.setCells b ((i+1)*4) (cs.drop (i*4))).setCells b (i*4) vs:=by
 have hz2:¬ ((i:Int)=(n:Int)):=by omega
 have hsz:(Tryz.prog.info? 76).map (·.size)=some 4:=by kernel_rfl
 have hzz:∀ w,(Go.sizeOf 76).run Tryz.prog w=.ok 4 w:=fun w=>prun_run (by kernel_rfl) w
 have hul:Tryz.prog.underlying 23=some (.slice 76):=by kernel_rfl
 have hov:∀ lb cb,(callFunc 288 #[.slice (some ⟨vb,0,none⟩) 1 1,.slice (some ⟨b,(i+1)*4,none⟩) lb cb]).run Tryz.prog w=.ok (.value (.bool false)) w:=fun lb cb=>by
  rw [run_callFunc_extern Tryz.func288 (by kernel_rfl) (by kernel_rfl) (by kernel_rfl) (e:=Extern.SlicesOverlaps.overlaps #[23,23] #[4]) (by kernel_rfl),
   Lib.run_overlaps_apart w 23 4 76 hul 4 hzz ⟨vb,0,none⟩ ⟨b,(i+1)*4,none⟩ 1 1 lb cb hvb tA tB kA kB hsa hsb hkB hfa hfe]
  rfl
 have hdl:(cs.drop (i*4)).length=(n-i)*4:=by rw [List.length_drop,hcl,← Nat.sub_mul]
 have hmul:(i+1)*4+(n-i)*4=(n+1)*4:=by omega
 have mixed:=Tryz.mix
 have hb1:(0:Int)≤(i:Int)+1:=by omega
 have hin:i≤n:=by omega
 have hin1:i≤n+1:=by omega
 have hb3:(i:Int)≤(n:Int)+1:=by omega
 have hw1:IntKind.i64.wrap ((i:Int)+1)=(i:Int)+1:=by rw [IntKind.wrap_i64]; omega
 have hb2:¬ (c=i+1):=by omega
 have hb4:¬ (c=i):=by omega
 have hcp1:∀ ty dc sc,(Builtin.copy_ #[23,23] ty #[.slice (some ⟨b,(i+1)*4,none⟩) (n-i) dc,.slice (some ⟨b,i*4,none⟩) (n+1-i) sc]).run Tryz.prog w.drew=.ok (goInt (n-i:Nat)) (w.drew.setCells b ((i+1)*4) (cs.drop (i*4))):=fun ty dc sc =>
  run_copy_wide w.drew _ _ ty 76 4 (n-i) b ((i+1)*4) (n-i) dc ⟨b,i*4,none⟩ (n+1-i) sc (cs.drop (i*4)) hul hsz (by simp only [Nat.min_def]; split <;> omega) hdl
   (fun j v hj=>by rw [Addr.add_lit]; exact hcs (i*4+j) v (by rwa [List.getElem?_drop] at hj))
   (fun j hj=>hsp _ (by omega)) (fun j _=>hfz _) (fun v hv=>h1c v (List.mem_of_mem_drop hv))
 obtain⟨W1,hW1⟩:∃ W1,W1=w.drew.setCells b ((i+1)*4) (cs.drop (i*4)):=⟨_,rfl⟩
 have hsp1:∀ k,k<(n+1)*4→(W1.cell? ⟨b,k,none⟩).isSome=true:=fun k hk=>by
  rw [hW1]
  exact isSome_setCells b (cs.drop (i*4)) ((i+1)*4) w.drew (fun j hj=>hsp _ (by omega)) k (hsp k hk)
 have hcp2:∀ (W:World),(∀ x,W.cell? x=W1.cell? x)→(∀ x,W.frozen? x=W1.frozen? x)→∀ ty dc,(Builtin.copy_ #[23,23] ty #[.slice (some ⟨b,i*4,none⟩) (n+1-i) dc,.slice (some ⟨vb,0,none⟩) 1 1]).run Tryz.prog W=.ok (goInt (1:Nat)) (W.setCells b (i*4) vs):=fun W hWc hWf ty dc =>
  run_copy_wide W _ _ ty 76 4 1 b (i*4) (n+1-i) dc ⟨vb,0,none⟩ 1 1 vs hul hsz (by simp only [Nat.min_def]; split <;> omega) (by rw [hvl])
   (fun j v hj=>by
    rw [Addr.add_lit,Nat.zero_add,hWc,hW1,World.cell?_setCells_out b _ _ _ _ (fun h _=>absurd h hvb)]
    exact hvs j v hj)
   (fun j hj=>by rw [hWc]; exact hsp1 _ (by omega)) (fun j _=>by rw [hWf,hW1,World.frozen?_setCells]; exact hfz _) h1v
 rw [← hW1] at hcp1
 go_enter Tryz.func286,Tryz.ntmps286
 go_wp2_with (simp only [hov])
 go_region_law_o (refine step_copy_runI rfl _ _ 23 23 rfl _ _ (by simp [Act.eval,Act.put]) (by simp [Act.eval,Act.put]) (hcp1 _ _ _) ?_)
 go_wp2_with (at_builtin; refine wpList_copy_runI _ rfl _ _ 23 23 rfl _ _ rfl rfl (hcp2 _ (fun _=>rfl) (fun _=>rfl) _ _) ?_)
 go_ret
 first | exact⟨rfl,rfl⟩ | exact⟨rfl,by rw [hW1]⟩
set_option maxHeartbeats 4000000 in
theorem ins_end (b n c vb:Nat) (vs:List Value) (w:World) (hroom:n+1≤c) (hvl:vs.length=4)
  (hsp:∀ j,j<(n+1)*4→(w.cell? ⟨b,j,none⟩).isSome=true) (hfz:∀ j,w.frozen? ⟨b,j,none⟩=false) (hvs:∀ j v,vs[j]?=some v→w.cell? ⟨vb,j,none⟩=some v) (h1v:∀ v∈vs,v.oneCell'=true) :
  Calls Tryz.prog 286 #[.slice (some ⟨b,0,none⟩) n c,.int .i64 n,.slice (some ⟨vb,0,none⟩) 1 1] w fun e w' =>
   e=.returned (.slice (some ⟨b,0,none⟩) (n+1) c)∧w'=w.setCells b (n*4) vs:=by
 have hul:Tryz.prog.underlying 23=some (.slice 76):=by kernel_rfl
 have hsz:(Tryz.prog.info? 76).map (·.size)=some 4:=by kernel_rfl
 obtain⟨i0,hi0,hi4⟩:=Option.map_eq_some_iff.1 hsz
 have mixed:=Tryz.mix
 have hsrc:Src Tryz.prog i0.size 23 (.slice (some ⟨vb,0,none⟩) 1 1) 1 vs w:=Src.ofSlice w hul ⟨vb,0,none⟩ 1 1 vs (by rw [hi4,hvl]) (fun j u hj=>by rw [Addr.add_lit,Nat.zero_add]; exact hvs j u hj) h1v
 have hk:∀ j,0+n*i0.size+j=n*4+j:=fun j=>by rw [hi4]; omega
 have hk0:0+n*i0.size=n*4:=by rw [hi4]; omega
 go_enter Tryz.func286,Tryz.ntmps286
 go_wp2_with (at_builtin; refine wpList_append_room_src _ rfl _ _ 23 23 rfl 76 i0 hul hi0 b 0 n c rfl _ rfl 1 vs hsrc hroom (fun j hj=>by rw [hk]; exact hsp _ (by omega)) (fun j _=>by rw [hk]; exact hfz _) ?_)
 go_ret
 exact⟨rfl,by first | rfl | rw [hk0] | simp [hi4]⟩
structure Other (w w':World) (b:Nat):Prop where
 os:w'.os=w.os
 tape:w'.tape=w.tape
 output:w'.output=w.output
 keep:∀ k,k≠b→w'.heap[k]?=w.heap[k]?
theorem Other.trans {w w1 w2:World} {b:Nat} (h:Other w w1 b) (k:Other w1 w2 b):Other w w2 b:=⟨k.os.trans h.os,k.tape.trans h.tape,k.output.trans h.output,fun j hj=>(k.keep j hj).trans (h.keep j hj)⟩
theorem heap_setCell {w:World} {b o:Nat} {x:Value} {L:List Value} {t:TypeId} {fr:Nat × Nat} (h:w.heap[b]?=some (.cells L.toArray t fr)) (ho:o<L.length) :
  (w.setCell ⟨b,o,none⟩ x).heap[b]?=some (.cells (setl L o [x]).toArray t fr)∧Other w (w.setCell ⟨b,o,none⟩ x) b:=by
 refine⟨?_,rfl,rfl,rfl,fun k hk=>?_⟩
 ·simp only [World.setCell,Array.getElem?_modify,if_true,h,Option.map_some,Option.isSome_none,Bool.false_eq_true,if_false]
  congr 2
  apply Array.ext'
  simp only [Array.toList_setIfInBounds,setl,List.length_cons,List.length_nil,List.append_assoc]
  rw [List.set_eq_take_append_cons_drop,if_pos ho]
  rfl
 ·simp only [World.setCell,Array.getElem?_modify]
  rw [if_neg (fun e:b=k=>hk e.symm)]
theorem setl_cons {L xs:List Value} {o:Nat} {x:Value} (h:o+1+xs.length≤L.length):setl (setl L o [x]) (o+1) xs=setl L o (x :: xs):=by
 simp only [setl,List.length_cons,List.length_nil]
 have h1:(L.take o).length=o:=by rw [List.length_take]; omega
 have e1:List.take (o+1) (List.take o L++[x]++List.drop (o+(0+1)) L)=List.take o L++[x]:=by
  rw [List.take_append_of_le_length (by simp [h1])]
  exact List.take_of_length_le (by simp [h1])
 have e2:List.drop (o+1+xs.length) (List.take o L++[x]++List.drop (o+(0+1)) L)=List.drop (o+(xs.length+1)) L:=by
  have e3:o+1+xs.length=(List.take o L++[x]).length+xs.length:=by simp [h1]
  rw [e3,List.drop_length_add_append,List.drop_drop]
  congr 1
  omega
 rw [e1,e2]
 simp
theorem setl_len {L xs:List Value} {o:Nat} (h:o+xs.length≤L.length):(setl L o xs).length=L.length:=by
 simp only [setl,List.length_append,List.length_take,List.length_drop]
 omega
theorem setl_zero {L:List Value} {o:Nat}:setl L o []=L:=by simp [setl]
theorem heap_setCells {b:Nat} {t:TypeId} {fr:Nat × Nat}:∀ {xs:List Value} {w:World} {o:Nat} {L:List Value},w.heap[b]?=some (.cells L.toArray t fr)→o+xs.length≤L.length →
  (w.setCells b o xs).heap[b]?=some (.cells (setl L o xs).toArray t fr)∧Other w (w.setCells b o xs) b
 | [],w,o,L,h,_=>⟨by rw [setl_zero]; exact h,rfl,rfl,rfl,fun _ _=>rfl⟩
 | x :: xs,w,o,L,h,ho=>by
  simp only [List.length_cons] at ho
  obtain⟨h1,h2⟩:=heap_setCell (x:=x) h (show o<L.length by omega)
  obtain⟨h3,h4⟩:=heap_setCells (xs:=xs) (o:=o+1) h1 (by rw [setl_len (by simp; omega)]; omega)
  rw [setl_cons (by omega)] at h3
  exact⟨h3,h2.trans h4⟩
def NewRow (n:Nat) (L:List Value) (w:World) (e:Ending) (w':World):Prop :=
 ∃ (G:Nat) (sp:List Value),n≤G∧e=.returned (.slice (some ⟨w.heap.size,0,none⟩) n G)∧w'.heap[w.heap.size]?=some (.cells (L++sp).toArray 76 (0,0))∧Other w w' w.heap.size
theorem other_alloc (w:World) (o:Obj):Other w (w.drew.alloc o) w.heap.size∧(w.drew.alloc o).heap[w.heap.size]?=some o:=by
 refine⟨⟨rfl,rfl,rfl,fun k hk=>?_⟩,?_⟩
 ·show(w.heap.push o)[k]?=_
  rw [Array.getElem?_push,if_neg hk]
 ·show(w.heap.push o)[w.heap.size]?=_
  rw [Array.getElem?_push,if_pos rfl]
set_option maxHeartbeats 4000000 in
theorem ins_new (base:Option Addr) (n c vb:Nat) (cs vs:List Value) (w:World) (hroom:c<n+1) (hbig:(n+1)*64≤140737488355328) (hcl:cs.length=n*4) (hvl:vs.length=4) (hnil:base=none→n=0) (hnc:n≤c)
  (hcs:∀ a,base=some a→∀ j v,cs[j]?=some v→w.cell? (a.add j)=some v) (hvs:∀ j v,vs[j]?=some v→w.cell? ⟨vb,j,none⟩=some v) (h1v:∀ v∈vs,v.oneCell'=true) :
  Calls Tryz.prog 286 #[.slice base n c,.int .i64 n,.slice (some ⟨vb,0,none⟩) 1 1] w (NewRow (n+1) (cs++vs) w):=by
 have hul:Tryz.prog.underlying 23=some (.slice 76):=by kernel_rfl
 have hsz:(Tryz.prog.info? 76).map (fun i=>(i.zero.isSome,i.size,i.bytes))=some (true,4,64):=by kernel_rfl
 obtain⟨i0,hi0,hi4⟩:=Option.map_eq_some_iff.1 hsz
 simp only [Prod.mk.injEq] at hi4
 obtain⟨hz,hi4,hi64⟩:=hi4
 obtain⟨z,hz⟩:=Option.isSome_iff_exists.1 hz
 have mixed:=Tryz.mix
 have hsrc:Src Tryz.prog i0.size 23 (.slice (some ⟨vb,0,none⟩) 1 1) 1 vs w:=Src.ofSlice w hul ⟨vb,0,none⟩ 1 1 vs (by rw [hi4,hvl]) (fun j u hj=>by rw [Addr.add_lit,Nat.zero_add]; exact hvs j u hj) h1v
 have hold:(Builtin.firstCells i0.size n (.slice base n c)).run Tryz.prog w.drew=.ok cs.toArray w.drew:=by
  rw [hi4]
  cases base with
  | none =>
   obtain rfl:=hnil rfl
   obtain rfl:cs=[]:=List.eq_nil_of_length_eq_zero (by omega)
   rfl
  | some a=>exact run_firstCells_some w.drew 4 n a n c cs hcl (fun j v hj=>hcs a rfl j v hj)
 have hrz:=fun ty=>run_append_grow_src (P:=Tryz.prog) (w:=w) 23 23 ty 76 i0 z hul hi0 hz base n c cs hold _ 1 vs hsrc hroom (by omega) (by rw [hi64]; exact growslice_fits hroom hbig)
 obtain⟨G,hG⟩:∃ G,G=grownCap w (n+1) c 76:=⟨_,rfl⟩
 have hGn:n+1≤G:=by rw [hG]; exact grownCap_ge w _ _ _
 rw [← hG] at hrz
 obtain⟨sp,hsp⟩:∃ sp:Array Value,sp=Builtin.zeroCells z.cells (G-(n+1)):=⟨_,rfl⟩
 rw [← hsp] at hrz
 obtain⟨W,hW⟩:∃ W,W=w.drew.alloc (.cells ((cs++vs).toArray++sp) 76):=⟨_,rfl⟩
 rw [← hW] at hrz
 have fin:NewRow (n+1) (cs++vs) w (.returned (.slice (some ⟨w.heap.size,0,none⟩) (n+1) G)) W:=by
  obtain⟨q1,q2⟩:=other_alloc w (.cells ((cs++vs).toArray++sp) 76)
  rw [← hW] at q1 q2
  refine⟨G,sp.toList,hGn,rfl,?_,q1⟩
  rw [q2]
  congr 2
  apply Array.ext'
  simp
 clear hold hsp hW hG
 go_enter Tryz.func286,Tryz.ntmps286
 go_wp2_with (at_builtin; refine Lib.wpList_append_run _ rfl _ _ _ _ rfl _ _ rfl rfl _ _ (hrz _) ?_)
 go_ret
 exact fin
set_option maxHeartbeats 4000000 in
theorem ins_grow (b n c i vb:Nat) (cs vs:List Value) (w:World) (hi:i<n) (hnc:n≤c) (hroom:c<n+1) (hbig:(n+1)*64≤140737488355328) (hcl:cs.length=n*4) (hvl:vs.length=4)
  (hcs:∀ j v,cs[j]?=some v→w.cell? ⟨b,j,none⟩=some v) (hvs:∀ j v,vs[j]?=some v→w.cell? ⟨vb,j,none⟩=some v) (h1c:∀ v∈cs,v.oneCell'=true) (h1v:∀ v∈vs,v.oneCell'=true) :
  Calls Tryz.prog 286 #[.slice (some ⟨b,0,none⟩) n c,.int .i64 i,.slice (some ⟨vb,0,none⟩) 1 1] w (NewRow (n+1) (cs.take (i*4)++vs++cs.drop (i*4)) w):=by
 have hul:Tryz.prog.underlying 23=some (.slice 76):=by kernel_rfl
 have hui:Tryz.prog.underlying 3=some (.int .i64):=by kernel_rfl
 have hsz:(Tryz.prog.info? 76).map (·.size)=some 4:=by kernel_rfl
 have hsz2:(Tryz.prog.info? 76).map (fun i=>((i.zero.map (·.cells.size)),i.size,i.bytes))=some (some 4,4,64):=by kernel_rfl
 obtain⟨i0,hi0,hi4⟩:=Option.map_eq_some_iff.1 hsz2
 simp only [Prod.mk.injEq] at hi4
 obtain⟨hz,hi4,hi64⟩:=hi4
 obtain⟨z,hz,hz4⟩:=Option.map_eq_some_iff.1 hz
 have mixed:=Tryz.mix
 have hz2:¬ ((i:Int)=(n:Int)):=by omega
 have hz3:(c:Int)<(n:Int)+1:=by omega
 have hbw:b<w.heap.size:=block_lt_of_cell (hcs 0 _ (List.getElem?_eq_getElem (by omega)))
 have hvw:vb<w.heap.size:=block_lt_of_cell (hvs 0 _ (List.getElem?_eq_getElem (by omega)))
 have hkk:(n:Int)+1-(i:Int)=((n+1-i:Nat):Int):=by omega
 have hik:i+(n+1-i)=n+1:=by omega
 have htl:(cs.take (i*4)).length=i*4:=by rw [List.length_take]; omega
 have hdl:(cs.drop (i*4)).length=(n-i)*4:=by rw [List.length_drop,hcl,← Nat.sub_mul]
 have hold:(Builtin.firstCells i0.size i (.slice (some ⟨b,0,none⟩) i c)).run Tryz.prog w.drew=.ok (cs.take (i*4)).toArray w.drew:=by
  rw [hi4]
  exact run_firstCells_some w.drew 4 i ⟨b,0,none⟩ i c (cs.take (i*4)) htl (fun j v hj=>by
   rw [Addr.add_lit,Nat.zero_add]
   rw [List.getElem?_take] at hj
   split at hj
   ·exact hcs j v hj
   ·cases hj)
 obtain⟨G,hG⟩:∃ G,G=grownCap w (n+1) c 76:=⟨_,rfl⟩
 obtain⟨ROW,hROW⟩:∃ ROW:Array Value,ROW=(cs.take (i*4)).toArray++Builtin.zeroCells z.cells (n+1-i)++Builtin.zeroCells z.cells (G-(n+1)):=⟨_,rfl⟩
 have hrz:∀ ty,(Builtin.append_ #[23,3] ty #[.slice (some ⟨b,0,none⟩) i c,.int .i64 ((n:Int)+1-(i:Int))]).run Tryz.prog w =
   .ok (.slice (some ⟨w.heap.size,0,none⟩) (n+1) G) (w.drew.alloc (.cells ROW 76)):=fun ty=>by
  have h:=Lib.run_append_grow_zeros w 23 3 ty 76 i0 z .i64 .i64 hul hui hi0 hz (some ⟨b,0,none⟩) i c (cs.take (i*4)) hold (n+1-i) (by omega) (by omega) (by omega) (by omega) (by rw [hi64]; omega) (by rw [hi64,hik]; exact growslice_fits hroom hbig)
  rw [hik] at h
  rw [hkk,hROW,hG]
  exact h
 have hGn:n+1≤G:=by rw [hG]; exact grownCap_ge w _ _ _
 have hRl:ROW.size=G*4:=by
  rw [hROW]
  simp only [Array.size_append,Builtin.zeroCells,List.size_toArray,htl]
  simp [hz4]; omega
 obtain⟨W1,hW1⟩:∃ W1,W1=w.drew.alloc (.cells ROW 76):=⟨_,rfl⟩
 rw [← hW1] at hrz
 have hN:∀ j,j<(n+1)*4→(W1.cell? ⟨w.heap.size,j,none⟩).isSome=true:=fun j hj=>by
  rw [hW1,World.cell?_alloc_at (w:=w.drew) ROW _ w.heap.size j rfl,Array.getElem?_eq_getElem (by omega)]; rfl
 have hNf:∀ j,W1.frozen? ⟨w.heap.size,j,none⟩=false:=fun j=>by rw [hW1]; exact World.frozen?_alloc_at (w:=w.drew) ROW _ w.heap.size j rfl
 have hOb:∀ j v,w.cell? ⟨b,j,none⟩=some v→W1.cell? ⟨b,j,none⟩=some v:=fun j v h=>by rw [hW1,World.cell?_alloc_past (w:=w.drew) _ b j hbw]; exact h
 have hOv:∀ j v,w.cell? ⟨vb,j,none⟩=some v→W1.cell? ⟨vb,j,none⟩=some v:=fun j v h=>by rw [hW1,World.cell?_alloc_past (w:=w.drew) _ vb j hvw]; exact h
 have hcpA:∀ (W:World),(∀ x,W.cell? x=W1.cell? x)→(∀ x,W.frozen? x=W1.frozen? x)→∀ ty dc,(Builtin.copy_ #[23,23] ty #[.slice (some ⟨w.heap.size,i*4,none⟩) (n+1-i) dc,.slice (some ⟨vb,0,none⟩) 1 1]).run Tryz.prog W=.ok (goInt (1:Nat)) (W.setCells w.heap.size (i*4) vs):=fun W hWc hWf ty dc =>
  run_copy_wide W _ _ ty 76 4 1 w.heap.size (i*4) (n+1-i) dc ⟨vb,0,none⟩ 1 1 vs hul hsz (by simp only [Nat.min_def]; split <;> omega) (by rw [hvl])
   (fun j v hj=>by rw [Addr.add_lit,Nat.zero_add,hWc]; exact hOv _ v (hvs j v hj))
   (fun j hj=>by rw [hWc]; exact hN _ (by omega)) (fun j _=>by rw [hWf]; exact hNf _) h1v
 have hGi:¬ (G=i):=by omega
 have hGim:¬ (G=i+1):=by omega
 have hci:¬ (c=i):=by omega
 have hbN:b≠w.heap.size:=by omega
 have hcpB:∀ (W:World),(∀ x,W.cell? x=(W1.setCells w.heap.size (i*4) vs).cell? x)→(∀ x,W.frozen? x=(W1.setCells w.heap.size (i*4) vs).frozen? x)→∀ ty dc sc,(Builtin.copy_ #[23,23] ty #[.slice (some ⟨w.heap.size,(i+1)*4,none⟩) (n-i) dc,.slice (some ⟨b,i*4,none⟩) (n-i) sc]).run Tryz.prog W=.ok (goInt (n-i:Nat)) (W.setCells w.heap.size ((i+1)*4) (cs.drop (i*4))):=fun W hWc hWf ty dc sc =>
  run_copy_wide W _ _ ty 76 4 (n-i) w.heap.size ((i+1)*4) (n-i) dc ⟨b,i*4,none⟩ (n-i) sc (cs.drop (i*4)) hul hsz (by simp only [Nat.min_def]; split <;> omega) hdl
   (fun j v hj=>by
    rw [Addr.add_lit,hWc,World.cell?_setCells_out _ _ _ _ _ (fun h _=>absurd h hbN)]
    exact hOb _ v (hcs (i*4+j) v (by rwa [List.getElem?_drop] at hj)))
   (fun j hj=>by rw [hWc]; exact isSome_setCells _ vs (i*4) W1 (fun t ht=>hN _ (by omega)) _ (hN _ (by omega)))
   (fun j hj=>by rw [hWf,World.frozen?_setCells]; exact hNf _) (fun v hv=>h1c v (List.mem_of_mem_drop hv))
 have fin:NewRow (n+1) (cs.take (i*4)++vs++cs.drop (i*4)) w (.returned (.slice (some ⟨w.heap.size,0,none⟩) (n+1) G)) ((((w.alloc (.cells ROW 76)).drew.setCells w.heap.size (i*4) vs).drew).setCells w.heap.size ((i+1)*4) (cs.drop (i*4))):=by
  obtain⟨q1,q2⟩:=other_alloc w (.cells ROW 76)
  have hR2:ROW.toList.length=G*4:=by rw [← hRl]; simp
  have q2':((w.alloc (.cells ROW 76)).drew).heap[w.heap.size]?=some (.cells (ROW.toList).toArray 76 (0,0)):=by
   rw [Array.toArray_toList]; exact q2
  obtain⟨r1,r2⟩:=heap_setCells (xs:=vs) (o:=i*4) q2' (by rw [hvl,hR2]; omega)
  have r1':(((w.alloc (.cells ROW 76)).drew.setCells w.heap.size (i*4) vs).drew).heap[w.heap.size]?=some (.cells (setl ROW.toList (i*4) vs).toArray 76 (0,0)):=r1
  obtain⟨s1,s2⟩:=heap_setCells (xs:=cs.drop (i*4)) (o:=(i+1)*4) r1' (by rw [setl_len (by rw [hvl,hR2]; omega),hdl,hR2]; omega)
  have r2':Other w (((w.alloc (.cells ROW 76)).drew.setCells w.heap.size (i*4) vs).drew) w.heap.size:=⟨r2.os.trans q1.os,r2.tape.trans q1.tape,r2.output.trans q1.output,fun k hk=>(r2.keep k hk).trans (q1.keep k hk)⟩
  refine⟨G,ROW.toList.drop ((n+1)*4),hGn,rfl,?_,r2'.trans s2⟩
  rw [s1]
  congr 2
  have hRT:ROW.toList.take (i*4)=cs.take (i*4):=by
   rw [hROW]
   simp only [Array.toList_append,List.append_assoc]
   rw [List.take_append_of_le_length (by simp [htl])]
   exact List.take_of_length_le (by simp [htl])
  simp only [setl]
  have e1:i*4+vs.length=(i+1)*4:=by rw [hvl]; omega
  have e2:(i+1)*4+(cs.drop (i*4)).length=(n+1)*4:=by rw [hdl]; omega
  have e3:(ROW.toList.take (i*4)++vs).length=(i+1)*4:=by rw [List.length_append,List.length_take,hR2,hvl]; omega
  have e6:List.drop ((n+1)*4) (ROW.toList.take (i*4)++vs++ROW.toList.drop ((i+1)*4))=ROW.toList.drop ((n+1)*4):=by
   have e4:(n+1)*4=(ROW.toList.take (i*4)++vs).length+(n-i)*4:=by rw [e3]; omega
   have e5:(i+1)*4+(n-i)*4=(n+1)*4:=by omega
   conv=>lhs; rw [e4]
   rw [List.drop_length_add_append,List.drop_drop,e5]
  rw [e1,e2,List.take_append_of_le_length (by omega),List.take_of_length_le (by omega),e6,hRT]
 subst hW1
 have hE1:∀ x,((w.alloc (.cells ROW 76)).drew).cell? x=(w.drew.alloc (.cells ROW 76)).cell? x:=fun x=>rfl
 have hE2:∀ x,((w.alloc (.cells ROW 76)).drew).frozen? x=(w.drew.alloc (.cells ROW 76)).frozen? x:=fun x=>rfl
 have hF1:∀ x,(((w.alloc (.cells ROW 76)).drew.setCells w.heap.size (i*4) vs).drew).cell? x=((w.drew.alloc (.cells ROW 76)).setCells w.heap.size (i*4) vs).cell? x:=fun x=>rfl
 have hF2:∀ x,(((w.alloc (.cells ROW 76)).drew.setCells w.heap.size (i*4) vs).drew).frozen? x=((w.drew.alloc (.cells ROW 76)).setCells w.heap.size (i*4) vs).frozen? x:=fun x=>rfl
 have hw1:IntKind.i64.wrap ((i:Int)+1)=(i:Int)+1:=by rw [IntKind.wrap_i64]; omega
 have hb1:(0:Int)≤(i:Int)+1:=by omega
 have hin:i≤n:=by omega
 have hin1:i≤n+1:=by omega
 have hb3:(i:Int)≤(n:Int):=by omega
 clear hkk hik hold hROW hG hRl
 go_enter Tryz.func286,Tryz.ntmps286
 go_wp2_with (first
  | (at_builtin; refine Lib.wpList_append_run _ rfl _ _ _ _ rfl _ _ rfl rfl _ _ (hrz _) ?_)
  | (at_builtin; refine wpList_copy_runI _ rfl _ _ 23 23 rfl _ _ rfl rfl (hcpA _ hE1 hE2 _ _) ?_)
  | (at_builtin; refine wpList_copy_runI _ rfl _ _ 23 23 rfl _ _ rfl rfl (hcpB _ (fun _=>rfl) (fun _=>rfl) _ _ _) ?_))
 go_region_law_o (refine step_copy_runI rfl _ _ 23 23 rfl (.slice (some ⟨w.heap.size,(i+1)*4,none⟩) (n-i) (G-(i+1))) (.slice (some ⟨b,i*4,none⟩) (n-i) (c-i)) (by simp [Act.eval,Act.put]) (by simp [Act.eval,Act.put]) (hcpB _ hF1 hF2 3 (G-(i+1)) (c-i)) ?_)
 go_wp2
 go_ret
 exact fin
end Go.Proofs.YtpdfdkccgkieoaaGreatDoor
namespace Go.Proofs.YtpdfdkccgkieoaaGreatDoor
open Sx
set_option maxRecDepth 100000
theorem oth_on {V:Know} {w w':World} (hV:V.on w) {b:Nat} {L:List Value} {t:TypeId} (h:Other w w' b) (hb:w'.heap[b]?=some (.cells L.toArray t (0,0))) (hk:∀ k,k<w.heap.size→V k=none→k≠b) :
  (kset V b (L,(t,(0,0)))).on w'∧Fr V (kset V b (L,(t,(0,0)))) w w':=by
 refine⟨fun k c u hku=>?_,h.os,h.tape,h.output,?_,fun k hkw hkn=>h.keep k (hk k hkw hkn),fun k hkw hkn=>?_⟩
 ·by_cases e:k=b
  ·subst e
   rw [kset_same] at hku
   cases hku
   rw [hb,objOf_rw]
  ·rw [kset_other e] at hku
   rw [h.keep k e]; exact hV k c u hku
 ·refine Nat.le_of_not_lt fun hlt=>?_
  have h1:w'.heap[w'.heap.size]?=none:=Array.getElem?_eq_none (Nat.le_refl _)
  by_cases e:w'.heap.size=b
  ·rw [e,hb] at h1; cases h1
  ·rw [h.keep _ e,Array.getElem?_eq_getElem hlt] at h1; cases h1
 ·rw [kset_other (hk k hkw hkn)]; exact hkn
theorem on_cells {V:Know} {w:World} (hV:V.on w) {b:Nat} {L:List Value} {t:TypeId} (hb:V b=some (L,(t,(0,0)))) :
  w.heap[b]?=some (.cells L.toArray t (0,0))∧(∀ j,w.cell? ⟨b,j,none⟩=L[j]?)∧(∀ j,w.frozen? ⟨b,j,none⟩=false)∧w.shape? b=some (t,L.length):=by
 have h0:w.heap[b]?=some (.cells L.toArray t (0,0)):=by rw [hV b _ _ hb,objOf_rw]
 refine⟨h0,fun j=>?_,fun j=>?_,?_⟩
 ·simp [World.cell?,h0]
 ·simp [World.frozen?,h0]
 ·simp [World.shape?,h0]
theorem vals_one1:∀ (sh:List Sc) (c:Scs sh),∀ v∈Scs.vals sh c,v.oneCell'=true
 | [],_,v,h=>by cases h
 | k :: r,c,v,h=>by
  rcases List.mem_cons.1 h with rfl | h
  ·cases k <;> first | rfl | (rename_i x; cases x <;> rfl) | skip
   all_goals first | rfl | (show(Value.oneCell' _)=true; cases c.1 <;> rfl) | (have h1:=c.1.2; show(c.1.1).oneCell'=true; simpa [one] using h1)
  ·exact vals_one1 r c.2 v h
theorem lr_new2 {sh:List Sc} {α:Type} {r:Rp sh α} {V:Know} {b n cap:Nat} {cs:List (Scs sh)} {l:List α} {fps:List Nat} {post:List Value} {t:KTy} (h:Els r V cs l fps) (hb:V b=some (cs.flatMap (Scs.vals sh)++post,t)) (hn:n=l.length) (hc:l.length≤cap) (hl:l.length≤9223372036854775807) :
  LR r V ⟨some ⟨b,0,none⟩,n,cap⟩ l (b :: fps):=by
 subst hn
 exact⟨rfl,hc,hl,.inr ⟨b,[],post,t,fps,cs,rfl,by simpa using hb,h,rfl⟩⟩
abbrev AcSh:List Sc:=[.s,.s,.b,.l]
theorem flat_one (cs:List (Scs AcSh)):∀ v∈cs.flatMap (Scs.vals AcSh),v.oneCell'=true:=fun v hv=>by
 obtain⟨c,_,h⟩:=List.mem_flatMap.1 hv
 exact vals_one1 _ c v h
def insL {α:Type} (i:Nat) (x:α) (l:List α):List α:=l.take i++x :: l.drop i
theorem insL_zero {α:Type} {x:α} {l:List α}:insL 0 x l=x :: l:=rfl
theorem insL_cons {α:Type} {x y:α} {l:List α} {i:Nat}:insL (i+1) x (y :: l)=y :: insL i x l:=rfl
theorem insL_len {α:Type} {x:α} {l:List α} {i:Nat} (h:i≤l.length):(insL i x l).length=l.length+1:=by
 simp only [insL,List.length_append,List.length_take,List.length_cons,List.length_drop]
 omega
theorem els_ins {V:Know} {cv:Scs AcSh} {xv:DAcct} {fv:List Nat} (hx:rAcct.R V cv xv fv):∀ {i:Nat} {cs:List (Scs AcSh)} {l:List DAcct} {fps:List Nat},Els rAcct V cs l fps→i≤l.length→∃ fps',Els rAcct V (insL i cv cs) (insL i xv l) fps'∧fps'.Perm (fps++fv)
 | 0,cs,l,fps,h,_=>⟨fv++fps,⟨fv,fps,rfl,hx,h⟩,List.perm_append_comm⟩
 | i+1,c :: cs,x :: l,_,⟨f,g,rfl,h1,h2⟩,hi=>by
  obtain⟨g',k1,k2⟩:=els_ins hx (i:=i) h2 (by simpa using hi)
  refine⟨f++g',⟨f,g',rfl,h1,k1⟩,?_⟩
  rw [List.append_assoc]
  exact List.Perm.append_left f k2
 | _+1,[],[],_,_,h=>by simp at h
 | _+1,[],_ :: _,_,h,_=>h.elim
 | _+1,_ :: _,[],_,h,_=>h.elim
theorem flat_ins (cv:Scs AcSh):∀ {i:Nat} {cs:List (Scs AcSh)},i≤cs.length→(insL i cv cs).flatMap (Scs.vals AcSh)=(cs.flatMap (Scs.vals AcSh)).take (i*4)++Scs.vals AcSh cv++(cs.flatMap (Scs.vals AcSh)).drop (i*4)
 | 0,cs,_=>by simp [insL_zero]
 | i+1,c :: cs,h=>by
  have ih:=flat_ins cv (i:=i) (cs:=cs) (by simpa using h)
  have e:(i+1)*4=(Scs.vals AcSh c).length+i*4:=by rw [vals_len]; simp; omega
  rw [insL_cons,List.flatMap_cons,ih,List.flatMap_cons,e,List.take_length_add_append,List.drop_length_add_append]
  simp [List.append_assoc]
 | _+1,[],h=>by simp at h
theorem setl_shift {flat post vs:List Value} {n i:Nat} (hf:flat.length=n*4) (hv:vs.length=4) (hi:i≤n) (hp:4≤post.length) :
  setl (setl (flat++post) ((i+1)*4) (flat.drop (i*4))) (i*4) vs=flat.take (i*4)++vs++flat.drop (i*4)++post.drop 4:=by
 have hd:(flat.drop (i*4)).length=(n-i)*4:=by rw [List.length_drop,hf,← Nat.sub_mul]
 have e1:(i+1)*4+(n-i)*4=flat.length+4:=by rw [hf]; omega
 have e2:i*4+4=(i+1)*4:=by omega
 have hl:(List.take ((i+1)*4) (flat++post)).length=(i+1)*4:=by rw [List.length_take,List.length_append,hf]; omega
 simp only [setl]
 rw [hd,e1,List.drop_length_add_append,hv,e2,List.append_assoc (List.take ((i+1)*4) (flat++post))]
 have e3:List.drop ((i+1)*4) (List.take ((i+1)*4) (flat++post)++(List.drop (i*4) flat++List.drop 4 post))=List.drop (i*4) flat++List.drop 4 post:=by
  conv=>lhs; rw [← hl]
  rw [hl,List.drop_append_of_le_length (by omega),List.drop_of_length_le (by omega),List.nil_append]
 rw [e3,List.take_append_of_le_length (by omega),List.take_take,Nat.min_eq_left (by omega),List.take_append_of_le_length (by omega)]
 simp [List.append_assoc]
def InsPost (V0 V:Know) (n:Nat) (l:List DAcct) (i:Nat) (xv:DAcct) (f fv:List Nat) (V':Know) (r:Value):Prop :=
 ∃ s' f',r=Sc.val .l s'∧s'.n=n+1∧LR rAcct V' s' (insL i xv l) f'∧Own V0 V' f'∧V0.le V'∧(∀ y,y ∉ f→V y≠none→V' y=V y)∧∀ y∈f',V y=none∨y∈f∨y∈fv
theorem new_post {V0 V:Know} {w w':World} (hw:V.on w) (le0:V0.le V) {n:Nat} {l:List DAcct} {cs:List (Scs AcSh)} {fps f fv:List Nat} {cv:Scs AcSh} {xv:DAcct} {i:Nat} {e:Ending} (he:Els rAcct V cs l fps) (hR:rAcct.R V cv xv fv) (hO:Own V0 V (fps++fv)) (hsub:∀ y∈fps,y∈f) (hi:i≤l.length) (hn:n=l.length) (hl:l.length+1≤1048576)
  (h:NewRow (n+1) ((cs.flatMap (Scs.vals AcSh)).take (i*4)++Scs.vals AcSh cv++(cs.flatMap (Scs.vals AcSh)).drop (i*4)) w e w') :
  ∃ V' r,e=.returned r∧Fr V V' w w'∧V'.on w'∧InsPost V0 V n l i xv f fv V' r:=by
 obtain⟨G,sp,hG,rfl,hb,ho⟩:=h
 have hbn:V w.heap.size=none:=by
  cases hv:V w.heap.size with
  | none=>rfl
  | some y =>
   have:=hw _ _ _ hv
   rw [Array.getElem?_eq_none (Nat.le_refl _)] at this
   cases this
 obtain⟨on',fr'⟩:=oth_on hw ho hb (fun k hk _ e=>by omega)
 have hcl:=he.len
 rw [← flat_ins cv (by omega)] at hb on' fr'
 have lek:=kset_le (x:=((insL i cv cs).flatMap (Scs.vals AcSh)++sp,((76:TypeId),((0,0):Nat × Nat)))) hbn
 obtain⟨fps',k1,k2⟩:=els_ins hR he hi
 have hO':=hO.perm k2
 have hnf:w.heap.size ∉ fps':=fun hm=>by
  obtain⟨c,t,k⟩:=hO'.2.2 _ hm
  rw [hbn] at k; cases k
 refine⟨_,_,rfl,fr',on',⟨some ⟨w.heap.size,0,none⟩,n+1,G⟩,w.heap.size :: fps',rfl,rfl,lr_new2 (k1.le lek) kset_same (by rw [insL_len hi,hn]) (by rw [insL_len hi]; omega) (by rw [insL_len hi]; omega),⟨List.nodup_cons.2 ⟨hnf,hO'.1⟩,fun y hy=>?_,fun y hy=>?_⟩,le0.trans lek,fun y _ hy=>kset_other (fun e=>hy (by rw [e]; exact hbn)),fun y hy=>?_⟩
 ·rcases List.mem_cons.1 hy with rfl | hy
  ·exact none_of_le le0 hbn
  ·exact hO'.2.1 y hy
 ·rcases List.mem_cons.1 hy with rfl | hy
  ·exact⟨_,_,kset_same⟩
  ·exact(hO'.post lek).2.2 y hy
 ·rcases List.mem_cons.1 hy with rfl | hy
  ·exact .inl hbn
  ·rcases List.mem_append.1 (k2.mem_iff.1 hy) with h | h
   ·exact .inr (.inl (hsub y h))
   ·exact .inr (.inr h)
set_option maxHeartbeats 4000000 in
theorem cI_Insert {V0 V:Know} {vb:Nat} {tv:TypeId} {s:SlV} {l:List DAcct} {f:List Nat} {cv:Scs AcSh} {xv:DAcct} {fv:List Nat} (G:GR rAcct acT V s l f) (O:Own V0 V (f++fv)) (le0:V0.le V) (hv:V vb=some (Scs.vals AcSh cv,(tv,(0,0)))) (hvf:vb ∉ f) (hR:rAcct.R V cv xv fv) (hl:l.length+1≤1048576) {i:Nat} (hi:i≤l.length) :
  CallX Tryz.prog V 286 [Sc.val .l s,.int .i64 (i:Int),.slice (some ⟨vb,0,none⟩) 1 1] (InsPost V0 V s.n l i xv f fv):=by
 refine⟨⟨_,Tryz.func286,by kernel_rfl,by kernel_rfl⟩,fun w hw=>?_⟩
 obtain⟨hn,hnc,hG⟩:=G
 obtain⟨_,vc,vz,vs⟩:=on_cells hw hv
 have hvl:(Scs.vals AcSh cv).length=4:=vals_len _ _
 have hvs:∀ j v,(Scs.vals AcSh cv)[j]?=some v→w.cell? ⟨vb,j,none⟩=some v:=fun j v h=>by rw [vc]; exact h
 have h1v:=vals_one1 AcSh cv
 obtain⟨sa,sn,sc⟩:=s
 replace hn:sn=l.length:=hn
 replace hnc:sn≤sc:=hnc
 rcases hG with ⟨ha,hc,rfl,rfl⟩ | ⟨b,fps,cs,post,ha,hb,hp,he,rfl⟩
 ·replace ha:sa=none:=ha
  replace hc:sc=0:=hc
  subst ha hc
  obtain rfl:sn=0:=hn
  obtain rfl:i=0:=by simpa using hi
  refine(ins_new none 0 0 vb [] (Scs.vals AcSh cv) w (by omega) (by omega) rfl hvl (fun _=>rfl) (Nat.le_refl _) (fun a h=>by cases h) hvs h1v).mono ?_
  intro e w' h
  exact new_post hw le0 (cs:=[]) (l:=[]) (fps:=[]) (i:=0) (by exact rfl) hR O (fun y h=>by cases h) (Nat.le_refl _) rfl (by simp) h
 replace ha:sa=some ⟨b,0,none⟩:=ha
 replace hp:post.length=(sc-sn)*4:=hp
 subst ha
 obtain⟨h0,bc,bz,bs⟩:=on_cells hw hb
 have hcl:=he.len
 have hfl:(cs.flatMap (Scs.vals AcSh)).length=sn*4:=by rw [flat_len,hcl,hn]; rfl
 have hcs:∀ j v,(cs.flatMap (Scs.vals AcSh))[j]?=some v→w.cell? ⟨b,j,none⟩=some v:=fun j v h=>by
  rw [bc,List.getElem?_append_left (List.getElem?_eq_some_iff.1 h).1]; exact h
 have hO2:Own V0 V (fps++fv):=O.sub (by simp)
 have hvb:vb≠b:=fun e=>hvf (by simp [e])
 by_cases hroom:sn+1≤sc
 ·have hsp:∀ j,j<(sn+1)*4→(w.cell? ⟨b,j,none⟩).isSome=true:=fun j hj=>by
   rw [bc,List.getElem?_eq_getElem (by rw [List.length_append,hfl,hp]; omega)]; rfl
  have hLl:sn*4+4≤(cs.flatMap (Scs.vals AcSh)++post).length:=by rw [List.length_append,hfl,hp]; omega
  -- the block as it is behind the call
  have fin:∀ (w':World),w'.heap[b]?=some (.cells ((insL i cv cs).flatMap (Scs.vals AcSh)++post.drop 4).toArray acT (0,0))→Other w w' b →
    ∃ V' r,Ending.returned (.slice (some ⟨b,0,none⟩) (sn+1) sc)=.returned r∧Fr V V' w w'∧V'.on w'∧InsPost V0 V sn l i xv (b :: fps) fv V' r:=by
   intro w' hb' ho
   obtain⟨on',fr'⟩:=oth_on hw ho hb' (fun k _ hk e=>by rw [e,hb] at hk; cases hk)
   have hbx:∀ y∈fps++fv,y≠b:=fun y hy e=>by
    subst e
    have:=O.1
    simp only [List.cons_append,List.nodup_cons] at this
    exact this.1 hy
   have hoff:∀ (z:List Value × KTy) (g:List Nat),(∀ y∈g,y∈fps++fv)→∀ y∈g,kset V b z y=V y:=fun z g hg y hy=>kset_other (hbx y (hg y hy))
   obtain⟨fps',k1,k2⟩:=els_ins (rAcct.loc hR (hoff (((insL i cv cs).flatMap (Scs.vals AcSh)++post.drop 4),(acT,(0,0))) fv (fun y hy=>by simp [hy]))) (he.loc (hoff _ fps (fun y hy=>by simp [hy]))) hi
   have hO':=hO2.perm k2
   have hb0:V0 b=none:=O.2.1 b (by simp)
   refine⟨_,_,rfl,fr',on',⟨some ⟨b,0,none⟩,sn+1,sc⟩,b :: fps',rfl,rfl,lr_new2 k1 kset_same (by rw [insL_len hi,hn]) (by rw [insL_len hi]; omega) (by rw [insL_len hi]; omega),⟨List.nodup_cons.2 ⟨fun hm=>hbx b (k2.mem_iff.1 hm) rfl,hO'.1⟩,fun y hy=>?_,fun y hy=>?_⟩,kset_le2 le0 hb0,fun y hy _=>kset_other (fun e=>hy (by simp [e])),fun y hy=>?_⟩
   ·rcases List.mem_cons.1 hy with rfl | hy
    ·exact hb0
    ·exact hO'.2.1 y hy
   ·rcases List.mem_cons.1 hy with rfl | hy
    ·exact⟨_,_,kset_same⟩
    ·obtain⟨c,t,q⟩:=hO'.2.2 y hy
     exact⟨c,t,by rw [kset_other (hbx y (k2.mem_iff.1 hy))]; exact q⟩
   ·rcases List.mem_cons.1 hy with rfl | hy
    ·exact .inr (.inl (by simp))
    ·rcases List.mem_append.1 (k2.mem_iff.1 hy) with h | h
     ·exact .inr (.inl (by simp [h]))
     ·exact .inr (.inr h)
  have hdl:((cs.flatMap (Scs.vals AcSh)).drop (i*4)).length=(sn-i)*4:=by rw [List.length_drop,hfl,← Nat.sub_mul]
  by_cases hin:i<sn
  ·refine(ins_shift b sn sc i vb _ _ w hin hroom (by omega) hvb hfl hvl hcs hsp bz hvs (flat_one cs) h1v _ _ _ _ vs bs (by show(cs.flatMap (Scs.vals AcSh)++post).length≠0; omega) (vz _) (vz _)).mono ?_
   rintro e w' ⟨rfl,rfl⟩
   have h0':w.drew.heap[b]?=some (.cells (cs.flatMap (Scs.vals AcSh)++post).toArray acT (0,0)):=h0
   have hA:(i+1)*4+((cs.flatMap (Scs.vals AcSh)).drop (i*4)).length≤(cs.flatMap (Scs.vals AcSh)++post).length:=by rw [hdl]; omega
   obtain⟨q1,q2⟩:=heap_setCells h0' hA
   have hB:i*4+(Scs.vals AcSh cv).length≤(setl (cs.flatMap (Scs.vals AcSh)++post) ((i+1)*4) ((cs.flatMap (Scs.vals AcSh)).drop (i*4))).length:=by rw [setl_len hA,hvl]; omega
   obtain⟨r1,r2⟩:=heap_setCells q1 hB
   rw [setl_shift hfl hvl (by omega) (by rw [hp]; omega),← flat_ins cv (by omega)] at r1
   exact fin _ r1 ⟨r2.os.trans q2.os,r2.tape.trans q2.tape,r2.output.trans q2.output,fun k hk=>(r2.keep k hk).trans (q2.keep k hk)⟩
  ·obtain rfl:i=sn:=by omega
   refine(ins_end b i sc vb _ w hroom hvl hsp bz hvs h1v).mono ?_
   rintro e w' ⟨rfl,rfl⟩
   have hB:i*4+(Scs.vals AcSh cv).length≤(cs.flatMap (Scs.vals AcSh)++post).length:=by rw [hvl]; omega
   obtain⟨q1,q2⟩:=heap_setCells h0 hB
   have e:setl (cs.flatMap (Scs.vals AcSh)++post) (i*4) (Scs.vals AcSh cv)=(insL i cv cs).flatMap (Scs.vals AcSh)++post.drop 4:=by
    rw [setl_mid hfl.symm (by rw [hvl,hp]; omega),hvl,flat_ins cv (by omega),List.take_of_length_le (Nat.le_of_eq hfl),List.drop_of_length_le (Nat.le_of_eq hfl),List.append_nil,List.append_assoc]
   rw [e] at q1
   exact fin _ q1 q2
 ·have hO3:∀ y∈fps,y∈b :: fps:=fun y hy=>by simp [hy]
  by_cases hin:i<sn
  ·refine(ins_grow b sn sc i vb _ _ w hin hnc (by omega) (by omega) hfl hvl hcs hvs (flat_one cs) h1v).mono ?_
   intro e w' h
   exact new_post hw le0 he hR hO2 hO3 hi hn hl h
  ·obtain rfl:i=sn:=by omega
   refine(ins_new (some ⟨b,0,none⟩) i sc vb _ _ w (by omega) (by omega) hfl hvl (fun h=>by cases h) hnc (fun a h j v hj=>by cases h; simp only [addr_add_eq,Nat.zero_add]; exact hcs j v hj) hvs h1v).mono ?_
   intro e w' h
   refine new_post (i:=i) hw le0 he hR hO2 hO3 hi hn hl ?_
   rw [List.take_of_length_le (Nat.le_of_eq hfl),List.drop_of_length_le (Nat.le_of_eq hfl),List.append_nil]
   exact h
end Go.Proofs.YtpdfdkccgkieoaaGreatDoor
