/-
  Decimals read from their texts by the program.
-/
import Derived.Test.YtahmmgiiojjhgaaGreatDoorCmdV
import Derived.Shelf.Spec.SlicesInsertGrow
import Derived.Test.YtahmmgiiojjhgaaGreatDoorWr
import Derived.Test.YtahmmgiiojjhgaaGreatDoorTA
import Derived.Lib.ConvBytes
import Derived.Test.YtahmmgiiojjhgaaGreatDoorCopy
import Derived.Test.YtahmmgiiojjhgaaGreatDoorLoopT
namespace Go.Proofs.YtahmmgiiojjhgaaGreatDoor
open Go.Proofs.Tryz (prog)
open Go.IntKind
open Sx Go.RowKit Go.Lib
set_option maxRecDepth 100000
theorem jP {P:Program} (w:World) (dT sT ty elem:TypeId) (k n b o dLen dCap:Nat) (a:Addr) (sLen sCap:Nat) (cs:List Value)
  (hu:P.underlying dT=some (.slice elem)) (hs:(P.info? elem).map (·.size)=some k) (hn:n=Nat.min sLen dLen) (hl:cs.length=n*k)
  (eI:∀ j v,cs[j]?=some v->w.cell? (a.add j)=some v) (hc:∀ j,j<cs.length->(w.cell? ⟨b,o+j,none⟩).isSome=true) (hf:∀ j,j<cs.length->w.frozen? ⟨b,o+j,none⟩=false) (h1:∀ v∈cs,v.oneCell'=true) :
  (Builtin.copy_ #[dT,sT] ty #[.slice (some ⟨b,o,none⟩) dLen dCap,.slice (some a) sLen sCap]).run P w=.ok (goInt n) (w.setCells b o cs):=by
 have lZ:=run_loadCells_list (P:=P) w a cs eI;have ll:=run_storeCells_cells (P:=P) b o cs 0 w (by simpa using hc) (by simpa using hf) h1;rw [hl] at lZ;cases hq:P.info? elem with
 | none=>simp [hq] at hs
 | some i =>
  have hi:i.size=k:=by simpa [hq] using hs
  simp [Builtin.copy_,run_underlying hu,Builtin.lenOf,Builtin.firstCells,sizeOf,typeInfo,hq,hi,<- hn,lZ,ll]
set_option maxHeartbeats 4000000 in
theorem VL (b n c i vb:Nat) (cs vs:List Value) (w:World) (hi:i<n) (gQ:n+1<=c) (hc63:n+1<=9223372036854775807) (YW:vb≠b)
  (eG:cs.length=n*4) (vt:vs.length=4)
  (sJ:∀ j v,cs[j]?=some v->w.cell? ⟨b,j,none⟩=some v) (oV:∀ j,j<(n+1)*4->(w.cell? ⟨b,j,none⟩).isSome=true) (hfz:∀ j,w.frozen? ⟨b,j,none⟩=false)
  (Mi:∀ j v,vs[j]?=some v->w.cell? ⟨vb,j,none⟩=some v) (h1c:∀ v∈cs,v.oneCell'=true) (VM:∀ v∈vs,v.oneCell'=true)
  (tA tB:TypeId) (kA kB:Nat) (Sq:w.shape? vb=some (tA,kA)) (hsb:w.shape? b=some (tB,kB)) (hkB:kB≠0) (hfa:w.frozen? ⟨vb,0,none⟩=false) (hfe:w.frozen? ⟨vb,kA,none⟩=false) :
  Calls prog 419 #[.slice (some ⟨b,0,none⟩) n c,.int .i64 i,.slice (some ⟨vb,0,none⟩) 1 1] w fun e w' =>
   e=.returned (.slice (some ⟨b,0,none⟩) (n+1) c)/\w'=(w.drew.setCells b ((i+1)*4) (cs.drop (i*4))).setCells b (i*4) vs:=by
 have SJ:¬ ((i:Int)=(n:Int)):=by omega
 have gv:(prog.info? 93).map (·.size)=some 4:=by kernel_rfl
 have hzz:∀ w,(Go.sizeOf 93).run prog w=.ok 4 w:=fun w=>aZ (by kernel_rfl) w
 have Mf:prog.underlying 32=some (.slice 93):=by kernel_rfl
 have hov:∀ lb cb,(callFunc 421 #[.slice (some ⟨vb,0,none⟩) 1 1,.slice (some ⟨b,(i+1)*4,none⟩) lb cb]).run prog w=.ok (.value (.bool false)) w:=fun lb cb=>by
  rw [run_callFunc_extern Tryz.func421 (by kernel_rfl) (by kernel_rfl) (by kernel_rfl) (e:=Extern.SlicesOverlaps.overlaps #[32,32] #[4]) (by kernel_rfl),
   Lib.run_overlaps_apart w 32 4 93 Mf 4 hzz ⟨vb,0,none⟩ ⟨b,(i+1)*4,none⟩ 1 1 lb cb YW tA tB kA kB Sq hsb hkB hfa hfe]
  rfl
 have B3:(cs.drop (i*4)).length=(n-i)*4:=by rw [List.length_drop,eG,<- Nat.sub_mul]
 have hmul:(i+1)*4+(n-i)*4=(n+1)*4:=by omega
 have mixed:=Tryz.mix;have fW:(0:Int)<=(i:Int)+1:=by omega
 have gM:i<=n:=by omega
 have hin1:i<=n+1:=by omega
 have im:(i:Int)<=(n:Int)+1:=by omega
 have hw1:i64.wrap ((i:Int)+1)=(i:Int)+1:=by rw [IntKind.wrap_i64]; omega
 have ow:¬ (c=i+1):=by omega
 have hb4:¬ (c=i):=by omega
 have hcp1:∀ ty dc sc,(Builtin.copy_ #[32,32] ty #[.slice (some ⟨b,(i+1)*4,none⟩) (n-i) dc,.slice (some ⟨b,i*4,none⟩) (n+1-i) sc]).run prog w.drew=.ok (goInt (n-i:Nat)) (w.drew.setCells b ((i+1)*4) (cs.drop (i*4))):=fun ty dc sc =>
  jP w.drew _ _ ty 93 4 (n-i) b ((i+1)*4) (n-i) dc ⟨b,i*4,none⟩ (n+1-i) sc (cs.drop (i*4)) Mf gv (by simp only [Nat.min_def]; split <;> omega) B3
   (fun j v hj=>by rw [Addr.add_lit]; exact sJ (i*4+j) v (by rwa [List.getElem?_drop] at hj))
   (fun j hj=>oV _ (by omega)) (fun j _=>hfz _) (fun v hv=>h1c v (List.mem_of_mem_drop hv))
 obtain⟨W1,yH⟩:∃ W1,W1=w.drew.setCells b ((i+1)*4) (cs.drop (i*4)):=⟨_,rfl⟩;have hsp1:∀ k,k<(n+1)*4->(W1.cell? ⟨b,k,none⟩).isSome=true:=fun k hk=>by
  rw [yH];exact isSome_setCells b (cs.drop (i*4)) ((i+1)*4) w.drew (fun j hj=>oV _ (by omega)) k (oV k hk)
 have hcp2:∀ (W:World),(∀ x,W.cell? x=W1.cell? x)->(∀ x,W.frozen? x=W1.frozen? x)->∀ ty dc,(Builtin.copy_ #[32,32] ty #[.slice (some ⟨b,i*4,none⟩) (n+1-i) dc,.slice (some ⟨vb,0,none⟩) 1 1]).run prog W=.ok (goInt (1:Nat)) (W.setCells b (i*4) vs):=fun W hWc hWf ty dc =>
  jP W _ _ ty 93 4 1 b (i*4) (n+1-i) dc ⟨vb,0,none⟩ 1 1 vs Mf gv (by simp only [Nat.min_def]; split <;> omega) (by rw [vt])
   (fun j v hj=>by
    rw [Addr.add_lit,Nat.zero_add,hWc,yH,World.cell?_setCells_out b _ _ _ _ (fun h _=>absurd h YW)];exact Mi j v hj)
   (fun j hj=>by rw [hWc]; exact hsp1 _ (by omega)) (fun j _=>by rw [hWf,yH,World.frozen?_setCells]; exact hfz _) VM
 rw [<- yH] at hcp1
 go_enter Tryz.func419,Tryz.ntmps419
 go_wp2_with (simp only [hov])
 go_region_law_o (refine step_copy_runI rfl _ _ 32 32 rfl _ _ (by simp [Act.eval,Act.put]) (by simp [Act.eval,Act.put]) (hcp1 _ _ _) ?_)
 go_wp2_with (at_builtin; refine wpList_copy_runI _ rfl _ _ 32 32 rfl _ _ rfl rfl (hcp2 _ (fun _=>rfl) (fun _=>rfl) _ _) ?_)
 go_ret
 first | exact⟨rfl,rfl⟩ | exact⟨rfl,by rw [yH]⟩
set_option maxHeartbeats 4000000 in
theorem ins_end (b n c vb:Nat) (vs:List Value) (w:World) (gQ:n+1<=c) (vt:vs.length=4)
  (oV:∀ j,j<(n+1)*4->(w.cell? ⟨b,j,none⟩).isSome=true) (hfz:∀ j,w.frozen? ⟨b,j,none⟩=false) (Mi:∀ j v,vs[j]?=some v->w.cell? ⟨vb,j,none⟩=some v) (VM:∀ v∈vs,v.oneCell'=true) :
  Calls prog 419 #[.slice (some ⟨b,0,none⟩) n c,.int .i64 n,.slice (some ⟨vb,0,none⟩) 1 1] w fun e w' =>
   e=.returned (.slice (some ⟨b,0,none⟩) (n+1) c)/\w'=w.setCells b (n*4) vs:=by
 have Mf:prog.underlying 32=some (.slice 93):=by kernel_rfl
 have gv:(prog.info? 93).map (·.size)=some 4:=by kernel_rfl
 obtain⟨i0,hi0,Qh⟩:=Option.map_eq_some_iff.1 gv;have mixed:=Tryz.mix;have eI:Src prog i0.size 32 (.slice (some ⟨vb,0,none⟩) 1 1) 1 vs w:=Src.ofSlice w Mf ⟨vb,0,none⟩ 1 1 vs (by rw [Qh,vt]) (fun j u hj=>by rw [Addr.add_lit,Nat.zero_add]; exact Mi j u hj) VM
 have hk:∀ j,0+n*i0.size+j=n*4+j:=fun j=>by rw [Qh]; omega
 have ix:0+n*i0.size=n*4:=by rw [Qh]; omega
 go_enter Tryz.func419,Tryz.ntmps419
 go_wp2_with (at_builtin; refine wpList_append_room_src _ rfl _ _ 32 32 rfl 93 i0 Mf hi0 b 0 n c rfl _ rfl 1 vs eI gQ (fun j hj=>by rw [hk]; exact oV _ (by omega)) (fun j _=>by rw [hk]; exact hfz _) ?_)
 go_ret
 exact⟨rfl,by first | rfl | rw [ix] | simp [Qh]⟩
structure Other (w w':World) (b:Nat):Prop where
 os:w'.os=w.os
 tape:w'.tape=w.tape
 output:w'.output=w.output
 j9:∀ k,k≠b->w'.heap[k]?=w.heap[k]?
theorem Other.trans {w w1 w2:World} {b:Nat} (h:Other w w1 b) (k:Other w1 w2 b):Other w w2 b:=⟨k.os.trans h.os,k.tape.trans h.tape,k.output.trans h.output,fun j hj=>(k.j9 j hj).trans (h.j9 j hj)⟩
theorem heap_setCell {w:World} {b o:Nat} {x:Value} {L:List Value} {t:TypeId} {fr:Nat × Nat} (h:w.heap[b]?=some (.cells L.toArray t fr)) (ho:o<L.length) :
  (w.setCell ⟨b,o,none⟩ x).heap[b]?=some (.cells (aX L o [x]).toArray t fr)/\Other w (w.setCell ⟨b,o,none⟩ x) b:=by
 refine⟨?_,rfl,rfl,rfl,fun k hk=>?_⟩
 ·simp only [World.setCell,Array.getElem?_modify,if_true,h,Option.map_some,Option.isSome_none,Bool.false_eq_true,if_false]
  congr 2
  apply Array.ext'
  simp only [Array.toList_setIfInBounds,aX,List.length_cons,List.length_nil,List.append_assoc];rw [List.set_eq_take_append_cons_drop,if_pos ho]
  rfl
 simp only [World.setCell,Array.getElem?_modify];rw [if_neg (fun e:b=k=>hk e.symm)]
theorem VN {L xs:List Value} {o:Nat} {x:Value} (h:o+1+xs.length<=L.length):aX (aX L o [x]) (o+1) xs=aX L o (x :: xs):=by
 simp only [aX,List.length_cons,List.length_nil];have h1:(L.take o).length=o:=by rw [List.length_take]; omega
 have e1:List.take (o+1) (List.take o L++[x]++List.drop (o+(0+1)) L)=List.take o L++[x]:=by
  rw [List.take_append_of_le_length (by simp [h1])];exact List.take_of_length_le (by simp [h1])
 have e2:List.drop (o+1+xs.length) (List.take o L++[x]++List.drop (o+(0+1)) L)=List.drop (o+(xs.length+1)) L:=by
  have e3:o+1+xs.length=(List.take o L++[x]).length+xs.length:=by simp [h1]
  rw [e3,List.drop_length_add_append,List.drop_drop]
  congr 1
  omega
 rw [e1,e2];simp
theorem Bt {L xs:List Value} {o:Nat} (h:o+xs.length<=L.length):(aX L o xs).length=L.length:=by
 simp only [aX,List.length_append,List.length_take,List.length_drop];omega
theorem VO {L:List Value} {o:Nat}:aX L o []=L:=by simp [aX]
theorem fO {b:Nat} {t:TypeId} {fr:Nat × Nat}:∀ {xs:List Value} {w:World} {o:Nat} {L:List Value},w.heap[b]?=some (.cells L.toArray t fr)->o+xs.length<=L.length ->
  (w.setCells b o xs).heap[b]?=some (.cells (aX L o xs).toArray t fr)/\Other w (w.setCells b o xs) b
 | [],w,o,L,h,_=>⟨by rw [VO]; exact h,rfl,rfl,rfl,fun _ _=>rfl⟩
 | x :: xs,w,o,L,h,ho=>by
  simp only [List.length_cons] at ho;obtain⟨h1,h2⟩:=heap_setCell (x:=x) h (show o<L.length by omega);obtain⟨h3,h4⟩:=fO (xs:=xs) (o:=o+1) h1 (by rw [Bt (by simp; omega)]; omega)
  rw [VN (by omega)] at h3;exact⟨h3,h2.trans h4⟩
def Bu (n:Nat) (L:List Value) (w:World) (e:Ending) (w':World):Prop :=
 ∃ (G:Nat) (sp:List Value),n<=G/\e=.returned (.slice (some ⟨w.heap.size,0,none⟩) n G)/\w'.heap[w.heap.size]?=some (.cells (L++sp).toArray 93 (0,0))/\Other w w' w.heap.size
theorem x7 (w:World) (o:Obj):Other w (w.drew.alloc o) w.heap.size/\(w.drew.alloc o).heap[w.heap.size]?=some o:=by
 refine⟨⟨rfl,rfl,rfl,fun k hk=>?_⟩,?_⟩
 ·show(w.heap.push o)[k]?=_
  rw [Array.getElem?_push,if_neg hk]
 show(w.heap.push o)[w.heap.size]?=_
 rw [Array.getElem?_push,if_pos rfl]
set_option maxHeartbeats 4000000 in
theorem RL (base:Option Addr) (n c vb:Nat) (cs vs:List Value) (w:World) (gQ:c<n+1) (Pq:(n+1)*64<=140737488355328) (eG:cs.length=n*4) (vt:vs.length=4) (Xq:base=none->n=0) (WI:n<=c)
  (sJ:∀ a,base=some a->∀ j v,cs[j]?=some v->w.cell? (a.add j)=some v) (Mi:∀ j v,vs[j]?=some v->w.cell? ⟨vb,j,none⟩=some v) (VM:∀ v∈vs,v.oneCell'=true) :
  Calls prog 419 #[.slice base n c,.int .i64 n,.slice (some ⟨vb,0,none⟩) 1 1] w (Bu (n+1) (cs++vs) w):=by
 have Mf:prog.underlying 32=some (.slice 93):=by kernel_rfl
 have gv:(prog.info? 93).map (fun i=>(i.zero.isSome,i.size,i.bytes))=some (true,4,64):=by kernel_rfl
 obtain⟨i0,hi0,Qh⟩:=Option.map_eq_some_iff.1 gv;simp only [Prod.mk.injEq] at Qh;obtain⟨hz,Qh,hi64⟩:=Qh;obtain⟨z,hz⟩:=Option.isSome_iff_exists.1 hz;have mixed:=Tryz.mix;have eI:Src prog i0.size 32 (.slice (some ⟨vb,0,none⟩) 1 1) 1 vs w:=Src.ofSlice w Mf ⟨vb,0,none⟩ 1 1 vs (by rw [Qh,vt]) (fun j u hj=>by rw [Addr.add_lit,Nat.zero_add]; exact Mi j u hj) VM
 have hold:(Builtin.firstCells i0.size n (.slice base n c)).run prog w.drew=.ok cs.toArray w.drew:=by
  rw [Qh];cases base with
  | none =>
   obtain rfl:=Xq rfl;obtain rfl:cs=[]:=List.eq_nil_of_length_eq_zero (by omega)
   rfl
  | some a=>exact run_firstCells_some w.drew 4 n a n c cs eG (fun j v hj=>sJ a rfl j v hj)
 have hrz:=fun ty=>run_append_grow_src (P:=prog) (w:=w) 32 32 ty 93 i0 z Mf hi0 hz base n c cs hold _ 1 vs eI gQ (by omega) (by rw [hi64]; exact growslice_fits gQ Pq)
 obtain⟨G,hG⟩:∃ G,G=grownCap w (n+1) c 93:=⟨_,rfl⟩;have hGn:n+1<=G:=by rw [hG]; exact grownCap_ge w _ _ _
 rw [<- hG] at hrz;obtain⟨sp,oV⟩:∃ sp:Array Value,sp=Builtin.zeroCells z.cells (G-(n+1)):=⟨_,rfl⟩;rw [<- oV] at hrz;obtain⟨W,hW⟩:∃ W,W=w.drew.alloc (.cells ((cs++vs).toArray++sp) 93):=⟨_,rfl⟩;rw [<- hW] at hrz;have fin:Bu (n+1) (cs++vs) w (.returned (.slice (some ⟨w.heap.size,0,none⟩) (n+1) G)) W:=by
  obtain⟨q1,q2⟩:=x7 w (.cells ((cs++vs).toArray++sp) 93);rw [<- hW] at q1 q2;refine⟨G,sp.toList,hGn,rfl,?_,q1⟩
  rw [q2]
  congr 2
  apply Array.ext'
  simp
 clear hold oV hW hG
 go_enter Tryz.func419,Tryz.ntmps419
 go_wp2_with (at_builtin; refine Lib.wpList_append_run _ rfl _ _ _ _ rfl _ _ rfl rfl _ _ (hrz _) ?_)
 go_ret
 exact fin
set_option maxHeartbeats 4000000 in
theorem ZR (b n c i vb:Nat) (cs vs:List Value) (w:World) (hi:i<n) (WI:n<=c) (gQ:c<n+1) (Pq:(n+1)*64<=140737488355328) (eG:cs.length=n*4) (vt:vs.length=4)
  (sJ:∀ j v,cs[j]?=some v->w.cell? ⟨b,j,none⟩=some v) (Mi:∀ j v,vs[j]?=some v->w.cell? ⟨vb,j,none⟩=some v) (h1c:∀ v∈cs,v.oneCell'=true) (VM:∀ v∈vs,v.oneCell'=true) :
  Calls prog 419 #[.slice (some ⟨b,0,none⟩) n c,.int .i64 i,.slice (some ⟨vb,0,none⟩) 1 1] w (Bu (n+1) (cs.take (i*4)++vs++cs.drop (i*4)) w):=by
 have Mf:prog.underlying 32=some (.slice 93):=by kernel_rfl
 have hui:prog.underlying 3=some (.int .i64):=by kernel_rfl
 have gv:(prog.info? 93).map (·.size)=some 4:=by kernel_rfl
 have hsz2:(prog.info? 93).map (fun i=>((i.zero.map (·.cells.size)),i.size,i.bytes))=some (some 4,4,64):=by kernel_rfl
 obtain⟨i0,hi0,Qh⟩:=Option.map_eq_some_iff.1 hsz2;simp only [Prod.mk.injEq] at Qh;obtain⟨hz,Qh,hi64⟩:=Qh;obtain⟨z,hz,hz4⟩:=Option.map_eq_some_iff.1 hz;have mixed:=Tryz.mix;have SJ:¬ ((i:Int)=(n:Int)):=by omega
 have hz3:(c:Int)<(n:Int)+1:=by omega
 have hbw:b<w.heap.size:=block_lt_of_cell (sJ 0 _ (List.getElem?_eq_getElem (by omega)));have hvw:vb<w.heap.size:=block_lt_of_cell (Mi 0 _ (List.getElem?_eq_getElem (by omega)));have hkk:(n:Int)+1-(i:Int)=((n+1-i:Nat):Int):=by omega
 have hik:i+(n+1-i)=n+1:=by omega
 have vT:(cs.take (i*4)).length=i*4:=by rw [List.length_take]; omega
 have B3:(cs.drop (i*4)).length=(n-i)*4:=by rw [List.length_drop,eG,<- Nat.sub_mul]
 have hold:(Builtin.firstCells i0.size i (.slice (some ⟨b,0,none⟩) i c)).run prog w.drew=.ok (cs.take (i*4)).toArray w.drew:=by
  rw [Qh];exact run_firstCells_some w.drew 4 i ⟨b,0,none⟩ i c (cs.take (i*4)) vT (fun j v hj=>by
   rw [Addr.add_lit,Nat.zero_add];rw [List.getElem?_take] at hj;split at hj
   ·exact sJ j v hj
   cases hj)
 obtain⟨G,hG⟩:∃ G,G=grownCap w (n+1) c 93:=⟨_,rfl⟩;obtain⟨ROW,hROW⟩:∃ ROW:Array Value,ROW=(cs.take (i*4)).toArray++Builtin.zeroCells z.cells (n+1-i)++Builtin.zeroCells z.cells (G-(n+1)):=⟨_,rfl⟩;have hrz:∀ ty,(Builtin.append_ #[32,3] ty #[.slice (some ⟨b,0,none⟩) i c,.int .i64 ((n:Int)+1-(i:Int))]).run prog w =
   .ok (.slice (some ⟨w.heap.size,0,none⟩) (n+1) G) (w.drew.alloc (.cells ROW 93)):=fun ty=>by
  have h:=Lib.run_append_grow_zeros w 32 3 ty 93 i0 z .i64 .i64 Mf hui hi0 hz (some ⟨b,0,none⟩) i c (cs.take (i*4)) hold (n+1-i) (by omega) (by omega) (by omega) (by omega) (by rw [hi64]; omega) (by rw [hi64,hik]; exact growslice_fits gQ Pq)
  rw [hik] at h;rw [hkk,hROW,hG];exact h
 have hGn:n+1<=G:=by rw [hG]; exact grownCap_ge w _ _ _
 have hRl:ROW.size=G*4:=by
  rw [hROW];simp only [Array.size_append,Builtin.zeroCells,List.size_toArray,vT];simp [hz4]; omega
 obtain⟨W1,yH⟩:∃ W1,W1=w.drew.alloc (.cells ROW 93):=⟨_,rfl⟩;rw [<- yH] at hrz;have hN:∀ j,j<(n+1)*4->(W1.cell? ⟨w.heap.size,j,none⟩).isSome=true:=fun j hj=>by
  rw [yH,World.cell?_alloc_at (w:=w.drew) ROW _ w.heap.size j rfl,Array.getElem?_eq_getElem (by omega)]; rfl
 have hNf:∀ j,W1.frozen? ⟨w.heap.size,j,none⟩=false:=fun j=>by rw [yH]; exact World.frozen?_alloc_at (w:=w.drew) ROW _ w.heap.size j rfl
 have hOb:∀ j v,w.cell? ⟨b,j,none⟩=some v->W1.cell? ⟨b,j,none⟩=some v:=fun j v h=>by rw [yH,World.cell?_alloc_past (w:=w.drew) _ b j hbw]; exact h
 have hOv:∀ j v,w.cell? ⟨vb,j,none⟩=some v->W1.cell? ⟨vb,j,none⟩=some v:=fun j v h=>by rw [yH,World.cell?_alloc_past (w:=w.drew) _ vb j hvw]; exact h
 have hcpA:∀ (W:World),(∀ x,W.cell? x=W1.cell? x)->(∀ x,W.frozen? x=W1.frozen? x)->∀ ty dc,(Builtin.copy_ #[32,32] ty #[.slice (some ⟨w.heap.size,i*4,none⟩) (n+1-i) dc,.slice (some ⟨vb,0,none⟩) 1 1]).run prog W=.ok (goInt (1:Nat)) (W.setCells w.heap.size (i*4) vs):=fun W hWc hWf ty dc =>
  jP W _ _ ty 93 4 1 w.heap.size (i*4) (n+1-i) dc ⟨vb,0,none⟩ 1 1 vs Mf gv (by simp only [Nat.min_def]; split <;> omega) (by rw [vt])
   (fun j v hj=>by rw [Addr.add_lit,Nat.zero_add,hWc]; exact hOv _ v (Mi j v hj))
   (fun j hj=>by rw [hWc]; exact hN _ (by omega)) (fun j _=>by rw [hWf]; exact hNf _) VM
 have hGi:¬ (G=i):=by omega
 have hGim:¬ (G=i+1):=by omega
 have hci:¬ (c=i):=by omega
 have hbN:b≠w.heap.size:=by omega
 have hcpB:∀ (W:World),(∀ x,W.cell? x=(W1.setCells w.heap.size (i*4) vs).cell? x)->(∀ x,W.frozen? x=(W1.setCells w.heap.size (i*4) vs).frozen? x)->∀ ty dc sc,(Builtin.copy_ #[32,32] ty #[.slice (some ⟨w.heap.size,(i+1)*4,none⟩) (n-i) dc,.slice (some ⟨b,i*4,none⟩) (n-i) sc]).run prog W=.ok (goInt (n-i:Nat)) (W.setCells w.heap.size ((i+1)*4) (cs.drop (i*4))):=fun W hWc hWf ty dc sc =>
  jP W _ _ ty 93 4 (n-i) w.heap.size ((i+1)*4) (n-i) dc ⟨b,i*4,none⟩ (n-i) sc (cs.drop (i*4)) Mf gv (by simp only [Nat.min_def]; split <;> omega) B3
   (fun j v hj=>by
    rw [Addr.add_lit,hWc,World.cell?_setCells_out _ _ _ _ _ (fun h _=>absurd h hbN)];exact hOb _ v (sJ (i*4+j) v (by rwa [List.getElem?_drop] at hj)))
   (fun j hj=>by rw [hWc]; exact isSome_setCells _ vs (i*4) W1 (fun t ht=>hN _ (by omega)) _ (hN _ (by omega)))
   (fun j hj=>by rw [hWf,World.frozen?_setCells]; exact hNf _) (fun v hv=>h1c v (List.mem_of_mem_drop hv))
 have fin:Bu (n+1) (cs.take (i*4)++vs++cs.drop (i*4)) w (.returned (.slice (some ⟨w.heap.size,0,none⟩) (n+1) G)) ((((w.alloc (.cells ROW 93)).drew.setCells w.heap.size (i*4) vs).drew).setCells w.heap.size ((i+1)*4) (cs.drop (i*4))):=by
  obtain⟨q1,q2⟩:=x7 w (.cells ROW 93);have Mh:ROW.toList.length=G*4:=by rw [<- hRl]; simp
  have q2':((w.alloc (.cells ROW 93)).drew).heap[w.heap.size]?=some (.cells (ROW.toList).toArray 93 (0,0)):=by
   rw [Array.toArray_toList]; exact q2
  obtain⟨r1,r2⟩:=fO (xs:=vs) (o:=i*4) q2' (by rw [vt,Mh]; omega)
  have r1':(((w.alloc (.cells ROW 93)).drew.setCells w.heap.size (i*4) vs).drew).heap[w.heap.size]?=some (.cells (aX ROW.toList (i*4) vs).toArray 93 (0,0)):=r1;obtain⟨s1,s2⟩:=fO (xs:=cs.drop (i*4)) (o:=(i+1)*4) r1' (by rw [Bt (by rw [vt,Mh]; omega),B3,Mh]; omega)
  have r2':Other w (((w.alloc (.cells ROW 93)).drew.setCells w.heap.size (i*4) vs).drew) w.heap.size:=⟨r2.os.trans q1.os,r2.tape.trans q1.tape,r2.output.trans q1.output,fun k hk=>(r2.j9 k hk).trans (q1.j9 k hk)⟩;refine⟨G,ROW.toList.drop ((n+1)*4),hGn,rfl,?_,r2'.trans s2⟩
  rw [s1]
  congr 2
  have hRT:ROW.toList.take (i*4)=cs.take (i*4):=by
   rw [hROW];simp only [Array.toList_append,List.append_assoc];rw [List.take_append_of_le_length (by simp [vT])];exact List.take_of_length_le (by simp [vT])
  simp only [aX];have e1:i*4+vs.length=(i+1)*4:=by rw [vt]; omega
  have e2:(i+1)*4+(cs.drop (i*4)).length=(n+1)*4:=by rw [B3]; omega
  have e3:(ROW.toList.take (i*4)++vs).length=(i+1)*4:=by rw [List.length_append,List.length_take,Mh,vt]; omega
  have e6:List.drop ((n+1)*4) (ROW.toList.take (i*4)++vs++ROW.toList.drop ((i+1)*4))=ROW.toList.drop ((n+1)*4):=by
   have e4:(n+1)*4=(ROW.toList.take (i*4)++vs).length+(n-i)*4:=by rw [e3]; omega
   have e5:(i+1)*4+(n-i)*4=(n+1)*4:=by omega
   conv=>lhs; rw [e4]
   rw [List.drop_length_add_append,List.drop_drop,e5]
  rw [e1,e2,List.take_append_of_le_length (by omega),List.take_of_length_le (by omega),e6,hRT]
 subst yH;have hE1:∀ x,((w.alloc (.cells ROW 93)).drew).cell? x=(w.drew.alloc (.cells ROW 93)).cell? x:=fun x=>rfl
 have hE2:∀ x,((w.alloc (.cells ROW 93)).drew).frozen? x=(w.drew.alloc (.cells ROW 93)).frozen? x:=fun x=>rfl
 have hF1:∀ x,(((w.alloc (.cells ROW 93)).drew.setCells w.heap.size (i*4) vs).drew).cell? x=((w.drew.alloc (.cells ROW 93)).setCells w.heap.size (i*4) vs).cell? x:=fun x=>rfl
 have hF2:∀ x,(((w.alloc (.cells ROW 93)).drew.setCells w.heap.size (i*4) vs).drew).frozen? x=((w.drew.alloc (.cells ROW 93)).setCells w.heap.size (i*4) vs).frozen? x:=fun x=>rfl
 have hw1:i64.wrap ((i:Int)+1)=(i:Int)+1:=by rw [IntKind.wrap_i64]; omega
 have fW:(0:Int)<=(i:Int)+1:=by omega
 have gM:i<=n:=by omega
 have hin1:i<=n+1:=by omega
 have im:(i:Int)<=(n:Int):=by omega
 clear hkk hik hold hROW hG hRl
 go_enter Tryz.func419,Tryz.ntmps419
 go_wp2_with (first
  | (at_builtin; refine Lib.wpList_append_run _ rfl _ _ _ _ rfl _ _ rfl rfl _ _ (hrz _) ?_)
  | (at_builtin; refine wpList_copy_runI _ rfl _ _ 32 32 rfl _ _ rfl rfl (hcpA _ hE1 hE2 _ _) ?_)
  | (at_builtin; refine wpList_copy_runI _ rfl _ _ 32 32 rfl _ _ rfl rfl (hcpB _ (fun _=>rfl) (fun _=>rfl) _ _ _) ?_))
 go_region_law_o (refine step_copy_runI rfl _ _ 32 32 rfl (.slice (some ⟨w.heap.size,(i+1)*4,none⟩) (n-i) (G-(i+1))) (.slice (some ⟨b,i*4,none⟩) (n-i) (c-i)) (by simp [Act.eval,Act.put]) (by simp [Act.eval,Act.put]) (hcpB _ hF1 hF2 3 (G-(i+1)) (c-i)) ?_)
 go_wp2
 go_ret
 exact fin
theorem ZS {V:aa} {w w':World} (hV:V.on w) {b:Nat} {L:List Value} {t:TypeId} (h:Other w w' b) (hb:w'.heap[b]?=some (.cells L.toArray t (0,0))) (hk:∀ k,k<w.heap.size->V k=none->k≠b) :
  (aB V b (L,(t,(0,0)))).on w'/\Fr V (aB V b (L,(t,(0,0)))) w w':=by
 refine⟨fun k c u hku=>?_,h.os,h.tape,h.output,?_,fun k JV hkn=>h.j9 k (hk k JV hkn),fun k JV hkn=>?_⟩
 ·by_cases e:k=b
  ·subst e
   rw [av] at hku;cases hku
   rw [hb,gJ]
  rw [bh e] at hku;rw [h.j9 k e]; exact hV k c u hku
 ·refine Nat.le_of_not_lt fun aN=>?_
  have h1:w'.heap[w'.heap.size]?=none:=Array.getElem?_eq_none (Nat.le_refl _)
  by_cases e:w'.heap.size=b
  ·rw [e,hb] at h1; cases h1
  rw [h.j9 _ e,Array.getElem?_eq_getElem aN] at h1; cases h1
 rw [bh (hk k JV hkn)]; exact hkn
theorem KQ {V:aa} {w:World} (hV:V.on w) {b:Nat} {L:List Value} {t:TypeId} (hb:V b=some (L,(t,(0,0)))) :
  w.heap[b]?=some (.cells L.toArray t (0,0))/\(∀ j,w.cell? ⟨b,j,none⟩=L[j]?)/\(∀ j,w.frozen? ⟨b,j,none⟩=false)/\w.shape? b=some (t,L.length):=by
 have h0:w.heap[b]?=some (.cells L.toArray t (0,0)):=by rw [hV b _ _ hb,gJ]
 refine⟨h0,fun j=>?_,fun j=>?_,?_⟩
 ·simp [World.cell?,h0]
 ·simp [World.frozen?,h0]
 simp [World.shape?,h0]
theorem wy:∀ (sh:List Sc) (c:aH sh),∀ v∈aH.aD sh c,v.oneCell'=true
 | [],_,v,h=>by cases h
 | k :: r,c,v,h=>by
  rcases List.mem_cons.1 h with rfl | h
  ·cases k <;> first | rfl | (rename_i x; cases x <;> rfl) | skip
   all_goals first | rfl | (show(Value.oneCell' _)=true; cases c.1 <;> rfl) | (have h1:=c.1.2; show(c.1.1).oneCell'=true; simpa [one] using h1)
  exact wy r c.2 v h
theorem Gy {sh:List Sc} {α:Type} {r:Rp sh α} {V:aa} {b n cap:Nat} {cs:List (aH sh)} {l:List α} {fps:List Nat} {post:List Value} {t:vn} (h:kS r V cs l fps) (hb:V b=some (cs.flatMap (aH.aD sh)++post,t)) (hn:n=l.length) (hc:l.length<=cap) (hl:l.length<=9223372036854775807) :
  LR r V ⟨some ⟨b,0,none⟩,n,cap⟩ l (b :: fps):=by
 subst hn;exact⟨rfl,hc,hl,.inr ⟨b,[],post,t,fps,cs,rfl,by simpa using hb,h,rfl⟩⟩
abbrev da:List Sc:=[.s,.s,.b,.l]
theorem Bv (cs:List (aH da)):∀ v∈cs.flatMap (aH.aD da),v.oneCell'=true:=fun v hv=>by
 obtain⟨c,_,h⟩:=List.mem_flatMap.1 hv;exact wy _ c v h
def nP {α:Type} (i:Nat) (x:α) (l:List α):List α:=l.take i++x :: l.drop i
theorem VP {α:Type} {x:α} {l:List α}:nP 0 x l=x :: l:=rfl
theorem VQ {α:Type} {x y:α} {l:List α} {i:Nat}:nP (i+1) x (y :: l)=y :: nP i x l:=rfl
theorem je {α:Type} {x:α} {l:List α} {i:Nat} (h:i<=l.length):(nP i x l).length=l.length+1:=by
 simp only [nP,List.length_append,List.length_take,List.length_cons,List.length_drop];omega
theorem yI {V:aa} {cv:aH da} {xv:aE} {fv:List Nat} (hx:aw.R V cv xv fv):∀ {i:Nat} {cs:List (aH da)} {l:List aE} {fps:List Nat},kS aw V cs l fps->i<=l.length->∃ Gz,kS aw V (nP i cv cs) (nP i xv l) Gz/\Gz.Perm (fps++fv)
 | 0,cs,l,fps,h,_=>⟨fv++fps,⟨fv,fps,rfl,hx,h⟩,List.perm_append_comm⟩
 | i+1,c :: cs,x :: l,_,⟨f,g,rfl,h1,h2⟩,hi=>by
  obtain⟨g',k1,k2⟩:=yI hx (i:=i) h2 (by simpa using hi);refine⟨f++g',⟨f,g',rfl,h1,k1⟩,?_⟩
  rw [List.append_assoc];exact List.Perm.append_left f k2
 | _+1,[],[],_,_,h=>by simp at h
 | _+1,[],_ :: _,_,h,_=>h.elim
 | _+1,_ :: _,[],_,h,_=>h.elim
theorem uT (cv:aH da):∀ {i:Nat} {cs:List (aH da)},i<=cs.length->(nP i cv cs).flatMap (aH.aD da)=(cs.flatMap (aH.aD da)).take (i*4)++aH.aD da cv++(cs.flatMap (aH.aD da)).drop (i*4)
 | 0,cs,_=>by simp [VP]
 | i+1,c :: cs,h=>by
  have ih:=uT cv (i:=i) (cs:=cs) (by simpa using h);have e:(i+1)*4=(aH.aD da c).length+i*4:=by rw [cF]; simp; omega
  rw [VQ,List.flatMap_cons,ih,List.flatMap_cons,e,List.take_length_add_append,List.drop_length_add_append];simp [List.append_assoc]
 | _+1,[],h=>by simp at h
theorem Qi {flat post vs:List Value} {n i:Nat} (hf:flat.length=n*4) (hv:vs.length=4) (hi:i<=n) (hp:4<=post.length) :
  aX (aX (flat++post) ((i+1)*4) (flat.drop (i*4))) (i*4) vs=flat.take (i*4)++vs++flat.drop (i*4)++post.drop 4:=by
 have hd:(flat.drop (i*4)).length=(n-i)*4:=by rw [List.length_drop,hf,<- Nat.sub_mul]
 have e1:(i+1)*4+(n-i)*4=flat.length+4:=by rw [hf]; omega
 have e2:i*4+4=(i+1)*4:=by omega
 have hl:(List.take ((i+1)*4) (flat++post)).length=(i+1)*4:=by rw [List.length_take,List.length_append,hf]; omega
 simp only [aX];rw [hd,e1,List.drop_length_add_append,hv,e2,List.append_assoc (List.take ((i+1)*4) (flat++post))];have e3:List.drop ((i+1)*4) (List.take ((i+1)*4) (flat++post)++(List.drop (i*4) flat++List.drop 4 post))=List.drop (i*4) flat++List.drop 4 post:=by
  conv=>lhs; rw [<- hl]
  rw [hl,List.drop_append_of_le_length (by omega),List.drop_of_length_le (by omega),List.nil_append]
 rw [e3,List.take_append_of_le_length (by omega),List.take_take,Nat.min_eq_left (by omega),List.take_append_of_le_length (by omega)];simp [List.append_assoc]
def GA (V0 V:aa) (n:Nat) (l:List aE) (i:Nat) (xv:aE) (f fv:List Nat) (V':aa) (r:Value):Prop :=
 ∃ s' f',r=qL s'/\s'.n=n+1/\LR aw V' s' (nP i xv l) f'/\cQ V0 V' f'/\V0.le V'/\(∀ y,y ∉ f->V y≠none->V' y=V y)/\∀ y∈f',V y=none\/y∈f\/y∈fv
theorem Bw {V0 V:aa} {w w':World} (hw:V.on w) (iA:V0.le V) {n:Nat} {l:List aE} {cs:List (aH da)} {fps f fv:List Nat} {cv:aH da} {xv:aE} {i:Nat} {e:Ending} (he:kS aw V cs l fps) (hR:aw.R V cv xv fv) (hO:cQ V0 V (fps++fv)) (P1:∀ y∈fps,y∈f) (hi:i<=l.length) (hn:n=l.length) (hl:l.length+1<=1048576)
  (h:Bu (n+1) ((cs.flatMap (aH.aD da)).take (i*4)++aH.aD da cv++(cs.flatMap (aH.aD da)).drop (i*4)) w e w') :
  ∃ V' r,e=.returned r/\Fr V V' w w'/\V'.on w'/\GA V0 V n l i xv f fv V' r:=by
 obtain⟨G,sp,hG,rfl,hb,ho⟩:=h;have yR:V w.heap.size=none:=by
  cases hv:V w.heap.size with
  | none=>rfl
  | some y =>
   have:=hw _ _ _ hv;rw [Array.getElem?_eq_none (Nat.le_refl _)] at this;cases this
 obtain⟨on',fr'⟩:=ZS hw ho hb (fun k hk _ e=>by omega);have eG:=he.len;rw [<- uT cv (by omega)] at hb on' fr';have lek:=aG (x:=((nP i cv cs).flatMap (aH.aD da)++sp,((93:TypeId),((0,0):Nat × Nat)))) yR;obtain⟨Gz,k1,k2⟩:=yI hR he hi;have hO':=hO.perm k2;have hnf:w.heap.size ∉ Gz:=fun hm=>by
  obtain⟨c,t,k⟩:=hO'.2.2 _ hm;rw [yR] at k; cases k
 refine⟨_,_,rfl,fr',on',⟨some ⟨w.heap.size,0,none⟩,n+1,G⟩,w.heap.size :: Gz,rfl,rfl,Gy (k1.le lek) av (by rw [je hi,hn]) (by rw [je hi]; omega) (by rw [je hi]; omega),⟨List.nodup_cons.2 ⟨hnf,hO'.1⟩,fun y hy=>?_,fun y hy=>?_⟩,iA.trans lek,fun y _ hy=>bh (fun e=>hy (by rw [e]; exact yR)),fun y hy=>?_⟩
 ·rcases List.mem_cons.1 hy with rfl | hy
  ·exact cL iA yR
  exact hO'.2.1 y hy
 ·rcases List.mem_cons.1 hy with rfl | hy
  ·exact⟨_,_,av⟩
  exact(hO'.post lek).2.2 y hy
 rcases List.mem_cons.1 hy with rfl | hy
 ·exact .inl yR
 rcases List.mem_append.1 (k2.mem_iff.1 hy) with h | h
 ·exact .inr (.inl (P1 y h))
 exact .inr (.inr h)
set_option maxHeartbeats 4000000 in
theorem VR {V0 V:aa} {vb:Nat} {tv:TypeId} {s:ar} {l:List aE} {f:List Nat} {cv:aH da} {xv:aE} {fv:List Nat} (G:GR aw Zp V s l f) (O:cQ V0 V (f++fv)) (iA:V0.le V) (hv:V vb=some (aH.aD da cv,(tv,(0,0)))) (hvf:vb ∉ f) (hR:aw.R V cv xv fv) (hl:l.length+1<=1048576) {i:Nat} (hi:i<=l.length) :
  ae prog V 419 [qL s,.int .i64 (i:Int),.slice (some ⟨vb,0,none⟩) 1 1] (GA V0 V s.n l i xv f fv):=by
 refine⟨⟨_,Tryz.func419,by kernel_rfl,by kernel_rfl⟩,fun w hw=>?_⟩
 obtain⟨hn,WI,hG⟩:=G;obtain⟨_,vc,vz,vs⟩:=KQ hw hv;have vt:(aH.aD da cv).length=4:=cF _ _;have Mi:∀ j v,(aH.aD da cv)[j]?=some v->w.cell? ⟨vb,j,none⟩=some v:=fun j v h=>by rw [vc]; exact h
 have VM:=wy da cv;obtain⟨sa,sn,sc⟩:=s;replace hn:sn=l.length:=hn;replace WI:sn<=sc:=WI;rcases hG with ⟨ha,hc,rfl,rfl⟩ | ⟨b,fps,cs,post,ha,hb,hp,he,rfl⟩
 ·replace ha:sa=none:=ha
  replace hc:sc=0:=hc;subst ha hc;obtain rfl:sn=0:=hn;obtain rfl:i=0:=by simpa using hi
  refine(RL none 0 0 vb [] (aH.aD da cv) w (by omega) (by omega) rfl vt (fun _=>rfl) (Nat.le_refl _) (fun a h=>by cases h) Mi VM).mono ?_
  intro e w' h;exact Bw hw iA (cs:=[]) (l:=[]) (fps:=[]) (i:=0) (by exact rfl) hR O (fun y h=>by cases h) (Nat.le_refl _) rfl (by simp) h
 replace ha:sa=some ⟨b,0,none⟩:=ha;replace hp:post.length=(sc-sn)*4:=hp;subst ha;obtain⟨h0,bc,bz,bs⟩:=KQ hw hb;have eG:=he.len;have yj:(cs.flatMap (aH.aD da)).length=sn*4:=by rw [iM,eG,hn]; rfl
 have sJ:∀ j v,(cs.flatMap (aH.aD da))[j]?=some v->w.cell? ⟨b,j,none⟩=some v:=fun j v h=>by
  rw [bc,List.getElem?_append_left (List.getElem?_eq_some_iff.1 h).1]; exact h
 have JZ:cQ V0 V (fps++fv):=O.sub (by simp);have YW:vb≠b:=fun e=>hvf (by simp [e])
 by_cases gQ:sn+1<=sc
 ·have oV:∀ j,j<(sn+1)*4->(w.cell? ⟨b,j,none⟩).isSome=true:=fun j hj=>by
   rw [bc,List.getElem?_eq_getElem (by rw [List.length_append,yj,hp]; omega)]; rfl
  have hLl:sn*4+4<=(cs.flatMap (aH.aD da)++post).length:=by rw [List.length_append,yj,hp]; omega
  -- the block as it is behind the call
  have fin:∀ (w':World),w'.heap[b]?=some (.cells ((nP i cv cs).flatMap (aH.aD da)++post.drop 4).toArray Zp (0,0))->Other w w' b ->
    ∃ V' r,Ending.returned (.slice (some ⟨b,0,none⟩) (sn+1) sc)=.returned r/\Fr V V' w w'/\V'.on w'/\GA V0 V sn l i xv (b :: fps) fv V' r:=by
   intro w' gx ho;obtain⟨on',fr'⟩:=ZS hw ho gx (fun k _ hk e=>by rw [e,hb] at hk; cases hk)
   have hbx:∀ y∈fps++fv,y≠b:=fun y hy e=>by
    subst e;have:=O.1;simp only [List.cons_append,List.nodup_cons] at this;exact this.1 hy
   have Ga:∀ (z:List Value × vn) (g:List Nat),(∀ y∈g,y∈fps++fv)->∀ y∈g,aB V b z y=V y:=fun z g hg y hy=>bh (hbx y (hg y hy))
   obtain⟨Gz,k1,k2⟩:=yI (aw.loc hR (Ga (((nP i cv cs).flatMap (aH.aD da)++post.drop 4),(Zp,(0,0))) fv (fun y hy=>by simp [hy]))) (he.loc (Ga _ fps (fun y hy=>by simp [hy]))) hi;have hO':=JZ.perm k2;have vq:V0 b=none:=O.2.1 b (by simp);refine⟨_,_,rfl,fr',on',⟨some ⟨b,0,none⟩,sn+1,sc⟩,b :: Gz,rfl,rfl,Gy k1 av (by rw [je hi,hn]) (by rw [je hi]; omega) (by rw [je hi]; omega),⟨List.nodup_cons.2 ⟨fun hm=>hbx b (k2.mem_iff.1 hm) rfl,hO'.1⟩,fun y hy=>?_,fun y hy=>?_⟩,nI iA vq,fun y hy _=>bh (fun e=>hy (by simp [e])),fun y hy=>?_⟩
   ·rcases List.mem_cons.1 hy with rfl | hy
    ·exact vq
    exact hO'.2.1 y hy
   ·rcases List.mem_cons.1 hy with rfl | hy
    ·exact⟨_,_,av⟩
    obtain⟨c,t,q⟩:=hO'.2.2 y hy;exact⟨c,t,by rw [bh (hbx y (k2.mem_iff.1 hy))]; exact q⟩
   rcases List.mem_cons.1 hy with rfl | hy
   ·exact .inr (.inl (by simp))
   rcases List.mem_append.1 (k2.mem_iff.1 hy) with h | h
   ·exact .inr (.inl (by simp [h]))
   exact .inr (.inr h)
  have B3:((cs.flatMap (aH.aD da)).drop (i*4)).length=(sn-i)*4:=by rw [List.length_drop,yj,<- Nat.sub_mul]
  by_cases gM:i<sn
  ·refine(VL b sn sc i vb _ _ w gM gQ (by omega) YW yj vt sJ oV bz Mi (Bv cs) VM _ _ _ _ vs bs (by show(cs.flatMap (aH.aD da)++post).length≠0; omega) (vz _) (vz _)).mono ?_
   rintro e w' ⟨rfl,rfl⟩;have UK:w.drew.heap[b]?=some (.cells (cs.flatMap (aH.aD da)++post).toArray Zp (0,0)):=h0;have hA:(i+1)*4+((cs.flatMap (aH.aD da)).drop (i*4)).length<=(cs.flatMap (aH.aD da)++post).length:=by rw [B3]; omega
   obtain⟨q1,q2⟩:=fO UK hA;have hB:i*4+(aH.aD da cv).length<=(aX (cs.flatMap (aH.aD da)++post) ((i+1)*4) ((cs.flatMap (aH.aD da)).drop (i*4))).length:=by rw [Bt hA,vt]; omega
   obtain⟨r1,r2⟩:=fO q1 hB;rw [Qi yj vt (by omega) (by rw [hp]; omega),<- uT cv (by omega)] at r1
   exact fin _ r1 ⟨r2.os.trans q2.os,r2.tape.trans q2.tape,r2.output.trans q2.output,fun k hk=>(r2.j9 k hk).trans (q2.j9 k hk)⟩
  obtain rfl:i=sn:=by omega
  refine(ins_end b i sc vb _ w gQ vt oV bz Mi VM).mono ?_
  rintro e w' ⟨rfl,rfl⟩;have hB:i*4+(aH.aD da cv).length<=(cs.flatMap (aH.aD da)++post).length:=by rw [vt]; omega
  obtain⟨q1,q2⟩:=fO h0 hB;have e:aX (cs.flatMap (aH.aD da)++post) (i*4) (aH.aD da cv)=(nP i cv cs).flatMap (aH.aD da)++post.drop 4:=by
   rw [iL yj.symm (by rw [vt,hp]; omega),vt,uT cv (by omega),List.take_of_length_le (Nat.le_of_eq yj),List.drop_of_length_le (Nat.le_of_eq yj),List.append_nil,List.append_assoc]
  rw [e] at q1;exact fin _ q1 q2
 have hO3:∀ y∈fps,y∈b :: fps:=fun y hy=>by simp [hy]
 by_cases gM:i<sn
 ·refine(ZR b sn sc i vb _ _ w gM WI (by omega) (by omega) yj vt sJ Mi (Bv cs) VM).mono ?_
  intro e w' h;exact Bw hw iA he hR JZ hO3 hi hn hl h
 obtain rfl:i=sn:=by omega
 refine(RL (some ⟨b,0,none⟩) i sc vb _ _ w (by omega) (by omega) yj vt (fun h=>by cases h) WI (fun a h j v hj=>by cases h; simp only [ah,Nat.zero_add]; exact sJ j v hj) Mi VM).mono ?_
 intro e w' h;refine Bw (i:=i) hw iA he hR JZ hO3 hi hn hl ?_
 rw [List.take_of_length_le (Nat.le_of_eq yj),List.drop_of_length_le (Nat.le_of_eq yj),List.append_nil];exact h
def p6 (n:ByteArray) (a:aE):Bool:=Op.bytesLess a.1.toList n.toList
def Cv (n:ByteArray):List aE->Nat
 | []=>0
 | a :: l=>if p6 n a=true then Cv n l+1 else 0
theorem qH {n:ByteArray}:∀ {l:List aE} {k:Nat},k<=l.length->(∀ (j:Nat) (hj:j<l.length),j<k->p6 n l[j]=true)->(∀ h:k<l.length,p6 n l[k]=false)->Cv n l=k
 | [],k,hk,_,_=>by
  have:k=0:=by simpa using hk
  subst this; rfl
 | a :: l,0,_,_,h=>by
  have h0:p6 n a=false:=h (by simp);rw [Cv,h0]; rfl
 | a :: l,k+1,hk,hj,h=>by
  have h0:p6 n a=true:=hj 0 (by simp) (by omega);rw [Cv,if_pos h0,qH (l:=l) (k:=k) (by simpa using hk) (fun j hj' hjk=>by
   have:=hj (j+1) (by simpa using hj') (by omega);simpa using this) (fun h'=>by
   have:=h (by simpa using h');simpa using this)]
abbrev p7 (n c:ByteArray):aE:=(n,c,false,[],())
def iv (l:List aE) (n c:ByteArray):List aE:=nP (Cv n l) (p7 n c) l
open Classical in
noncomputable def jo (l:List aE) (n c:ByteArray):List aE × Bool:=if (cq l/\j8 n l=none)/\cq (iv l n c) then (iv l n c,true) else ([],false)
theorem Bx {l:List aE} {n c:ByteArray} (h:(cq l/\j8 n l=none)/\cq (iv l n c)):jo l n c=(iv l n c,true):=if_pos h
theorem uU {l:List aE} {n c:ByteArray} (h:¬ ((cq l/\j8 n l=none)/\cq (iv l n c))):jo l n c=([],false):=if_neg h
theorem ZT (V:aa) {n c:ByteArray} (zn:n.size<=9223372036854775807) (zc:c.size<=9223372036854775807):aw.R V (n,c,false,⟨none,0,0⟩,()) (p7 n c) []:=⟨⟨rfl,zn⟩,⟨rfl,zc⟩,rfl,[],[],rfl,⟨rfl,Nat.le_refl _,(by show(0:Nat)<=9223372036854775807; decide),.inl ⟨rfl,fun _=>rfl,rfl⟩⟩,rfl⟩
theorem KR {V:aa} (hV:wc V) {b3 b4:Nat} {t3 t4:TypeId} {l:List aE} {n c:ByteArray} (zn:n.size<=9223372036854775807) (zc:c.size<=9223372036854775807) (qK:l.length<=12)
  (h3:V b3=some ([.string n],(t3,(0,0)))) (h4:V b4=some ([.string c],(t4,(0,0)))) {ok:Bool} (eg:ok=true↔cq (iv l n c)):Change V 418 [.pointer (some ⟨b3,0,none⟩),.pointer (some ⟨b4,0,none⟩)] l (iv l n c) ok:=by
 intro V1 b q s f le hbV G O hl1 Vq lT;refine aM (Cp ⟨b,2,none⟩ ⟨b3,0,none⟩ ⟨b4,0,none⟩) fun _=>?_
 have L:=G.lr (show l.length<=9223372036854775807 by omega);have hn:=L.1;have ld3:aQ V1 ⟨b3,0,none⟩ 1=some [.string n]:=by simp only [aQ,le _ _ h3]; rfl
 have ld4:aQ V1 ⟨b4,0,none⟩ 1=some [.string c]:=by simp only [aQ,le _ _ h4]; rfl
 have ldb:aQ V1 ((⟨b,2,none⟩:Addr).add 0) 1=some [qL s]:=by simp only [ah,aQ,lT]; rfl
 simp only [rb,T.wp]
 -- what follows the search
 have tail:∀ {k:Nat},k<=l.length->Cv n l=k->∀ Me,V1 Me=none->ae prog (aB V1 Me ([.string n,.string c,.bool false,.slice none 0 0],(Zp,(0,0)))) 419 [qL s,.int .i64 (k:Int),.slice (some ⟨Me,0,none⟩) 1 1]
   (fun V3 r=>∃ s',r=qL s'/\V3 b=some ([.int .i32 1,q,.slice s.a s.n s.c],(Vp,(0,0)))/\V.le V3/\ae prog (aB V3 b ([.int .i32 1,q,.slice s'.a s'.n s'.c],(Vp,(0,0)))) 49 [dJ (s',())] (fun V5 r=>∃ e,r=.bool e/\e=ok/\V.le V5/\V5 b=some ([.int .i32 1,q,.slice s'.a s'.n s'.c],(Vp,(0,0)))/\∃ f',LR aw V5 s' (iv l n c) f'/\cQ V V5 f'/\b ∉ f')):=by
  intro k hk df Me GB;have q2:=aG (x:=(([.string n,.string c,.bool false,.slice none 0 0]:List Value),((Zp,(0,0)):vn))) GB;have hf10:Me ∉ f:=fun hm=>by
   obtain⟨u,v,Zn⟩:=O.2.2 Me hm;rw [GB] at Zn; cases Zn
  have hbne:b≠Me:=fun e=>by rw [e,GB] at lT; cases lT
  refine(VR (V0:=V) (cv:=(n,c,false,⟨none,0,0⟩,())) (xv:=p7 n c) (fv:=[]) (G.le q2) (by rw [List.append_nil]; exact O.post q2) (le.trans q2) av hf10 (ZT _ zn zc) (by omega) hk).mono ?_
  rintro V3 r ⟨s',f',rfl,_,L3,O3,bS,j9,P1⟩;have ow:aB V1 Me (([.string n,.string c,.bool false,.slice none 0 0]:List Value),((Zp,(0,0)):vn)) b=some ([.int .i32 1,q,.slice s.a s.n s.c],(Vp,(0,0))):=by rw [bh hbne]; exact lT
  have im:V3 b=some ([.int .i32 1,q,.slice s.a s.n s.c],(Vp,(0,0))):=by rw [j9 b Vq (by rw [ow]; exact nofun)]; exact ow
  have Vt:b ∉ f':=fun hm=>by
   rcases P1 b hm with h | h | h
   ·rw [ow] at h; cases h
   ·exact Vq h
   cases h
  have jm:V.le (aB V3 b ([.int .i32 1,q,.slice s'.a s'.n s'.c],(Vp,(0,0)))):=nI bS hbV;refine⟨s',rfl,im,bS,?_⟩
  rw [df.symm] at L3;refine(qy (hV.le jm) s' (iv l n c) f' (L3.loc (pV Vt))).mono ?_
  rintro V5 _ ⟨fu,e,rfl,he⟩;have eo:e=ok:=by
   cases e with
   | true=>exact(eg.2 (he.1 rfl)).symm
   | false =>
    cases ok with
    | false=>rfl
    | true=>exact he.2 (eg.1 rfl)
  exact⟨e,rfl,eo,jm.trans fu,fu _ _ av,f',(L3.loc (pV Vt)).le fu,(uH O3 Vt).post fu,Vt⟩
 refine⟨fun y V'=>V'=V1/\∃ k:Nat,y.1=(k:Int)/\k<=l.length/\∀ (j:Nat) (hj:j<l.length),j<k->p6 n l[j]=true,fun y _=>((l.length:Int)-(y.1:Int)).toNat,⟨((0:Int),()),rfl,rfl,0,rfl,Nat.zero_le _,fun j _ h=>by omega⟩,?_⟩
 rintro⟨(i:Int),u⟩ V' ⟨rfl,k,hk,lV,bC⟩;replace hk:i=(k:Int):=hk;subst hk;have e0:(k:Int).toNat=k:=by omega
 refine⟨s,by rw [if_pos trivial]; exact ldb,fun aN=>?_,fun cg=>?_⟩
 ·have hi:k<l.length:=by
   have:(k:Int)<(s.n:Int):=bq aN;omega
  obtain⟨b1,o1,c1,fc,a1,l1,hR,_⟩:=L.at hi;have en:=nJ hR;dsimp only;rw [e0];refine⟨s,by rw [if_pos trivial]; exact ldb,_,a1,by omega,by omega,c1.1,by rw [if_pos trivial]; exact jz l1 (o:=0) (n:=1) rfl,n,by rw [if_pos trivial]; exact ld3,fun uC=>?_,fun uC=>?_⟩
  ·refine⟨_,rfl,(((k+1:Nat):Int),()),by rw [kD hi (by omega)]; rfl,⟨rfl,k+1,rfl,hi,fun j hj h2=>?_⟩,?_⟩
   ·by_cases e:j=k
    ·subst e
     unfold p6;rw [<- en]; exact uC
    exact bC j hj (by omega)
   show((l.length:Int)-((k+1:Nat):Int)).toNat<((l.length:Int)-(k:Int)).toNat
   omega
  have df:Cv n l=k:=qH lV bC fun _=>by
   unfold p6;rw [<- en]; exact uC
  refine⟨_,aa.le.refl _,s,by rw [if_pos trivial]; exact ldb,n,by rw [if_pos trivial]; exact ld3,c,by rw [if_pos trivial]; exact ld4,fun Me GB=>(tail lV df Me GB).mono ?_⟩
  rintro V3 _ ⟨s',rfl,im,bS,hB⟩;refine⟨nofun,s',rfl,?_⟩
  simp only [ah];refine⟨_,_,trivial,im,(by show 2+0+1<=3; decide),?_⟩
  change ∃ x,_
  rw [show aX [Value.int .i32 1,q,.slice s.a s.n s.c] (2+0) [qL s']=[Value.int .i32 1,q,.slice s'.a s'.n s'.c] from rfl];refine⟨(s',()),?_,?_⟩
  ·simp only [aQ,Bool.false_eq_true,if_false,av]; rfl
  refine hB.mono ?_
  rintro V5 _ ⟨e,rfl,rfl,fu,hb5,f',L5,O5,hf5⟩;exact⟨nofun,e,rfl,rfl,fu,s',hb5,fun _=>⟨f',L5,O5,hf5⟩⟩
 have hi:k=l.length:=by
  have:¬ (k:Int)<(s.n:Int):=bU cg;omega
 subst hi;have df:Cv n l=l.length:=qH lV bC fun h=>absurd h (by omega)
 refine⟨_,aa.le.refl _,s,by rw [if_pos trivial]; exact ldb,n,by rw [if_pos trivial]; exact ld3,c,by rw [if_pos trivial]; exact ld4,fun Me GB=>(tail lV df Me GB).mono ?_⟩
 rintro V3 _ ⟨s',rfl,im,bS,hB⟩;refine⟨nofun,s',rfl,?_⟩
 simp only [ah];refine⟨_,_,trivial,im,(by show 2+0+1<=3; decide),?_⟩
 change ∃ x,_
 rw [show aX [Value.int .i32 1,q,.slice s.a s.n s.c] (2+0) [qL s']=[Value.int .i32 1,q,.slice s'.a s'.n s'.c] from rfl];refine⟨(s',()),?_,?_⟩
 ·simp only [aQ,Bool.false_eq_true,if_false,av]; rfl
 refine hB.mono ?_
 rintro V5 _ ⟨e,rfl,rfl,fu,hb5,f',L5,O5,hf5⟩;exact⟨nofun,e,rfl,rfl,fu,s',hb5,fun _=>⟨f',L5,O5,hf5⟩⟩
theorem KS {V:aa} (hV:wc V) (s:ar) (l:List aE) (f:List Nat) (h:LR aw V s l f) (n c:ByteArray) (zn:n.size<=9223372036854775807) (zc:c.size<=9223372036854775807) :
  ae prog V 414 [dJ (s,()),.string n,.string c] (Bb V (jo l n c)):=by
 refine aM (JA _ _ _) fun _=>?_
 simp only [xO,T.wp];refine(qy hV s l f h).mono ?_
 rintro V1 _ ⟨aF,e1,rfl,gB⟩;refine⟨nofun,e1,rfl,fun hf=>?_,fun h1=>?_⟩
 ·rw [uU (fun k=>by rw [gB.2 k.1.1] at hf; cases hf)]
  exact Be aF
 have oH:=gB.1 (by simpa using h1);refine(nL V1 s l f (h.le aF) n).mono ?_
 rintro V2 _ ⟨bm,rfl⟩;have l2:=aF.trans bm;refine⟨nofun,_,rfl,fun cg=>?_,fun aN=>?_⟩
 ·have rU:F7 n l>=0:=bq cg
  rw [uU (fun k=>by rw [nG k.1.2] at rU; omega)]
  exact Be l2
 have vW:¬ F7 n l>=0:=bU aN;have hf:j8 n l=none:=jA.1 (by omega);intro b3 im b4 hb4;have q3:=aG (x:=([Value.string n],((9:TypeId),((0,0):Nat × Nat)))) im;have q4:=aG (x:=([Value.string c],((9:TypeId),((0,0):Nat × Nat)))) hb4;have v3:aB (aB V2 b3 ([Value.string n],((9:TypeId),((0,0):Nat × Nat)))) b4 ([Value.string c],((9:TypeId),((0,0):Nat × Nat))) b3=some _:=q4 _ _ av;have l4:=l2.trans (q3.trans q4);obtain⟨ok,eg⟩:∃ ok:Bool,ok=true↔cq (iv l n c):=by
  by_cases k:cq (iv l n c)
  ·exact⟨true,fun _=>k,fun _=>rfl⟩
  exact⟨false,(fun h=>by cases h),fun h=>absurd h k⟩
 refine(Bc s l f (h.le l4) (by have:=pQ oH; omega) 418 [.pointer (some ⟨b3,0,none⟩),.pointer (some ⟨b4,0,none⟩)] (iv l n c) ok rfl (KR (hV.le l4) zn zc oH.1 v3 av eg)).mono ?_
 have e:jo l n c=(if ok=true then iv l n c else [],ok):=by
  cases ok with
  | true=>exact Bx ⟨⟨oH,hf⟩,eg.1 rfl⟩
  | false=>exact uU fun k=>by have:=eg.2 k.2; cases this
 rw [e];rintro V5 _ ⟨fu,s5,f5,rfl,L5,O5⟩;exact⟨nofun,((s5,()),ok,()),rfl,l4.trans fu,s5,f5,rfl,L5,O5.pre l4⟩
open Classical in
noncomputable def jf (x:ao) (n c:ByteArray):ao × Int :=
 if gH n then (if known c=true then (if j8 n x.1=none then (if (jo x.1 n c).2=true then (((jo x.1 n c).1,x.2),0) else (dt,9)) else (dt,4)) else (dt,2)) else (dt,1)
theorem Ef {x:ao} {n c:ByteArray} (h:¬ gH n):jf x n c=(dt,1):=if_neg h
theorem Eg {x:ao} {n c:ByteArray} (h:gH n) (k:¬ known c=true):jf x n c=(dt,2):=(if_pos h).trans (if_neg k)
theorem Eh {x:ao} {n c:ByteArray} (h:gH n) (k:known c=true) (q:¬ j8 n x.1=none):jf x n c=(dt,4):=(if_pos h).trans ((if_pos k).trans (if_neg q))
theorem p8 {x:ao} {n c:ByteArray} (h:gH n) (k:known c=true) (q:j8 n x.1=none) {y:List aE} {ok:Bool} (e:jo x.1 n c=(y,ok)):jf x n c=if ok=true then ((y,x.2),0) else (dt,9):=by
 have h1:jf x n c=if (jo x.1 n c).2=true then (((jo x.1 n c).1,x.2),0) else (dt,9):=(if_pos h).trans ((if_pos k).trans (if_pos q))
 rw [h1,e]
theorem GC {x:ao} {n c:ByteArray}:(jf x n c).2≠0->(jf x n c).1=dt:=by
 unfold jf;split
 ·split
  ·split
   ·split
    ·intro h; exact absurd rfl h
    intro _; rfl
   intro _; rfl
  intro _; rfl
 intro _; rfl
theorem VS {V0 V:aa} (hV:wc V) (c:aH dq) (x:ao) (f:List Nat) (h:aj.R V c x f) (O:cQ V0 V f) (iA:V0.le V) (n cur:ByteArray) (zn:n.size<=9223372036854775807) (zc:cur.size<=9223372036854775807) :
  ae prog V 412 [E2 (n,cur,()),aU c] (fun V' v=>V.le V'/\jc V0 (jf x n cur) V' v):=by
 refine aM (AL _ _) fun _=>?_
 obtain⟨c0,c1,c2,c3,cu⟩:=c;obtain⟨x0,x1,x2,x3,xu⟩:=x;obtain⟨f0,g0,rfl,h0,h⟩:=h;obtain⟨f1,g1,rfl,h1,h⟩:=h;obtain⟨⟨e2,z2⟩,h⟩:=h;replace e2:c2=x2:=e2;subst e2;obtain⟨f3,g3,rfl,h3,hN⟩:=h;replace hN:g3=[]:=hN;subst hN;rw [List.append_nil] at O;replace h0:LR aw V c0 x0 f0:=h0;replace h1:LR aS V c1 x1 f1:=h1;replace h3:LR az V c3 x3 f3:=h3;simp only [pE,T.wp];refine(qw V n zn).mono ?_
 rintro V1 _ ⟨rfl,e1,rfl,gB⟩;refine⟨nofun,e1,rfl,fun hf=>?_,fun k1=>?_⟩
 ·rw [Ef (fun k=>by rw [gB.2 k] at hf; cases hf)]
  exact⟨aa.le.refl _,gY iA 1⟩
 have w1:=gB.1 (by simpa using k1);refine(j0 hV cur).mono ?_
 rintro V2 _ ⟨bm,rfl⟩;refine⟨nofun,_,rfl,fun hf=>?_,fun k2=>?_⟩
 ·rw [Eg w1 (fun k=>by rw [k] at hf; cases hf)]
  exact⟨bm,gY (iA.trans bm) 2⟩
 have w2:known cur=true:=by simpa using k2
 refine(nL V2 c0 x0 f0 (h0.le bm) n).mono ?_
 rintro V3 _ ⟨bS,rfl⟩;have l3:=bm.trans bS;refine⟨nofun,_,rfl,fun cg=>?_,fun aN=>?_⟩
 ·have rU:F7 n x0>=0:=bq cg
  rw [Eh w1 w2 (fun k=>by rw [nG k] at rU; omega)]
  exact⟨l3,gY (iA.trans l3) 4⟩
 have vW:¬ F7 n x0>=0:=bU aN;have hf:j8 n x0=none:=jA.1 (by omega);refine(KS (hV.le l3) c0 x0 f0 (h0.le l3) n cur zn zc).mono ?_
 rintro V4 _ ⟨jm,s4,f4,rfl,L4,O4⟩;have l4:=l3.trans jm;obtain⟨⟨y,ok⟩,hy⟩:∃ r,jo x0 n cur=r:=⟨_,rfl⟩;rw [hy] at L4 ⊢;rw [p8 (x:=(x0,x1,c2,x3,xu)) w1 w2 hf hy];refine⟨nofun,((s4,()),ok,()),rfl,fun hf=>?_,fun hT=>?_⟩
 ·have:ok=false:=by simpa using hf
  subst this;exact⟨l4,gY (iA.trans l4) 9⟩
 have:ok=true:=by simpa using hT
 subst this;exact⟨l4,iA.trans l4,(s4,c1,c2,c3,()),f4++(f1++f3),rfl,nN (x:=(y,x1,c2,x3,())) L4 (h1.le l4) rfl z2 (h3.le l4),((O.sub (List.sublist_append_right f0 (f1++f3))).post l3).append O4 (iA.trans l3) jm |>.perm List.perm_append_comm⟩
theorem ZU {cs:List (aH da)} {i m:Nat} (h:i+m<=cs.length) {pre post:List Value}:fj (pre++(cs.flatMap (aH.aD da)++post)) (pre.length+i*4) (m*4)=some (((cs.drop i).take m).flatMap (aH.aD da)):=by
 have e1:cs=cs.take i++((cs.drop i).take m++(cs.drop i).drop m):=by rw [List.take_append_drop,List.take_append_drop]
 have e2:cs.flatMap (aH.aD da)++post=(cs.take i).flatMap (aH.aD da)++(((cs.drop i).take m).flatMap (aH.aD da)++(((cs.drop i).drop m).flatMap (aH.aD da)++post)):=by
  conv=>lhs; rw [e1]
  simp only [List.flatMap_append,List.append_assoc]
 have l1:((cs.take i).flatMap (aH.aD da)).length=i*4:=by rw [iM,List.length_take,Nat.min_eq_left (by omega)]; rfl
 have l2:(((cs.drop i).take m).flatMap (aH.aD da)).length=m*4:=by rw [iM,List.length_take,List.length_drop,Nat.min_eq_left (by omega)]; rfl
 rw [eH,e2,<- l1,<- Nat.add_zero ((cs.take i).flatMap (aH.aD da)).length,eH,<- l2];exact fK
theorem rd_part {V:aa} {s:ar} {l:List aE} {f:List Nat} (h:LR aw V s l f):∃ cs fps,kS aw V cs l fps/\∀ (i m c':Nat) (C:Prop) [Decidable C],i+m<=l.length->(C->s.c=i)->c'<=s.c ->
  (((m=0/\((if C then s.a else Option.map (fun x:Addr=>x.add (i*4)) s.a)=none->c'=0)/\((cs.drop i).take m).flatMap (aH.aD da)=[])\/∃ ad,(if C then s.a else Option.map (fun x:Addr=>x.add (i*4)) s.a)=some ad/\aQ V ad (m*4)=some (((cs.drop i).take m).flatMap (aH.aD da)))/\one (((cs.drop i).take m).flatMap (aH.aD da))=true):=by
 obtain⟨hn,WI,jT,hd⟩:=h;have h1:∀ cs:List (aH da),one (cs.flatMap (aH.aD da))=true:=fun cs=>List.all_eq_true.2 fun v hv=>Bv cs v hv
 rcases hd with ⟨h0,ha,rfl⟩ | ⟨b,pre,post,t,fps,cs,ha,hb,he,rfl⟩
 ·have hl:l=[]:=List.eq_nil_of_length_eq_zero (by omega)
  subst hl;refine⟨[],[],rfl,fun i m c' C _ him hC hc=>⟨.inl ⟨by simpa using (by simp at him; omega:m=0),fun hx=>?_,by simp⟩,by simp [one]⟩⟩
  have hs:s.a=none:=by
   split at hx
   ·exact hx
   cases Sq:s.a with
   | none=>rfl
   | some a=>rw [Sq] at hx; cases hx
  have:=ha hs;omega
 refine⟨cs,fps,he,fun i m c' C _ him hC hc=>⟨?_,h1 _⟩⟩
 have eG:=he.len
 by_cases hm:m=0
 ·subst hm
  refine .inl ⟨rfl,fun hx=>?_,by simp⟩
  rw [ha] at hx;split at hx <;> cases hx
 have hnC:¬ C:=fun k=>by have:=hC k; omega
 refine .inr ⟨_,by rw [if_neg hnC,ha]; rfl,?_⟩
 simp only [ah,aQ,hb];exact ZU (by omega)
noncomputable def uV (x1 x2:ByteArray) (s:ar) (i:Int):T :=
 .rq ((0:Int)<=(0:Int)/\(0:Int)<=i/\i<=(s.c:Int)/\(s.c:Int)<=(s.c:Int)) <|
 .rd ({ a:=if (s.c:Int).toNat=Int.toNat (0:Int) then s.a else Option.map (fun x=>x.add (Int.toNat (0:Int)*prog.types[(93:Nat)].size)) s.a,n:=Int.toNat i-Int.toNat (0:Int),c:=(s.c:Int).toNat-Int.toNat (0:Int):ar }) ((4:Nat)) fun y7 =>
 .rq (one y7=true/\((0:Nat)+(Int.toNat i-Int.toNat (0:Int)))*(64:Nat)<=(140737488355328:Nat)/\(0:Nat)+(Int.toNat i-Int.toNat (0:Int))<=(9223372036854775807:Nat)) <|
 .rq ([Go.Value.string x1,Go.Value.string x2,Go.Value.bool false,Go.Value.slice none (0:Nat) (0:Nat)].length=(1:Nat)*(4:Nat)) <|
 .rq (one [Go.Value.string x1,Go.Value.string x2,Go.Value.bool false,Go.Value.slice none (0:Nat) (0:Nat)]=true/\((0:Nat)+(Int.toNat i-Int.toNat (0:Int))+(1:Nat))*(64:Nat)<=(140737488355328:Nat)/\(0:Nat)+(Int.toNat i-Int.toNat (0:Int))+(1:Nat)<=(9223372036854775807:Nat)) <|
 .rq ((0:Int)<=i/\i<=(s.n:Int)/\(s.n:Int)<=(s.c:Int)/\(s.c:Int)<=(s.c:Int)) <|
 .rd ({ a:=if (s.c:Int).toNat=Int.toNat i then s.a else Option.map (fun x=>x.add (Int.toNat i*prog.types[(93:Nat)].size)) s.a,n:=(s.n:Int).toNat-Int.toNat i,c:=(s.c:Int).toNat-Int.toNat i:ar }) ((4:Nat)) fun y8 =>
 .rq (one y8=true/\((0:Nat)+(Int.toNat i-Int.toNat (0:Int))+(1:Nat)+((s.n:Int).toNat-Int.toNat i))*(64:Nat)<=(140737488355328:Nat)/\(0:Nat)+(Int.toNat i-Int.toNat (0:Int))+(1:Nat)+((s.n:Int).toNat-Int.toNat i)<=(9223372036854775807:Nat)) <|
 .fz ((0:Nat)+(Int.toNat i-Int.toNat (0:Int))+(1:Nat)+((s.n:Int).toNat-Int.toNat i)) ([]++y7++[Go.Value.string x1,Go.Value.string x2,Go.Value.bool false,Go.Value.slice none (0:Nat) (0:Nat)]++y8) 93 fun b9 c9 =>
 .call false 38 [dJ ((⟨(some { block:=b9,off:=(0:Nat):Go.Addr }),((0:Nat)+(Int.toNat i-Int.toNat (0:Int))+(1:Nat)+((s.n:Int).toNat-Int.toNat i)),(c9)⟩:ar),())] (.v (.o (.b))) fun dM =>
 .br (!dM) (
  .ret [dJ ((⟨(none),((0:Nat)),((0:Nat))⟩:ar),()),.bool (false)]) <|
 .ret [dJ ((⟨(some { block:=b9,off:=(0:Nat):Go.Addr }),((0:Nat)+(Int.toNat i-Int.toNat (0:Int))+(1:Nat)+((s.n:Int).toNat-Int.toNat i)),(c9)⟩:ar),()),.bool (true)]
theorem KT {V:aa} (hV:D4 V) (s:ar) (l:List aE) (f:List Nat) (h:LR aw V s l f) (n c:ByteArray) (zn:n.size<=9223372036854775807) (zc:c.size<=9223372036854775807) :
  ae prog V 250 [dJ (s,()),.string n,.string c] (fun V' v=>V.le V'/\∃ s f,v=.tuple #[dJ (s,()),.bool (jo l n c).2]/\LR aw V' s (jo l n c).1 f):=by
 have no:∀ {V':aa},V.le V'->¬ ((cq l/\j8 n l=none)/\cq (iv l n c))->(V.le V'/\∃ s f,packed [dJ (⟨none,0,0⟩,()),.bool false]=.tuple #[dJ (s,()),.bool (jo l n c).2]/\LR aw V' s (jo l n c).1 f):=fun le k=>by
  rw [uU k];exact⟨le,⟨none,0,0⟩,[],rfl,Bh⟩
 refine aM (Jm _ _ _) fun _=>?_
 simp only [xG,T.wp];refine(qx hV s l f h).mono ?_
 rintro V1 _ ⟨aF,e1,rfl,gB⟩;refine⟨nofun,e1,rfl,fun hf=>no aF fun k=>?_,fun h1=>?_⟩
 ·rw [gB.2 k.1.1] at hf; cases hf
 have oH:=gB.1 (by simpa using h1);refine(nK V1 s l f (h.le aF) n).mono ?_
 rintro V2 _ ⟨bm,rfl⟩;have l2:=aF.trans bm;refine⟨nofun,_,rfl,fun cg=>no l2 fun k=>?_,fun aN=>?_⟩
 ·have rU:F7 n l>=0:=bq cg
  rw [nG k.1.2] at rU;omega
 have vW:¬ F7 n l>=0:=bU aN;have hf:j8 n l=none:=jA.1 (by omega);refine(sg V2 (s,()) (l,()) _ (cC.mk (h.le l2) a8.mk) (by show l.length+aC aw l+0<=1048576; have:=pQ oH; omega)).mono ?_
 rintro V3 _ ⟨bS,⟨s4,su⟩,f4,rfl,⟨g4,g5,e4,L4,hN⟩,_⟩;replace L4:LR aw V3 s4 l g4:=L4;have l3:=l2.trans bS;have hn4:=L4.1;have WI:=L4.2.1;have qK:=oH.1;obtain⟨cs,fps,he,rd⟩:=rd_part L4;have eG:=he.len;refine⟨nofun,(s4,()),rfl,?_⟩
 have gv:prog.types[(93:Nat)].size=4:=by kernel_rfl
 have fin:∀ {k:Nat},k<=l.length->Cv n l=k->∀ b9 c9 sp,V3 b9=none->l.length+1<=c9 ->
   ae prog (aB V3 b9 (((nP k (n,c,false,⟨none,0,0⟩,()) cs).flatMap (aH.aD da))++sp,(Zp,(0,0)))) 38 [dJ ((⟨some ⟨b9,0,none⟩,l.length+1,c9⟩:ar),())] (fun V5 r=>∃ e,r=.bool e/\(e=true->jo l n c=(iv l n c,true)/\V.le V5/\∃ f',LR aw V5 ⟨some ⟨b9,0,none⟩,l.length+1,c9⟩ (iv l n c) f')/\(e=false->V.le V5/\¬ ((cq l/\j8 n l=none)/\cq (iv l n c)))):=by
  intro k hk df b9 c9 sp hb9 hc9;have q:=aG (x:=(((nP k (n,c,false,⟨none,0,0⟩,()) cs).flatMap (aH.aD da))++sp,((Zp,(0,0)):vn))) hb9;obtain⟨Gz,k1,_⟩:=yI (ZT _ zn zc) (he.le q) hk;have hln:LR aw _ ⟨some ⟨b9,0,none⟩,l.length+1,c9⟩ (nP k (p7 n c) l) (b9 :: Gz):=Gy k1 av (by rw [je hk]) (by rw [je hk]; omega) (by rw [je hk]; omega)
  rw [df.symm] at hln;have l5:=l3.trans q;rw [<- df];rw [<- df] at q l5;refine(qx (hV.le l5) _ (iv l n c) _ hln).mono ?_
  rintro V5 _ ⟨fu,e,rfl,he5⟩;exact⟨e,rfl,fun ht=>⟨Bx ⟨⟨oH,hf⟩,he5.1 ht⟩,l5.trans fu,_,hln.le fu⟩,fun yj=>⟨l5.trans fu,fun k=>by rw [he5.2 k.2] at yj; cases yj⟩⟩
 refine⟨fun y V'=>V'=V3/\∃ k:Nat,y.1=(k:Int)/\k<=l.length/\∀ (j:Nat) (hj:j<l.length),j<k->p6 n l[j]=true,fun y _=>((l.length:Int)-(y.1:Int)).toNat,⟨((0:Int),()),rfl,rfl,0,rfl,Nat.zero_le _,fun j _ h=>by omega⟩,?_⟩
 rintro⟨(i:Int),u⟩ V' ⟨rfl,k,hk,lV,bC⟩;replace hk:i=(k:Int):=hk;subst hk;have e0:(k:Int).toNat=k:=by omega
 have ec:(s4.c:Int).toNat=s4.c:=by omega
 have en4:(s4.n:Int).toNat=s4.n:=by omega
 have ez:Int.toNat (0:Int)=0:=rfl
 -- what follows the search
 have rest:Cv n l=k->∀ Ns,(uV n c s4 (k:Int)).wp prog (fun V' vs=>V.le V'/\∃ s f,packed vs=.tuple #[dJ (s,()),.bool (jo l n c).2]/\LR aw V' s (jo l n c).1 f) V' V' Ns:=by
  intro df Ns;obtain⟨r1,o1⟩:=rd 0 k s4.c (s4.c=0) (by omega) (fun h=>h) (Nat.le_refl _);obtain⟨r2,o2⟩:=rd k (s4.n-k) (s4.c-k) (s4.c=k) (by omega) (fun h=>h) (by omega);simp only [Nat.zero_mul,List.drop_zero] at r1 o1;have hnn:k+1+(s4.n-k)=l.length+1:=by omega
  have mO:(cs.take k).flatMap (aH.aD da)++[Value.string n,.string c,.bool false,.slice none 0 0]++((cs.drop k).take (s4.n-k)).flatMap (aH.aD da)=(nP k (n,c,false,⟨none,0,0⟩,()) cs).flatMap (aH.aD da):=by
   rw [List.take_of_length_le (l:=cs.drop k) (by rw [List.length_drop]; omega)]
   simp only [nP,List.flatMap_append,List.flatMap_cons,List.append_assoc]
   rfl
  simp only [uV,T.wp,Int.toNat_natCast,Int.toNat_zero,Nat.sub_zero,Nat.zero_add,Nat.zero_mul,gv,List.nil_append];refine⟨⟨by omega,by omega,by omega,by omega⟩,_,r1,o1,⟨o1,by omega,by omega⟩,rfl,⟨rfl,by omega,by omega⟩,⟨by omega,by omega,by omega,by omega⟩,_,r2,o2,⟨o2,by omega,by omega⟩,?_⟩
  rw [hnn,mO];intro b9 c9 sp hb9 hc9 _;refine(fin lV df b9 c9 sp hb9 hc9).mono ?_
  rintro V5 _ ⟨e,rfl,ht,sK⟩;refine⟨nofun,e,rfl,fun yj=>?_,fun vT=>?_⟩
  ·obtain⟨l5,k5⟩:=sK (by simpa using yj)
   exact no l5 k5
  obtain⟨q1,l5,f',L5⟩:=ht (by simpa using vT);rw [q1];exact⟨l5,_,f',rfl,L5⟩
 refine⟨fun aN=>?_,fun cg=>?_⟩
 ·have hi:k<l.length:=by
   have:(k:Int)<(s4.n:Int):=bq aN;omega
  obtain⟨b1,o1,c1,fc,a1,l1,hR,_⟩:=L4.at hi;have en:=nJ hR;dsimp only;refine⟨_,a1,by omega,by omega,c1.1,?_,fun uC=>?_,fun uC=>?_⟩
  ·rw [e0]
   exact jz l1 (o:=0) (n:=1) rfl
  ·refine⟨_,rfl,(((k+1:Nat):Int),()),by rw [kD hi (by omega)]; rfl,⟨rfl,k+1,rfl,hi,fun j hj h2=>?_⟩,?_⟩
   ·by_cases e:j=k
    ·subst e
     unfold p6;rw [<- en]; exact uC
    exact bC j hj (by omega)
   show((l.length:Int)-((k+1:Nat):Int)).toNat<((l.length:Int)-(k:Int)).toNat
   omega
  have h9:=rest (qH lV bC fun _=>by
   unfold p6;rw [<- en]; exact uC) []
  simp only [uV,T.wp] at h9;exact h9
 have hi:k=l.length:=by
  have:¬ (k:Int)<(s4.n:Int):=bU cg;omega
 have h9:=rest (qH lV bC fun h=>absurd h (by omega)) [];simp only [uV,T.wp] at h9;exact h9
theorem VT {V:aa} (hV:D4 V) (c:aH dq) (x:ao) (f:List Nat) (h:aj.R V c x f) (ht:aj.cB x<=1048576) (n cur:ByteArray) (zn:n.size<=9223372036854775807) (zc:cur.size<=9223372036854775807) :
  ae prog V 198 [aU c,.string n,.string cur] (DoS V (pW x (jf x n cur))):=by
 refine aM (T9 _ _ _) fun _=>?_
 obtain⟨s0,s1,s3,f0,f1,f3,rfl,L0,_,_⟩:=fi h;simp only [Du,T.wp];refine(iu hV _ x f h).mono ?_
 rintro V1 _ ⟨aF,e1,rfl,gB⟩;refine⟨nofun,e1,rfl,fun hf=>?_,fun k1=>?_⟩
 ·rw [pX (fun k=>by rw [gB.2 k] at hf; cases hf)]
  exact dD aF 1
 rw [j5 (gB.1 (by simpa using k1))];refine(jy V1 n zn).mono ?_
 rintro V2 _ ⟨rfl,e2,rfl,fq⟩;refine⟨nofun,e2,rfl,fun hf=>?_,fun k2=>?_⟩
 ·rw [Ef (fun k=>by rw [fq.2 k] at hf; cases hf)]
  exact dD aF 1
 have w1:=fq.1 (by simpa using k2);refine(mD (hV.le aF) cur).mono ?_
 rintro V3 _ ⟨bS,rfl⟩;have l3:=aF.trans bS;refine⟨nofun,_,rfl,fun hf=>?_,fun k3=>?_⟩
 ·rw [Eg w1 (fun k=>by rw [k] at hf; cases hf)]
  exact dD l3 2
 have w2:known cur=true:=by simpa using k3
 refine(nK V3 s0 x.1 f0 (L0.le l3) n).mono ?_
 rintro V4 _ ⟨jm,rfl⟩;have l4:=l3.trans jm;refine⟨nofun,_,rfl,fun cg=>?_,fun aN=>?_⟩
 ·have rU:F7 n x.1>=0:=bq cg
  rw [Eh w1 w2 (fun k=>by rw [nG k] at rU; omega)]
  exact dD l4 4
 have vW:¬ F7 n x.1>=0:=bU aN;have hf:j8 n x.1=none:=jA.1 (by omega);refine(KT (hV.le l4) s0 x.1 f0 (L0.le l4) n cur zn zc).mono ?_
 rintro V5 _ ⟨fu,s5,f5,rfl,L5⟩;have l5:=l4.trans fu;obtain⟨⟨y,ok⟩,hy⟩:∃ r,jo x.1 n cur=r:=⟨_,rfl⟩;rw [hy] at L5 ⊢;rw [p8 w1 w2 hf hy];refine⟨nofun,((s5,()),ok,()),rfl,fun hf=>?_,fun hT=>?_⟩
 ·have:ok=false:=by simpa using hf
  subst this;exact dD l5 9
 have:ok=true:=by simpa using hT
 subst this;refine(oJ V5 _ x f (aj.le h l5) ht).mono ?_
 rintro V6 _ ⟨rk,c6,f6,rfl,R6⟩;obtain⟨t0,t1,t3,k0,k1,k3,rfl,M0,M1,M3⟩:=fi R6;have zs:x.2.2.1.size<=9223372036854775807:=by
  have e:aj.cB x=x.1.length+aC aw x.1+(x.2.1.length+aC aS x.2.1+(x.2.2.1.size+(x.2.2.2.1.length+aC az x.2.2.2.1+0))):=rfl;omega
 exact⟨nofun,(t0,t1,x.2.2.1,t3,()),rfl,l5.trans rk,(s5,t1,x.2.2.1,t3,()),f5++(k1++k3),rfl,nN (x:=(y,x.2)) (L5.le rk) M1 rfl zs M3⟩
inductive Ln where
 | r (x:aW)
 | o (a:aE)
 | p (a:aE)
abbrev KU (m:a6):a6:=(m.1,false,m.2.2.1,())
def jC:Ln->Prop
 | .r x=>bJ x
 | .o a=>gH a.1/\known a.2.1=true
 | .p a=>gH a.1/\pR a.2/\0<a.2.2.2.1.length
noncomputable def rn (x:ao):Ln->ao × Int
 | .r y=>kK x y
 | .o a=>jf x a.1 a.2.1
 | .p a=>mU x a.1 (KU a.2) a.2.2.1
def VU:ao->List Ln->ao->Prop
 | x,[],y=>x=y
 | x,i :: l,y=>a7 x/\jC i/\∃ z,rn x i=(z,0)/\VU z l y
def By (a:aE):List Ln:=.o a :: if a.2.2.2.1=[] then [] else [.p a]
def jD (x:ao):List Ln:=x.2.2.2.1.map .r++x.1.flatMap By
theorem RM:∀ {l k:List Ln} {a b c:ao},VU a l b->VU b k c->VU a (l++k) c
 | [],_,_,_,_,h,q=>by cases h; exact q
 | _ :: _,_,_,_,_,⟨h1,h2,z,h3,h4⟩,q=>⟨h1,h2,z,h3,RM h4 q⟩
theorem j6:lH []:=fun i h=>absurd h (Nat.not_lt_zero i)
theorem Bz:cq []:=⟨Nat.zero_le _,fun i h=>absurd h (Nat.not_lt_zero i)⟩
theorem x8 {p:ByteArray} {a b:List aW} (h:fb p (a++b)):fb p a:=by
 refine⟨h.1,?_,fun i hi=>?_⟩
 ·have:=h.2.1
  rw [List.length_append] at this;omega
 obtain⟨h0,h1,h2⟩:=h.2.2 i (by rw [List.length_append]; omega)
 rw [List.getElem_append_left hi] at h1 h2;refine⟨hi,h1,fun j hj WM e=>h2 j (by rw [List.length_append]; omega) WM ?_⟩
 rw [List.getElem_append_left hj];exact e
theorem BA {a b:List aE} (h:cq (a++b)):cq a:=by
 refine⟨?_,fun i hi=>?_⟩
 ·have:=h.1
  rw [List.length_append] at this;omega
 obtain⟨h0,h1,h2,h3⟩:=h.2 i (by rw [List.length_append]; omega)
 rw [List.getElem_append_left hi] at h1 h2 h3;refine⟨hi,h1,h2,fun h0=>?_⟩
 have:=h3 h0;rw [List.getElem_append_left (by omega)] at this;exact this
theorem Ei {l:List aE} (h:cq l):∀ {j i:Nat} (hj:j<l.length) (hi:i<j),fh (l[i]'(by omega)).1 l[j].1
 | j+1,i,hj,hi=>by
  obtain⟨_,_,_,h3⟩:=h.2 (j+1) hj;have h4:fh (l[j]'(by omega)).1 l[j+1].1:=h3 (by omega)
  by_cases e:i=j
  ·subst e; exact h4
  exact fh.trans (Ei h (j:=j) (by omega) (by omega)) h4
theorem Ej {p:ByteArray}:∀ (rest done:List aW),fb p (done++rest)->VU ([],[],p,done,()) (rest.map .r) ([],[],p,done++rest,())
 | [],done,_=>by rw [List.append_nil]; rfl
 | r :: rest,done,h=>by
  have hd:=x8 h;have hl:=h.2.1;rw [List.length_append,List.length_cons] at hl;obtain⟨_,ok,hk⟩:=h.2.2 done.length (by rw [List.length_append,List.length_cons]; omega)
  have er:(done++r :: rest)[done.length]'(by rw [List.length_append,List.length_cons]; omega)=r:=by simp
  rw [er] at ok hk;have hn:∀ (j:Nat) (hj:j<done.length),dn done[j]≠dn r:=fun j hj e=>hk j (by rw [List.length_append]; omega) hj (by rw [List.getElem_append_left hj]; exact e)
  refine⟨⟨Bz,j6,hd⟩,ok,([],[],p,done++[r],()),?_,?_⟩
  ·have k:oY p done r:=⟨hd,ok,by rw [nM hn,List.length_append,List.length_singleton]; omega⟩
   exact(so (x:=([],[],p,done,())) ok k).trans (by rw [nM hn])
  have:=Ej rest (done++[r]) (by rw [List.append_assoc]; exact h)
  rw [List.append_assoc] at this;exact this
theorem ZV {a:aE} (h:pR a.2):Vz (KU a.2):=⟨⟨h.1,⟨h.2.1.1,nofun⟩,h.2.2⟩,rfl⟩
theorem VV {a:aE} (h:pR a.2) (k:0<a.2.2.2.1.length):(if a.2.2.1=true then Bj (KU a.2) else KU a.2)=a.2:=by
 obtain⟨n,c,e,m,u⟩:=a;replace k:0<m.length:=k;cases e with
 | true=>show(c,(!false && decide (0<m.length)),m,())=(c,true,m,()); rw [decide_eq_true k]; rfl
 | false=>rfl
theorem Ek {p:ByteArray} {l:List aW} (hr:fb p l):∀ (rest done:List aE),cq (done++rest)->VU (done,[],p,l,()) (rest.flatMap By) (done++rest,[],p,l,())
 | [],done,_=>by rw [List.append_nil]; rfl
 | a :: rest,done,h=>by
  have h1:cq (done++[a]):=BA (b:=rest) (by rw [List.append_assoc]; exact h)
  have hd:=BA h1;have hn:done.length<(done++[a]).length:=by rw [List.length_append,List.length_singleton]; omega
  have ea:(done++[a])[done.length]=a:=by simp
  obtain⟨_,hw,hm,_⟩:=h1.2 done.length hn;rw [ea] at hw hm;replace hm:pR a.2:=hm;have aN:∀ (j:Nat) (hj:j<done.length),fh done[j].1 a.1:=fun j hj=>by
   have:=Ei h1 hn hj;rw [ea,List.getElem_append_left hj] at this;exact this
  have hz:pR (a.2.1,false,[],()):=⟨hm.1,⟨⟨⟨fun i=>by simp [ab],.inl rfl⟩,Nat.zero_le _⟩,nofun⟩,Nat.zero_le _⟩;have e1:done++[p7 a.1 a.2.1]=(done++[a]).set done.length ((done++[a])[done.length].1,(a.2.1,false,[],())):=by
   rw [ea]; simp
  have hb:cq (done++[p7 a.1 a.2.1]):=by rw [e1]; exact ZD h1 hn hz
  have hf:j8 a.1 done=none:=A7 fun j hj e=>fh.irr (e ▸ aN j hj)
  have hp:iv done a.1 a.2.1=done++[p7 a.1 a.2.1]:=by
   unfold iv;rw [qH (Nat.le_refl _) (fun j hj _=>aN j hj) (fun q=>absurd q (Nat.lt_irrefl _))];simp [nP]
  have s1:rn (done,[],p,l,()) (.o a)=((done++[p7 a.1 a.2.1],[],p,l,()),0) :=
   p8 hw hm.1 hf (Bx (l:=done) ⟨⟨hd,hf⟩,by rw [hp]; exact hb⟩) |>.trans (by rw [hp]; rfl)
  have tl:=Ek hr rest (done++[a]) (by rw [List.append_assoc]; exact h)
  rw [List.append_assoc] at tl;refine⟨⟨hd,j6,hr⟩,⟨hw,hm.1⟩,_,s1,?_⟩
  show VU _ ((if a.2.2.2.1=[] then [] else [Ln.p a])++rest.flatMap By) _
  split
  ·rename_i q
   have:p7 a.1 a.2.1=a:=by
    obtain⟨n,c,e,m,u⟩:=a;replace q:m=[]:=q;subst q;cases e with
    | true=>exact absurd (hm.2.1.2 rfl) (Nat.lt_irrefl _)
    | false=>rfl
   rw [this];exact tl
  rename_i q;have q0:0<a.2.2.2.1.length:=List.length_pos_iff.2 q;refine⟨⟨hb,j6,hr⟩,⟨hw,hm,q0⟩,(done++[a],[],p,l,()),?_,tl⟩
  have sN:done.length<(done++[p7 a.1 a.2.1]).length:=by rw [List.length_append,List.length_singleton]; omega
  have ea2:(done++[p7 a.1 a.2.1])[done.length]=p7 a.1 a.2.1:=by simp
  have hf2:j8 a.1 (done++[p7 a.1 a.2.1])=some done.length:=A6 sN (by rw [ea2]) fun j hj WM e=>by
   rw [List.getElem_append_left WM] at e;exact fh.irr (e ▸ aN j WM)
  have ha:Cu (done++[p7 a.1 a.2.1])[done.length].2 a.2=(a.2,true):=by
   rw [ea2];refine yB (.inl ⟨rfl,⟨hz,hm,rfl⟩,hm,rfl,?_⟩)
   show Hr a.2=bQ false []+Hr a.2
   have:bQ false []=0:=rfl;omega
  refine(qE ⟨hw,ZV hm⟩).trans ?_
  rw [VV hm q0];refine(Bl (fun h=>?_) (fun h=>?_)).trans ?_
  ·obtain⟨g,hg,e⟩:=h
   obtain rfl:g=(a.1,a.2):=by simpa using hg
   replace e:j8 a.1 (done++[p7 a.1 a.2.1])=none:=e;rw [hf2] at e; cases e
  ·obtain⟨g,hg,e⟩:=h
   obtain rfl:g=(a.1,a.2):=by simpa using hg
   refine e ?_
   show(oK (done++[p7 a.1 a.2.1]) a.1).1=a.2.1
   rw [qD hf2 sN,ea2]
  have e2:mE (done++[p7 a.1 a.2.1]) [(a.1,a.2)]=some (done++[a]):=by
   rw [sq (r6 hb hf2 sN ha),if_pos rfl,if_pos rfl,mE,ea2];simp
  unfold mF;rw [e2]
theorem GD {x:ao} (h:a7 x):VU ([],[],x.2.2.1,[],()) (jD x) (x.1,[],x.2.2.1,x.2.2.2.1,()):=by
 have h1:=Ej (p:=x.2.2.1) x.2.2.2.1 [] h.2.2;have h2:=Ek h.2.2 x.1 [] h.1;exact RM h1 h2
theorem ZW:∀ {l:List Ln} {a y:ao},VU a l y->∀ i∈l,jC i
 | _ :: _,_,_,⟨_,h2,_,_,h4⟩,i,hi=>by
  rcases List.mem_cons.1 hi with rfl | hi
  ·exact h2
  exact ZW h4 i hi
theorem itm_ok {x:ao} (h:a7 x):∀ i∈jD x,jC i:=ZW (GD h)
theorem mem_r {x:ao} {k:Nat} (hk:k<x.2.2.2.1.length):Ln.r x.2.2.2.1[k]∈jD x:=List.mem_append_left _ (List.mem_map_of_mem (List.getElem_mem hk))
theorem ZX {x:ao} {k:Nat} (hk:k<x.1.length) {i:Ln} (hi:i∈By x.1[k]):i∈jD x:=List.mem_append_right _ (List.mem_flatMap.2 ⟨_,List.getElem_mem hk,hi⟩)
theorem acI_len (a:aE):(By a).length<=2:=by
 unfold By;split <;> simp
theorem wz:∀ l:List aE,(l.flatMap By).length<=2*l.length
 | []=>by simp
 | a :: l=>by
  have h1:=acI_len a;have h2:=wz l;rw [List.flatMap_cons,List.length_append,List.length_cons];omega
theorem GF {x:ao} (h:a7 x):(jD x).length<=36:=by
 have h1:=h.1.1;have h2:=h.2.2.2.1;have h3:=wz x.1;unfold jD;rw [List.length_append,List.length_map];omega
abbrev jE:List Sc:=[.i .i64,.s,.s,.s,.s,.s,.b,.l,.i .i64,.l,.l,.b,.l,.i .i64,.s,.s,.b,.l,.i .i64]
abbrev cm (op:Int) (a u mc:ByteArray) (mm:ar) (pf pt:ByteArray) (pn:Bool) (pm:ar) (ps:Int):aH jE:=(op,a,fQ,fQ,u,mc,false,mm,0,ai,ai,false,ai,0,pf,pt,pn,pm,ps,())
def cY:Ln->Int
 | .r _=>9
 | .o _=>1
 | .p a=>if a.2.2.1=true then 3 else 2
def sB:Ln->List aI
 | .r x=>x.2.2.2.1
 | .o _=>[]
 | .p a=>a.2.2.2.1
def cells (s:ar):Ln->aH jE
 | .r x=>cm 9 fQ fQ fQ ai x.1 x.2.1 x.2.2.1 s x.2.2.2.2.1
 | .o a=>cm 1 a.1 a.2.1 fQ ai fQ fQ false ai 0
 | .p a=>cm (cY (.p a)) a.1 fQ a.2.1 s fQ fQ false ai 0
theorem p' (s:ar) (i:Ln):(cells s i).1=cY i:=by cases i <;> rfl
theorem jQ (i:Ln):1<=cY i/\cY i<=9:=by
 cases i with
 | r x=>show(1:Int)<=9/\(9:Int)<=9; decide
 | o a=>show(1:Int)<=1/\(1:Int)<=9; decide
 | p a=>unfold cY; dsimp only; split <;> decide
theorem BB (a:aE):aL (cY (.p a))=[(0,()),(4,())]:=by unfold cY; dsimp only; split <;> rfl
theorem fl_r (x:aW):aL (cY (.r x))=[(8,())]:=rfl
theorem ZY (a:aE):aL (cY (.o a))=[(0,()),(3,())]:=rfl
theorem oO {x:ByteArray} (h:known x=true):Ec x:=by
 have:∀ y∈eX.map (·.1),y.size=3/\∀ i,i<3->65<=de y i/\de y i<=90:=by decide +kernel
 exact this x (qB h)
theorem uW (s:ByteArray):(s.toList == s.toList)=true:=aR.2 rfl
abbrev lK (V:aa):aa->Value->Prop:=fun V' r=>V.le V'/\r=.bool true
theorem Qj {V:aa} {b:Nat} {t:vn} {op:Int} {a u mc:ByteArray} {mm:ar} {pf pt:ByteArray} {pn:Bool} {pm:ar} {ps:Int} (hb:V b=some (aH.aD jE (cm op a u mc mm pf pt pn pm ps),t)) (k:Int) (hk:0<=k/\k<=8)
  (h0:k=0->a=fQ) (h3:k=3->u=fQ) (h4:k=4->mc=fQ/\mm=ai) (h8:k=8->pf=fQ/\pt=fQ/\pn=false/\pm=ai/\ps=0) :
  ae prog V 178 [.pointer (some ⟨b,0,none⟩),.int .i64 k] (lK V):=by
 refine aM (FH _ _) fun _=>?_
 have le:=aa.le.refl V;have nt:Value.bool (fQ.toList == fQ.toList)=.bool true:=by rw [uW]
 have nt0:¬ (fQ.toList == fQ.toList)=false:=by rw [uW]; decide
 simp only [tX,T.wp];refine⟨fun q=>?_,fun q0=>⟨fun q=>?_,fun q1=>⟨fun q=>?_,fun q2=>⟨fun q=>?_,fun q3=>⟨fun q=>?_,fun q4=>⟨fun q=>?_,fun q5=>⟨fun q=>?_,fun q6=>⟨fun q=>?_,fun q7=>?_⟩⟩⟩⟩⟩⟩⟩⟩
 ·obtain rfl:=h0 (by simpa using q)
  exact⟨fQ,fw hb rfl,le,nt⟩
 ·exact⟨fQ,fw hb rfl,le,nt⟩
 ·exact⟨fQ,fw hb rfl,le,nt⟩
 ·obtain rfl:=h3 (by simpa using q)
  exact⟨fQ,fw hb rfl,le,nt⟩
 ·obtain⟨rfl,rfl⟩:=h4 (by simpa using q)
  refine⟨(fQ,false,ai,()),fw hb rfl,(Gs V _ _ (fQ,false,[],()) (fQ,false,[],()) [] [] (ko (by decide) jd) (ko (by decide) jd)).mono ?_⟩
  rintro V1 r ⟨rfl,e,rfl,he⟩;exact⟨nofun,e,rfl,le,by rw [he.2 rfl]; rfl⟩
 ·exact⟨ai,fw hb rfl,fun _=>⟨ai,fw hb rfl,le,rfl⟩,fun z=>absurd z (by decide)⟩
 ·refine⟨(false,ai,0,()),fw hb rfl,(uO V false ai 0 [] [] jd).mono ?_⟩
  rintro V1 r ⟨rfl,e,rfl,he⟩;exact⟨nofun,e,rfl,le,by rw [he.2 ⟨⟨rfl,rfl⟩,rfl⟩]; rfl⟩
 ·exact⟨0,fw hb rfl,le,rfl⟩
 simp only [beq_eq_false_iff_ne,ne_eq] at q0 q1 q2 q3 q4 q5 q6 q7;obtain⟨rfl,rfl,rfl,rfl,rfl⟩:=h8 (by omega);refine⟨fQ,Qe hb rfl,fun _=>⟨fQ,Qe hb rfl,fun _=>⟨(false,ai,0,()),Qe hb rfl,(uO V false ai 0 [] [] jd).mono ?_⟩,fun z=>absurd z nt0⟩,fun z=>absurd z nt0⟩
 rintro V1 r ⟨rfl,e,rfl,he⟩;exact⟨nofun,e,rfl,le,by rw [he.2 ⟨⟨rfl,rfl⟩,rfl⟩]; rfl⟩
theorem cI_fzN {V:aa} {b:Nat} {t:vn} {s:ar} {i:Ln} (hb:V b=some (aH.aD jE (cells s i),t)) {k:Int} (hk:0<=k/\k<=8) (hn:(k,()) ∉ aL (cY i)):ae prog V 178 [.pointer (some ⟨b,0,none⟩),.int .i64 k] (lK V):=by
 cases i with
 | r x=>exact Qj hb k hk (fun _=>rfl) (fun _=>rfl) (fun _=>⟨rfl,rfl⟩) (fun e=>absurd (by rw [e,fl_r]; decide) hn)
 | o a=>exact Qj hb k hk (fun e=>absurd (by rw [e,ZY]; decide) hn) (fun e=>absurd (by rw [e,ZY]; decide) hn) (fun _=>⟨rfl,rfl⟩) (fun _=>⟨rfl,rfl,rfl,rfl,rfl⟩)
 | p a=>exact Qj hb k hk (fun e=>absurd (by rw [e,BB]; decide) hn) (fun _=>rfl) (fun e=>absurd (by rw [e,BB]; decide) hn) (fun _=>⟨rfl,rfl,rfl,rfl,rfl⟩)
noncomputable def fT:Ln->Int->ByteArray
 | .r x,_=>fH x
 | .o a,k=>if k=0 then a.1 else a.2.1
 | .p a,k=>if k=0 then a.1 else dW a.2.1 false a.2.2.2.1
theorem lL {a:aE} (h:pR a.2):bp a.2.1 false a.2.2.2.1:=⟨h.1,⟨h.2.1.1,nofun⟩,h.2.2⟩
theorem ZZ {V:aa} (hV:nW V) {b:Nat} {t:vn} {s:ar} {f:List Nat} {i:Ln} (ok:jC i) (L:LR rI V s (sB i) f) (hb:V b=some (aH.aD jE (cells s i),t)) {k:Int} (hk:(k,())∈aL (cY i)) :
  ae prog V 180 [.pointer (some ⟨b,0,none⟩),.int .i64 k] (lK V)/\ae prog V 113 [.pointer (some ⟨b,0,none⟩),.int .i64 k] (eF V (fT i k)):=by
 have le:=aa.le.refl V;have word:∀ {a:ByteArray},gH a->aQ V ((⟨b,0,none⟩:Addr).add 1) 1=some [.string a]->ae prog V 180 [.pointer (some ⟨b,0,none⟩),.int .i64 0] (lK V)/\ae prog V 113 [.pointer (some ⟨b,0,none⟩),.int .i64 0] (eF V a):=by
  intro a hw hl;refine⟨aM (og _ _) fun _=>?_,aM (kE _ _) fun _=>?_⟩
  ·simp only [lD,T.wp]
   refine⟨fun _=>⟨a,hl,(qw V a (jB hw)).mono ?_⟩,fun q=>by simp at q⟩
   rintro V1 r ⟨rfl,e,rfl,he⟩;exact⟨nofun,e,rfl,le,by rw [he.2 hw]; rfl⟩
  simp only [iQ,T.wp];exact⟨fun _=>⟨a,hl,le,rfl⟩,fun q=>by simp at q⟩
 cases i with
 | r x =>
  obtain rfl:k=8:=by simpa [fl_r] using hk
  refine⟨aM (og _ _) fun _=>?_,aM (kE _ _) fun _=>?_⟩
  ·simp only [lD,T.wp]
   refine⟨fun q=>by simp at q,fun _=>⟨fun q=>by simp at q,fun _=>⟨fun q=>by simp at q,fun _=>⟨fun q=>by simp at q,fun _=>⟨fun q=>by simp at q,fun _=>⟨fun q=>by simp at q,fun _=>⟨fun q=>by simp at q,fun _=>⟨fun q=>by simp at q,fun _=>?_⟩⟩⟩⟩⟩⟩⟩⟩
   refine⟨(x.1,x.2.1,x.2.2.1,s,x.2.2.2.2.1,()),fw hb rfl,(kV hV.c x s f L).mono ?_⟩
   rintro V1 r ⟨aF,e,rfl,he⟩;exact⟨nofun,e,rfl,aF,by rw [he.2 ok]; rfl⟩
  simp only [iQ,T.wp];refine⟨fun q=>by simp at q,fun _=>⟨fun q=>by simp at q,fun _=>⟨fun q=>by simp at q,fun _=>⟨fun q=>by simp at q,fun _=>⟨fun q=>by simp at q,fun _=>⟨fun q=>by simp at q,fun _=>⟨fun q=>by simp at q,fun _=>⟨fun q=>by simp at q,fun _=>?_⟩⟩⟩⟩⟩⟩⟩⟩
  refine⟨(x.1,x.2.1,x.2.2.1,s,x.2.2.2.2.1,()),fw hb rfl,(KO hV x s f L).mono ?_⟩
  rintro V1 _ ⟨aF,rfl⟩;rw [dG (show bJ x from ok)];exact⟨nofun,_,rfl,aF,rfl⟩
 | o a =>
  rw [ZY] at hk;rcases List.mem_cons.1 hk with e | hk
  ·obtain rfl:k=0:=congrArg Prod.fst e
   exact word ok.1 (fw hb rfl)
  obtain rfl:k=3:=by simpa using hk
  refine⟨aM (og _ _) fun _=>?_,aM (kE _ _) fun _=>?_⟩
  ·simp only [lD,T.wp]
   refine⟨fun q=>by simp at q,fun _=>⟨fun q=>by simp at q,fun _=>⟨fun q=>by simp at q,fun _=>⟨fun _=>⟨a.2.1,fw hb rfl,(VF V a.2.1).mono ?_⟩,fun q=>by simp at q⟩⟩⟩⟩
   rintro V1 r ⟨rfl,e,rfl,he⟩;exact⟨nofun,e,rfl,le,by rw [he.2 (oO ok.2)]; rfl⟩
  simp only [iQ,T.wp];exact⟨fun q=>by simp at q,fun _=>⟨fun q=>by simp at q,fun _=>⟨fun q=>by simp at q,fun _=>⟨fun _=>⟨a.2.1,fw hb rfl,le,rfl⟩,fun q=>by simp at q⟩⟩⟩⟩
 | p a =>
  rw [BB] at hk;have hm:=lL ok.2.1;have z3:=bH hm.1;rcases List.mem_cons.1 hk with e | hk
  ·obtain rfl:k=0:=congrArg Prod.fst e
   exact word ok.1 (fw hb rfl)
  obtain rfl:k=4:=by simpa using hk
  refine⟨aM (og _ _) fun _=>?_,aM (kE _ _) fun _=>?_⟩
  ·simp only [lD,T.wp]
   refine⟨fun q=>by simp at q,fun _=>⟨fun q=>by simp at q,fun _=>⟨fun q=>by simp at q,fun _=>⟨fun q=>by simp at q,fun _=>⟨fun _=>⟨(a.2.1,false,s,()),fw hb rfl,(Bi hV.c _ (a.2.1,false,a.2.2.2.1,()) f (ko (by omega) L)).mono ?_⟩,fun q=>by simp at q⟩⟩⟩⟩⟩
   rintro V1 r ⟨aF,e,rfl,he⟩;exact⟨nofun,e,rfl,aF,by rw [he.2 ⟨hm,rfl⟩]; rfl⟩
  simp only [iQ,T.wp];refine⟨fun q=>by simp at q,fun _=>⟨fun q=>by simp at q,fun _=>⟨fun q=>by simp at q,fun _=>⟨fun q=>by simp at q,fun _=>⟨fun _=>⟨(a.2.1,false,s,()),fw hb rfl,(uR hV a.2.1 false s a.2.2.2.1 f L (by omega)).mono ?_⟩,fun q=>by simp at q⟩⟩⟩⟩⟩
  rintro V1 _ ⟨aF,rfl⟩;rw [dG hm];exact⟨nofun,_,rfl,aF,rfl⟩
theorem wA (i:Ln):0<(aL (cY i)).length/\(aL (cY i)).length<=2/\∀ g∈aL (cY i),0<=g.1/\g.1<=8:=by
 cases i with
 | r x=>rw [fl_r]; decide
 | o a=>rw [ZY]; decide
 | p a=>rw [BB]; decide
theorem wB {V:aa} (hV:nW V) {s:ar} {f:List Nat} {i:Ln} (ok:jC i) (L:LR rI V s (sB i) f):ae prog V 110 [l8 (cells s i)] (lK V):=by
 refine aM (Yb _) fun _=>?_
 simp only [IP,T.wp];refine(p5 V _).mono ?_
 rintro V1 _ ⟨aF,s1,f1,rfl,L1,_⟩;rw [p'] at L1;refine⟨nofun,s1,rfl,fun b hb=>?_⟩
 have q:=aG (x:=(aH.aD jE (cells s i),((91:TypeId),((0,0):Nat × Nat)))) hb;have hbb:aB V1 b (aH.aD jE (cells s i),(91,(0,0))) b=some (aH.aD jE (cells s i),(91,(0,0))):=av;refine⟨fun y V'=>(aB V1 b (aH.aD jE (cells s i),(91,(0,0)))).le V'/\∃ j:Nat,y.1=(j:Int)/\j<=9,fun y=>(9-(y.1:Int)).toNat,⟨((0:Int),()),rfl,aa.le.refl _,0,rfl,by omega⟩,?_⟩
 rintro⟨(j:Int),u⟩ V' ⟨hle,k,hk,hk9⟩;replace hk:j=(k:Int):=hk;subst hk;have v7:=(aF.trans q).trans hle;refine⟨fun aN=>?_,fun cg=>⟨v7,?_⟩⟩
 ·have h8:(k:Int)<=8:=bq aN
  have next:∀ {V2:aa},V'.le V2->∃ N,([fun vs V'=>∃ y',vs=cH.nf [.o (.o (.i .i64))] y'/\((aB V1 b (aH.aD jE (cells s i),(91,(0,0)))).le V'/\∃ j:Nat,y'.1=(j:Int)/\j<=9)/\(9-(y'.1:Int)).toNat<(9-(k:Int)).toNat]:List (List LV->aa->Prop))[0]?=some N/\N [.v (.int .i64 (i64.wrap ((k:Int)+1)))] V2:=by
   intro V2 h2;refine⟨_,rfl,(((k+1:Nat):Int),()),by rw [wrap_i64 (by omega)]; rfl,⟨hle.trans h2,k+1,rfl,by omega⟩,?_⟩
   show(9-((k+1:Nat):Int)).toNat<(9-(k:Int)).toNat
   omega
  refine(KG V' s1 _ f1 k ((L1.le q).le hle)).mono ?_
  rintro V2 r ⟨rfl,e,rfl,he⟩;refine⟨nofun,e,rfl,fun ht=>?_,fun hf=>?_⟩
  ·refine(ZZ (hV.le v7) ok (L.le v7) (hle _ _ hbb) (he.1 ht)).1.mono ?_
   rintro V3 _ ⟨bS,rfl⟩;exact⟨nofun,true,rfl,fun z=>absurd z (by decide),fun _=>next bS⟩
  refine(cI_fzN (hle _ _ hbb) ⟨by omega,h8⟩ (fun z=>by rw [he.2 z] at hf; cases hf)).mono ?_
  rintro V3 _ ⟨bS,rfl⟩;exact⟨nofun,true,rfl,fun z=>absurd z (by decide),fun _=>next bS⟩
 have hn:=L1.1;have h0:=(wA i).1;rw [decide_eq_true (by omega)]; rfl
noncomputable def cT (i:Ln):List Tx:=(qV (cY i),()) :: (aL (cY i)).map fun g=>(fT i g.1,())
noncomputable def RN (i:Ln):ByteArray:=eK (cT i) ⟨⟨[32]⟩⟩
theorem jF (i:Ln):(cT i).length=(aL (cY i)).length+1:=by simp [cT]
theorem GG {i:Ln} (ok:jC i) (k:Int):(fT i k).size<=2200:=by
 cases i with
 | r x=>exact sw ok
 | o a =>
  have h1:=ok.1.2.1;have h2:=bH ok.2;unfold fT;dsimp only;split <;> omega
 | p a =>
  have h1:=ok.1.2.1;have h2:=x5 (lL ok.2.1);unfold fT;dsimp only;split <;> omega
theorem qa {i:Ln} (ok:jC i):∀ y∈cT i,y.1.size<=2200:=by
 intro y hy;rcases List.mem_cons.1 hy with rfl | hy
 ·have:=KP (jQ i)
  show(qV (cY i)).size<=_
  omega
 obtain⟨g,_,rfl⟩:=List.mem_map.1 hy;exact GG ok g.1
theorem sC {i:Ln} (ok:jC i):qR (cT i)+(cT i).length*(⟨⟨[32]⟩⟩:ByteArray).size<=10000:=by
 have h1:=RH _ (qa ok);have h2:=jF i;have h3:=(wA i).2.1;have e:(⟨⟨[32]⟩⟩:ByteArray).size=1:=rfl;rw [e];omega
theorem BC {i:Ln} (ok:jC i):(RN i).size<=10000:=Nat.le_trans (sA _ _) (sC ok)
theorem KV {V:aa} (hV:nW V) {s:ar} {f:List Nat} {i:Ln} (ok:jC i) (L:LR rI V s (sB i) f):ae prog V 55 [l8 (cells s i)] (eF V (RN i)):=by
 refine aM (NK _) fun _=>?_
 simp only [zO,T.wp];refine(wB hV ok L).mono ?_
 rintro V1 _ ⟨aF,rfl⟩;refine⟨nofun,true,rfl,fun z=>absurd z (by decide),fun _=>?_⟩
 rw [p'];refine(Ee V1 _ (jQ i)).mono ?_
 rintro V2 _ ⟨bm,rfl⟩;refine⟨nofun,_,rfl,(p5 V2 _).mono ?_⟩
 rintro V3 _ ⟨bS,s3,f3,rfl,L3,_⟩;have l3:=(aF.trans bm).trans bS;refine⟨nofun,s3,rfl,fun b hb=>?_⟩
 have q:=aG (x:=(aH.aD jE (cells s i),((91:TypeId),((0,0):Nat × Nat)))) hb;have hbb:aB V3 b (aH.aD jE (cells s i),(91,(0,0))) b=some (aH.aD jE (cells s i),(91,(0,0))):=av;have eb:(aB V3 b (aH.aD jE (cells s i),(91,(0,0))))=(aB V3 b (aH.aD jE (cY i,(cells s i).2),(91,(0,0)))):=by rw [<- p' s i]
 have L4:=L3.le q;have l4:=l3.trans q;have hn:=L3.1;have h6:=(wA i).2.1;refine⟨fun y V'=>(aB V3 b (aH.aD jE (cells s i),(91,(0,0)))).le V'/\∃ j:Nat,y.2.1=(j:Int)/\j<=(aL (cY i)).length/\y.1.1=1+j/\y.1.2=((cT i).take (j+1)).map dO,
  fun y=>(((aL (cY i)).length:Int)-(y.2.1:Int)).toNat,⟨((1,[.string (qV (cY i))]),(0:Int),()),rfl,(by rw [eb]; exact aa.le.refl _),0,rfl,by omega,rfl,rfl⟩,?_⟩
 rintro⟨⟨n1,ys⟩,(j:Int),u⟩ V' ⟨hle,k,lP,lV,gm,dZ⟩;replace lP:j=(k:Int):=lP;replace gm:n1=1+k:=gm;replace dZ:ys=((cT i).take (k+1)).map dO:=dZ;subst lP gm dZ;have v7:=l4.trans hle;refine⟨fun aN=>?_,fun cg=>?_⟩
 ·have h1:k<(aL (cY i)).length:=by
   have:(k:Int)<(s3.n:Int):=bq aN;omega
  obtain⟨b1,o1,a1,l1⟩:=(L4.le hle).int h1;have lY:((aL (cY i))[k].1,())∈aL (cY i):=List.getElem_mem h1;refine⟨_,a1,(by omega:(0:Int)<=(k:Int)),(by omega:(k:Int)<(s3.n:Int)),(aL (cY i))[k].1,l1,(ZZ (nW.le hV v7) ok (L.le v7) (hle _ _ hbb) lY).2.mono ?_⟩
  rintro V5 _ ⟨fu,rfl⟩;refine⟨nofun,_,rfl,rfl,⟨rfl,(by omega:(1+k+1)*16<=140737488355328),(by omega:1+k+1<=9223372036854775807)⟩,_,rfl,((1+(k+1),((cT i).take (k+1+1)).map dO),((k+1:Nat):Int),()),?_,⟨hle.trans fu,k+1,rfl,h1,rfl,rfl⟩,?_⟩
  ·have hw:k+1<(cT i).length:=by rw [jF]; omega
   have e1:(cT i).take (k+1+1)=(cT i).take (k+1)++[(cT i)[k+1]]:=List.take_succ_eq_append_getElem hw;have e2:(cT i)[k+1]=(fT i (aL (cY i))[k].1,()):=by simp [cT]
   rw [kD h1 (by omega),e1,e2,List.map_append]
   rfl
  show(((aL (cY i)).length:Int)-((k+1:Nat):Int)).toNat<(((aL (cY i)).length:Int)-(k:Int)).toNat
  omega
 have h1:k=(aL (cY i)).length:=by
  have:¬ (k:Int)<(s3.n:Int):=bU cg;omega
 intro b' cap spare vq hc _;have hfull:(cT i).take (k+1)=cT i:=by rw [h1,<- jF,List.take_length]
 have hlen:(cT i).length=1+k:=by rw [jF,h1]; omega
 rw [hfull];have gv:=qa ok;have q:=ZM (V:=V') (b:=b') (cap:=cap) (o:=cT i) (spare:=spare) (t:=9) vq (by rw [hlen]; exact hc) (by omega) (fun y hy=>by have:=gv y hy; omega)
 have key:=yG _ _ _ _ (⟨⟨[32]⟩⟩:ByteArray) q.1 (Nat.le_trans (sC ok) (by decide)) (by omega);rw [hlen] at key;refine key.mono ?_
 rintro V6 _ ⟨rfl,rfl⟩;exact⟨nofun,_,rfl,v7.trans (aG vq),rfl⟩
noncomputable abbrev tx (i:Ln):Tx:=(RN i,())
theorem Z0 {a:aE} (s:ar) (h:a.2.2.1=false):cells s (.p a)=(2,a.1,fQ,fQ,fQ,a.2.1,a.2.2.1,s,0,ai,ai,false,ai,0,fQ,fQ,false,ai,0,()):=by
 unfold cells cY;dsimp only;rw [h]; rfl
theorem Z1 {a:aE} (s:ar) (h:a.2.2.1=true):cells s (.p a)=(3,a.1,fQ,fQ,fQ,(Bj a.2).1,(Bj a.2).2.1,s,0,ai,ai,false,ai,0,fQ,fQ,false,ai,0,()):=by
 unfold cells cY Bj;dsimp only;rw [h]; rfl
theorem VW {e:Bool} {m:List aI} (h:eD e m):(pd (bQ e m)=1->e=false/\m≠[])/\(pd (bQ e m)=-1->e=true/\m≠[])/\(pd (bQ e m)≠1->pd (bQ e m)≠-1->m=[]):=by
 have hc:=gX h.1.1;have hn:=aO h.1.1.1;have hl:m≠[]↔0<m.length:=List.length_pos_iff.symm;unfold pd bQ;cases e with
 | true =>
  have:=hc.1 (h.2 rfl);rw [if_pos rfl,if_pos (by omega)];exact⟨fun k=>absurd k (by decide),fun _=>⟨rfl,hl.2 (h.2 rfl)⟩,fun _ k=>absurd rfl k⟩
 | false =>
  rw [show(if false=true then -af m else af m)=af m from rfl,if_neg (by omega:¬ af m<0)]
  by_cases k:af m=0
  ·rw [if_pos k]
   exact⟨fun k=>absurd k (by decide),fun k=>absurd k (by decide),fun _ _=>List.eq_nil_of_length_eq_zero (by omega)⟩
  rw [if_neg k];exact⟨fun _=>⟨rfl,hl.2 (hc.2 (by omega))⟩,fun k=>absurd k (by decide),fun k=>absurd rfl k⟩

set_option maxHeartbeats 2000000 in
theorem Z2 {gO gC gS gN:Nat} {z:T} {V V0:aa} (c:aH dq) (x:ao) (fp:List Nat) (hx:aj.R V c x fp) (hL:a7 x)
  (hO:ae prog V gO [aU c] (jb V (a7 x)))
  (hC:∀ {V':aa},V.le V'->∀ {i:Ln} {s:ar} {f:List Nat},jC i->LR rI V' s (sB i) f->ae prog V' gC [l8 (cells s i)] (eF V' (RN i)))
  (hS:∀ (V:aa) (c0:Bool) (c1:ar) (l:List aI) (f:List Nat),LR rI V c1 l f->eD c0 l->ae prog V gS [cV (c0,c1,())] (fun V' r=>V'=V/\r=.int .i64 (pd (bQ c0 l))))
  (hN:∀ (V:aa) (c:aH gr) (x:a6) (f:List Nat),aY.R V c x f->pR x->ae prog V gN [ct c] (Gq V (Bj x))) :
  (tScr gO gC gS gN z c).wp prog (fun V' vs=>V.le V'/\∃ s f,packed vs=qL s/\LR bE V' s ((jD x).map tx) f) V V0 []:=by
 have oks:=itm_ok hL;obtain⟨c0,c1,c3,f0,f1,f3,rfl,h0,_,h3⟩:=fi hx;simp only [tScr,T.wp];refine hO.mono ?_
 rintro V1 r ⟨aF,e,rfl,he⟩;refine⟨nofun,e,rfl,fun hf=>absurd hL (bf he (by simpa using hf)),fun _=>?_⟩
 have UE:=h0.1;have Rv:=h3.1;have l12:x.2.2.2.1.length<=12:=hL.2.2.2.1;have l0:x.1.length<=12:=hL.1.1
 -- rates
 refine⟨fun y V'=>V1.le V'/\∃ i:Nat,y.2.1=(i:Int)/\i<=x.2.2.2.1.length/\y.1.1=i/\y.1.2=(((x.2.2.2.1.take i).map Ln.r).map tx).map dO,fun y=>((x.2.2.2.1.length:Int)-(y.2.1:Int)).toNat,⟨((0,[]),(0:Int),()),rfl,aa.le.refl _,0,rfl,by omega,rfl,rfl⟩,?_⟩
 rintro⟨⟨n1,ys⟩,(i:Int),u⟩ V2 ⟨hle,k,hk,lV,gm,dZ⟩;replace hk:i=(k:Int):=hk;replace gm:n1=k:=gm;replace dZ:ys=(((x.2.2.2.1.take k).map Ln.r).map tx).map dO:=dZ;subst hk gm dZ;have v7:=aF.trans hle;refine⟨fun aN=>?_,fun cg=>?_⟩
 ·have hi:n1<x.2.2.2.1.length:=by
   have:(n1:Int)<(c3.n:Int):=bq aN;omega
  obtain⟨b1,o1,cc,ff,a1,Z3,R1,_⟩:=(h3.le v7).at hi;obtain⟨s4,g4,ec,L4⟩:=iq R1;subst ec;have key:=hC v7 (oks _ (mem_r hi)) L4;refine⟨_,a1,(by omega:(0:Int)<=(n1:Int)),(by omega:(n1:Int)<(c3.n:Int)),_,Z3,key.mono ?_⟩
  rintro V3 _ ⟨bS,rfl⟩;refine⟨nofun,_,rfl,rfl,⟨rfl,(by omega:(n1+1)*16<=140737488355328),(by omega:n1+1<=9223372036854775807)⟩,_,rfl,((n1+1,(((x.2.2.2.1.take (n1+1)).map Ln.r).map tx).map dO),((n1+1:Nat):Int),()),?_,⟨hle.trans bS,n1+1,rfl,hi,rfl,rfl⟩,?_⟩
  ·rw [kD hi (by omega),List.take_succ_eq_append_getElem hi,List.map_append,List.map_append,List.map_append]
   rfl
  show((x.2.2.2.1.length:Int)-((n1+1:Nat):Int)).toNat<((x.2.2.2.1.length:Int)-(n1:Int)).toNat
  omega
 have JP:n1=x.2.2.2.1.length:=by
  have:¬ (n1:Int)<(c3.n:Int):=bU cg;omega
 subst JP;rw [List.take_length]
 -- accounts
 refine⟨fun y V'=>V1.le V'/\∃ i:Nat,y.2.1=(i:Int)/\i<=x.1.length/\y.1.1=x.2.2.2.1.length+((x.1.take i).flatMap By).length/\y.1.2=((x.2.2.2.1.map Ln.r++(x.1.take i).flatMap By).map tx).map dO,fun y=>((x.1.length:Int)-(y.2.1:Int)).toNat,
  ⟨((x.2.2.2.1.length,((x.2.2.2.1.map Ln.r).map tx).map dO),(0:Int),()),rfl,hle,0,rfl,by omega,rfl,by simp⟩,?_⟩
 rintro⟨⟨n2,ys⟩,(i:Int),u⟩ V4 ⟨oy,k,hk,lV,sN,dZ⟩;replace hk:i=(k:Int):=hk;replace sN:n2=x.2.2.2.1.length+((x.1.take k).flatMap By).length:=sN;replace dZ:ys=((x.2.2.2.1.map Ln.r++(x.1.take k).flatMap By).map tx).map dO:=dZ;subst hk dZ;have RO:=aF.trans oy;have h24:((x.1.take k).flatMap By).length<=24:=by
  have h:=wz (x.1.take k);rw [List.length_take] at h;omega
 refine⟨fun aN=>?_,fun cg=>?_⟩
 ·have hi:k<x.1.length:=by
   have:(k:Int)<(c0.n:Int):=bq aN;omega
  obtain⟨b1,o1,cc,ff,a1,Z3,R1,_⟩:=(h0.le RO).at hi;obtain⟨_,_,hm,_⟩:=hL.1.2 k hi;obtain⟨w1,w2,w3⟩:=VW hm.2.1;have hl4:=hm.2.2;have z3:=bH hm.1;obtain⟨s5,g5,ec,L5⟩:=nD R1;subst ec;have eo:Ln.o x.1[k]∈By x.1[k]:=List.mem_cons_self;have eP:x.1[k].2.2.2.1≠[]->By x.1[k]=[.o x.1[k],.p x.1[k]]:=fun h=>by unfold By; rw [if_neg h]
  -- the invariant,one account further
  have next:∀ (V':aa) (n':Nat) (t:List Value),V4.le V'->n'=n2+(By x.1[k]).length->t=((x.2.2.2.1.map Ln.r++(x.1.take k).flatMap By).map tx).map dO++((By x.1[k]).map tx).map dO ->
    ∃ y':cH [.a 9,.o (.o (.i .i64))],[LV.a 9 n' t,.v (.int .i64 (i64.wrap ((k:Int)+1)))]=cH.nf _ y'/\(V1.le V'/\∃ i:Nat,y'.2.1=(i:Int)/\i<=x.1.length/\y'.1.1=x.2.2.2.1.length+((x.1.take i).flatMap By).length/\y'.1.2=((x.2.2.2.1.map Ln.r++(x.1.take i).flatMap By).map tx).map dO) /\
     ((x.1.length:Int)-(y'.2.1:Int)).toNat<((x.1.length:Int)-(k:Int)).toNat:=by
   intro V' n' t hl H9 ht;have e1:x.1.take (k+1)=x.1.take k++[x.1[k]]:=List.take_succ_eq_append_getElem hi;refine⟨((n',t),((k+1:Nat):Int),()),by rw [kD hi (by omega)]; rfl,⟨oy.trans hl,k+1,rfl,hi,?_,?_⟩,?_⟩
   ·show n'=_
    rw [e1,List.flatMap_append,List.length_append,H9,sN];simp;omega
   ·show t=_
    rw [e1,List.flatMap_append,ht];simp
   show((x.1.length:Int)-((k+1:Nat):Int)).toNat<((x.1.length:Int)-(k:Int)).toNat
   omega
  refine⟨_,a1,(by omega:(0:Int)<=(k:Int)),(by omega:(k:Int)<(c0.n:Int)),_,Z3,(hC (i:=.o x.1[k]) (s:=ai) RO (oks _ (ZX hi eo)) jd).mono ?_⟩
  rintro V5 _ ⟨fu,rfl⟩;have l5:=RO.trans fu;refine⟨nofun,_,rfl,rfl,⟨rfl,(by omega:(n2+1)*16<=140737488355328),(by omega:n2+1<=9223372036854775807)⟩,(hS V5 x.1[k].2.2.1 s5 x.1[k].2.2.2.1 g5 (L5.le fu) hm.2.1).mono ?_⟩
  rintro V6 _ ⟨rfl,rfl⟩;refine⟨nofun,_,rfl,fun hp=>?_,fun hp=>⟨fun hq=>?_,fun hq=>?_⟩⟩
  ·obtain⟨e1,e2⟩:=w1 (beq_iff_eq.1 hp)
   have key:=hC (i:=.p x.1[k]) l5 (oks _ (ZX hi (by rw [eP e2]; simp))) (L5.le fu)
   rw [Z0 _ e1] at key;refine key.mono ?_
   rintro V7 _ ⟨o8,rfl⟩;refine⟨nofun,_,rfl,rfl,⟨rfl,(by omega:(n2+1+1)*16<=140737488355328),(by omega:n2+1+1<=9223372036854775807)⟩,_,rfl,next V7 _ _ (fu.trans o8) ?_ ?_⟩
   ·rw [eP e2]; rfl
   rw [eP e2,List.append_assoc]; rfl
  ·obtain⟨e1,e2⟩:=w2 (beq_iff_eq.1 hq)
   refine(hN V6 (x.1[k].2.1,x.1[k].2.2.1,s5,()) x.1[k].2 g5 (ko (by omega) (L5.le fu)) hm).mono ?_
   rintro V7 _ ⟨o8,cy,fy,rfl,Ry,_⟩;obtain⟨s7,rfl,L7,_⟩:=fG Ry;have key:=hC (i:=.p x.1[k]) (l5.trans o8) (oks _ (ZX hi (by rw [eP e2]; simp))) L7
   rw [Z1 _ e1] at key;refine⟨fun _=>o8,_,rfl,key.mono ?_⟩
   rintro V8 _ ⟨le8,rfl⟩;refine⟨fun _=>le8,_,rfl,rfl,⟨rfl,(by omega:(n2+1+1)*16<=140737488355328),(by omega:n2+1+1<=9223372036854775807)⟩,_,rfl,next V8 _ _ ((fu.trans o8).trans le8) ?_ ?_⟩
   ·rw [eP e2]; rfl
   rw [eP e2,List.append_assoc]; rfl
  have e2:=w3 (bf' beq_iff_eq hp) (bf' beq_iff_eq hq);have eA:By x.1[k]=[.o x.1[k]]:=by unfold By; rw [if_pos e2]
  refine⟨_,rfl,next V6 _ _ fu ?_ ?_⟩
  ·rw [eA]; rfl
  rw [eA]; rfl
 have ix:k=x.1.length:=by
  have:¬ (k:Int)<(c0.n:Int):=bU cg;omega
 intro b cap spare vq hc _;have efull:x.2.2.2.1.map Ln.r++(x.1.take k).flatMap By=jD x:=by
  rw [ix,List.take_length]
  rfl
 have elen:n2=((jD x).map tx).length:=by rw [<- efull,sN,List.length_map,List.length_append,List.length_map]
 have hln:=GF hL;rw [efull,elen];rw [elen] at hc;have q:=ZM (V:=V4) (b:=b) (cap:=cap) (o:=(jD x).map tx) (spare:=spare) (t:=9) vq hc (by rw [List.length_map]; omega) (fun y hy=>by
  obtain⟨i,hi,rfl⟩:=List.mem_map.1 hy;exact Nat.le_trans (BC (oks i hi)) (by decide))
 exact⟨RO.trans (aG vq),⟨some ⟨b,0,none⟩,((jD x).map tx).length,cap⟩,[b],rfl,q.1⟩
theorem Qk {V:aa} (hV:nW V) (c:aH dq) (x:ao) (fp:List Nat) (hx:aj.R V c x fp) (hL:a7 x) :
  ae prog V 24 [aU c] (fun V' r=>V.le V'/\∃ s f,r=qL s/\LR bE V' s ((jD x).map tx) f) :=
 aM (S9 _) fun _=>Z2 c x fp hx hL (pP hV.c c x fp hx) (fun le=>KV (hV.le le)) (fun V c0 c1 l f h k=>rV V c0 c1 l f h k.1.1) (fun V c x f h k=>Ky V c x f h (by have:=k.2.2; omega))
abbrev bl (t:ByteArray):List UInt8:=t.data.toList
theorem lM {s t:ByteArray} (h:bl s=bl t):s=t:=by
 apply ByteArray.ext
 exact Array.toList_inj.1 h
theorem bO (s t:ByteArray):bl (s++t)=bl s++bl t:=by
 show(s++t).data.toList=_
 rw [ByteArray.data_append]; simp
theorem bD (t:ByteArray):(bl t).length=t.size:=by
 show t.data.toList.length=t.data.size
 simp
abbrev Dg (c:UInt8):Prop:=48<=c.toNat/\c.toNat<=57
def dvA:List UInt8->Nat->Nat
 | [],a=>a
 | c :: r,a=>dvA r (10*a+(c.toNat-48))
abbrev dv (l:List UInt8):Nat:=dvA l 0
theorem Ql:∀ (l:List UInt8) (a:Nat),dvA l a=a*10 ^ l.length+dv l
 | [],a=>by simp [dvA]
 | c :: r,a=>by
  rw [dvA,Ql r,show dv (c :: r)=dvA r (10*0+(c.toNat-48)) from rfl,Ql r (10*0+(c.toNat-48)),List.length_cons,Nat.pow_succ,Nat.add_mul,Nat.mul_zero,Nat.zero_add];have:10*a*10 ^ r.length=a*(10 ^ r.length*10):=by ac_rfl
  omega
theorem jR (c:UInt8) (r:List UInt8):dv (c :: r)=(c.toNat-48)*10 ^ r.length+dv r:=by
 rw [show dv (c :: r)=dvA r (10*0+(c.toNat-48)) from rfl,Ql,Nat.mul_zero,Nat.zero_add]
theorem nQ:∀ (l m:List UInt8),dv (l++m)=dv l*10 ^ m.length+dv m
 | [],m=>by show dv m=0*_+_; omega
 | c :: r,m=>by
  rw [List.cons_append,jR,nQ r m,jR,List.length_append,Nat.pow_add,Nat.add_mul];have:(c.toNat-48)*(10 ^ r.length*10 ^ m.length)=(c.toNat-48)*10 ^ r.length*10 ^ m.length:=(Nat.mul_assoc ..).symm;omega
theorem El:∀ {l:List UInt8},(∀ c∈l,Dg c)->dv l<10 ^ l.length
 | [],_=>by decide
 | c :: r,h=>by
  have h1:=El fun x hx=>h x (List.mem_cons_of_mem _ hx)
  have h2:=h c (List.mem_cons_self ..);rw [jR,List.length_cons,Nat.pow_succ];have h3:(c.toNat-48)*10 ^ r.length<=9*10 ^ r.length:=Nat.mul_le_mul_right _ (by omega);omega
theorem dg_inj {c d:UInt8} (h:Dg c) (k:Dg d) (e:c.toNat-48=d.toNat-48):c=d:=by
 apply UInt8.toNat_inj.1
 omega
theorem Z4:∀ {l m:List UInt8},l.length=m.length->(∀ c∈l,Dg c)->(∀ c∈m,Dg c)->dv l=dv m->l=m
 | [],[],_,_,_,_=>rfl
 | [],_ :: _,h,_,_,_=>by simp at h
 | _ :: _,[],h,_,_,_=>by simp at h
 | c :: r,d :: q,hl,h,k,e=>by
  have BZ:r.length=q.length:=by simpa using hl
  have h1:=El fun x hx=>h x (List.mem_cons_of_mem _ hx)
  have h2:=El fun x hx=>k x (List.mem_cons_of_mem _ hx)
  rw [jR,jR,<- BZ] at e;rw [<- BZ] at h2;have hp:0<10 ^ r.length:=Nat.pow_pos (by decide);rw [Nat.mul_comm (c.toNat-48),Nat.mul_comm (d.toNat-48)] at e;have e1:(10 ^ r.length*(c.toNat-48)+dv r) / 10 ^ r.length=(10 ^ r.length*(d.toNat-48)+dv q) / 10 ^ r.length:=by rw [e]
  have e2:(10 ^ r.length*(c.toNat-48)+dv r) % 10 ^ r.length=(10 ^ r.length*(d.toNat-48)+dv q) % 10 ^ r.length:=by rw [e]
  rw [Nat.mul_add_div hp,Nat.mul_add_div hp,Nat.div_eq_of_lt h1,Nat.div_eq_of_lt h2] at e1;rw [Nat.mul_add_mod,Nat.mul_add_mod,Nat.mod_eq_of_lt h1,Nat.mod_eq_of_lt h2] at e2;rw [dg_inj (h c (List.mem_cons_self ..)) (k d (List.mem_cons_self ..)) (by omega),Z4 BZ (fun x hx=>h x (List.mem_cons_of_mem _ hx)) (fun x hx=>k x (List.mem_cons_of_mem _ hx)) e2]
def x9 (l:List UInt8):Prop:=l≠[]/\(∀ c∈l,Dg c)/\(1<l.length->l.head?≠some 48)
theorem Z5 {l:List UInt8} (h:x9 l) (hl:1<l.length):10 ^ (l.length-1)<=dv l:=by
 cases l with
 | nil=>simp at hl
 | cons c r =>
  have h1:=h.2.2 hl;have h2:=h.2.1 c (List.mem_cons_self ..);have h3:c.toNat≠48:=fun e=>h1 (by
   have:c=48:=UInt8.toNat_inj.1 e;rw [this]; rfl)
  rw [jR,List.length_cons,Nat.add_sub_cancel];have:1*10 ^ r.length<=(c.toNat-48)*10 ^ r.length:=Nat.mul_le_mul_right _ (by omega);omega
theorem RP {l m:List UInt8} (h:x9 l) (k:x9 m) (e:dv l=dv m):l.length<=m.length:=by
 have hm:=El k.2.1
 by_cases hl:1<l.length
 ·have h1:=Z5 h hl
  rcases Nat.lt_or_ge m.length l.length with aN | cg
  ·have:10 ^ m.length<=10 ^ (l.length-1):=Nat.pow_le_pow_right (by decide) (by omega)
   omega
  exact cg
 have:m.length≠0:=fun h0=>k.1 (List.eq_nil_of_length_eq_zero h0)
 omega
theorem num_inj {l m:List UInt8} (h:x9 l) (k:x9 m) (e:dv l=dv m):l=m :=
 Z4 (Nat.le_antisymm (RP h k e) (RP k h e.symm)) h.2.1 k.2.1 e
theorem Z6 {k:Nat} (h:k<=9):bl (dig k)=[UInt8.ofNat (48+k)]/\(UInt8.ofNat (48+k)).toNat=48+k:=by
 refine⟨rfl,?_⟩
 rw [UInt8.toNat_ofNat'];exact Nat.mod_eq_of_lt (by omega)
theorem KW:∀ (n:Nat) (k:Int),0<=k->k.toNat=n->x9 (bl (dE k))/\dv (bl (dE k))=n:=by
 intro n
 induction n using Nat.strongRecOn with
 | _ n ih =>
  intro k h0 hk
  by_cases h9:k<10
  ·obtain⟨e1,e2⟩:=Z6 (k:=k.toNat) (by omega)
   rw [Bn h0 h9,e1];refine⟨⟨by simp,fun c hc=>?_,fun h=>by simp at h⟩,?_⟩
   ·obtain rfl:c=UInt8.ofNat (48+k.toNat):=by simpa using hc
    show 48<=(UInt8.ofNat (48+k.toNat)).toNat/\(UInt8.ofNat (48+k.toNat)).toNat<=57
    omega
   rw [jR,e2];show(48+k.toNat-48)*10 ^ 0+0=n
   omega
  obtain⟨hn,hv⟩:=ih (k / 10).toNat (by omega) (k / 10) (by omega) rfl;obtain⟨e1,e2⟩:=Z6 (k:=(k % 10).toNat) (by omega);rw [KD (by omega),bO,e1];refine⟨⟨by simp,fun c hc=>?_,fun _=>?_⟩,?_⟩
  ·rcases List.mem_append.1 hc with h | h
   ·exact hn.2.1 c h
   obtain rfl:c=UInt8.ofNat (48+(k % 10).toNat):=by simpa using h
   show 48<=(UInt8.ofNat (48+(k % 10).toNat)).toNat/\(UInt8.ofNat (48+(k % 10).toNat)).toNat<=57
   omega
  ·cases hq:bl (dE (k / 10)) with
   | nil=>exact absurd hq hn.1
   | cons c r =>
    rw [hq] at hn hv;rw [List.cons_append,List.head?_cons];intro hc;obtain rfl:c=48:=by simpa using hc
    by_cases hr:1<(48 :: r:List UInt8).length
    ·exact hn.2.2 hr rfl
    have:r=[]:=List.eq_nil_of_length_eq_zero (by rw [List.length_cons] at hr; omega)
    subst this;have:dv [48]=0:=by decide
    omega
  rw [nQ,hv];show(k / 10).toNat*10 ^ 1+dv [UInt8.ofNat (48+(k % 10).toNat)]=n
  rw [jR,e2];show(k / 10).toNat*10 ^ 1+((48+(k % 10).toNat-48)*10 ^ 0+0)=n
  omega
theorem BD (k:Nat):bl (rj k)=List.replicate k 48:=by
 show(List.replicate k (48:UInt8)).toArray.toList=_
 simp
theorem KX:∀ (k:Nat) (l:List UInt8),dv (List.replicate k 48++l)=dv l
 | 0,l=>rfl
 | k+1,l=>by
  rw [List.replicate_succ,List.cons_append,jR,KX k l];show(48-48)*_+_=_
  omega
theorem KY {k:Int} (h0:0<=k) (h1:k<1000000000):(dK (dE k) 9).size=9/\(∀ c∈bl (dK (dE k) 9),Dg c)/\dv (bl (dK (dE k) 9))=k.toNat:=by
 obtain⟨hn,hv⟩:=KW k.toNat k h0 rfl;have hs:(dE k).size<=9:=by
  rw [<- bD];rcases Nat.lt_or_ge 9 (bl (dE k)).length with h | h
  ·have h2:=Z5 hn (by omega)
   have h3:10 ^ 9<=10 ^ ((bl (dE k)).length-1):=Nat.pow_le_pow_right (by decide) (by omega);have h4:(10:Nat) ^ 9=1000000000:=by decide
   omega
  exact h
 have e:dK (dE k) 9=rj (9-(dE k).size)++dE k:=by
  unfold dK;rw [if_neg (by decide),show((9:Int)-((dE k).size:Int)).toNat=9-(dE k).size by omega]
 refine⟨?_,fun c hc=>?_,?_⟩
 ·rw [e,ByteArray.size_append,sr]; omega
 ·rw [e,bO,BD] at hc
  rcases List.mem_append.1 hc with h | h
  ·obtain rfl:=List.eq_of_mem_replicate h
   decide
  exact hn.2.1 c h
 rw [e,bO,BD,KX,hv]
theorem pw9 (i:Nat):((10 ^ (9*i):Nat):Int)=1000000000 ^ i:=by
 rw [Nat.pow_mul];have:(10:Nat) ^ 9=1000000000:=by decide
 rw [this];exact Int.natCast_pow _ _
theorem Em {l:List aI} (hl:bK l):∀ (i:Nat) (s:ByteArray),(∀ c∈bl s,Dg c)->bl s≠[] ->
  (kq l i s).size=s.size+9*i/\(∀ c∈bl (kq l i s),Dg c)/\(bl (kq l i s)).head?=(bl s).head?/\(dv (bl (kq l i s)):Int)=(dv (bl s):Int)*1000000000 ^ i+ak l i
 | 0,s,h,_=>⟨rfl,h,rfl,by rw [kq]; simp [ak]⟩
 | i+1,s,h,bR=>by
  obtain⟨p1,p2,p3⟩:=KY (hl i).1 (hl i).2;have hd:∀ c∈bl (s++dK (dE (ab l i)) 9),Dg c:=fun c hc=>by
   rw [bO] at hc;exact(List.mem_append.1 hc).elim (h c) (p2 c)
  obtain⟨q1,q2,q3,q4⟩:=Em hl i (s++dK (dE (ab l i)) 9) hd (by rw [bO]; simp [bR])
  rw [kq];refine⟨by rw [q1,ByteArray.size_append,p1]; omega,q2,?_,?_⟩
  ·rw [q3,bO]
   cases hs:bl s with
   | nil=>exact absurd hs bR
   | cons c r=>rfl
  rw [q4,bO,nQ,p3,bD,p1,dp];show _=_+(ak l i+ab l i*1000000000 ^ i)
  have h0:=(hl i).1;have e9:((10 ^ 9:Nat):Int)=1000000000:=by decide
  have ek:((ab l i).toNat:Int)=ab l i:=by omega
  rw [Int.natCast_add,Int.natCast_mul,e9,ek,Int.add_mul,Int.mul_assoc];omega
theorem gU {l:List aI} (h:Can l):x9 (bl (dw l))/\(dv (bl (dw l)):Int)=af l/\(dw l).size<=9*l.length+1/\(0<l.length->(dw l).size<=9*l.length):=by
 by_cases h0:l.length=0
 ·have e:dw l=⟨#[48]⟩:=by unfold dw; rw [if_pos h0]
  have:l=[]:=List.eq_nil_of_length_eq_zero h0;subst this;rw [e];exact⟨⟨by decide,by decide,fun h=>absurd h (by decide)⟩,rfl,by decide,fun h=>absurd h (by decide)⟩
 have e:dw l=kq l (l.length-1) (dE (ab l (l.length-1))):=by unfold dw; rw [if_neg h0]
 have hb:=h.1 (l.length-1);obtain⟨hn,hv⟩:=KW (ab l (l.length-1)).toNat _ hb.1 rfl;obtain⟨q1,q2,q3,q4⟩:=Em h.1 (l.length-1) _ hn.2.1 hn.1;have hp:=(KY hb.1 hb.2).1;have hs:(dE (ab l (l.length-1))).size<=9:=by
  have:=(kX (dE (ab l (l.length-1))) 9).2.2.2;omega
 have ma:ab l (l.length-1)≠0:=by
  rcases h.2 with h2 | h2
  ·exact absurd h2 h0
  exact h2
 have kI:ak l (l.length-1+1)=af l:=by rw [show l.length-1+1=l.length by omega]; rfl
 have hval2:ak l (l.length-1+1)=ak l (l.length-1)+ab l (l.length-1)*1000000000 ^ (l.length-1):=rfl;rw [e];refine⟨⟨fun Xq=>?_,q2,fun _ hc=>?_⟩,?_,by omega,fun _=>by omega⟩
 ·rw [Xq] at q3
  cases hq:bl (dE (ab l (l.length-1))) with
  | nil=>exact hn.1 hq
  | cons c r=>rw [hq] at q3; cases q3
 ·rw [q3] at hc
  cases hq:bl (dE (ab l (l.length-1))) with
  | nil=>exact hn.1 hq
  | cons c r =>
   rw [hq] at hc hn hv;obtain rfl:c=48:=by simpa using hc
   by_cases hr:1<(48 :: r:List UInt8).length
   ·exact hn.2.2 hr rfl
   have:r=[]:=List.eq_nil_of_length_eq_zero (by rw [List.length_cons] at hr; omega)
   subst this;have:dv [48]=0:=by decide
   omega
 rw [q4,hv,<- kI,hval2];have:((ab l (l.length-1)).toNat:Int)=ab l (l.length-1):=by omega
 rw [this];omega
theorem Z7 {l m:List aI} (h:Can l) (k:Can m) (e:dw l=dw m):l=m:=by
 refine uv h k ?_
 rw [<- (gU h).2.1,<- (gU k).2.1,e]
theorem Z8 (a:List aI) (x:Int):af (a++[(x,())])=af a+x*1000000000 ^ a.length:=by
 unfold af;rw [List.length_append];show ak (a++[(x,())]) a.length+ab (a++[(x,())]) a.length*1000000000 ^ a.length=_
 rw [lC (Nat.le_refl _),ik]
theorem GH {s:List UInt8} (hs:∀ c∈s,Dg c) (j n:Nat) (hn:n<=9):dv ((s.drop j).take n)<1000000000:=by
 have h1:=El (l:=(s.drop j).take n) fun c hc=>hs c (List.mem_of_mem_drop (List.mem_of_mem_take hc))
 have h2:10 ^ ((s.drop j).take n).length<=10 ^ 9:=Nat.pow_le_pow_right (by decide) (by rw [List.length_take]; omega)
 have h3:(10:Nat) ^ 9=1000000000:=by decide
 omega
theorem rd_step {s:List UInt8} (hs:∀ c∈s,Dg c) {a:List aI} {e j:Nat} (he:e+9*a.length=s.length) (ha:bK a) (hv:af a=(dv (s.drop e):Int)) (hj:j<=e) (hj9:e-j<=9) :
  bK (a++[((dv ((s.drop j).take (e-j)):Int),())])/\af (a++[((dv ((s.drop j).take (e-j)):Int),())])=(dv (s.drop j):Int):=by
 have hb:=GH hs j (e-j) hj9;refine⟨fM ha ⟨by show(0:Int)<=(dv _:Int); omega,by show(dv _:Int)<1000000000; omega⟩,?_⟩
 have e1:s.drop j=(s.drop j).take (e-j)++s.drop e:=by
  have:s.drop e=(s.drop j).drop (e-j):=by rw [List.drop_drop]; congr 1; omega
  rw [this,List.take_append_drop]
 have e2:(s.drop e).length=9*a.length:=by rw [List.length_drop]; omega
 rw [Z8,hv]
 conv=>rhs; rw [e1]
 rw [nQ,e2,Int.natCast_add,Int.natCast_mul,pw9];omega
def En (s:ByteArray):Prop:=x9 (bl s)/\s.size<=450
theorem Z9 {s:ByteArray} (h:¬ En s) {q:List aI} (hq:Can q) (h50:q.length<=50):dw q≠s:=fun e=>by
 obtain⟨h1,_,h3,h4⟩:=gU hq;rw [e] at h1 h3 h4;exact h ⟨h1,by omega⟩
theorem Eo {s:ByteArray} (h:En s) {a:List aI} (ha:bK a) (hv:af a=(dv (bl s):Int)) (hl:9*a.length<=s.size+8):Can (db a)/\(db a).length<=50/\dw (db a)=s:=by
 obtain⟨c1,c2⟩:=dS ha;have hle:(db a).length<=a.length:=by unfold db; rw [List.length_take]; exact Nat.min_le_right _ _
 refine⟨c1,by have:=h.2; omega,lM ?_⟩
 obtain⟨n1,n2,_⟩:=gU c1;exact num_inj n1 h.1 (by omega)
def eL (c:UInt8):List UInt8->List UInt8->List (List UInt8)
 | p,[]=>[p]
 | p,x :: r=>if x=c then p :: eL c [] r else eL c (p++[x]) r
theorem GI (c:UInt8):∀ (p l:List UInt8),eL c p l≠[]
 | p,[]=>by simp [eL]
 | p,x :: r=>by
  rw [eL];split
  ·simp
  exact GI c _ r
theorem Ep {c:UInt8}:∀ {p a:List UInt8},c ∉ a->eL c p a=[p++a]
 | p,[],_=>by simp [eL]
 | p,x :: r,h=>by
  have h1:x≠c:=fun e=>h (by simp [e])
  rw [eL,if_neg h1,Ep fun k=>h (List.mem_cons_of_mem _ k)];simp
theorem KZ {c:UInt8} {b:List UInt8}:∀ {p a:List UInt8},c ∉ a->eL c p (a++c :: b)=(p++a) :: eL c [] b
 | p,[],_=>by simp [eL]
 | p,x :: r,h=>by
  have h1:x≠c:=fun e=>h (by simp [e])
  rw [List.cons_append,eL,if_neg h1,KZ fun k=>h (List.mem_cons_of_mem _ k)];simp
def jg (c:UInt8):List (List UInt8)->List UInt8
 | []=>[]
 | [x]=>x
 | x :: y :: r=>x++c :: jg c (y :: r)
theorem sD {c:UInt8} {x:List UInt8} {l:List (List UInt8)} (h:l≠[]):jg c (x :: l)=x++c :: jg c l:=by
 cases l with
 | nil=>exact absurd rfl h
 | cons y r=>rfl
theorem wC (c:UInt8):∀ (p l:List UInt8),jg c (eL c p l)=p++l
 | p,[]=>by simp [eL,jg]
 | p,x :: r=>by
  rw [eL];split
  ·rename_i e
   rw [sD (GI c [] r),wC c [] r,e]; rfl
  rw [wC c _ r]; simp
theorem BE (c:UInt8):∀ (p l:List UInt8),(eL c p l).length<=l.length+1
 | p,[]=>by simp [eL]
 | p,x :: r=>by
  rw [eL];split
  ·have:=BE c [] r
   simp only [List.length_cons]; omega
  have:=BE c (p++[x]) r;simp only [List.length_cons]; omega
theorem wD {c:UInt8}:∀ {p l:List UInt8},∀ x∈eL c p l,x.length<=p.length+l.length
 | p,[],x,hx=>by
  obtain rfl:x=p:=by simpa [eL] using hx
  omega
 | p,y :: r,x,hx=>by
  rw [eL] at hx;split at hx
  ·rcases List.mem_cons.1 hx with rfl | hx
   ·omega
   have:=wD x hx;simp only [List.length_cons,List.length_nil] at this ⊢; omega
  have:=wD x hx;simp only [List.length_append,List.length_cons,List.length_nil] at this ⊢; omega
theorem K0 {c:UInt8}:∀ {l:List (List UInt8)},l≠[]->(∀ x∈l,c ∉ x)->eL c [] (jg c l)=l
 | [],h,_=>absurd rfl h
 | [x],_,h=>by rw [jg,Ep (h x (by simp))]; simp
 | x :: y :: r,_,h=>by
  rw [jg,KZ (h x (by simp)),K0 (by simp) fun z hz=>h z (List.mem_cons_of_mem _ hz)]; simp
theorem qb {α:Type} {l:List α} {i f:Nat} (hi:i<l.length) (hf:f<=i):(l.take (i+1)).drop f=(l.take i).drop f++[l[i]]:=by
 rw [List.take_succ_eq_append_getElem hi,List.drop_append_of_le_length (by rw [List.length_take]; omega)]
theorem BF {α:Type} (l:List α) (i:Nat):(l.take i).drop i=[]:=List.drop_of_length_le (by rw [List.length_take]; omega)
theorem ib (s:ByteArray) (i j:Nat):bl (s.extract i j)=((bl s).take j).drop i:=by
 show(s.extract i j).data.toList=_
 rw [ByteArray.data_extract,Array.toList_extract,List.extract_eq_take_drop,List.take_drop]
 by_cases h:i<=j
 ·rw [show i+(j-i)=j by omega]
 rw [List.drop_of_length_le (by rw [List.length_take]; omega),List.drop_of_length_le (by rw [List.length_take]; omega)]
abbrev RQ (l:List UInt8):ByteArray:=⟨l.toArray⟩
theorem rp (l:List UInt8):bl (RQ l)=l:=by simp [bl]
theorem of_bl (t:ByteArray):RQ (bl t)=t:=lM (rp _)
def dL (c:UInt8) (s:ByteArray):List Tx:=(eL c [] (bl s)).map fun l=>(RQ l,())
theorem Z' (c:UInt8) (s:ByteArray):(dL c s).length<=s.size+1:=by
 have:=BE c [] (bl s);rw [bD] at this;unfold dL;rw [List.length_map];exact this
theorem K1 (c:UInt8) (s:ByteArray):0<(dL c s).length:=by
 unfold dL;rw [List.length_map];exact List.length_pos_iff.2 (GI c [] (bl s))
theorem RR (l:List UInt8):(RQ l).size=l.length:=by
 rw [<- bD,rp]
theorem VX {c:UInt8} {s:ByteArray} {x:Tx} (h:x∈dL c s):x.1.size<=s.size:=by
 obtain⟨l,hl,rfl⟩:=List.mem_map.1 h;have:=wD l hl;rw [bD] at this;rw [RR];simpa using this
theorem uX {c:UInt8} {s:ByteArray} {l:List Tx} (h:bl s=jg c (l.map fun x=>bl x.1)) (h0:l≠[]) (hc:∀ x∈l,c ∉ bl x.1):dL c s=l:=by
 unfold dL;rw [h,K0 (by simpa using h0) (fun y hy=>by
  obtain⟨x,hx,rfl⟩:=List.mem_map.1 hy;exact hc x hx),List.map_map]
 refine(List.map_congr_left fun x _=>?_).trans (List.map_id _)
 show(RQ (bl x.1),())=x
 rw [of_bl]
theorem nR (c:UInt8) (s:ByteArray):bl s=jg c ((dL c s).map fun x=>bl x.1):=by
 unfold dL;rw [List.map_map];have:(eL c [] (bl s)).map ((fun x:Tx=>bl x.1) ∘ fun l=>(RQ l,()))=eL c [] (bl s):=by
  refine(List.map_congr_left fun x _=>?_).trans (List.map_id _)
  exact rp x
 rw [this,wC]; rfl
theorem VY {o:List aI} (h:Can o):∃ c r,bl (dw o)=c :: r/\Dg c:=by
 obtain⟨h1,_⟩:=gU h;cases hq:bl (dw o) with
 | nil=>exact absurd hq h1.1
 | cons c r =>
  rw [hq] at h1;exact⟨c,r,rfl,h1.2.1 c (List.mem_cons_self ..)⟩
theorem RS (s:ByteArray):bl (s.extract 1 s.size)=(bl s).tail:=by
 rw [ib,<- bD,List.take_length,List.drop_one]
theorem K2 {l:List aI} (h:Can l):l.length<=(dw l).size:=by
 by_cases h0:l.length=0
 ·omega
 obtain⟨⟨_,hd,_⟩,hv,_⟩:=gU h;have h1:=iO h (by omega);rw [<- hv,<- pw9] at h1;have h2:=El hd;rw [bD] at h2;have h3:10 ^ (9*(l.length-1))<10 ^ (dw l).size:=by omega
 have h4:=(Nat.pow_lt_pow_iff_right (by decide:1<10)).1 h3;omega
abbrev jG (l:List aI) (sc:Int):ByteArray:=dK (dw l) (sc+1)
theorem GJ {l:List aI} {sc:Int} (h1:sc<=30):∃ k,bl (jG l sc)=List.replicate k 48++bl (dw l):=by
 unfold jG dK;rw [if_neg (by omega),bO,BD];exact⟨_,rfl⟩
theorem yJ {l:List aI} {sc:Int} (h:Can l) (h1:sc<=30):∀ c∈bl (jG l sc),Dg c:=by
 obtain⟨k,e⟩:=GJ (l:=l) h1;intro c hc;rw [e] at hc;rcases List.mem_append.1 hc with hc | hc
 ·obtain rfl:=(List.mem_replicate.1 hc).2
  exact⟨by decide,by decide⟩
 exact(gU h).1.2.1 c hc
theorem wE {l:List aI} {sc:Int} (h:Can l) (h6:l.length<=6) (h0:0<=sc) (h1:sc<=30):sc+1<=(jG l sc).size/\(jG l sc).size<=55:=by
 obtain⟨_,p2,p3,_⟩:=kX (dw l) (sc+1);obtain⟨_,_,h3,_⟩:=gU h;have:=p2 (by omega);show sc+1<=(dK (dw l) (sc+1)).size/\(dK (dw l) (sc+1)).size<=55
 exact⟨this,by omega⟩
abbrev o9 (l:List aI) (sc:Int):ByteArray:=eN (jG l sc) sc
theorem uY (l:List aI) (sc:Int):bl (dF true l sc)=45 :: bl (o9 l sc):=by
 unfold dF;rw [if_pos rfl,bO]
 rfl
theorem uZ (l:List aI) (sc:Int):dF false l sc=o9 l sc:=by
 unfold dF;rw [if_neg (by decide)]
theorem oP {l:List aI} {sc:Int} (h:Can l) (h6:l.length<=6) (h0:0<=sc) (h1:sc<=30) :
  (sc=0/\bl (o9 l sc)=bl (jG l sc))\/(0<sc/\∃ A B,bl (o9 l sc)=A++46 :: B/\bl (jG l sc)=A++B/\B.length=sc.toNat/\A≠[]):=by
 obtain⟨z1,z2⟩:=wE h h6 h0 h1
 by_cases hs:sc=0
 ·left
  refine⟨hs,?_⟩
  show bl (eN (jG l sc) sc)=_
  unfold eN;rw [if_neg (by omega)]
 right
 refine⟨by omega,(bl (jG l sc)).take ((jG l sc).size-sc.toNat),(bl (jG l sc)).drop ((jG l sc).size-sc.toNat),?_,(List.take_append_drop _ _).symm,?_,?_⟩
 ·show bl (eN (jG l sc) sc)=_
  unfold eN;rw [if_pos (by omega),bO,bO,ib,ib,List.drop_zero,<- bD (jG l sc),List.take_length];show(_++[46])++_=_
  rw [List.append_assoc]
  rfl
 ·rw [List.length_drop,bD]; omega
 intro e;have:=congrArg List.length e;rw [List.length_take,bD] at this;simp only [List.length_nil] at this;omega
theorem Er {c x:UInt8} (h:Dg c) (k:x.toNat<48):c≠x:=fun e=>by
 subst e;exact absurd h.1 (by omega)
theorem Es {l:List aI} {sc:Int} (h:Can l) (h6:l.length<=6) (h0:0<=sc) (h1:sc<=30):∃ c r,bl (o9 l sc)=c :: r/\Dg c:=by
 obtain⟨z1,z2⟩:=wE h h6 h0 h1;have hd:=yJ h h1;have hl:=bD (jG l sc);rcases oP h h6 h0 h1 with ⟨_,e⟩ | ⟨_,A,B,e,e2,_,hA⟩
 ·rw [e]
  cases hq:bl (jG l sc) with
  | nil=>rw [hq] at hl; simp only [List.length_nil] at hl; omega
  | cons c r=>exact⟨c,r,rfl,hd c (by rw [hq]; simp)⟩
 rw [e];cases A with
 | nil=>exact absurd rfl hA
 | cons c r=>exact⟨c,r++46 :: B,rfl,hd c (by rw [e2]; simp)⟩
theorem VZ {l:List aI} {sc:Int} (h:Can l) (h6:l.length<=6) (h0:0<=sc) (h1:sc<=30):(o9 l sc).size<=56:=by
 have a:=mG (jG l sc) sc;have b:=(wE h h6 h0 h1).2;exact Nat.le_trans a (by omega)
theorem aaa {l:List aI} {sc:Int} (h:Can l) (h6:l.length<=6) (h0:0<=sc) (h1:sc<=30) :
  (sc=0/\dL 46 (o9 l sc)=[(jG l sc,())])\/(0<sc/\∃ a b:ByteArray,dL 46 (o9 l sc)=[(a,()),(b,())]/\jG l sc=a++b/\(b.size:Int)=sc):=by
 have hd:=yJ h h1;have no:∀ x∈bl (jG l sc),x≠46:=fun x hx=>Er (hd x hx) (by decide)
 rcases oP h h6 h0 h1 with ⟨hs,e⟩ | ⟨hs,A,B,e,e2,hB,_⟩
 ·refine .inl ⟨hs,uX ?_ (by simp) fun x hx=>?_⟩
  ·rw [e]; rfl
  obtain rfl:x=(jG l sc,()):=by simpa using hx
  exact fun k=>no 46 k rfl
 refine .inr ⟨hs,RQ A,RQ B,uX ?_ (by simp) fun x hx=>?_,lM ?_,?_⟩
 ·rw [e]
  show _=bl (RQ A)++46 :: bl (RQ B)
  rw [rp,rp]
 ·rcases List.mem_cons.1 hx with rfl | hx
  ·show(46:UInt8) ∉ bl (RQ A)
   rw [rp];exact fun k=>no 46 (by rw [e2]; simp [k]) rfl
  obtain rfl:x=(RQ B,()):=by simpa using hx
  show(46:UInt8) ∉ bl (RQ B)
  rw [rp];exact fun k=>no 46 (by rw [e2]; simp [k]) rfl
 ·rw [bO,rp,rp]
  exact e2
 rw [RR B,hB]; omega
def sE (s:ByteArray) (l:List aI):Prop:=∃ k,bl s=List.replicate k 48++bl (dw l)
theorem sE.step {s:ByteArray} {l:List aI} (h:sE s l) (hc:Can l) (h1:1<s.size) (h2:(bl s).head?=some 48):sE (s.extract 1 s.size) l:=by
 obtain⟨k,e⟩:=h;cases k with
 | zero =>
  exfalso
  have e:bl s=bl (dw l):=by simpa using e
  obtain⟨hn,_⟩:=gU hc;have hl:=bD s;refine hn.2.2 ?_ ?_
  ·rw [<- e]; omega
  rw [<- e]; exact h2
 | succ k =>
  refine⟨k,?_⟩
  rw [RS,e,List.replicate_succ]
  rfl
theorem sE.stop {s:ByteArray} {l:List aI} (h:sE s l) (hc:Can l) (hs:¬ (1<s.size/\(bl s).head?=some 48)):s=dw l:=by
 obtain⟨k,e⟩:=h;obtain⟨hn,_⟩:=gU hc;have hl:=bD s;cases k with
 | zero=>exact lM (by simpa using e)
 | succ k =>
  exfalso
  refine hs ⟨?_,by rw [e,List.replicate_succ]; rfl⟩
  rw [<- hl,e,List.length_append,List.length_replicate];have:0<(bl (dw l)).length:=List.length_pos_iff.2 hn.1;omega
theorem sE.start {l:List aI} {sc:Int} (h1:sc<=30):sE (jG l sc) l:=GJ h1
def fD (l:List UInt8):List UInt8:=l.filter fun c=>c != 46 && c != 45
theorem qI (a b:List UInt8):fD (a++b)=fD a++fD b:=List.filter_append ..
theorem aab {l:List UInt8} (h:∀ c∈l,Dg c):fD l=l:=by
 unfold fD;refine List.filter_eq_self.2 fun c hc=>?_
 have a:c≠46:=Er (h c hc) (by decide);have b:c≠45:=Er (h c hc) (by decide);simp [a,b]
def Mj:List UInt8->Int->Int
 | [],x=>x
 | c :: r,x=>Mj r (if c=46 then (r.length:Int) else x)
theorem Qm:∀ {l:List UInt8} {x:Int},(∀ c∈l,c≠46)->Mj l x=x
 | [],_,_=>rfl
 | c :: r,x,h=>by
  rw [Mj,if_neg (h c (by simp))];exact Qm fun d hd=>h d (by simp [hd])
theorem aac {B:List UInt8} (hB:∀ c∈B,c≠46):∀ {A:List UInt8} {x:Int},(∀ c∈A,c≠46)->Mj (A++46 :: B) x=B.length
 | [],x,_=>by
  rw [List.nil_append,Mj,if_pos rfl];exact Qm hB
 | c :: r,x,h=>by
  rw [List.cons_append,Mj,if_neg (h c (by simp))];exact aac hB fun d hd=>h d (by simp [hd])
theorem RT {l:List aI} {sc:Int} (h:Can l) (h6:l.length<=6) (h0:0<=sc) (h1:sc<=30):fD (bl (o9 l sc))=bl (jG l sc)/\Mj (bl (o9 l sc)) 0=sc:=by
 have hd:=yJ h h1;rcases oP h h6 h0 h1 with ⟨hs,e⟩ | ⟨hs,A,B,e,e2,hB,_⟩
 ·rw [e]
  exact⟨aab hd,by rw [Qm fun c hc=>Er (hd c hc) (by decide)]; omega⟩
 rw [e2] at hd;rw [e,e2,qI];have hA':∀ c∈A,Dg c:=fun c hc=>hd c (by simp [hc])
 have hB':∀ c∈B,Dg c:=fun c hc=>hd c (by simp [hc])
 refine⟨?_,?_⟩
 ·rw [aab hA']
  show A++fD (46 :: B)=_
  have:fD (46 :: B)=fD B:=rfl;rw [this,aab hB']
 rw [aac (fun c hc=>Er (hB' c hc) (by decide)) fun c hc=>Er (hA' c hc) (by decide)];omega
theorem decT_fD {neg:Bool} {l:List aI} {sc:Int} (h:Can l) (h6:l.length<=6) (h0:0<=sc) (h1:sc<=30):fD (bl (dF neg l sc))=bl (jG l sc)/\Mj (bl (dF neg l sc)) 0=sc:=by
 cases neg with
 | false=>rw [uZ]; exact RT h h6 h0 h1
 | true =>
  rw [uY];exact RT h h6 h0 h1
abbrev rNs:Rp [.s] (ByteArray × Unit):=cr a8
theorem aad {sh:List Sc} {α:Type} {r:Rp sh α} {V:aa} {b n cap:Nat} {cs:List (aH sh)} {l:List α} {fps:List Nat} {post:List Value} {t:vn} (h:kS r V cs l fps) (hb:V b=some (cs.flatMap (aH.aD sh)++post,t)) (hn:n=l.length) (hc:l.length<=cap) (hl:l.length<=9223372036854775807) :
  LR r V ⟨some ⟨b,0,none⟩,n,cap⟩ l (b :: fps):=by
 subst hn;exact⟨rfl,hc,hl,.inr ⟨b,[],post,t,fps,cs,rfl,by simpa using hb,h,rfl⟩⟩
theorem Qn {V:aa}:∀ {ns:List ByteArray},(∀ n∈ns,n.size<=9223372036854775807)->kS rNs V (ns.map fun n=>(n,())) (ns.map fun n=>(n,())) []
 | [],_=>rfl
 | n :: ns,h=>⟨[],[],rfl,⟨⟨rfl,h n (by simp)⟩,rfl⟩,Qn fun m hm=>h m (by simp [hm])⟩
theorem GK:∀ ns:List ByteArray,(ns.map fun n=>((n,()):aH [.s])).flatMap (aH.aD [.s])=ns.map Value.string
 | []=>rfl
 | n :: ns=>by
  rw [List.map_cons,List.flatMap_cons,GK ns]
  rfl
theorem K3 {V:aa}:∀ l:List aI,kS rI V l l []
 | []=>rfl
 | _ :: l=>⟨[],[],rfl,⟨rfl,rfl⟩,K3 l⟩
theorem K4:∀ l:List aI,l.flatMap (aH.aD [.i .i64])=l.map ag
 | []=>rfl
 | _ :: l=>by
  rw [List.flatMap_cons,K4 l]
  rfl
theorem K5 {V:aa} {b cap:Nat} {l:List aI} {post:List Value} {t:vn} (h:V b=some (l.map ag++post,t)) (hc:l.length<=cap) (hl:l.length<=9223372036854775807):LR rI V ⟨some ⟨b,0,none⟩,l.length,cap⟩ l [b] :=
 aad (sh:=[.i .i64]) (r:=rI) (cs:=l) (fps:=[]) (K3 l) (by rw [K4]; exact h) rfl hc hl
abbrev bv (l:List UInt8):List Value:=l.map fun b=>Value.int .u8 b.toNat
theorem Qo {P:Program} {V:aa} {src dst e:TypeId} {s:ByteArray} {K:aa->Value->Prop} (hs:P.underlying src=some .string) (hd:P.underlying dst=some (.slice e)) (he:P.underlying e=some (.int .u8))
  (h:∀ b cap spare,V b=none->s.size<=cap->K (aB V b (bv (bl s)++spare,(e,(cap,cap+1)))) (.slice (some ⟨b,0,none⟩) s.size cap)):sV P V (sU.cv src dst (.string s)).ye K:=by
 intro w hw;have hc:s.size<=Go.grownCap w s.size 0 e:=Go.grownCap_ge w s.size 0 e;refine⟨_,_,aB V w.heap.size (bv (bl s)++List.replicate (Go.grownCap w s.size 0 e-s.size) (.int .u8 0),(e,(Go.grownCap w s.size 0 e,Go.grownCap w s.size 0 e+1))),Go.Lib.run_convert_string_bytes w src dst e s hs hd he,⟨rfl,rfl,rfl,by rw [Go.Lib.bytesWorld_size]; omega,fun b hb _=>Go.Lib.bytesWorld_at_old w e s b hb,fun b hb hn=>?_⟩,fun b c u hb=>?_,h _ _ _ hw.fI hc⟩
 ·rw [bh (by omega)]; exact hn
 by_cases hbe:b=w.heap.size
 ·subst hbe
  rw [av] at hb;simp only [Option.some.injEq,Prod.mk.injEq] at hb;obtain⟨rfl,rfl⟩:=hb;rw [Go.Lib.bytesWorld_at_new];have e1:Go.Lib.bytesCells w e s=(bv (bl s)++List.replicate (Go.grownCap w s.size 0 e-s.size) (Value.int .u8 0)).toArray:=by
   unfold Go.Lib.bytesCells;simp [bv,bl]
  have e2:(Go.Lib.bytesCells w e s).size=Go.grownCap w s.size 0 e:=by
   unfold Go.Lib.bytesCells;have:s.data.size=s.size:=rfl;simp only [Array.size_append,Array.size_map,Array.size_replicate];omega
  have e3:fA (bv (bl s)++List.replicate (Go.grownCap w s.size 0 e-s.size) (Value.int .u8 0))=true:=by
   refine List.all_eq_true.2 fun x hx=>?_
   rcases List.mem_append.1 hx with k | k
   ·obtain⟨y,_,rfl⟩:=List.mem_map.1 k
    rfl
   rw [List.eq_of_mem_replicate k]
  rw [e2,e1,wQ e3]
 rw [bh hbe] at hb;have:=hw b c u hb;rw [Go.Lib.bytesWorld_at_old w e s b (Array.getElem?_eq_some_iff.1 this).1]; exact this
theorem lN {s:ByteArray} {i:Nat} (h:i<(bl s).length):de s i=((bl s)[i].toNat:Int):=by
 show(((bl s).getD i 0).toNat:Int)=_
 rw [List.getD_eq_getElem?_getD,List.getElem?_eq_getElem h]; rfl
theorem sF {s:ByteArray}:(∀ i,i<s.size->kj (de s i))↔∀ c∈bl s,Dg c:=by
 constructor
 ·intro h c hc
  obtain⟨i,hi,rfl⟩:=List.getElem_of_mem hc;have:=h i (by rw [<- bD]; exact hi)
  rw [lN hi] at this;unfold kj at this;show 48<=_/\_<=57
  omega
 intro h i hi;have qp:i<(bl s).length:=by rw [bD]; exact hi
 have:=h _ (List.getElem_mem qp);rw [lN qp];unfold kj;omega
abbrev aae (V:aa) (s:ByteArray):aa->Value->Prop:=fun V' r=>V'=V/\∃ e,r=.bool e/\(e=true↔(∀ c∈bl s,Dg c)/\0<s.size)
theorem K6 (V:aa) (s:ByteArray) (hs:s.size<=9223372036854775807):ae prog V 197 [.string s] (aae V s):=by
 refine aM (Jd _) fun _=>?_
 simp only [xD,T.wp];refine(wg V s 48 57 48 57 hs).mono ?_
 rintro V1 _ ⟨rfl,e,rfl,he⟩;refine⟨nofun,e,rfl,rfl,e,rfl,he.trans (and_congr_left fun _=>?_)⟩
 rw [<- sF];exact forall_congr' fun i=>⟨fun h hi=>(h hi).elim id id,fun h hi=>.inl (h hi)⟩
theorem K7 (V:aa) (s:ByteArray) (hs:s.size<=9223372036854775807):ae prog V 366 [.string s] (aae V s):=by
 refine aM (Jz _) fun _=>?_
 simp only [xN,T.wp];refine⟨fun y V'=>V'=V/\∃ i:Nat,y.1=(i:Int)/\i<=s.size/\∀ j,j<i->kj (de s j),fun y _=>((s.size:Int)-(y.1:Int)).toNat,⟨((0:Int),()),rfl,rfl,0,rfl,Nat.zero_le _,fun j h=>by omega⟩,?_⟩
 rintro⟨(i:Int),u⟩ V' ⟨rfl,k,hk,Ze,bC⟩;replace hk:i=(k:Int):=hk;subst hk;refine⟨fun aN=>?_,fun cg=>?_⟩
 ·have Ka:k<s.size:=by
   have:(k:Int)<(s.size:Int):=bq aN;omega
  have e0:(k:Int).toNat=k:=by omega
  dsimp only;rw [e0];refine⟨⟨(by omega:(0:Int)<=(k:Int)),(by omega:(k:Int)<(s.size:Int))⟩,(A4 V' _).mono ?_⟩
  rintro V1 _ ⟨rfl,e,rfl,he⟩;refine⟨nofun,e,rfl,fun hf=>⟨rfl,false,rfl,⟨(fun h=>by cases h),fun h=>?_⟩⟩,fun ht=>⟨_,rfl,(((k+1:Nat):Int),()),by rw [kD Ka hs]; rfl,⟨rfl,k+1,rfl,Ka,fun j hj=>?_⟩,?_⟩⟩
  ·have:=he.2 (sF.2 h.1 k Ka)
   simp [this] at hf
  ·by_cases ej:j=k
   ·subst ej; exact he.1 (by simpa using ht)
   exact bC j (by omega)
  show((s.size:Int)-((k+1:Nat):Int)).toNat<((s.size:Int)-(k:Int)).toNat
  omega
 have Ka:k=s.size:=by
  have:¬ (k:Int)<(s.size:Int):=bU cg;omega
 subst Ka;refine⟨rfl,_,rfl,?_⟩
 have h1:∀ c∈bl s,Dg c:=sF.1 bC;have h2:(s.toList == (⟨#[]⟩:ByteArray).toList)=decide (s=⟨#[]⟩):=by
  cases hq:(s.toList == (⟨#[]⟩:ByteArray).toList) with
  | true=>rw [decide_eq_true (aR.1 hq)]
  | false=>exact(decide_eq_false fun e=>by rw [aR.2 e] at hq; cases hq).symm
 show(!(s.toList == (⟨#[]⟩:ByteArray).toList))=true↔_
 rw [h2];have h3:s=⟨#[]⟩↔s.size=0:=⟨fun e=>by rw [e]; rfl,fun e=>lM (by
  rw [<- bD] at e;rw [List.eq_nil_of_length_eq_zero e])⟩
 simp only [Bool.not_eq_true',decide_eq_false_iff_not,h3];exact⟨fun h=>⟨h1,by omega⟩,fun h=>by omega⟩
def RU (s:ByteArray) (o:List aI) (ok:Bool):Prop:=(ok=true/\hZ o/\dw o=s)\/(ok=false/\o=[]/\¬ ∃ q,hZ q/\dw q=s)
abbrev Et (V:aa) (s:ByteArray):aa->Value->Prop:=fun V' r=>V.le V'/\∃ t o f ok,r=.tuple #[qL t,.bool ok]/\LR rI V' t o f/\cQ V V' f/\RU s o ok
theorem yK {V:aa}:LR rI V ⟨none,0,0⟩ [] []:=⟨rfl,Nat.le_refl _,by simp,.inl ⟨rfl,fun _=>rfl,rfl⟩⟩
theorem Eu {V V':aa} {s:ByteArray} (le:V.le V') (h:¬ En s):Et V s V' (packed [.slice none 0 0,.bool false]) :=
 ⟨le,⟨none,0,0⟩,[],[],false,rfl,yK,cQ.nil,.inr ⟨rfl,rfl,fun⟨_,h1,h2⟩=>Z9 h h1.1 h1.2 h2⟩⟩
theorem Qp {l:List UInt8} {sp:List Value} {i:Nat} (h:i<l.length):fj (bv l++sp) i 1=some [Value.int .u8 (l[i].toNat:Int)]:=by
 have hb:i<(bv l).length:=by simpa using h
 have hc:i+1<=(bv l++sp).length:=by
  rw [List.length_append]; omega
 unfold fj;rw [if_pos hc,List.drop_append_of_le_length (Nat.le_of_lt hb),List.drop_eq_getElem_cons hb];simp
theorem RV {l:List UInt8} {i:Nat} (h:i<l.length):dv (l.take (i+1))=dv (l.take i)*10+(l[i].toNat-48):=by
 rw [List.take_succ_eq_append_getElem h,nQ];show dv (l.take i)*10 ^ 1+dv [l[i]]=_
 rw [jR];show _*10 ^ 1+((l[i].toNat-48)*10 ^ 0+0)=_
 omega
def ks (s:ByteArray) (a:List aI) (E:Int):Prop:=∃ e:Nat,E.toNat=e/\-9<=E/\e<=s.size/\bK a/\af a=(dv ((bl s).drop e):Int)/\9*a.length+e<=s.size+8/\(0<e->e+9*a.length=s.size)
theorem ks.start {s:ByteArray}:ks s [] (s.size:Int):=⟨s.size,by omega,by omega,Nat.le_refl _,eU,by rw [List.drop_of_length_le (by rw [bD]; omega)]; rfl,by simp,fun _=>rfl⟩
theorem ks.step {s:ByteArray} {a:List aI} {E:Int} (hd:∀ c∈bl s,Dg c) (h:ks s a E) (hE:0<E) {j:Nat} (hj:(j:Int)=if E-9 > 0 then E-9 else 0):ks s (a++[((dv (((bl s).take E.toNat).drop j):Int),())]) (E-9):=by
 obtain⟨e,h1,h2,h3,h4,h5,h6,h7⟩:=h;subst h1;have hl:=bD s;have hj1:j<=E.toNat:=by split at hj <;> omega
 have hj9:E.toNat-j<=9:=by split at hj <;> omega
 have hx:((bl s).take E.toNat).drop j=((bl s).drop j).take (E.toNat-j):=by rw [List.take_drop]; congr 2; omega
 obtain⟨g1,g2⟩:=rd_step hd (j:=j) (by rw [h7 (by omega)]; exact hl.symm) h4 h5 hj1 hj9
 rw [hx];have h8:=h7 (by omega);refine⟨j,by split at hj <;> omega,by omega,by omega,g1,g2,?_,fun hp=>?_⟩
 ·rw [List.length_append,List.length_singleton]
  split at hj <;> omega
 rw [List.length_append,List.length_singleton];split at hj <;> omega
theorem ks.stop {s:ByteArray} {a:List aI} {E:Int} (h:ks s a E) (hE:¬ 0<E):bK a/\af a=(dv (bl s):Int)/\9*a.length<=s.size+8:=by
 obtain⟨e,h1,h2,h3,h4,h5,h6,h7⟩:=h;have:e=0:=by omega
 subst this;exact⟨h4,h5,by omega⟩
theorem ks.len {s:ByteArray} {a:List aI} {E:Int} (h:ks s a E):9*a.length<=s.size+8/\E<=s.size:=by
 obtain⟨e,h1,h2,h3,h4,h5,h6,h7⟩:=h;exact⟨by omega,by omega⟩
noncomputable def RW (x0:ByteArray):T :=
 .lp [.a 3,.o (.o (.i .i64))] [.a 3 ((0:Nat)) [],.v (.int .i64 ((x0.size:Int)))] fun y2 =>
 .br (decide (y2.2.fst > (0:Int))) (
  .rq (((0:Int)<=if i64.wrap (y2.2.fst-(9:Int)) > (0:Int) then i64.wrap (y2.2.fst-(9:Int)) else (0:Int))/\(if i64.wrap (y2.2.fst-(9:Int)) > (0:Int) then i64.wrap (y2.2.fst-(9:Int)) else (0:Int))<=y2.2.fst/\y2.2.fst<=(x0.size:Int)) <|
  .mo (.cv 9 162 (.string (x0.extract (if i64.wrap (y2.2.fst-(9:Int)) > (0:Int) then i64.wrap (y2.2.fst-(9:Int)) else (0:Int)).toNat (Int.toNat y2.2.fst)))) (.v (.o (.l))) fun y3 =>
  .lp [.o (.o (.i .i64)),.o (.o (.i .i64))] [.v (.int .i64 ((0:Int))),.v (.int .i64 ((0:Int)))] fun y4 =>
  .br (decide (y4.2.fst<(y3.n:Int))) (
   .el (y3.1) (y3.n) (y4.2.fst) fun y5 =>
   .ld false (y5.add (Int.toNat y4.2.fst*(1:Nat))) (.o (.i .u8)) fun y6 =>
   .nx 1 [.v (.int .i64 (i64.wrap (i64.wrap ((10:Int)*y4.fst)+i64.wrap (Go.IntKind.u8.wrap (y6-(48:Int)))))),.v (.int .i64 (i64.wrap (y4.2.fst+(1:Int))))]) <|
  .rq ([Go.Value.int Go.IntKind.i64 y4.fst].length=(1:Nat)*(1:Nat)) <|
  .rq (one [Go.Value.int Go.IntKind.i64 y4.fst]=true/\(y2.1.fst+(1:Nat))*(8:Nat)<=(140737488355328:Nat)/\y2.1.fst+(1:Nat)<=(9223372036854775807:Nat)) <|
  .nx 0 [.a 3 (y2.1.fst+(1:Nat)) (y2.1.2++[Go.Value.int Go.IntKind.i64 y4.fst]),.v (.int .i64 (i64.wrap (y2.2.fst-(9:Int))))]) <|
 .fz (y2.1.fst) (y2.1.2) 3 fun b3 c3 =>
 .call false 270 [.slice (some { block:=b3,off:=(0:Nat):Go.Addr }) (y2.1.fst) (c3)] (.v (.o (.l))) fun y4 =>
 .ret [qL (y4),.bool (true)]
theorem K8 {V:aa} {s:ByteArray} (hs:En s) {V0:aa} (iA:V0.le V):(RW s).wp prog (fun V' vs=>Et V0 s V' (packed vs)) V V []:=by
 simp only [RW,T.wp];have BG:=hs.2;have hd:=hs.1.2.1;refine⟨fun y V'=>V.le V'/\∃ a:List aI,y.1.1=a.length/\y.1.2=a.map ag/\ks s a (y.2.1:Int),fun y _=>((y.2.1:Int)+9).toNat,
  ⟨((0,[]),(s.size:Int),()),rfl,aa.le.refl _,[],rfl,rfl,ks.start⟩,?_⟩
 rintro⟨⟨(m:Nat),(ys:List Value)⟩,(E:Int),u⟩ V1 ⟨aF,a,hm,hy,hi⟩;replace hm:m=a.length:=hm;replace hy:ys=a.map ag:=hy;replace hi:ks s a E:=hi;subst hm hy;obtain⟨hlen,hEs⟩:=hi.len;refine⟨fun DN=>?_,fun hle=>?_⟩
 ·have hE:0<E:=bq DN
  have ew:i64.wrap (E-9)=E-9:=wrap_i64 (by omega);dsimp only;rw [ew];obtain⟨j,hj⟩:∃ j:Nat,(j:Int)=if E-9 > 0 then E-9 else 0:=⟨(if E-9 > 0 then E-9 else 0).toNat,by split <;> omega⟩
  rw [<- hj,Int.toNat_natCast];have hjE:(j:Int)<=E:=by split at hj <;> omega
  refine⟨⟨by omega,hjE,hEs⟩,Qo (by kernel_rfl) (by kernel_rfl) (e:=5) (by kernel_rfl) fun b cap sp hb dd=>?_⟩
  have hX:bl (s.extract j E.toNat)=((bl s).take E.toNat).drop j:=ib s j E.toNat;have aaf:=hi.step hd hE hj;have hXl:(((bl s).take E.toNat).drop j).length=(s.extract j E.toNat).size:=by rw [<- hX,bD]
  have hX9:(((bl s).take E.toNat).drop j).length<=9:=by
   rw [List.length_drop,List.length_take];split at hj <;> omega
  have hXd:∀ c∈((bl s).take E.toNat).drop j,Dg c:=fun c hc=>hd c (List.mem_of_mem_take (List.mem_of_mem_drop hc))
  rw [<- hXl];rw [hX]
  generalize ((bl s).take E.toNat).drop j=X at *
  refine⟨⟨some ⟨b,0,none⟩,X.length,cap⟩,rfl,?_⟩
  have leb:=aG (x:=(bv X++sp,((5:TypeId),((cap,cap+1):Nat × Nat)))) hb;have uy:aB V1 b (bv X++sp,(5,(cap,cap+1))) b=some (bv X++sp,(5,(cap,cap+1))):=av
  revert leb uy
  generalize aB V1 b (bv X++sp,(5,(cap,cap+1)))=V2
  intro leb uy;refine⟨fun y V'=>V'=V2/\∃ i:Nat,(y.2.1:Int)=(i:Int)/\i<=X.length/\(y.1:Int)=(dv (X.take i):Int),fun y _=>((X.length:Int)-(y.2.1:Int)).toNat,
   ⟨((0:Int),(0:Int),()),rfl,rfl,0,rfl,Nat.zero_le _,rfl⟩,?_⟩
  rintro⟨(z:Int),(q:Int),u⟩ V3 ⟨rfl,i,hq,hiX,hz⟩;replace hq:q=(i:Int):=hq;replace hz:z=(dv (X.take i):Int):=hz;subst hq hz;have hbd:dv (X.take i)<1000000000:=by
   have:=GH hXd 0 i (by omega)
   rwa [List.drop_zero] at this
  refine⟨fun aN=>?_,fun cg=>?_⟩
  ·have qp:i<X.length:=by
    have:(i:Int)<(X.length:Int):=bq aN;omega
   have hdg:=hXd _ (List.getElem_mem qp);dsimp only;rw [Int.toNat_natCast,Nat.mul_one];refine⟨⟨b,0,none⟩,rfl,(by omega:(0:Int)<=(i:Int)),(by omega:(i:Int)<(X.length:Int)),((X[i].toNat:Nat):Int),?_,_,rfl,(((dv (X.take (i+1)):Nat):Int),((i+1:Nat):Int),()),?_,⟨rfl,i+1,rfl,qp,rfl⟩,?_⟩
   ·simp only [ah,aQ,uy,Nat.zero_add,Bool.false_eq_true,if_false]
    exact Qp qp
   ·have hsn:=RV qp
    have e1:IntKind.u8.wrap (((X[i].toNat:Nat):Int)-48)=(X[i].toNat:Int)-48:=by
     show(((X[i].toNat:Nat):Int)-48) % 2 ^ 8=_
     exact Int.emod_eq_of_lt (by omega) (by omega)
    rw [e1,wrap_i64 (n:=10*((dv (X.take i):Nat):Int)) (by omega),wrap_i64 (n:=((X[i].toNat:Nat):Int)-48) (by omega),wrap_i64 (by omega),kD qp (by omega),hsn];have e2:10*((dv (X.take i):Nat):Int)+(((X[i].toNat:Nat):Int)-48)=((dv (X.take i)*10+(X[i].toNat-48):Nat):Int):=by omega
    rw [e2]; rfl
   show((X.length:Int)-((i+1:Nat):Int)).toNat<((X.length:Int)-(i:Int)).toNat
   omega
  have qp:i=X.length:=by
   have:¬ (i:Int)<(X.length:Int):=bU cg;omega
  subst qp;rw [List.take_length];refine⟨rfl,⟨rfl,(by omega:(a.length+1)*8<=140737488355328),(by omega:a.length+1<=9223372036854775807)⟩,_,rfl,((a.length+1,(a++[(((dv X:Nat):Int),())]).map ag),E-9,()),by simp [cH.nf,mP.lv,dx.val,Sc.val,ag],⟨aF.trans leb,a++[(((dv X:Nat):Int),())],by simp,rfl,aaf⟩,?_⟩
  show(E-9+9).toNat<(E+9).toNat
  omega
 have hE:¬ 0<E:=bU hle;obtain⟨k1,k2,k3⟩:=hi.stop hE;obtain⟨t1,t2,t3⟩:=Eo hs k1 k2 k3;intro b3 c3 sp im yi _;have bS:=aG (x:=(a.map ag++sp,((3:TypeId),((0,0):Nat × Nat)))) im;have L3:LR rI (aB V1 b3 (a.map ag++sp,(3,(0,0)))) ⟨some ⟨b3,0,none⟩,a.length,c3⟩ a [b3]:=K5 av yi (by omega);refine(FU _ ⟨some ⟨b3,0,none⟩,a.length,c3⟩ a [b3] L3).mono ?_
 rintro V4 _ ⟨rfl,s',rfl,L4⟩;have l3:=iA.trans (aF.trans bS);refine⟨nofun,s',rfl,l3,s',db a,[b3],true,rfl,L4,⟨by simp,fun y hy=>?_,fun y hy=>?_⟩,.inl ⟨rfl,⟨t1,t2⟩,t3⟩⟩
 ·obtain rfl:y=b3:=by simpa using hy
  exact cL (iA.trans aF) im
 obtain rfl:y=b3:=by simpa using hy
 exact⟨_,_,av⟩
theorem fP {s:ByteArray}:En s↔((∀ c∈bl s,Dg c)/\0<s.size)/\¬ (s.size:Int) > 450/\¬ (de s 0=48/\(s.size:Int) > 1):=by
 have hl:=bD s;have hh:∀ h:0<s.size,(bl s).head?=some 48↔de s 0=48:=fun h=>by
  have h0:0<(bl s).length:=by omega
  have hg:(bl s).head?=some (bl s)[0]:=by rw [List.head?_eq_getElem?,List.getElem?_eq_getElem h0]
  rw [lN h0,hg];simp only [Option.some.injEq];constructor
  ·intro e
   rw [e]; rfl
  intro e;apply UInt8.toNat_inj.1
  show(bl s)[0].toNat=48
  omega
 constructor
 ·rintro⟨⟨h1,h2,h3⟩,h4⟩
  have hp:0<s.size:=by
   rw [<- hl]; exact List.length_pos_iff.2 h1
  exact⟨⟨h2,hp⟩,by omega,fun⟨k1,k2⟩=>h3 (by omega) ((hh hp).2 k1)⟩
 rintro⟨⟨h1,h2⟩,h3,h4⟩;exact⟨⟨fun e=>by rw [e] at hl; simp at hl; omega,h1,fun k e=>h4 ⟨(hh h2).1 e,by omega⟩⟩,by omega⟩
theorem Qq (V:aa) (s:ByteArray) (hs:s.size<=9223372036854775807):ae prog V 350 [.string s] (Et V s):=by
 refine aM (O9 _) fun _=>?_
 unfold AK
 change ae _ _ _ _ (fun V' r=>_/\∃ y,_/\(_->_)/\(_->(_->_)/\(_->_/\(_->(_->_)/\(_->T.wp _ _ (RW s) _ _ _))/\(_->T.wp _ _ (RW s) _ _ _))))
 refine(K7 V s hs).mono ?_
 rintro _ _ ⟨rfl,e,rfl,he⟩;refine⟨nofun,e,rfl,fun hf=>?_,fun ht=>⟨fun BG=>?_,fun BG=>⟨⟨by omega,?_⟩,fun Cw=>⟨fun h1=>?_,fun h1=>?_⟩,fun Cw=>?_⟩⟩⟩
 ·exact Eu (aa.le.refl _) fun k=>by
   have:=he.2 (fP.1 k).1;rw [this] at hf; cases hf
 ·exact Eu (aa.le.refl _) fun k=>(fP.1 k).2.1 (bq BG)
 all_goals
  have hd:=he.1 (by simpa using ht);have h2:¬ (s.size:Int) > 450:=bU BG
 ·omega
 ·exact Eu (aa.le.refl _) fun k=>(fP.1 k).2.2 ⟨by simpa using Cw,bq h1⟩
 ·exact K8 (fP.2 ⟨hd,h2,fun k=>absurd k.2 (bU h1)⟩) (aa.le.refl _)
 exact K8 (fP.2 ⟨hd,h2,fun k=>by
  have:de s (Int.toNat 0)=48:=k.1;rw [this] at Cw; cases Cw⟩) (aa.le.refl _)
noncomputable def K9 (x0:ByteArray) (n:Nat) (ys:List Value) (E:Int) (j:Int):T :=
 .lp [.o (.o (.i .i64)),.o (.o (.i .i64))] [.v (.int .i64 ((0:Int))),.v (.int .i64 j)] fun y3 =>
 .br (decide (y3.2.fst<E)) (
  .rq ((0:Int)<=y3.2.fst/\y3.2.fst<(x0.size:Int)) <|
  .nx 1 [.v (.int .i64 (i64.wrap (i64.wrap (i64.wrap (y3.fst*(10:Int))+i64.wrap (de x0 (Int.toNat y3.2.fst)))-(48:Int)))),.v (.int .i64 (i64.wrap (y3.2.fst+(1:Int))))]) <|
 .rq ([Go.Value.int Go.IntKind.i64 y3.fst].length=(1:Nat)*(1:Nat)) <|
 .rq (one [Go.Value.int Go.IntKind.i64 y3.fst]=true/\(n+(1:Nat))*(8:Nat)<=(140737488355328:Nat)/\n+(1:Nat)<=(9223372036854775807:Nat)) <|
 .nx 0 [.a 3 (n+(1:Nat)) (ys++[Go.Value.int Go.IntKind.i64 y3.fst]),.v (.int .i64 (i64.wrap (E-(9:Int))))]
theorem aag {K:aa->List Value->Prop} {V V0:aa} {s:ByteArray} (hd:∀ c∈bl s,Dg c) {n j:Nat} {ys:List Value} {E:Int} (hj:(j:Int)<=E) (hj9:E-j<=9) (hEs:E<=s.size) (BG:s.size<=450) (hn:n<=100) (N:List LV->aa->Prop)
  (hN:N [.a 3 (n+1) (ys++[Value.int .i64 ((dv (((bl s).take E.toNat).drop j):Nat):Int)]),.v (.int .i64 (i64.wrap (E-(9:Int))))] V):(K9 s n ys E (j:Int)).wp prog K V V0 [N]:=by
 simp only [K9,T.wp];have hl:=bD s;have hX9:(((bl s).take E.toNat).drop j).length=E.toNat-j:=by
  rw [List.length_drop,List.length_take];omega
 have hXd:∀ c∈((bl s).take E.toNat).drop j,Dg c:=fun c hc=>hd c (List.mem_of_mem_take (List.mem_of_mem_drop hc))
 have hXg:∀ (i:Nat) (h:i<(((bl s).take E.toNat).drop j).length) (h2:j+i<(bl s).length),(((bl s).take E.toNat).drop j)[i]=(bl s)[j+i]:=fun i h h2=>by
  rw [List.getElem_drop,List.getElem_take]
 generalize ((bl s).take E.toNat).drop j=X at *
 refine⟨fun y V'=>V'=V/\∃ i:Nat,(y.2.1:Int)=((j+i:Nat):Int)/\i<=X.length/\(y.1:Int)=(dv (X.take i):Int),fun y _=>(E-(y.2.1:Int)).toNat,
  ⟨((0:Int),(j:Int),()),rfl,rfl,0,rfl,Nat.zero_le _,rfl⟩,?_⟩
 rintro⟨(z:Int),(q:Int),u⟩ V3 ⟨rfl,i,hq,hiX,hz⟩;replace hq:q=((j+i:Nat):Int):=hq;replace hz:z=(dv (X.take i):Int):=hz;subst hq hz;have hbd:dv (X.take i)<1000000000:=by
  have:=GH hXd 0 i (by omega)
  rwa [List.drop_zero] at this
 refine⟨fun aN=>?_,fun cg=>?_⟩
 ·have qp:i<X.length:=by
   have:((j+i:Nat):Int)<E:=bq aN;omega
  have hdg:=hXd _ (List.getElem_mem qp);have WM:j+i<(bl s).length:=by omega
  dsimp only;rw [Int.toNat_natCast,lN WM,<- hXg i qp WM];have hsn:=RV qp;refine⟨⟨(by omega:(0:Int)<=((j+i:Nat):Int)),(by omega:((j+i:Nat):Int)<(s.size:Int))⟩,_,rfl,(((dv (X.take (i+1)):Nat):Int),((j+(i+1):Nat):Int),()),?_,⟨rfl,i+1,rfl,qp,rfl⟩,?_⟩
  ·rw [wrap_i64 (n:=((dv (X.take i):Nat):Int)*10) (by omega),wrap_i64 (n:=((X[i].toNat:Nat):Int)) (by omega),wrap_i64 (n:=((dv (X.take i):Nat):Int)*10+((X[i].toNat:Nat):Int)) (by omega),wrap_i64 (n:=((dv (X.take i):Nat):Int)*10+((X[i].toNat:Nat):Int)-48) (by omega),wrap_i64 (n:=((j+i:Nat):Int)+1) (by omega),hsn]
   have e2:((dv (X.take i):Nat):Int)*10+((X[i].toNat:Nat):Int)-48=((dv (X.take i)*10+(X[i].toNat-48):Nat):Int):=by omega
   have e3:((j+i:Nat):Int)+1=((j+(i+1):Nat):Int):=by omega
   rw [e2,e3]; rfl
  show(E-((j+(i+1):Nat):Int)).toNat<(E-((j+i:Nat):Int)).toNat
  omega
 have qp:i=X.length:=by
  have:¬ ((j+i:Nat):Int)<E:=bU cg;omega
 subst qp;rw [List.take_length];exact⟨rfl,⟨rfl,(by omega:(n+1)*8<=140737488355328),(by omega:n+1<=9223372036854775807)⟩,_,rfl,hN⟩
noncomputable def RX (x0:ByteArray):T :=
 .lp [.a 3,.o (.o (.i .i64))] [.a 3 ((0:Nat)) [],.v (.int .i64 ((x0.size:Int)))] fun y2 =>
 .br (decide (y2.2.fst > (0:Int))) (
  .br (decide (i64.wrap (y2.2.fst-(9:Int))<(0:Int))) (K9 x0 y2.1.fst y2.1.2 y2.2.fst (0:Int)) <|
  K9 x0 y2.1.fst y2.1.2 y2.2.fst (i64.wrap (y2.2.fst-(9:Int)))) <|
 .fz (y2.1.fst) (y2.1.2) 3 fun b3 c3 =>
 .call false 245 [.slice (some { block:=b3,off:=(0:Nat):Go.Addr }) (y2.1.fst) (c3)] (.v (.o (.l))) fun y4 =>
 .ret [qL (y4),.bool (true)]
theorem La {V:aa} {s:ByteArray} (hs:En s) {V0:aa} (iA:V0.le V):(RX s).wp prog (fun V' vs=>Et V0 s V' (packed vs)) V V []:=by
 simp only [RX,T.wp];have BG:=hs.2;have hd:=hs.1.2.1;refine⟨fun y V'=>V.le V'/\∃ a:List aI,y.1.1=a.length/\y.1.2=a.map ag/\ks s a (y.2.1:Int),fun y _=>((y.2.1:Int)+9).toNat,
  ⟨((0,[]),(s.size:Int),()),rfl,aa.le.refl _,[],rfl,rfl,ks.start⟩,?_⟩
 rintro⟨⟨(m:Nat),(ys:List Value)⟩,(E:Int),u⟩ V1 ⟨aF,a,hm,hy,hi⟩;replace hm:m=a.length:=hm;replace hy:ys=a.map ag:=hy;replace hi:ks s a E:=hi;subst hm hy;obtain⟨hlen,hEs⟩:=hi.len;refine⟨fun DN=>?_,fun hle=>?_⟩
 ·have hE:0<E:=bq DN
  have ew:i64.wrap (E-9)=E-9:=wrap_i64 (by omega);have fin:∀ j:Nat,((j:Int)=if E-9 > 0 then E-9 else 0)->(K9 s a.length (a.map ag) E (j:Int)).wp prog (fun V' vs=>Et V0 s V' (packed vs)) V1 V1 ([]++[fun vs V'=>∃ y':cH [.a 3,.o (.o (.i .i64))],vs=cH.nf _ y'/\(V.le V'/\∃ a:List aI,y'.1.1=a.length/\y'.1.2=a.map ag/\ks s a (y'.2.1:Int))/\((y'.2.1:Int)+9).toNat<(E+9).toNat]):=by
   intro j hj;have hjE:(j:Int)<=E:=by split at hj <;> omega
   have hj9:E-j<=9:=by split at hj <;> omega
   have aaf:=hi.step hd hE hj;refine aag hd hjE hj9 hEs BG (by omega) _ ⟨((a.length+1,(a++[(((dv (((bl s).take E.toNat).drop j):Nat):Int),())]).map ag),E-9,()),by rw [ew]; simp [cH.nf,mP.lv,dx.val,Sc.val,ag],⟨aF,a++[(((dv (((bl s).take E.toNat).drop j):Nat):Int),())],by simp,rfl,aaf⟩,?_⟩
   show(E-9+9).toNat<(E+9).toNat
   omega
  refine⟨fun h9=>?_,fun h9=>?_⟩
  ·have h9':E-9<0:=by
    have:i64.wrap (E-9)<0:=bq h9
    rwa [ew] at this
   exact fin 0 (by rw [if_neg (by omega)]; rfl)
  have h9':¬ E-9<0:=by
   have:¬ i64.wrap (E-9)<0:=bU h9
   rwa [ew] at this
  dsimp only;rw [ew];obtain⟨j,hj⟩:∃ j:Nat,(j:Int)=E-9:=⟨(E-9).toNat,by omega⟩;rw [<- hj];exact fin j (by split <;> omega)
 have hE:¬ 0<E:=bU hle;obtain⟨k1,k2,k3⟩:=hi.stop hE;obtain⟨t1,t2,t3⟩:=Eo hs k1 k2 k3;intro b3 c3 sp im yi _;have bS:=aG (x:=(a.map ag++sp,((3:TypeId),((0,0):Nat × Nat)))) im;have L3:LR rI (aB V1 b3 (a.map ag++sp,(3,(0,0)))) ⟨some ⟨b3,0,none⟩,a.length,c3⟩ a [b3]:=K5 av yi (by omega);refine(hY _ ⟨some ⟨b3,0,none⟩,a.length,c3⟩ a [b3] L3).mono ?_
 rintro V4 _ ⟨rfl,s',rfl,_,L4⟩;have l3:=iA.trans (aF.trans bS);refine⟨nofun,s',rfl,l3,s',db a,[b3],true,rfl,L4,⟨by simp,fun y hy=>?_,fun y hy=>?_⟩,.inl ⟨rfl,⟨t1,t2⟩,t3⟩⟩
 ·obtain rfl:y=b3:=by simpa using hy
  exact cL (iA.trans aF) im
 obtain rfl:y=b3:=by simpa using hy
 exact⟨_,_,av⟩
theorem Qr (V:aa) (s:ByteArray) (hs:s.size<=9223372036854775807):ae prog V 248 [.string s] (Et V s):=by
 refine aM (OI _) fun _=>?_
 unfold Az
 change ae _ _ _ _ (fun V' r=>_/\∃ y,_/\(_->_)/\(_->(_->_)/\(_->(_->_/\(_->_)/\(_->T.wp _ _ (RX s) _ _ _))/\(_->T.wp _ _ (RX s) _ _ _))))
 refine(K6 V s hs).mono ?_
 rintro _ _ ⟨rfl,e,rfl,he⟩;refine⟨nofun,e,rfl,fun hf=>?_,fun ht=>⟨fun BG=>?_,fun BG=>⟨fun h1=>⟨⟨by omega,?_⟩,fun Cw=>?_,fun Cw=>?_⟩,fun h1=>?_⟩⟩⟩
 ·exact Eu (aa.le.refl _) fun k=>by
   have:=he.2 (fP.1 k).1;rw [this] at hf; cases hf
 ·exact Eu (aa.le.refl _) fun k=>(fP.1 k).2.1 (bq BG)
 all_goals
  have hd:=he.1 (by simpa using ht);have h2:¬ (s.size:Int) > 450:=bU BG
 ·omega
 ·exact Eu (aa.le.refl _) fun k=>(fP.1 k).2.2 ⟨by simpa using Cw,bq h1⟩
 ·exact La (fP.2 ⟨hd,h2,fun k=>by
   have:de s (Int.toNat 0)=48:=k.1;rw [this] at Cw; cases Cw⟩) (aa.le.refl _)
 exact La (fP.2 ⟨hd,h2,fun k=>absurd k.2 (bU h1)⟩) (aa.le.refl _)
def SgnT (s:ByteArray):Prop:=∃ r,bl s=45 :: r
theorem GL {s:ByteArray} (h:0<s.size):de s 0=45↔SgnT s:=by
 have hl:=bD s;have h0:0<(bl s).length:=by omega
 have hg:bl s=(bl s)[0] :: (bl s).tail:=by
  rw [List.getElem_zero];exact(List.cons_head_tail _).symm
 rw [lN h0];constructor
 ·intro e
  refine⟨(bl s).tail,?_⟩
  have:(bl s)[0]=45:=UInt8.toNat_inj.1 (by show(bl s)[0].toNat=45; omega)
  rw [this] at hg;exact hg
 rintro⟨r,hr⟩;have:(bl s)[0]=45:=by simp [hr]
 rw [this]; rfl
theorem wF {s:ByteArray}:(s.toList == (⟨#[]⟩:ByteArray).toList)=true↔s.size=0:=by
 constructor
 ·intro h
  rw [aR.1 h]; rfl
 intro h;refine aR.2 (lM ?_)
 rw [<- bD] at h;rw [List.eq_nil_of_length_eq_zero h]
theorem aah {V:aa} {b cap:Nat} {ns:List ByteArray} {post:List Value} {t:vn} (h:V b=some (ns.map Value.string++post,t)) (hz:∀ n∈ns,n.size<=9223372036854775807) (hc:ns.length<=cap) (hl:ns.length<=9223372036854775807) :
  LR bE V ⟨some ⟨b,0,none⟩,ns.length,cap⟩ (ns.map fun n=>(n,())) [b] :=
 aad (fps:=[]) (cs:=ns.map fun n=>(n,())) (Qn hz) (by rw [GK]; exact h) (by simp) (by simpa using hc) (by simpa using hl)
theorem RY {V V':aa} {b:Nat} {c:List Value} {u:TypeId} (h:V b=none) (k:V' b=some (c,(u,(0,0)))):cQ V V' [b] :=
 ⟨by simp,fun y hy=>by
  obtain rfl:y=b:=by simpa using hy
  exact h,fun y hy=>by
  obtain rfl:y=b:=by simpa using hy
  exact⟨_,_,k⟩⟩
abbrev u7 (V:aa) (c:UInt8) (s:ByteArray):aa->Value->Prop:=fun V' r=>V.le V'/\∃ t f,r=qL t/\LR bE V' t (dL c s) f/\cQ V V' f
def gu (c:UInt8) (s:ByteArray) (out:List ByteArray) (fr i:Nat):Prop:=fr<=i/\i<=s.size/\out.length<=i/\(∀ x∈out,x.size<=s.size)/\out.map bl++eL c (((bl s).take i).drop fr) ((bl s).drop i)=eL c [] (bl s)
theorem gu.start {c:UInt8} {s:ByteArray}:gu c s [] 0 0:=⟨Nat.le_refl _,Nat.zero_le _,Nat.le_refl _,(fun _ h=>by cases h),rfl⟩
theorem gu.hit {c:UInt8} {s:ByteArray} {out:List ByteArray} {fr i:Nat} (h:gu c s out fr i) (hi:i<(bl s).length) (hc:(bl s)[i]=c):gu c s (out++[s.extract fr i]) (i+1) (i+1):=by
 obtain⟨h1,h2,h3,h4,h5⟩:=h;have hl:=bD s;refine⟨Nat.le_refl _,by omega,by simp; omega,fun x hx=>?_,?_⟩
 ·rcases List.mem_append.1 hx with k | k
  ·exact h4 x k
  obtain rfl:x=s.extract fr i:=by simpa using k
  rw [ByteArray.size_extract]; omega
 rw [<- h5,List.drop_eq_getElem_cons hi,eL,if_pos hc,BF,List.map_append,List.append_assoc];show out.map bl++(bl (s.extract fr i) :: _)=_
 rw [ib]
 rfl
theorem gu.miss {c:UInt8} {s:ByteArray} {out:List ByteArray} {fr i:Nat} (h:gu c s out fr i) (hi:i<(bl s).length) (hc:(bl s)[i]≠c):gu c s out fr (i+1):=by
 obtain⟨h1,h2,h3,h4,h5⟩:=h;have hl:=bD s;refine⟨by omega,by omega,by omega,h4,?_⟩
 rw [<- h5,List.drop_eq_getElem_cons hi,eL,if_neg hc,qb hi h1]
theorem gu.stop {c:UInt8} {s:ByteArray} {out:List ByteArray} {fr:Nat} (h:gu c s out fr s.size):dL c s=(out++[s.extract fr s.size]).map fun n=>(n,()):=by
 obtain⟨h1,h2,h3,h4,h5⟩:=h;have hl:=bD s;unfold dL;rw [<- h5,show(bl s).drop s.size=[] from List.drop_of_length_le (by omega),eL,<- ib];have:out.map bl++[bl (s.extract fr s.size)]=(out++[s.extract fr s.size]).map bl:=by simp
 rw [this,List.map_map];refine List.map_congr_left fun x _=>?_
 show(RQ (bl x),())=(x,())
 rw [of_bl]
theorem cut_fin {V V':aa} {c:UInt8} {s:ByteArray} {out:List ByteArray} {fr:Nat} (hs:s.size<=1048576) (le:V.le V') (h:gu c s out fr s.size) {b cap:Nat} {sp:List Value} (hb:V' b=none) (hc:out.length+1<=cap) :
  u7 V c s (aB V' b ((out.map Value.string++[Value.string (s.extract fr s.size)])++sp,(9,(0,0)))) (packed [.slice (some ⟨b,0,none⟩) (out.length+1) cap]):=by
 have hx:∀ n∈out++[s.extract fr s.size],n.size<=9223372036854775807:=fun n hn=>by
  rcases List.mem_append.1 hn with k | k
  ·have:=h.2.2.2.1 n k; omega
  obtain rfl:n=s.extract fr s.size:=by simpa using k
  rw [ByteArray.size_extract]; omega
 have h3:=h.2.2.1;have e:(out.map Value.string++[Value.string (s.extract fr s.size)])=(out++[s.extract fr s.size]).map Value.string:=by simp
 have ll:=h.stop;rw [e];have L:=aah (V:=aB V' b ((out++[s.extract fr s.size]).map Value.string++sp,(9,(0,0)))) (b:=b) (cap:=cap) (post:=sp) (t:=(9,(0,0))) av hx (by simpa using hc) (by simp; omega)
 have en:(out++[s.extract fr s.size]).length=out.length+1:=by simp
 rw [en] at L;exact⟨le.trans (aG hb),_,[b],rfl,by rw [ll]; exact L,RY (cL le hb) av⟩
theorem Wa:prog.cellsOf 9=1:=by kernel_rfl
abbrev Lb (V:aa) (c:UInt8) (s:ByteArray):aa->Value->Prop:=fun V' r=>V.le V'/\∃ t f,r=qL t/\GR bE 9 V' t (dL c s) f/\cQ V V' f
theorem aai {V V':aa} {c:UInt8} {s:ByteArray} {out:List ByteArray} {fr:Nat} (hs:s.size<=1048576) (le:V.le V') (h:gu c s out fr s.size) {b cap:Nat} {sp:List Value} (hb:V' b=none) (hc:out.length+1<=cap) (hp:sp.length=(cap-(out.length+1))*prog.cellsOf 9) :
  Lb V c s (aB V' b ((out.map Value.string++[Value.string (s.extract fr s.size)])++sp,(9,(0,0)))) (packed [.slice (some ⟨b,0,none⟩) (out.length+1) cap]):=by
 have hx:∀ n∈out++[s.extract fr s.size],n.size<=9223372036854775807:=fun n hn=>by
  rcases List.mem_append.1 hn with k | k
  ·have:=h.2.2.2.1 n k; omega
  obtain rfl:n=s.extract fr s.size:=by simpa using k
  rw [ByteArray.size_extract]; omega
 have e:(out.map Value.string++[Value.string (s.extract fr s.size)])=(out++[s.extract fr s.size]).map Value.string:=by simp
 have ll:=h.stop;rw [e];refine⟨le.trans (aG hb),⟨some ⟨b,0,none⟩,out.length+1,cap⟩,[b],rfl,?_,RY (cL le hb) av⟩
 rw [ll];refine⟨by simp,hc,.inr ⟨b,[],_,sp,rfl,?_,by rw [hp,Wa]; rfl,Qn hx,rfl⟩⟩
 rw [av,GK]
theorem yL {a b:UInt8}:((a.toNat:Int) == (b.toNat:Int))=true↔a=b:=by
 constructor
 ·intro h
  have:(a.toNat:Int)=(b.toNat:Int):=by simpa using h
  exact UInt8.toNat_inj.1 (by omega)
 rintro rfl; simp
theorem Wb (V:aa) (s:ByteArray) (c:UInt8) (hs:s.size<=1048576):ae prog V 139 [.string s,.string ⟨#[c]⟩] (Lb V c s):=by
 refine aM (Yk _ _) fun _=>?_
 simp only [I1,T.wp];have hl:=bD s;refine⟨fun y V'=>V'=V/\∃ (out:List ByteArray) (fr i:Nat),y.1.1=out.length/\y.1.2=out.map Value.string/\(y.2.1:Int)=(fr:Int)/\(y.2.2.1:Int)=(i:Int)/\gu c s out fr i,fun y _=>((s.size:Int)-(y.2.2.1:Int)).toNat,
  ⟨((0,[]),(0:Int),(0:Int),()),rfl,rfl,[],0,0,rfl,rfl,rfl,rfl,gu.start⟩,?_⟩
 rintro⟨⟨(m:Nat),(ys:List Value)⟩,(q:Int),(i:Int),u⟩ V' ⟨rfl,out,fr,k,hm,hy,hq,hi,inv⟩;replace hm:m=out.length:=hm;replace hy:ys=out.map Value.string:=hy;replace hq:q=(fr:Int):=hq;replace hi:i=(k:Int):=hi;subst hm hy hq hi;obtain⟨i1,i2,i3,i4,_⟩:=inv;have inv:gu c s out fr k:=⟨i1,i2,i3,i4,by assumption⟩;refine⟨fun aN=>?_,fun cg=>?_⟩
 ·have hk:k<s.size:=by
   have:(k:Int)<(s.size:Int):=bq aN;omega
  have Ca:k<(bl s).length:=by omega
  have hw:i64.wrap ((k:Int)+1)=((k+1:Nat):Int):=by rw [wrap_i64 (by omega)]; omega
  have hmm:((s.size:Int)-((k+1:Nat):Int)).toNat<((s.size:Int)-(k:Int)).toNat:=by omega
  refine⟨fun y Ma=>Ma=V'/\y.1.1=out.length/\y.1.2=out.map Value.string/\(y.2.1:Int)=(fr:Int)/\((y.2.2.1:Int)=0\/((y.2.2.1:Int)=1/\(bl s)[k]≠c)),fun y _=>(1-(y.2.2.1:Int)).toNat,
   ⟨((out.length,out.map Value.string),(fr:Int),(0:Int),()),rfl,rfl,rfl,rfl,rfl,.inl rfl⟩,?_⟩
  rintro⟨⟨(m:Nat),(ys:List Value)⟩,(q:Int),(z:Int),u⟩ Ma ⟨rfl,hm,hy,hq,hz⟩;replace hm:m=out.length:=hm;replace hy:ys=out.map Value.string:=hy;replace hq:q=(fr:Int):=hq;replace hz:z=0\/(z=1/\(bl s)[k]≠c):=hz;subst hm hy hq;refine⟨fun SI=>?_,fun SI=>?_⟩
  ·have Mg:z=0:=by
    have:z<((1:Nat):Int):=bq SI;rcases hz with h | ⟨h,_⟩ <;> omega
   subst Mg;dsimp only;have ek:de s (k:Int).toNat=((bl s)[k].toNat:Int):=by rw [Int.toNat_natCast]; exact lN Ca
   have ec:de (⟨#[c]⟩:ByteArray) (Int.toNat (0:Int))=(c.toNat:Int):=rfl;rw [ek,ec];refine⟨⟨(by omega:(0:Int)<=(k:Int)),(by omega:(k:Int)<(s.size:Int))⟩,⟨by omega,(by decide:(0:Int)<((1:Nat):Int))⟩,fun heq=>?_,fun bR=>?_⟩
   ·have Ms:=yL.1 heq
    rw [Int.toNat_natCast,Int.toNat_natCast];refine⟨⟨(by omega:(0:Int)<=(fr:Int)),(by omega:(fr:Int)<=(k:Int)),(by omega:(k:Int)<=(s.size:Int))⟩,rfl,⟨rfl,(by omega:(out.length+1)*16<=140737488355328),(by omega:out.length+1<=9223372036854775807)⟩,_,rfl,((out.length+1,(out++[s.extract fr k]).map Value.string),((k+1:Nat):Int),((k+1:Nat):Int),()),?_,⟨rfl,out++[s.extract fr k],k+1,k+1,by simp,rfl,rfl,rfl,inv.hit Ca Ms⟩,hmm⟩
    rw [hw];simp [cH.nf,mP.lv,dx.val,Sc.val]
   have Ms:(bl s)[k]≠c:=fun e=>by rw [yL.2 e] at bR; cases bR
   refine⟨_,rfl,((out.length,out.map Value.string),(fr:Int),(1:Int),()),rfl,⟨rfl,rfl,rfl,rfl,.inr ⟨rfl,Ms⟩⟩,(by show(1-(1:Int)).toNat<(1-(0:Int)).toNat; decide)⟩
  have Mg:(bl s)[k]≠c:=by
   have:¬ z<((1:Nat):Int):=bU SI;rcases hz with h | ⟨_,h⟩
   ·omega
   exact h
  exact⟨_,rfl,((out.length,out.map Value.string),(fr:Int),((k+1:Nat):Int),()),by dsimp only; rw [hw]; rfl,⟨rfl,out,fr,k+1,rfl,rfl,rfl,rfl,inv.miss Ca Mg⟩,hmm⟩
 have hk:k=s.size:=by
  have:¬ (k:Int)<(s.size:Int):=bU cg;omega
 subst hk;dsimp only;rw [Int.toNat_natCast,Int.toNat_natCast];refine⟨⟨(by omega:(0:Int)<=(fr:Int)),(by omega:(fr:Int)<=(s.size:Int)),Int.le_refl _⟩,rfl,⟨rfl,(by omega:(out.length+1)*16<=140737488355328),(by omega:out.length+1<=9223372036854775807)⟩,fun b cap sp hb dd oV=>?_⟩
 exact aai hs (aa.le.refl _) inv hb dd oV
theorem aaj (V:aa) (s:ByteArray) (c:UInt8) (hs:s.size<=1048576):ae prog V 139 [.string s,.string ⟨#[c]⟩] (u7 V c s):=by
 refine(Wb V s c hs).mono ?_
 rintro V' r ⟨le,t,f,e,G,O⟩;exact⟨le,t,f,e,G.lr (by have:=Z' c s; omega),O⟩
theorem index_one (a c:UInt8):Go.Lib.indexByte (⟨#[c]⟩:ByteArray).data.toList a>=0↔a=c:=by
 show Go.Lib.indexByte [c] a>=0↔_
 unfold Go.Lib.indexByte
 by_cases h:c=a
 ·rw [if_pos (by simp [h])]; simp [h]
 rw [if_neg (by simp [h])];unfold Go.Lib.indexByte;simp;exact fun e=>h e.symm
theorem GM (V:aa) (s:ByteArray) (c:Int):ae prog V 271 [.string s,.int .u8 c] (fun V' r=>V'=V/\r=.int .i64 (Go.Lib.indexByte s.data.toList c.toNat.toUInt8)):=by
 refine ae.nO ⟨_,Tryz.func271,by kernel_rfl,by kernel_rfl⟩ fun w _=>?_
 refine(Tryz.strings_IndexByte s c w).mono ?_
 rintro e w' ⟨rfl,rfl⟩;exact⟨rfl,Below.refl _ _⟩
theorem Lc (V:aa) (s:ByteArray) (c:UInt8) (hs:s.size<=1048576):ae prog V 220 [.string s,.string ⟨#[c]⟩] (u7 V c s):=by
 refine aM (Yz _ _) fun _=>?_
 simp only [Jg,T.wp];have hl:=bD s;refine⟨fun y V'=>V'=V/\∃ (out:List ByteArray) (fr i:Nat),y.1.1=out.length/\y.1.2=out.map Value.string/\(y.2.1:Int)=(fr:Int)/\(y.2.2.1:Int)=(i:Int)/\gu c s out fr i,fun y _=>((s.size:Int)-(y.2.2.1:Int)).toNat,
  ⟨((0,[]),(0:Int),(0:Int),()),rfl,rfl,[],0,0,rfl,rfl,rfl,rfl,gu.start⟩,?_⟩
 rintro⟨⟨(m:Nat),(ys:List Value)⟩,(q:Int),(i:Int),u⟩ V' ⟨rfl,out,fr,k,hm,hy,hq,hi,inv⟩;replace hm:m=out.length:=hm;replace hy:ys=out.map Value.string:=hy;replace hq:q=(fr:Int):=hq;replace hi:i=(k:Int):=hi;subst hm hy hq hi;have i1:=inv.1;have i2:=inv.2.1;have i3:=inv.2.2.1;refine⟨fun aN=>?_,fun cg=>?_⟩
 ·have hk:k<s.size:=by
   have:(k:Int)<(s.size:Int):=bq aN;omega
  have Ca:k<(bl s).length:=by omega
  have hw:i64.wrap ((k:Int)+1)=((k+1:Nat):Int):=by rw [wrap_i64 (by omega)]; omega
  have hmm:((s.size:Int)-((k+1:Nat):Int)).toNat<((s.size:Int)-(k:Int)).toNat:=by omega
  have ek:de s (k:Int).toNat=((bl s)[k].toNat:Int):=by rw [Int.toNat_natCast]; exact lN Ca
  have eu:((bl s)[k].toNat:Int).toNat.toUInt8=(bl s)[k]:=by
   apply UInt8.toNat_inj.1
   rw [Int.toNat_natCast];show(UInt8.ofNat (bl s)[k].toNat).toNat=_
   simp
  dsimp only;rw [ek];refine⟨⟨(by omega:(0:Int)<=(k:Int)),(by omega:(k:Int)<(s.size:Int))⟩,(GM V' _ _).mono ?_⟩
  rintro V1 _ ⟨rfl,rfl⟩;rw [eu];refine⟨nofun,_,rfl,fun heq=>?_,fun bR=>?_⟩
  ·have Ms:=(index_one _ _).1 (bq heq)
   rw [Int.toNat_natCast,Int.toNat_natCast];refine⟨⟨(by omega:(0:Int)<=(fr:Int)),(by omega:(fr:Int)<=(k:Int)),(by omega:(k:Int)<=(s.size:Int))⟩,rfl,⟨rfl,(by omega:(out.length+1)*16<=140737488355328),(by omega:out.length+1<=9223372036854775807)⟩,_,rfl,((out.length+1,(out++[s.extract fr k]).map Value.string),((k+1:Nat):Int),((k+1:Nat):Int),()),?_,⟨rfl,out++[s.extract fr k],k+1,k+1,by simp,rfl,rfl,rfl,inv.hit Ca Ms⟩,hmm⟩
   rw [hw];simp [cH.nf,mP.lv,dx.val,Sc.val]
  have Ms:(bl s)[k]≠c:=fun e=>bU bR ((index_one _ _).2 e)
  exact⟨_,rfl,((out.length,out.map Value.string),(fr:Int),((k+1:Nat):Int),()),by rw [hw]; rfl,⟨rfl,out,fr,k+1,rfl,rfl,rfl,rfl,inv.miss Ca Ms⟩,hmm⟩
 have hk:k=s.size:=by
  have:¬ (k:Int)<(s.size:Int):=bU cg;omega
 subst hk;dsimp only;rw [Int.toNat_natCast,Int.toNat_natCast];refine⟨⟨(by omega:(0:Int)<=(fr:Int)),(by omega:(fr:Int)<=(s.size:Int)),Int.le_refl _⟩,rfl,⟨rfl,(by omega:(out.length+1)*16<=140737488355328),(by omega:out.length+1<=9223372036854775807)⟩,fun b cap sp hb dd _=>?_⟩
 exact cut_fin hs (aa.le.refl _) inv hb dd
theorem Qs (V:aa) (s:ByteArray) (hs:s.size<=1048576):ae prog V 135 [.string s] (u7 V 32 s):=by
 refine aM (fS_Cut _) fun _=>?_
 simp only [Yi,T.wp];refine(aaj V s 32 hs).mono ?_
 rintro V1 _ ⟨aF,t,f,rfl,L,O⟩;exact⟨nofun,t,rfl,aF,t,f,rfl,L,O⟩
theorem Ev {s:ByteArray} {o q:List aI} {ok:Bool} (h:RU s o ok) (hq:hZ q) (e:dw q=s):ok=true/\o=q:=by
 rcases h with ⟨h1,h2,h3⟩ | ⟨_,_,h⟩
 ·exact⟨h1,Z7 h2.1 hq.1 (h3.trans e.symm)⟩
 exact absurd ⟨q,hq,e⟩ h
theorem LR.at1t {V:aa} {t:ar} {l:List Tx} {f:List Nat} (h:LR bE V t l f) {p q:Tx} {r:List Tx} (e:l=p :: q :: r):∃ b o,t.a=some ⟨b,o,none⟩/\aQ V ((⟨b,o,none⟩:Addr).add (Int.toNat 1*1)) 1=some [.string q.1]:=by
 subst e;obtain⟨⟨b,o,a1,l1⟩,_⟩:=h.txt (i:=1) (by simp);exact⟨b,o,a1,l1⟩
theorem Ew (c:UInt8) (s:ByteArray):(∃ p,dL c s=[p])\/(∃ p q,dL c s=[p,q])\/∃ p q r l,dL c s=p :: q :: r :: l:=by
 have:=K1 c s
 match h:dL c s with
 | []=>rw [h] at this; simp at this
 | [p]=>exact .inl ⟨p,rfl⟩
 | [p,q]=>exact .inr (.inl ⟨p,q,rfl⟩)
 | p :: q :: r :: l=>exact .inr (.inr ⟨p,q,r,l,rfl⟩)
def DcRes (s:ByteArray) (n:Bool) (o:List aI) (sc:Int) (ok:Bool):Prop :=
 (o.length<=s.size/\(ok=true->cG n o sc/\dF n o sc=s))/\0<=sc/\sc<=(s.size:Int)/\∀ m l q,cG m l q->dF m l q=s->ok=true/\n=m/\o=l/\sc=q
abbrev va (V:aa) (s:ByteArray):aa->Value->Prop:=fun V' r=>V.le V'/\∃ n t sc o f ok,r=.tuple #[cA (n,t,sc,()),.bool ok]/\LR rI V' t o f/\cQ V V' f/\DcRes s n o sc ok
theorem ya {V V':aa} {s:ByteArray} (le:V.le V') (h:∀ m l q,cG m l q->dF m l q=s->False):va V s V' (packed [cA (false,⟨none,0,0⟩,(0:Int),()),.bool false]) :=
 ⟨le,false,⟨none,0,0⟩,0,[],[],false,rfl,yK,cQ.nil,⟨Nat.zero_le _,nofun⟩,Int.le_refl _,by omega,fun m l q a b=>(h m l q a b).elim⟩
theorem vd {p:Prop} {t s:ByteArray} (h:ZI p t=s) (hs:0<s.size):p/\t=s:=by
 by_cases k:p
 ·rw [dG k] at h
  exact⟨k,h⟩
 rw [oM k] at h;rw [<- h] at hs;exact absurd hs (by decide)
theorem Ex {w:ByteArray} {o:List aI} (h:RU w o true):0<w.size:=by
 rcases h with ⟨_,k2,k3⟩ | ⟨k1,_⟩
 ·obtain⟨c,r,e,_⟩:=VY k2.1
  rw [<- k3,<- bD,e];simp
 cases k1
noncomputable def RZ (x0:ByteArray) (neg:Bool) (sc:Int) (w:ByteArray):T :=
 .call false 350 [.string w] (.t [(.o (.l)),(.o (.b))]) fun y6 =>
 .call false 187 [.bool neg,qL (y6.1)] (.v (.g [.b,.l])) fun y7 =>
 .br (!y6.2.fst) (
  .ret [cA ((false),(⟨(none),((0:Nat)),((0:Nat))⟩:ar),(((0:Int)):Int),()),.bool (false)]) <|
 .call false 235 [cA ((y7.fst),y7.2.1,(sc:Int),())] (.v (.o (.s))) fun y8 =>
 .br (!y8.toList == x0.toList) (
  .ret [cA ((false),(⟨(none),((0:Nat)),((0:Nat))⟩:ar),(((0:Int)):Int),()),.bool (false)]) <|
 .ret [cA ((y7.fst),y7.2.1,(sc:Int),()),.bool (true)]
noncomputable def dcLp (x0:ByteArray) (neg:Bool) (sc:Int) (w:ByteArray):T :=
 .lp [.o (.o (.s))] [.v (.string (w))] fun y5 =>
 .br (decide ((↑(ByteArray.size y5.fst):Int) > (1:Int))) (
  .rq ((0:Int)<=(0:Int)/\(0:Int)<(↑(ByteArray.size y5.fst):Int)) <|
  .br (de y5.fst (Int.toNat (0:Int)) == (48:Int)) (
   .rq ((0:Int)<=(1:Int)/\(1:Int)<=(↑(ByteArray.size y5.fst):Int)/\(↑(ByteArray.size y5.fst):Int)<=(↑(ByteArray.size y5.fst):Int)) <|
   .nx 0 [.v (.string (ByteArray.extract y5.fst (Int.toNat (1:Int)) (↑(ByteArray.size y5.fst):Int).toNat))]) <|
  RZ x0 neg sc y5.fst) <|
 RZ x0 neg sc y5.fst
noncomputable def BH (x0:ByteArray) (neg:Bool) (d:ByteArray):T :=
 .call false 220 [.string d,.string ({ data:={ toList:=[(46:UInt8)]:Array UInt8 }:ByteArray })] (.v (.o (.l))) fun y1 =>
 .br (decide ((↑y1.n:Int) > (2:Int))) (
  .ret [cA ((false),(⟨(none),((0:Nat)),((0:Nat))⟩:ar),(((0:Int)):Int),()),.bool (false)]) <|
 .br (decide ((↑d.size:Int) > (100:Int))) (
  .ret [cA ((false),(⟨(none),((0:Nat)),((0:Nat))⟩:ar),(((0:Int)):Int),()),.bool (false)]) <|
 .br ((↑y1.n:Int) == (2:Int)) (
  .el (y1.1) (y1.n) ((1:Int)) fun y2 =>
  .ld false (y2.add (Int.toNat (1:Int)*(1:Nat))) (.o (.s)) fun y3 =>
  .call false 114 [qL (y1),.string ({ data:={ toList:=[]:Array UInt8 }:ByteArray })] (.v (.o (.s))) fun y4 =>
  dcLp x0 neg (↑y3.size:Int) y4) <|
 .call false 114 [qL (y1),.string ({ data:={ toList:=[]:Array UInt8 }:ByteArray })] (.v (.o (.s))) fun y2 =>
 dcLp x0 neg (0:Int) y2
theorem Ld {V0 V Vd:aa} {Ns:List (List LV->aa->Prop)} (hV:nW V) (iA:V0.le V) {s w:ByteArray} {neg:Bool} {sc:Int} (hs:s.size<=1048576) (hw:w.size<=s.size) (h0:0<=sc) (h1:sc<=(s.size:Int))
  (hc:∀ m l q,cG m l q->dF m l q=s->w=dw l/\m=neg/\q=sc):(RZ s neg sc w).wp prog (fun V' vs=>va V0 s V' (packed vs)) V Vd Ns:=by
 simp only [RZ,T.wp];refine(Qq V w (by omega)).mono ?_
 rintro V1 _ ⟨aF,t,o,f,ok,rfl,L1,O1,k⟩;refine⟨nofun,(t,ok,()),rfl,(nC V1 neg t).mono ?_⟩
 rintro _ _ ⟨rfl,rfl⟩;have get:∀ m l q,cG m l q->dF m l q=s->ok=true/\o=l/\m=neg/\q=sc:=fun m l q a b=>by
  obtain⟨e1,e2,e3⟩:=hc m l q a b;obtain⟨k1,k2⟩:=Ev k a.1.1 e1.symm;exact⟨k1,k2,e2,e3⟩
 refine⟨nofun,(neg && decide ((t.n:Int) > 0),t,()),rfl,fun hf=>ya (iA.trans aF) fun m l q a b=>?_,fun ht=>?_⟩
 ·have:=(get m l q a b).1
  rw [this] at hf; cases hf
 have hk:ok=true:=by simpa using ht
 subst hk;have hn:=L1.1;have gR:o.length<=s.size:=by
  rcases k with ⟨_,k2,k3⟩ | ⟨k1,_⟩
  ·have:=K2 k2.1
   rw [k3] at this; omega
  cases k1
 refine(sv (hV.le aF) (neg && decide ((t.n:Int) > 0)) t sc o f L1).mono ?_
 rintro V2 _ ⟨bm,rfl⟩;have full:∀ m l q,cG m l q->dF m l q=s->(neg && decide ((t.n:Int) > 0))=m/\o=l/\sc=q:=fun m l q a b=>by
  obtain⟨_,e2,e3,e4⟩:=get m l q a b;subst e2 e3 e4;refine⟨?_,rfl,rfl⟩
  cases m with
  | false=>rfl
  | true =>
   have:=a.1.2 rfl;rw [Bool.true_and];exact decide_eq_true (by omega)
 have leA:=iA.trans (aF.trans bm);refine⟨nofun,_,rfl,fun bR=>ya leA fun m l q a b=>?_,fun heq=>⟨leA,_,t,sc,o,f,true,rfl,L1.le bm,(O1.post bm).pre iA,⟨gR,fun _=>vd (aR.1 (by simpa using heq)) (by have:=Ex k; omega)⟩,h0,h1,fun m l q a b=>⟨rfl,full m l q a b⟩⟩⟩
 obtain⟨e1,e2,e3⟩:=full m l q a b;rw [e1,e2,e3,dG a,b] at bR;have:(s.toList == s.toList)=true:=aR.2 rfl;rw [this] at bR; cases bR
theorem ve {y:ByteArray} (hp:0<y.size):de y 0=48↔(bl y).head?=some 48:=by
 have hl:=bD y;have hl0:0<(bl y).length:=by omega
 rw [lN hl0,List.head?_eq_getElem?,List.getElem?_eq_getElem hl0,Option.some.injEq];constructor
 ·intro e
  exact UInt8.toNat_inj.1 (by have:(48:UInt8).toNat=48:=rfl; omega)
 intro e;rw [e]; rfl
theorem R0 {V0 V Vd:aa} (hV:nW V) (iA:V0.le V) {s w:ByteArray} {neg:Bool} {sc:Int} (hs:s.size<=1048576) (hw:w.size<=s.size) (h0:0<=sc) (h1:sc<=(s.size:Int))
  (hc:∀ m l q,cG m l q->dF m l q=s->sE w l/\m=neg/\q=sc):(dcLp s neg sc w).wp prog (fun V' vs=>va V0 s V' (packed vs)) V Vd []:=by
 simp only [dcLp,T.wp];refine⟨fun y V'=>V'=V/\ByteArray.size y.1<=s.size/\∀ m l q,cG m l q->dF m l q=s->sE y.1 l/\m=neg/\q=sc,fun y _=>ByteArray.size y.1,⟨(w,()),rfl,rfl,hw,hc⟩,?_⟩
 rintro⟨(y:ByteArray),u⟩ V' ⟨rfl,hy,hc⟩;replace hy:y.size<=s.size:=hy;replace hc:∀ m l q,cG m l q->dF m l q=s->sE y l/\m=neg/\q=sc:=hc;refine⟨fun aN=>?_,fun cg=>?_⟩
 ·have h2:1<y.size:=by
   have:(y.size:Int) > 1:=bq aN;omega
  refine⟨⟨Int.le_refl _,(by omega:(0:Int)<(y.size:Int))⟩,fun Cw=>?_,fun Cw=>?_⟩
  ·have h48':(bl y).head?=some 48:=(ve (by omega)).1 (by simpa using Cw)
   refine⟨⟨by decide,(by omega:(1:Int)<=(y.size:Int)),Int.le_refl _⟩,_,rfl,(y.extract 1 y.size,()),rfl,⟨rfl,?_,fun m l q a b=>?_⟩,?_⟩
   ·show(y.extract 1 y.size).size<=_
    rw [ByteArray.size_extract]; omega
   ·obtain⟨e1,e2⟩:=hc m l q a b
    exact⟨e1.step a.1.1.1 h2 h48',e2⟩
   show(y.extract 1 y.size).size<y.size
   rw [ByteArray.size_extract]; omega
  refine Ld hV iA hs hy h0 h1 fun m l q a b=>?_
  obtain⟨e1,e2⟩:=hc m l q a b;refine⟨e1.stop a.1.1.1 fun k=>?_,e2⟩
  have:=(ve (by omega)).2 k.2;have e:de y (Int.toNat 0)=48:=this;dsimp only at Cw;rw [e] at Cw; cases Cw
 have h2:¬ 1<y.size:=by
  have:¬ (y.size:Int) > 1:=bU cg;omega
 refine Ld hV iA hs hy h0 h1 fun m l q a b=>?_
 obtain⟨e1,e2⟩:=hc m l q a b;exact⟨e1.stop a.1.1.1 fun k=>h2 k.1,e2⟩
theorem Wc (x:Tx):eK [x] ⟨#[]⟩=x.1:=wv x _
theorem We (x y:Tx):eK [x,y] ⟨#[]⟩=x.1++y.1:=by
 have:=sy (l:=[x]) (by simp) y ⟨#[]⟩;rw [wv] at this;refine this.trans (lM ?_)
 rw [bO,bO,bO];show bl x.1++[]++bl y.1=_
 simp
theorem wG {V0 V Vd:aa} (hV:nW V) (iA:V0.le V) {s d:ByteArray} {neg:Bool} (hs:s.size<=1048576) (hd:d.size<=s.size)
  (hc:∀ m l q,cG m l q->dF m l q=s->d=o9 l q/\m=neg):(BH s neg d).wp prog (fun V' vs=>va V0 s V' (packed vs)) V Vd []:=by
 simp only [BH,T.wp];refine(Lc V d 46 (by omega)).mono ?_
 rintro V1 _ ⟨aF,t,f,rfl,L1,O1⟩;have hn:=L1.1;have leA:=iA.trans aF;have cut:∀ m l q,cG m l q->dF m l q=s->m=neg/\d.size<=56/\((q=0/\dL 46 d=[(jG l q,())])\/(0<q/\∃ a b:ByteArray,dL 46 d=[(a,()),(b,())]/\jG l q=a++b/\(b.size:Int)=q)):=fun m l q a b=>by
  obtain⟨e1,e2⟩:=hc m l q a b;subst e1;exact⟨e2,VZ a.1.1.1 a.2.1 a.2.2.1 a.2.2.2,aaa a.1.1.1 a.2.1 a.2.2.1 a.2.2.2⟩
 refine⟨nofun,t,rfl,fun h2=>ya leA fun m l q a b=>?_,fun h2=>⟨fun h100=>ya leA fun m l q a b=>?_,fun h100=>?_⟩⟩
 ·have:(t.n:Int) > 2:=bq h2
  rcases(cut m l q a b).2.2 with ⟨_,e⟩ | ⟨_,x,y,e,_⟩
  ·rw [e] at hn; simp at hn; omega
  rw [e] at hn; simp at hn; omega
 ·have:(d.size:Int) > 100:=bq h100
  have:=(cut m l q a b).2.1;omega
 have gv:∀ x∈dL 46 d,x.1.size<=d.size:=fun x hx=>VX hx
 have B7:¬ (t.n:Int) > 2:=bU h2;refine⟨fun he=>?_,fun he=>?_⟩
 ·have sN:(t.n:Int)=2:=by simpa using he
  rcases Ew 46 d with ⟨p,e⟩ | ⟨p,p2,e⟩ | ⟨p,p2,p3,r,e⟩
  ·rw [e] at hn; simp at hn; omega
  ·obtain⟨b,o,ha,lZ⟩:=L1.at1t e
   have UU:=gv p (by rw [e]; simp)
   have hp2:=gv p2 (by rw [e]; simp)
   have hld1:∃ x,aQ V1 ((⟨b,o,none⟩:Addr).add (Int.toNat 1*1)) 1=some [.string x]/\x=p2.1:=⟨_,lZ,rfl⟩;rw [ha];refine⟨_,rfl,by decide,by omega,p2.1,lZ,?_⟩
   refine(yG V1 t (dL 46 d) f ⟨#[]⟩ L1 ?_ ?_).mono ?_
   ·rw [e]
    show p.1.size+(p2.1.size+0)+2*0<=_
    omega
   ·rw [e]; simp
   rintro _ _ ⟨rfl,rfl⟩;rw [e,We];refine⟨nofun,p.1++p2.1,rfl,R0 (hV.le aF) leA hs ?_ (by omega) (by omega) fun m l q a b=>?_⟩
   ·have:=nR 46 d
    rw [e] at this;have:=congrArg List.length this;rw [bD] at this;have e2:(jg 46 ([p,p2].map fun x=>bl x.1)).length=(bl p.1++46 :: bl p2.1).length:=rfl;rw [e2,List.length_append,List.length_cons,bD,bD] at this;rw [ByteArray.size_append]; omega
   obtain⟨k1,_,k3⟩:=cut m l q a b;rcases k3 with ⟨_,k3⟩ | ⟨_,x,y,k3,k4,k5⟩
   ·rw [e] at k3; simp at k3
   rw [e] at k3;simp only [List.cons.injEq,and_true] at k3;obtain⟨rfl,rfl⟩:=k3;refine⟨?_,k1,k5.symm⟩
   rw [<- k4];exact sE.start a.2.2.2
  rw [e] at hn; simp at hn; omega
 have sN:¬ (t.n:Int)=2:=by simpa using he
 have df:=K1 46 d;rcases Ew 46 d with ⟨p,e⟩ | ⟨p,p2,e⟩ | ⟨p,p2,p3,r,e⟩
 ·have UU:=gv p (by rw [e]; simp)
  refine(yG V1 t (dL 46 d) f ⟨#[]⟩ L1 ?_ ?_).mono ?_
  ·rw [e]
   show p.1.size+0+1*0<=_
   omega
  ·rw [e]; simp
  rintro _ _ ⟨rfl,rfl⟩;rw [e,Wc];refine⟨nofun,p.1,rfl,R0 (hV.le aF) leA hs (by omega) (Int.le_refl _) (by omega) fun m l q a b=>?_⟩
  obtain⟨k1,_,k3⟩:=cut m l q a b;rcases k3 with ⟨k0,k3⟩ | ⟨_,x,y,k3,_⟩
  ·rw [e] at k3
   simp only [List.cons.injEq,and_true] at k3;subst k3;exact⟨sE.start a.2.2.2,k1,k0⟩
  rw [e] at k3; simp at k3
 ·rw [e] at hn; simp at hn; omega
 rw [e] at hn; simp at hn; omega
theorem BI {V:aa} (hV:nW V) (s:ByteArray) (hs:s.size<=1048576):ae prog V 321 [.string s] (va V s):=by
 refine aM (OY _) fun _=>?_
 unfold AI
 change (_->_/\(_->_/\T.wp _ _ (BH s (de s (Int.toNat (0:Int)) == (45:Int)) (s.extract (Int.toNat (1:Int)) (s.size:Int).toNat)) _ _ _)/\(_->T.wp _ _ (BH s (de s (Int.toNat (0:Int)) == (45:Int)) s) _ _ _))/\(_->T.wp _ _ (BH s false s) _ _ _)
 have hl:=bD s;have hd:∀ m l q,cG m l q->dF m l q=s->0<s.size/\((m=true/\de s 0=45/\s.extract 1 s.size=o9 l q)\/(m=false/\de s 0≠45/\s=o9 l q)):=fun m l q a b=>by
  obtain⟨c,r,e,hc⟩:=Es a.1.1.1 a.2.1 a.2.2.1 a.2.2.2;cases m with
  | true =>
   have e1:bl s=45 :: bl (o9 l q):=by rw [<- b]; exact uY l q
   have hp:0<s.size:=by rw [<- hl,e1]; simp
   refine⟨hp,.inl ⟨rfl,(GL hp).2 ⟨_,e1⟩,lM ?_⟩⟩
   rw [RS,e1]; rfl
  | false =>
   have e1:s=o9 l q:=by rw [<- b]; exact uZ l q
   have e2:bl s=c :: r:=by rw [e1]; exact e
   have hp:0<s.size:=by rw [<- hl,e2]; simp
   refine⟨hp,.inr ⟨rfl,fun k=>?_,e1⟩⟩
   obtain⟨r',hr⟩:=(GL hp).1 k;rw [e2] at hr;simp only [List.cons.injEq] at hr;rw [hr.1] at hc;exact absurd hc (by decide)
 refine⟨fun bR=>?_,fun he=>?_⟩
 ·have hp:0<s.size:=by
   rcases Nat.eq_zero_or_pos s.size with k | k
   ·rw [wF.2 k] at bR; cases bR
   exact k
  refine⟨⟨Int.le_refl _,by omega⟩,fun h45=>⟨⟨by decide,by omega,Int.le_refl _⟩,?_⟩,fun h45=>?_⟩
  ·refine wG hV (aa.le.refl _) hs ?_ fun m l q a b=>?_
   ·rw [ByteArray.size_extract]; omega
   rcases(hd m l q a b).2 with ⟨k1,k2,k3⟩ | ⟨k1,k2,k3⟩
   ·exact⟨k3,k1.trans h45.symm⟩
   exact absurd (by simpa using h45) k2
  refine wG hV (aa.le.refl _) hs (Nat.le_refl _) fun m l q a b=>?_
  rcases(hd m l q a b).2 with ⟨k1,k2,k3⟩ | ⟨k1,k2,k3⟩
  ·have e:de s (Int.toNat 0)=45:=k2
   rw [e] at h45; cases h45
  exact⟨k3,k1.trans h45.symm⟩
 refine wG hV (aa.le.refl _) hs (Nat.le_refl _) fun m l q a b=>?_
 have hz:s.size=0:=wF.1 (by simpa using he);have:=(hd m l q a b).1;omega
end Go.Proofs.YtahmmgiiojjhgaaGreatDoor
