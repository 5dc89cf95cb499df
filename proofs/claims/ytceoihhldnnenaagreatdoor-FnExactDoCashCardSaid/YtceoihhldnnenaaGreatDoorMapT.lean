/-
  Maps whose keys are texts: asked, laid into, struck from.
-/
import Derived.Test.YtceoihhldnnenaaGreatDoorRestM
import Derived.Test.YtceoihhldnnenaaGreatDoorMu
import Derived.Test.YtceoihhldnnenaaGreatDoorDoL
import Derived.Shelf.Small.Bits
import Derived.Shelf.Strconv.Itoa0
import Derived.Shelf.Sort.Plain
import Derived.Ground.Names2Prog
import Derived.Shelf.Slices.SearchI
import Derived.Test.YtceoihhldnnenaaGreatDoorProg
import Derived.Test.YtceoihhldnnenaaGreatDoorChg
import Derived.Test.YtceoihhldnnenaaGreatDoorMap
namespace Go.Proofs.YtceoihhldnnenaaGreatDoor
open Sx
set_option maxRecDepth 100000
abbrev rS (x:DRat):Int:=sval x.1 x.2.1
abbrev rD (x:DRat):Int:=valN x.2.2.1
abbrev RatP (x:DRat):Prop:=RatOkP x.1 x.2.1 x.2.2.1
theorem ratP_pos {x:DRat} (h:RatP x):0<rD x:=(can_pos h.2.1.1).1 h.2.2.1
def AddRP (x y:DRat) (r:DRat × Bool):Prop:=RedS (rS x*rD y+rS y*rD x) (rD x*rD y) r.1 r.2
noncomputable def addRat (x y:DRat):DRat × Bool:=theOne (AddRP x y)
theorem addRat_eq {x y:DRat} {r:DRat × Bool} (hx:RatP x) (hy:RatP y) (h:AddRP x y r):addRat x y=r :=
 theOne_eq h fun r' h'=>by
  obtain⟨a,b⟩:=redS_inj (Int.mul_pos (ratP_pos hx) (ratP_pos hy)) h' h
  exact Prod.ext a b
def atR (l:List DRest) (c:ByteArray):DRat:=((l.find? (keyB c)).map (·.2)).getD nought
theorem atR_ok {l:List DRest} (h:RestsOkP l) (c:ByteArray):RatP (atR l c):=by
 unfold atR
 cases hf:l.find? (keyB c) with
 | none=>exact nought_ok
 | some x=>exact(rests_mem h (List.mem_of_find?_eq_some hf)).2.1
open Classical in
noncomputable def keepP (x:DLedger) (c:ByteArray) (r:DRat):DLedger × Int :=
 if RatP r∧known c=true∧(addRat (atR x.2.1 c) r).2=true∧RatP (addRat (atR x.2.1 c) r).1 then ((x.1,addR c (addRat (atR x.2.1 c) r).1 x.2.1,x.2.2),0) else (zeroL,8)
theorem keepP_yes {x:DLedger} {c:ByteArray} {r y:DRat} (h:RestsOkP x.2.1) (k:known c=true) (hr:RatP r) (hy:AddRP (atR x.2.1 c) r (y,true)):keepP x c r=((x.1,addR c y x.2.1,x.2.2),0):=by
 have e:=addRat_eq (atR_ok h c) hr hy
 have ok:=redS_ok (Int.mul_pos (ratP_pos (atR_ok h c)) (ratP_pos hr)) hy rfl
 unfold keepP
 rw [e,if_pos ⟨hr,k,rfl,ok⟩]
theorem keepP_no {x:DLedger} {c:ByteArray} {r y:DRat} (h:RestsOkP x.2.1) (hr:RatP r) (hy:AddRP (atR x.2.1 c) r (y,false)):keepP x c r=(zeroL,8):=by
 have e:=addRat_eq (atR_ok h c) hr hy
 unfold keepP
 rw [e,if_neg (fun k=>by cases k.2.2.1)]
theorem keepP_zero {x:DLedger} {c:ByteArray} {r:DRat}:(keepP x c r).2≠0→(keepP x c r).1=zeroL:=by
 unfold keepP
 split
 ·intro h; exact absurd rfl h
 ·intro _; rfl
theorem keepP_Ans {x:DLedger} {c:ByteArray} {r:DRat} (h:LedgerOkP x):Ans (keepP x c r):=by
 unfold keepP
 split
 ·rename_i k
  exact .inl ⟨rfl,h.1,addR_ok h.2.1 k.2.1 k.2.2.2,h.2.2⟩
 ·exact .inr ⟨by decide,rfl⟩
def cashOf (x:ByteArray):Int:=(curRowOf x).2.2.2.1
theorem cash_bd {x:ByteArray} (h:known x=true):1≤cashOf x∧cashOf x≤1000000:=by
 unfold known at h
 unfold cashOf curRowOf
 cases hf:curFrom curI x 0 with
 | none=>rw [hf] at h; cases h
 | some r =>
  have hm:r∈curI:=List.mem_of_find?_eq_some hf
  have:∀ r∈curI,1≤r.2.2.2.1∧r.2.2.2.1≤1000000:=by decide +kernel
  exact this r hm
noncomputable def stepV (c:Bool) (n:List Lim) (m k:Int):Int:=sv c (rndN m c (valN n) k*k)
noncomputable abbrev MonV (x:DMoney) (m:Int):Int:=stepV x.2.1 x.2.2.1 m (cashOf x.1)
def CashR (x:DMoney) (m:Int) (t:DMoney × DRat):Prop:=MonP t.1∧t.1.1=x.1∧svM t.1=MonV x m∧RedS (svM x-MonV x m) 1 t.2 true
theorem cashR_inj {x:DMoney} {m:Int} {t t':DMoney × DRat} (h:CashR x m t) (h':CashR x m t'):t'=t :=
 Prod.ext (mon_inj h'.1 h.1 (h'.2.1.trans h.2.1.symm) (h'.2.2.1.trans h.2.2.1.symm)) (redS_inj (by decide) h'.2.2.2 h.2.2.2).1
open Classical in
noncomputable def cashAt (x:DLedger) (i:Nat) (m:Int):DLedger × Int :=
 if h:i<x.1.length then
  if ∃ t,CashR x.1[i].2 m t then keepP (x.1.set i (x.1[i].1,(theOne (CashR x.1[i].2 m)).1),x.2) x.1[i].2.1 (theOne (CashR x.1[i].2 m)).2 else (zeroL,8)
 else (zeroL,8)
theorem cashAt_yes {x:DLedger} {i:Nat} {m:Int} (h:i<x.1.length) {z:DMoney} {r:DRat} (k:CashR x.1[i].2 m (z,r)):cashAt x i m=keepP (x.1.set i (x.1[i].1,z),x.2) x.1[i].2.1 r:=by
 have e:=theOne_eq k fun y hy=>cashR_inj k hy
 unfold cashAt
 rw [dif_pos h,if_pos ⟨_,k⟩,e]
theorem cashAt_no {x:DLedger} {i:Nat} {m:Int} (h:i<x.1.length) (k:¬ ∃ t,CashR x.1[i].2 m t):cashAt x i m=(zeroL,8):=by
 unfold cashAt
 rw [dif_pos h,if_neg k]
theorem cashAt_Ans {x:DLedger} {i:Nat} {m:Int} (h:LedgerOkP x):Ans (cashAt x i m):=by
 by_cases hi:i<x.1.length
 ·by_cases k:∃ t,CashR x.1[i].2 m t
  ·obtain⟨⟨z,r⟩,k⟩:=k
   rw [cashAt_yes hi k]
   exact keepP_Ans ⟨book_set h.1 hi k.1,h.2⟩
  ·rw [cashAt_no hi k]
   exact .inr ⟨by decide,rfl⟩
 ·unfold cashAt
  rw [dif_neg hi]
  exact .inr ⟨by decide,rfl⟩
open Classical in
noncomputable def cashRun (x:DLedger) (n:ByteArray) (m:Int):DLedger × Int :=
 if WordP n∧RmP m then match fnd n x.1 with
  | none=>(zeroL,3)
  | some i=>cashAt x i m
 else (zeroL,1)
theorem cashRun_no {x:DLedger} {n:ByteArray} {m:Int} (h:¬ (WordP n∧RmP m)):cashRun x n m=(zeroL,1):=if_neg h
theorem cashRun_none {x:DLedger} {n:ByteArray} {m:Int} (h:WordP n∧RmP m) (hf:fnd n x.1=none):cashRun x n m=(zeroL,3):=by
 unfold cashRun
 rw [if_pos h,hf]
theorem cashRun_at {x:DLedger} {n:ByteArray} {m:Int} {i:Nat} (h:WordP n∧RmP m) (hf:fnd n x.1=some i):cashRun x n m=cashAt x i m:=by
 unfold cashRun
 rw [if_pos h,hf]
theorem cashRun_zero {x:DLedger} {n:ByteArray} {m:Int}:(cashRun x n m).2≠0→(cashRun x n m).1=zeroL:=by
 unfold cashRun
 split
 ·split
  ·intro _; rfl
  ·unfold cashAt
   split
   ·split
    ·exact keepP_zero
    ·intro _; rfl
   ·intro _; rfl
 ·intro _; rfl
theorem cashRun_Ans {x:DLedger} {n:ByteArray} {m:Int} (h:LedgerOkP x):Ans (cashRun x n m):=by
 unfold cashRun
 split
 ·split
  ·exact .inr ⟨by decide,rfl⟩
  ·exact cashAt_Ans h
 ·exact .inr ⟨by decide,rfl⟩
end Go.Proofs.YtceoihhldnnenaaGreatDoor
namespace Go.Proofs
open Go.Shelf
def Tryz.lays192_ren:Go.Shelf.Ren:=⟨fun | 192=>276 | 190=>277 | 125=>279 | 258=>278 | 128=>289 | 129=>290 | 302=>280 | 303=>281 | 304=>282 | 305=>283 | 306=>284 | 307=>285 | 308=>286 | 309=>287 | 310=>288 | 333=>291 | 329=>292 | 330=>293 | 334=>294 | 335=>295 | 336=>296 | 344=>297 | n=>n,fun | 31=>69 | 0=>0 | 9=>9 | 3=>3 | 46=>294 | 51=>267 | 53=>257 | 4=>4 | 183=>297 | 182=>296 | 131=>234 | 5=>5 | 218=>305 | 222=>309 | 228=>311 | 229=>312 | n=>n,fun | n=>n⟩
theorem Tryz.lays192:Go.Proofs.Lays.n192 Tryz.prog Tryz.lays192_ren:={
 mixed:=by kernel_rfl
 f125:=Tryz.func279.trans (congrArg some (by kernel_rfl))
 f128:=Tryz.func289.trans (congrArg some (by kernel_rfl))
 f129:=Tryz.func290.trans (congrArg some (by kernel_rfl))
 f190:=Tryz.func277.trans (congrArg some (by kernel_rfl))
 f192:=Tryz.func276.trans (congrArg some (by kernel_rfl))
 f258:=Tryz.func278.trans (congrArg some (by kernel_rfl))
 f302:=Tryz.func280.trans (congrArg some (by kernel_rfl))
 f303:=Tryz.func281.trans (congrArg some (by kernel_rfl))
 f304:=Tryz.func282.trans (congrArg some (by kernel_rfl))
 f305:=Tryz.func283.trans (congrArg some (by kernel_rfl))
 f306:=Tryz.func284.trans (congrArg some (by kernel_rfl))
 f307:=Tryz.func285.trans (congrArg some (by kernel_rfl))
 f308:=Tryz.func286.trans (congrArg some (by kernel_rfl))
 f309:=Tryz.func287.trans (congrArg some (by kernel_rfl))
 f310:=Tryz.func288.trans (congrArg some (by kernel_rfl))
 f329:=Tryz.func292.trans (congrArg some (by kernel_rfl))
 f330:=Tryz.func293.trans (congrArg some (by kernel_rfl))
 f333:=Tryz.func291.trans (congrArg some (by kernel_rfl))
 f334:=Tryz.func294.trans (congrArg some (by kernel_rfl))
 f335:=Tryz.func295.trans (congrArg some (by kernel_rfl))
 f336:=Tryz.func296.trans (congrArg some (by kernel_rfl))
 f344:=Tryz.func297.trans (congrArg some (by kernel_rfl))
 t0:=Tryz.underlying0
 a0:=Tryz.isAgg0
 z0:=Tryz.sizeOf0
 v0:=Tryz.zeroValue0
 t3:=Tryz.underlying3
 a3:=Tryz.isAgg3
 z3:=Tryz.sizeOf3
 v3:=Tryz.zeroValue3
 t4:=Tryz.underlying4
 a4:=Tryz.isAgg4
 z4:=Tryz.sizeOf4
 v4:=Tryz.zeroValue4
 t5:=Tryz.underlying5
 a5:=Tryz.isAgg5
 z5:=Tryz.sizeOf5
 v5:=Tryz.zeroValue5
 t9:=Tryz.underlying9
 a9:=Tryz.isAgg9
 z9:=Tryz.sizeOf9
 v9:=Tryz.zeroValue9
 t31:=Tryz.underlying69
 a31:=Tryz.isAgg69
 z31:=Tryz.sizeOf69
 v31:=Tryz.zeroValue69
 t46:=Tryz.underlying294
 a46:=Tryz.isAgg294
 z46:=Tryz.sizeOf294
 v46:=Tryz.zeroValue294
 t51:=Tryz.underlying267
 a51:=Tryz.isAgg267
 z51:=Tryz.sizeOf267
 v51:=Tryz.zeroValue267
 t53:=Tryz.underlying257
 a53:=Tryz.isAgg257
 z53:=Tryz.sizeOf257
 v53:=Tryz.zeroValue257
 t131:=Tryz.underlying234
 a131:=Tryz.isAgg234
 z131:=Tryz.sizeOf234
 v131:=Tryz.zeroValue234
 t182:=Tryz.underlying296
 a182:=Tryz.isAgg296
 z182:=Tryz.sizeOf296
 v182:=Tryz.zeroValue296
 t183:=Tryz.underlying297
 a183:=Tryz.isAgg297
 z183:=Tryz.sizeOf297
 v183:=Tryz.zeroValue297
 t218:=Tryz.underlying305
 a218:=Tryz.isAgg305
 z218:=Tryz.sizeOf305
 v218:=Tryz.zeroValue305
 t222:=Tryz.underlying309
 a222:=Tryz.isAgg309
 z222:=Tryz.sizeOf309
 v222:=Tryz.zeroValue309
 t228:=Tryz.underlying311
 a228:=Tryz.isAgg311
 z228:=Tryz.sizeOf311
 v228:=Tryz.zeroValue311
 t229:=Tryz.underlying312
 a229:=Tryz.isAgg312
 z229:=Tryz.sizeOf312
 v229:=Tryz.zeroValue312 }
open Go.Sort Go.RowKit in
theorem Tryz.sort_Strings (blk off cap:Nat) (ss:List (List UInt8)) (w:World) (hH:Holds encStr w blk off ss.toArray) (hblk:blk<w.heap.size) (hsz:ss.length<4611686018427387904) :
  Calls Tryz.prog 276 #[.slice (some ⟨blk,off,none⟩) ss.length cap] w fun e w' =>
   e=.returned (.tuple #[])∧∃ n os,w'=grow (putRow encStr (Sort.ahead w n) blk off (ss.mergeSort fun x y=>decide (x≤y)).toArray) os:=Any.sort_Strings Tryz.lays192 blk off cap ss w hH hblk hsz
end Go.Proofs
namespace Go.Proofs.YtceoihhldnnenaaGreatDoor
open Sx
set_option maxRecDepth 100000
section
variable {sh:List Sc} {α:Type}
def GV (r:Rp sh α) (t:TypeId) (V0 V:Know) (s:SlV) (cs:List (Scs sh)) (l:List α) (fps:List Nat):Prop :=
 s.n=l.length∧s.n≤s.c∧V0.le V∧Els r V0 cs l fps∧∃ b post,s.a=some ⟨b,0,none⟩∧V0 b=none∧V b=some (cs.flatMap (Scs.vals sh)++post,(t,(0,0)))∧post.length=(s.c-s.n)*sh.length
theorem GV.start {r:Rp sh α} {t:TypeId} {V:Know} {b cap:Nat} {spare:List Value} (hb:V b=none) (hs:spare.length=cap*sh.length) :
  GV r t V (kset V b ([]++spare,(t,(0,0)))) ⟨some ⟨b,0,none⟩,0,cap⟩ [] [] [] :=
 ⟨rfl,Nat.zero_le _,kset_le hb,rfl,b,spare,rfl,hb,by rw [kset_same]; rfl,by simpa using hs⟩
theorem GV.lr {r:Rp sh α} {t:TypeId} {V0 V:Know} {s:SlV} {cs:List (Scs sh)} {l:List α} {fps:List Nat} (h:GV r t V0 V s cs l fps) (hl:l.length≤9223372036854775807):∃ b,V0 b=none∧(∃ c u,V b=some (c,(u,(0,0))))∧LR r V s l (b :: fps):=by
 obtain⟨h1,h2,h3,h4,b,post,ha,hb,hv,hp⟩:=h
 exact⟨b,hb,⟨_,_,hv⟩,h1,h2,by omega,.inr ⟨b,[],post,_,fps,cs,ha,hv,h4.le h3,rfl⟩⟩
theorem GV.own {r:Rp sh α} {t:TypeId} {Vb V0 V:Know} {s:SlV} {cs:List (Scs sh)} {l:List α} {fps:List Nat} (h:GV r t V0 V s cs l fps) (hl:l.length≤9223372036854775807) (le:Vb.le V0) (O:Own Vb V0 fps):∃ f,LR r V s l f∧Own Vb V f:=by
 obtain⟨b,hb,hw,hL⟩:=h.lr hl
 have le3:=h.2.2.1
 refine⟨_,hL,List.nodup_cons.2 ⟨fun hm=>?_,O.1⟩,fun y hy=>?_,fun y hy=>?_⟩
 ·obtain⟨c,u,k⟩:=O.2.2 b hm
  rw [hb] at k; cases k
 ·rcases List.mem_cons.1 hy with rfl | hy
  ·exact none_of_le le hb
  ·exact O.2.1 y hy
 ·rcases List.mem_cons.1 hy with rfl | hy
  ·exact hw
  ·exact(O.post le3).2.2 y hy
theorem ap_rowV {P:Program} {r:Rp sh α} {t:TypeId} {V0 V Vd:Know} {s:SlV} {cs:List (Scs sh)} {l:List α} {fps fx:List Nat} {c:Scs sh} {x:α} {bytes:Nat} {k:SlV→T} {K:Know→List Value→Prop} {Ns:List (List LV→Know→Prop)}
  (h:GV r t V0 V s cs l fps) (hx:r.R V0 c x fx) (hP:P.cellsOf t=sh.length) (hb:(l.length+1)*bytes≤140737488355328) (hl:l.length+1≤9223372036854775807)
  (hk:∀ s' V',GV r t V0 V' s' (cs++[c]) (l++[x]) (fps++fx)→(k s').wp P K V' Vd Ns) :
  (T.ap s sh.length bytes (Scs.vals sh c) 1 t k).wp P K V Vd Ns:=by
 obtain⟨h1,h2,h3,he,b,post,ha,hb0,hbk,hp⟩:=h
 have hcl:cs.length=l.length:=he.len
 have hfl:(cs.flatMap (Scs.vals sh)).length=s.n*sh.length:=by rw [flat_len,hcl,h1]
 have hE:=he.snoc hx
 simp only [T.wp]
 refine⟨h2,(fun hn=>by rw [ha] at hn; cases hn),fun h=>absurd h (by decide),fun _ hroom=>?_,fun _ hroom=>⟨by rw [h1]; exact hb,by rw [h1]; exact hl,?_⟩⟩
 ·have hpl:sh.length≤post.length:=by
   rw [hp]; exact Nat.le_mul_of_pos_left _ (by omega)
  have hset:setl (cs.flatMap (Scs.vals sh)++post) (s.n*sh.length) (Scs.vals sh c)=(cs++[c]).flatMap (Scs.vals sh)++post.drop sh.length:=by
   rw [setl_mid hfl.symm (by rw [vals_len]; exact hpl),vals_len]
   simp
  refine⟨b,_,ha,hbk,?_,?_⟩
  ·rw [List.length_append,hfl,hp,← Nat.add_mul]
   exact Nat.mul_le_mul_right _ (by omega)
  ·rw [hset]
   refine hk _ _ ⟨by simp [h1],by show s.n+1≤s.c; omega,kset_le2 h3 hb0,hE,b,post.drop sh.length,ha,hb0,kset_same,?_⟩
   rw [List.length_drop,hp,← Nat.sub_one_mul]
   congr 1
 ·have hnt:∀ cs:List (Scs sh),noTup (cs.flatMap (Scs.vals sh))=true:=fun cs=>by
   induction cs with
   | nil=>rfl
   | cons c cs ih =>
    have hv:=vals_noTup sh c
    unfold noTup at ih hv ⊢
    rw [List.flatMap_cons,List.all_append,hv,ih]; rfl
  refine⟨_,.inr ⟨⟨b,0,none⟩,ha,?_⟩,hnt cs,fun b' cap spare hbn hcap hsp=>?_⟩
  ·simp only [loadV,hbk]
   rw [← hfl]; exact cutv_head
  ·refine hk _ _ ⟨by simp [h1],hcap,h3.trans (kset_le hbn),hE,b',spare,rfl,none_of_le h3 hbn,?_,by rw [hsp,hP]⟩
   rw [kset_same]; simp
end
abbrev strV (l:List ByteArray):List Value:=l.map Value.string
theorem str_get {l:List ByteArray} {j:Nat} (h:j<l.length):(l.map (·.toList)).toArray[j]! = l[j].toList:=by
 rw [getElem!_pos _ j (by simpa using h)]
 simp
theorem enc_str (b:ByteArray):encStr b.toList=Value.string b:=by
 show Value.string ⟨b.toList.toArray⟩=_
 rw [toList_data]
theorem cI_sortStrings {V:Know} {b n cap:Nat} {l l':List ByteArray} {post:List Value} {t:TypeId} (hn:n=l.length) (hl:l.length≤1000000) (hb:V b=some (strV l++post,(t,(0,0))))
  (hs:(l.map (·.toList)).mergeSort (fun x y=>decide (x≤y))=l'.map (·.toList)) :
  CallX Tryz.prog V 276 [.slice (some ⟨b,0,none⟩) n cap] (fun V' r=>V'=kset V b (strV l'++post,(t,(0,0)))∧r=.tuple #[]):=by
 refine⟨⟨_,Tryz.func276,by kernel_rfl,by kernel_rfl⟩,fun w hw=>?_⟩
 have hk:w.heap[b]?=some (.cells (strV l++post).toArray t (0,0)):=by rw [hw b _ _ hb,objOf_rw]
 have hlt:=(Array.getElem?_eq_some_iff.1 hk).1
 have hH:Go.Sort.Holds encStr w b 0 (l.map (·.toList)).toArray:=fun j hj=>by
  have hj':j<l.length:=by simpa using hj
  refine⟨?_,by simp [World.frozen?,hk]⟩
  rw [str_get hj',enc_str,Nat.zero_add]
  simp only [World.cell?,hk]
  show(strV l++post).toArray[j]?=_
  rw [List.getElem?_toArray,List.getElem?_append_left (by simpa using hj'),List.getElem?_map,List.getElem?_eq_getElem hj']
  rfl
 have hlen:l'.length=l.length:=by
  have:=congrArg List.length hs
  rw [List.length_mergeSort] at this
  simpa using this.symm
 have key:=Tryz.sort_Strings b 0 cap (l.map (·.toList)) w hH hlt (by simp; omega)
 rw [List.length_map,← hn] at key
 refine key.mono ?_
 rintro e w' ⟨rfl,m,os,rfl⟩
 rw [hs]
 have hcells:Go.Sort.putCells encStr 0 (l'.map (·.toList)).toArray (strV l++post).toArray=(strV l'++post).toArray:=by
  apply Array.ext_getElem?
  intro k
  simp only [Go.Sort.putCells,Array.getElem?_mapIdx,List.getElem?_toArray,Nat.zero_le,true_and,Nat.zero_add,List.size_toArray,List.length_map,Nat.sub_zero]
  by_cases hk':k<l'.length
  ·have hk2:k<l.length:=by omega
   rw [List.getElem?_append_left (by simpa using hk2),List.getElem?_append_left (by simpa using hk'),List.getElem?_map,List.getElem?_map,List.getElem?_eq_getElem hk2,List.getElem?_eq_getElem hk']
   simp only [Option.map_some,hk',if_true]
   rw [str_get hk',enc_str]
  ·rw [List.getElem?_append_right (by simp; omega),List.getElem?_append_right (by simp; omega)]
   have hk2:¬ k<l.length:=by omega
   simp only [List.length_map,hlen,hk2,if_false]
   cases post[k-l.length]? <;> rfl
 have hb':(Go.Sort.putRow encStr (Go.Sort.ahead w m) b 0 (l'.map (·.toList)).toArray).heap[b]?=some (.cells (strV l'++post).toArray t (0,0)):=by
  simp only [Go.Sort.putRow,Go.Sort.mapBlock]
  show(w.heap.modify b _)[b]?=_
  rw [Array.getElem?_modify,if_pos rfl,hk]
  simp only [Option.map_some,Go.Sort.onCells,hcells]
 have ho:∀ k,k≠b→(Go.Sort.putRow encStr (Go.Sort.ahead w m) b 0 (l'.map (·.toList)).toArray).heap[k]?=w.heap[k]?:=fun k hne=>by
  simp only [Go.Sort.putRow,Go.Sort.mapBlock]
  show(w.heap.modify b _)[k]?=_
  rw [Array.getElem?_modify,if_neg (fun e=>hne e.symm)]
 have hsz:(Go.Sort.putRow encStr (Go.Sort.ahead w m) b 0 (l'.map (·.toList)).toArray).heap.size=w.heap.size:=by
  simp [Go.Sort.putRow,Go.Sort.mapBlock,Go.Sort.ahead]
 have hg:∀ k,k<w.heap.size→(Go.Sort.grow (Go.Sort.putRow encStr (Go.Sort.ahead w m) b 0 (l'.map (·.toList)).toArray) os).heap[k]?=(Go.Sort.putRow encStr (Go.Sort.ahead w m) b 0 (l'.map (·.toList)).toArray).heap[k]?:=fun k hk=>by
  simp only [Go.Sort.grow]
  exact Array.getElem?_append_left (by rw [hsz]; exact hk)
 refine⟨_,_,rfl,⟨rfl,rfl,rfl,?_,fun k hkw hkn=>?_,fun k hkw hkn=>?_⟩,fun k c u hku=>?_,rfl,rfl⟩
 ·simp only [Go.Sort.grow,Array.size_append,hsz]
  omega
 ·have hne:k≠b:=fun e=>by rw [e,hb] at hkn; cases hkn
  rw [hg k hkw,ho k hne]
 ·have hne:k≠b:=fun e=>by rw [e,hb] at hkn; cases hkn
  rw [kset_other hne]; exact hkn
 ·by_cases e:k=b
  ·subst e
   rw [kset_same] at hku
   cases hku
   rw [hg k hlt,hb',objOf_rw]
  ·rw [kset_other e] at hku
   have h:=hw k c u hku
   rw [hg k (Array.getElem?_eq_some_iff.1 h).1,ho k e]; exact h
theorem cI_Curs {V:Know} (hV:HcI V):CallX Tryz.prog V 266 [] (fun V' r=>V.le V'∧∃ b c post t,V b=none∧20≤c∧V' b=some (strV codesK++post,(t,(0,0)))∧r=.slice (some ⟨b,0,none⟩) 20 c):=by
 have hV':=hV
 obtain⟨t,hV⟩:=hV
 refine CallX.of_fits Tryz.mix fI_Curs fun _=>?_
 simp only [tI_Curs,T.wp]
 refine⟨curY,by simp only [loadV,hV,Bool.false_eq_true,if_false]; exact by kernel_rfl,?_⟩
 refine⟨fun y V'=>V'=V∧∃ n:Nat,y.2.1=(n:Int)∧n≤20∧y.1.1=n∧y.1.2=strV ((curI.take n).map (·.1)),fun y=>(20-(y.2.1:Int)).toNat,
  ⟨((0,[]),(0:Int),()),rfl,rfl,0,rfl,by omega,rfl,rfl⟩,?_⟩
 rintro⟨⟨m,xs⟩,(i:Int),u⟩ V' ⟨rfl,n,hi,hn,hm,hx⟩
 replace hi:i=(n:Int):=hi
 replace hm:m=n:=hm
 replace hx:xs=strV ((curI.take n).map (·.1)):=hx
 subst hi hm hx
 have hlen:curI.length=20:=rfl
 refine⟨fun h=>?_,fun h=>?_⟩
 ·have hb1:m<curI.length:=by (have:(m:Int)<20:=(by simpa using h); omega)
  refine⟨⟨(by omega:(0:Int)≤(m:Int)),(by omega:(m:Int)<20)⟩,curI[m],?_,rfl,⟨rfl,(by show(m+1)*16≤140737488355328; omega),(by show m+1≤9223372036854775807; omega)⟩,?_⟩
  ·simp only [Int.toNat_natCast]
   exact cur_at' hb1
  ·have hw:IntKind.i64.wrap ((m:Int)+1)=((m+1:Nat):Int):=by rw [wrap_i64 (by omega)]; omega
   refine⟨_,rfl,((m+1,strV ((curI.take m).map (·.1))++[Value.string curI[m].1]),((m+1:Nat):Int),()),by rw [hw]; rfl,⟨rfl,m+1,rfl,by omega,rfl,?_⟩,?_⟩
   ·show strV ((curI.take m).map (·.1))++[Value.string curI[m].1]=strV ((curI.take (m+1)).map (·.1))
    rw [List.take_succ_eq_append_getElem hb1,List.map_append]
    show _=List.map Value.string _
    rw [List.map_append]
    rfl
   ·show(20-((m+1:Nat):Int)).toNat<(20-(m:Int)).toNat
    omega
 ·have hn20:m=20:=by (have:¬ (m:Int)<20:=(by simpa using h); omega)
  subst hn20
  intro b c sp hb hc _
  have e20:strV ((curI.take 20).map (·.1))=strV (curI.map (·.1)):=rfl
  refine(cI_sortStrings (l:=curI.map (·.1)) (l':=codesK) (post:=sp) (t:=9) rfl (by decide) ?_ ?_).mono ?_
  ·rw [kset_same]; rfl
  ·rw [← codes_sort,List.map_map]; rfl
  rintro V2 _ ⟨rfl,rfl⟩
  refine⟨nofun,(),rfl,kset_le2 (kset_le hb) hb,b,c,sp,_,hb,hc,kset_same,rfl⟩
theorem codes_len:codesK.length=20:=by decide +kernel
end Go.Proofs.YtceoihhldnnenaaGreatDoor
namespace Go.Proofs.YtceoihhldnnenaaGreatDoor
open Sx
set_option maxRecDepth 100000
def entT (i:Nat) (p:ByteArray × Value):MapEntry:=⟨.string p.1,p.2,i⟩
def entsT:Nat→List (ByteArray × Value)→List MapEntry
 | _,[]=>[]
 | i,p :: l=>entT i p :: entsT (i+1) l
theorem entsT_app:∀ (l:List (ByteArray × Value)) (i:Nat) (p:ByteArray × Value),entsT i (l++[p])=entsT i l++[entT (i+l.length) p]
 | [],i,p=>rfl
 | q :: l,i,p=>by
  show entT i q :: entsT (i+1) (l++[p])=_
  rw [entsT_app l (i+1) p,List.length_cons,show i+1+l.length=i+(l.length+1) by omega]; rfl
def lkT (k:ByteArray):List (ByteArray × Value)→Nat→Option (Nat × Value)
 | [],_=>none
 | p :: l,j=>if k=p.1 then some (j,p.2) else lkT k l (j+1)
theorem lkT_none {k:ByteArray}:∀ {l:List (ByteArray × Value)} {j:Nat},(∀ p∈l,k≠p.1)→lkT k l j=none
 | [],_,_=>rfl
 | p :: l,j,h=>by rw [lkT,if_neg (h p (by simp)),lkT_none fun q hq=>h q (by simp [hq])]
theorem beq_text (a b:ByteArray):(a == b)=decide (a=b):=by
 obtain⟨a⟩:=a
 obtain⟨b⟩:=b
 have e:((⟨a⟩:ByteArray) == ⟨b⟩)=(a == b):=rfl
 rw [e]
 by_cases h:a=b
 ·subst h; simp
 ·rw [decide_eq_false (fun q=>h (ByteArray.mk.inj q))]
  exact beq_false_of_ne h
theorem now_text (k:ByteArray):∀ (l:List (ByteArray × Value)) (i j:Nat),Instr.findNow .string (.string k) (entsT i l) j=some (lkT k l j)
 | [],_,_=>rfl
 | p :: l,i,j=>by
  have ih:=now_text k l (i+1) (j+1)
  have e:Instr.sameNow .string (.string k) (entT i p).key=some (decide (k=p.1)):=by
   show some (k == p.1)=_
   rw [beq_text]
  rw [entsT,Instr.findNow,e,lkT]
  by_cases h:k=p.1
  ·rw [decide_eq_true h,if_pos h]; rfl
  ·rw [decide_eq_false h,if_neg h]; exact ih
section
variable {P:Program} {V:Know} {M T E m i c:Nat} {l:List (ByteArray × Value)} (hM:P.underlying M=some (.map T E)) (hT:P.underlying T=some .string) (hV:V m=some (mapC (entsT i l),(c,(1,0))))
include hT in
theorem run_keyText (w:World) (k:ByteArray):(Instr.findKey T (.string k) (entsT i l)).run P w=.ok (lkT k l 0) w:=by
 simp only [Instr.findKey,run_underlying hT,Sem.run_bind,Result.andThen_ok,now_text]
 rfl
include hT in
theorem run_chkText (w:World) (e:Bool) (k:ByteArray):(Instr.checkKey e 10000 T (.string k)).run P w=.ok () w:=by
 show(Instr.checkKey e (9999+1) T (.string k)).run P w=_
 generalize 9999=n
 simp [Instr.checkKey,run_underlying hT]
include hM hT hV
theorem semx_lkText {z:Value} (hz:∀ w,(zeroValue E).run P w=.ok z w) (k:ByteArray) :
  SemX P V (MOp.lk M (.map (some m)) (.string k) true).sem (fun V' r=>V'=V∧r=.tuple #[((lkT k l 0).map (·.2)).getD z,.bool (lkT k l 0).isSome]):=by
 intro w hw
 have hm:=hw _ _ _ hV
 rw [objOf_map] at hm
 have hg:(getObj m).run P w=.ok (.map (entsT i l).toArray c) w:=by simp [getObj,Sem.run,hm]
 refine⟨_,w,V,?_,Fr.refl V w,hw,rfl,rfl⟩
 cases h:lkT k l 0 with
 | none=>simp [MOp.sem,Instr.lookup,run_underlying hM,hg,run_chkText hT,run_keyText hT,h,hz]
 | some o=>simp [MOp.sem,Instr.lookup,run_underlying hM,hg,run_chkText hT,run_keyText hT,h]
theorem semx_upText (hc:c=i+l.length) (k:ByteArray) (x:Value) (h:∀ p∈l,k≠p.1) :
  SemX P V (MOp.up M (.map (some m)) (.string k) x).sem (fun V' r=>V'=kset V m (mapC (entsT i (l++[(k,x)])),(i+(l++[(k,x)]).length,(1,0)))∧r=.tuple #[]):=by
 intro w hw
 have hm:=hw _ _ _ hV
 rw [objOf_map] at hm
 have hg:(getObj m).run P w=.ok (.map (entsT i l).toArray c) w:=by simp [getObj,Sem.run,hm]
 obtain⟨f1,f2⟩:=map_set (k':=i+(l++[(k,x)]).length) (es':=entsT i (l++[(k,x)])) hw hV
 refine⟨_,_,_,?_,f1,f2,rfl,rfl⟩
 have hs:(setObj m (.map (entsT i (l++[(k,x)])).toArray (i+(l++[(k,x)]).length))).run P w=.ok () { w with heap:=w.heap.setIfInBounds m (.map (entsT i (l++[(k,x)])).toArray (i+(l++[(k,x)]).length)) }:=by
  simp [setObj,Sem.run,hm]
 have e:(entsT i l).toArray.push { key:=.string k,val:=x,born:=c }=(entsT i (l++[(k,x)])).toArray:=by
  rw [entsT_app,hc]
  simp [entT]
 have e2:c+1=i+(l++[(k,x)]).length:=by simp; omega
 have h0:=lkT_none (j:=0) h
 simp only [MOp.sem,Instr.mapUpdate,run_underlying hM,Sem.run_bind,Result.andThen_ok,hg,run_chkText hT,run_keyText hT,h0,e,e2,hs]
 rfl
omit hV in
theorem semx_delText {k:ByteArray} {v:Value} (hV:V m=some (mapC (entsT i ((k,v) :: l)),(c,(1,0)))) {ts:Array TypeId} {t:TypeId} (hts:ts[0]?=some M) :
  SemX P V (MOp.del ts t (.map (some m)) (.string k)).sem (fun V' r=>V'=kset V m (mapC (entsT (i+1) l),(c,(1,0)))∧r=.tuple #[]):=by
 intro w hw
 have hm:=hw _ _ _ hV
 rw [objOf_map] at hm
 have hg:(getObj m).run P w=.ok (.map (entsT i ((k,v) :: l)).toArray c) w:=by simp [getObj,Sem.run,hm]
 obtain⟨f1,f2⟩:=map_set (k':=c) (es':=entsT (i+1) l) hw hV
 refine⟨_,_,_,?_,f1,f2,rfl,rfl⟩
 have hs:(setObj m (.map (entsT (i+1) l).toArray c)).run P w=.ok () { w with heap:=w.heap.setIfInBounds m (.map (entsT (i+1) l).toArray c) }:=by
  simp [setObj,Sem.run,hm]
 have e:(entsT i ((k,v) :: l)).toArray.eraseIdxIfInBounds 0=(entsT (i+1) l).toArray:=by
  rw [entsT]; simp [Array.eraseIdxIfInBounds]
 have h0:lkT k ((k,v) :: l) 0=some (0,v):=if_pos rfl
 have a0:(#[Value.map (some m),Value.string k]:Array Value)[0]?=some (.map (some m)):=rfl
 have a1:(#[Value.map (some m),Value.string k]:Array Value)[1]?=some (.string k):=rfl
 simp only [MOp.sem,Builtin.delete_,hts,a0,a1,run_underlying hM,Sem.run_bind,Result.andThen_ok,hg,run_chkText hT,run_keyText hT,h0,e,hs]
 rfl
end
end Go.Proofs.YtceoihhldnnenaaGreatDoor
