/-
  Amounts taken away, TaxIn, and DoTax, in the program and in the reference.
-/
import Derived.Test.YtceoihhldnnenaaGreatDoorTotB
import Derived.Test.YtceoihhldnnenaaGreatDoorCv
import Derived.Test.YtceoihhldnnenaaGreatDoorLegs
import Derived.Test.YtceoihhldnnenaaGreatDoorRtM
namespace Go.Proofs.YtceoihhldnnenaaGreatDoor
open Sx
set_option maxRecDepth 100000
def taxD (m:List Lim) (sc:Int):Int:=ten sc.toNat+valN m
def TaxR (g:DMoney) (m:List Lim) (sc md:Int) (t:DMoney × DMoney):Prop :=
 ∃ z e q,RedS (svM g*ten sc.toNat) (taxD m sc) z true∧RndP md z e q∧t.1=(g.1,e,q,())∧MonP t.2∧t.2.1=g.1∧svM t.2=svM g-sval e q
theorem taxD_pos {m:List Lim} {sc:Int} (h:Can m):0<taxD m sc:=by
 have h1:=valN_nonneg h.1
 have h2:=ten_pos sc.toNat
 unfold taxD
 omega
theorem taxR_inj {g:DMoney} {m:List Lim} {sc md:Int} {t t':DMoney × DMoney} (hm:Can m) (h:TaxR g m sc md t) (h':TaxR g m sc md t'):t'=t:=by
 obtain⟨z,e,q,hz,hq,e1,ok,e2,v⟩:=h
 obtain⟨z',e',q',hz',hq',e1',ok',e2',v'⟩:=h'
 obtain⟨rfl,_⟩:=redS_inj (taxD_pos hm) hz hz'
 obtain⟨rfl,rfl⟩:=rndP_inj hq hq'
 exact Prod.ext (e1'.trans e1.symm) (mon_inj ok' ok (e2'.trans e2.symm) (v'.trans v.symm))
noncomputable def taxT (g:DMoney) (m:List Lim) (sc md:Int):DMoney × DMoney:=theOne (TaxR g m sc md)
theorem taxT_eq {g:DMoney} {m:List Lim} {sc md:Int} {t:DMoney × DMoney} (hm:Can m) (h:TaxR g m sc md t):taxT g m sc md=t:=theOne_eq h fun _ k=>taxR_inj hm h k
theorem sval_pos {c:Bool} {o:List Lim} (h:c=false):sval c o=valN o:=by subst h; simp [sval]
theorem tax_le {g:DMoney} {m:List Lim} {sc md:Int} {z:DRat} {e:Bool} {q:List Lim} (hg:PayP g) (hm:Can m) (hz:RedS (svM g*ten sc.toNat) (taxD m sc) z true) (hq:RndP md z e q):e=false∧valN q≤valN g.2.2.1:=by
 have D0:=taxD_pos (sc:=sc) hm
 have g0:=valN_nonneg hg.1.2.1.1.1.1
 have T0:=ten_pos sc.toNat
 have eg:svM g=valN g.2.2.1:=sval_pos hg.2
 obtain⟨v,p,_⟩:=redS_val D0 hz
 have zneg:z.1=false:=by
  obtain⟨p',q',_,⟨_,_,_,rfl⟩ | ⟨_,c,_⟩⟩:=hz
  ·have:=Int.mul_nonneg g0 (show 0≤ten sc.toNat by omega)
   exact decide_eq_false (by rw [eg]; omega)
  ·cases c
 rw [sval_pos zneg,eg] at v
 have hTD:ten sc.toNat≤taxD m sc:=by
  have:=valN_nonneg hm.1
  unfold taxD
  omega
 have hle:valN z.2.1≤valN z.2.2.1*valN g.2.2.1:=by
  refine Int.le_of_mul_le_mul_right (a:=taxD m sc) ?_ D0
  have h1:valN z.2.2.1*valN g.2.2.1*ten sc.toNat≤valN z.2.2.1*valN g.2.2.1*taxD m sc:=Int.mul_le_mul_of_nonneg_left hTD (Int.mul_nonneg (by omega) g0)
  calc valN z.2.1*taxD m sc=valN g.2.2.1*ten sc.toNat*valN z.2.2.1:=v
   _=valN z.2.2.1*valN g.2.2.1*ten sc.toNat:=by ac_rfl
   _≤_:=h1
 refine⟨by rw [hq.2.2,zneg]; rfl,?_⟩
 rw [hq.2.1]
 have em:=Int.mul_ediv_add_emod (valN z.2.1) (valN z.2.2.1)
 have m0:=Int.emod_nonneg (valN z.2.1) (show valN z.2.2.1≠0 by omega)
 have up:∀ k:Int,valN g.2.2.1+k≤valN z.2.1 / valN z.2.2.1→valN z.2.2.1*(valN g.2.2.1+k)≤valN z.2.2.1*(valN z.2.1 / valN z.2.2.1):=fun k h=>Int.mul_le_mul_of_nonneg_left h (by omega)
 refine Int.le_of_not_gt fun hgt=>?_
 rcases rnd_cases md z.1 (valN z.2.1) (valN z.2.2.1) with ⟨e1,hr⟩ | e1
 ·have:=up 0 (by omega)
  rw [Int.add_zero] at this
  omega
 ·have:=up 1 (by omega)
  rw [Int.mul_add,Int.mul_one] at this
  omega
theorem redS_sum {S1 D1 S2 D2:Int} {x y z:DRat} {e:Bool} (h1:0<D1) (h2:0<D2) (hx:RedS S1 D1 x true) (hy:RedS S2 D2 y true) (hz:RedS (sval x.1 x.2.1*valN y.2.2.1+sval y.1 y.2.1*valN x.2.2.1) (valN x.2.2.1*valN y.2.2.1) z e):RedS (S1*D2+S2*D1) (D1*D2) z e:=by
 obtain⟨v1,p1,_⟩:=redS_val h1 hx
 obtain⟨v2,p2,_⟩:=redS_val h2 hy
 refine redS_cross (Int.mul_pos p1 p2) (Int.mul_pos h1 h2) ?_ hz
 have a1:sval x.1 x.2.1*valN y.2.2.1*(D1*D2)=S1*D2*(valN x.2.2.1*valN y.2.2.1):=by
  calc sval x.1 x.2.1*valN y.2.2.1*(D1*D2)=(sval x.1 x.2.1*D1)*(valN y.2.2.1*D2):=by ac_rfl
   _=(S1*valN x.2.2.1)*(valN y.2.2.1*D2):=by rw [v1]
   _=_:=by ac_rfl
 have a2:sval y.1 y.2.1*valN x.2.2.1*(D1*D2)=S2*D1*(valN x.2.2.1*valN y.2.2.1):=by
  calc sval y.1 y.2.1*valN x.2.2.1*(D1*D2)=(sval y.1 y.2.1*D2)*(valN x.2.2.1*D1):=by ac_rfl
   _=(S2*valN y.2.2.1)*(valN x.2.2.1*D1):=by rw [v2]
   _=_:=by ac_rfl
 rw [Int.add_mul,Int.add_mul,a1,a2]
theorem tax_bd {n:Bool} {m:List Lim} {sc:Int} (h:TaxP n m sc):0≤valN m∧valN m<1000000000∧0<ten sc.toNat∧ten sc.toNat≤1000000000000000000000000000000:=by
 have hc:=h.1.1.1.1
 have h1:=(valTo_bd hc.1 m.length).2
 have h2:=pw_mono h.2.1
 have h3:valTo m m.length=valN m:=rfl
 have h4:=h.1.2.2
 have h5:=ten_mono (show sc.toNat≤30 by omega)
 have e30:ten 30=1000000000000000000000000000000:=by decide
 have e1:(1000000000:Int) ^ 1=1000000000:=by decide
 exact⟨valN_nonneg hc.1,by omega,ten_pos _,by omega⟩
theorem tax_by {n:Bool} {m:List Lim} {sc:Int} {x y z:DRat} {e:Bool} (h:TaxP n m sc) (hx:RedS 1 1 x true) (hy:RedS (sval n m) (ten sc.toNat) y true) (hz:RedS (sval x.1 x.2.1*valN y.2.2.1+sval y.1 y.2.1*valN x.2.2.1) (valN x.2.2.1*valN y.2.2.1) z e):RedS (taxD m sc) (ten sc.toNat) z e∧e=true:=by
 obtain⟨m0,m1,t0,t1⟩:=tax_bd h
 have k:=redS_sum (by decide) t0 hx hy hz
 simp only [sval_pos h.2.2.1,Int.one_mul,Int.mul_one] at k
 have e18:(1000000000:Int) ^ 18=1000000000000000000000000000000000000000000000000000000000000000000000000000000000000000000000000000000000000000000000000000000000000000000000000000000000000000000:=by decide
 exact⟨k,redS_fits t0 k (by omega) (by omega)⟩
theorem mon_bd {g:DMoney} (h:MonP g):valN g.2.2.1<1000000000000000000000000000000000000:=by
 have h1:=(valTo_bd h.2.1.1.1.1 g.2.2.1.length).2
 have h2:=pw_mono h.2.2
 have h3:valTo g.2.2.1 g.2.2.1.length=valN g.2.2.1:=rfl
 have e4:(1000000000:Int) ^ 4=1000000000000000000000000000000000000:=by decide
 omega
theorem tax_net {g:DMoney} {n:Bool} {m:List Lim} {sc:Int} {x y z:DRat} {e:Bool} (hg:PayP g) (h:TaxP n m sc) (hx:RedS (svM g) 1 x true) (hy:RedS (taxD m sc) (ten sc.toNat) y true) (hz:RedS (sv (x.1 != y.1) (valN x.2.1*valN y.2.2.1)) (valN x.2.2.1*valN y.2.1) z e):RedS (svM g*ten sc.toNat) (taxD m sc) z e∧e=true:=by
 obtain⟨m0,m1,t0,t1⟩:=tax_bd h
 have D0:=taxD_pos (sc:=sc) h.1.1.1.1
 have k:=redS_div (by decide) t0 D0 hx hy hz
 rw [Int.one_mul] at k
 have e18:(1000000000:Int) ^ 18=1000000000000000000000000000000000000000000000000000000000000000000000000000000000000000000000000000000000000000000000000000000000000000000000000000000000000000000:=by decide
 have eg:svM g=valN g.2.2.1:=sval_pos hg.2
 have g0:=valN_nonneg hg.1.2.1.1.1.1
 have g1:=mon_bd hg.1
 refine⟨k,redS_fits D0 k ?_ ?_⟩
 ·have:=Int.mul_le_mul (show svM g≤1000000000000000000000000000000000000 by omega) t1 (by omega) (by omega)
  have:=Int.mul_nonneg (show 0≤svM g by omega) (show 0≤ten sc.toNat by omega)
  omega
 ·unfold taxD
  omega
theorem tax_len {y:DRat} {m:List Lim} {sc:Int} (hm:Can m) (hy:RedS (taxD m sc) (ten sc.toNat) y true):0<y.2.1.length :=
 (can_pos (redS_ok (ten_pos _) hy rfl).1.1.1).2 ((redS_val (ten_pos _) hy).2.2 (taxD_pos hm)).2
open Classical in
noncomputable def taxRun (x:DLedger) (a b t:ByteArray) (m:DMoney) (d:DDec) (md:Int):DLedger × Int :=
 if ((WordP a∧WordP b)∧WordP t)∧PayP m∧TaxP d.1 d.2.1 d.2.2.1∧RmP md then
  if fitsP x.1 m.1 [a,b,t]≠0 then (zeroL,fitsP x.1 m.1 [a,b,t]) else postP x [(a,negM m),(b,(taxT m d.2.1 d.2.2.1 md).1),(t,(taxT m d.2.1 d.2.2.1 md).2)]
 else (zeroL,1)
theorem taxRun_no {x:DLedger} {a b t:ByteArray} {m:DMoney} {d:DDec} {md:Int} (h:¬ (((WordP a∧WordP b)∧WordP t)∧PayP m∧TaxP d.1 d.2.1 d.2.2.1∧RmP md)):taxRun x a b t m d md=(zeroL,1):=if_neg h
theorem taxRun_fit {x:DLedger} {a b t:ByteArray} {m:DMoney} {d:DDec} {md:Int} (h:((WordP a∧WordP b)∧WordP t)∧PayP m∧TaxP d.1 d.2.1 d.2.2.1∧RmP md) (k:fitsP x.1 m.1 [a,b,t]≠0):taxRun x a b t m d md=(zeroL,fitsP x.1 m.1 [a,b,t]):=(if_pos h).trans (if_pos k)
theorem taxRun_post {x:DLedger} {a b t:ByteArray} {m:DMoney} {d:DDec} {md:Int} (h:((WordP a∧WordP b)∧WordP t)∧PayP m∧TaxP d.1 d.2.1 d.2.2.1∧RmP md) (k:¬ fitsP x.1 m.1 [a,b,t]≠0) {y:DMoney × DMoney} (hy:TaxR m d.2.1 d.2.2.1 md y):taxRun x a b t m d md=postP x [(a,negM m),(b,y.1),(t,y.2)]:=by
 rw [← taxT_eq h.2.2.1.1.1.1.1 hy]
 exact(if_pos h).trans (if_neg k)
theorem taxRun_ok {x:DLedger} {a b t:ByteArray} {m:DMoney} {d:DDec} {md:Int} (h:((WordP a∧WordP b)∧WordP t)∧PayP m∧TaxP d.1 d.2.1 d.2.2.1∧RmP md) {y:DMoney × DMoney} (hy:TaxR m d.2.1 d.2.2.1 md y):taxRun x a b t m d md=legsP x [(a,negM m),(b,y.1),(t,y.2)]:=by
 obtain⟨_,_,_,_,_,hy1,_,hy2,_⟩:=id hy
 have e:=legs_fits (x:=x) (c:=m.1) (legs:=[(a,negM m),(b,y.1),(t,y.2)]) (fun g hg=>by
  simp only [List.mem_cons,List.not_mem_nil,or_false] at hg
  rcases hg with rfl | rfl | rfl
  ·rfl
  ·exact congrArg (·.1) hy1
  ·exact hy2)
 rw [e]
 by_cases k:fitsP x.1 m.1 [a,b,t]≠0
 ·rw [taxRun_fit h k]
  exact(if_pos k).symm
 ·rw [taxRun_post h k hy]
  exact(if_neg k).symm
theorem taxRun_zero {x:DLedger} {a b t:ByteArray} {m:DMoney} {d:DDec} {md:Int}:(taxRun x a b t m d md).2≠0→(taxRun x a b t m d md).1=zeroL:=by
 unfold taxRun
 split
 ·split
  ·intro _; rfl
  ·exact postP_ans
 ·intro _; rfl
end Go.Proofs.YtceoihhldnnenaaGreatDoor
namespace Go.Proofs.YtceoihhldnnenaaGreatDoor
open Sx
set_option maxRecDepth 100000
theorem do_inj {x x':DLedger} {n n':Int} {y:DLedger × Int} (h:(x,n)=y) (h':(x',n')=y):x=x'∧n=n':=by
 have:=h.trans h'.symm
 simpa using this
def Ans (y:DLedger × Int):Prop:=(y.2=0∧LedgerOkP y.1)∨(y.2≠0∧y.1=zeroL)
theorem ans_perf {x:DLedger} {y:DLedger × Int} (h:LedgerOkP x→Ans y):Ans (perfP x y):=by
 by_cases k:LedgerOkP x
 ·rw [perfP_ok k]; exact h k
 ·rw [perfP_no k]; exact .inr ⟨by decide,rfl⟩
theorem ans_tot {y:DLedger × Int} (h:Ans y) {x:DLedger} {n:Int} (e:(x,n)=y):rLedger.tot x≤1048576:=by
 subst e
 rcases h with ⟨_,h⟩ | ⟨_,h⟩
 ·exact Nat.le_trans (ledger_tot h) (by decide)
 ·replace h:x=zeroL:=h
  subst h; decide
abbrev UI (V:Know) (y:DLedger × Int):Know→Value→Prop:=fun V' v=>V.le V'∧∃ c x f n,v=.tuple #[qv3 c,.int .i64 n]∧rLedger.R V' c x f∧Own V V' f∧(x,n)=y
abbrev US (V:Know) (y:DLedger × Int):Know→Value→Prop:=fun V' v=>V.le V'∧∃ c x f n,v=.tuple #[qv3 c,.int .i64 n]∧rLedger.R V' c x f∧True∧(x,n)=y
theorem doPost_u {V V':Know} {y:DLedger × Int} {v:Value} (h:DoPost V y V' v):UI V y V' v:=by
 obtain⟨le,c,f,e,R,O⟩:=h
 exact⟨le,c,_,f,_,e,R,O,rfl⟩
theorem doS_u {V V':Know} {y:DLedger × Int} {v:Value} (h:DoS V y V' v):US V y V' v:=by
 obtain⟨le,c,f,e,R⟩:=h
 exact⟨le,c,_,f,_,e,R,trivial,rfl⟩
end Go.Proofs.YtceoihhldnnenaaGreatDoor
namespace Go.Proofs.YtceoihhldnnenaaGreatDoor
open Sx
set_option maxRecDepth 100000
theorem addM_ok {x y z:DMoney} (h:addM x y=(z,true)) (k:∃ r,AddP x y r):MonP z∧z.1=x.1:=by
 obtain⟨r,hr⟩:=k
 have:=(addM_eq hr).symm.trans h
 subst this
 rcases hr with ⟨_,_,h1,h2,_⟩ | ⟨h1,_⟩
 ·exact⟨h1,h2⟩
 ·cases h1
open Classical in
theorem addP_ex (x y:DMoney):∃ r,AddP x y r:=by
 by_cases h:AlikeP x y∧∃ z:DMoney,MonP z∧z.1=x.1∧svM z=svM x+svM y
 ·obtain⟨h1,z,h2,h3,h4⟩:=h
  exact⟨(z,true),.inl ⟨rfl,h1,h2,h3,h4⟩⟩
 ·exact⟨(nilM,false),.inr ⟨rfl,rfl,h⟩⟩
theorem book_set {l:List DAcct} (h:BookOkP l) {i:Nat} (hi:i<l.length) {z:DMoney} (hz:MonP z):BookOkP (l.set i (l[i].1,z)):=by
 have hk:∀ (j:Nat) (hj:j<(l.set i (l[i].1,z)).length),(l.set i (l[i].1,z))[j].1=(l[j]'(by simpa using hj)).1:=fun j hj=>by
  rw [List.getElem_set]
  split
  ·rename_i ij; subst ij; rfl
  ·rfl
 refine⟨by rw [List.length_set]; exact h.1,fun j hj=>?_⟩
 obtain⟨q0,q1,q2,q3⟩:=h.2 j (by simpa using hj)
 refine⟨hj,by rw [hk]; exact q1,?_,fun h0=>by rw [hk,hk]; exact q3 h0⟩
 rw [List.getElem_set]
 split
 ·exact hz
 ·exact q2
theorem postB_ok {l:List DAcct} {n:ByteArray} {m:DMoney} {y:List DAcct} (h:postB l n m=(y,true)):BookOkP y:=by
 by_cases hb:BookOkP l
 ·cases hf:fnd n l with
  | none=>rw [postB_none hf] at h; simp at h
  | some i =>
   obtain⟨hi,_⟩:=fnd_at hf
   obtain⟨⟨z,ok⟩,ha⟩:∃ r,addM l[i].2 m=r:=⟨_,rfl⟩
   rw [postB_some hb hf hi ha] at h
   cases ok with
   | false=>simp at h
   | true =>
    simp only [if_true,Prod.mk.injEq,and_true] at h
    subst h
    exact book_set hb hi (addM_ok ha (addP_ex _ _)).1
 ·rw [postB_no hb] at h; simp at h
theorem postL_ok:∀ {legs:List DAcct} {l y:List DAcct},BookOkP l→postL l legs=some y→BookOkP y
 | [],l,y,h,e=>by
  rw [postL] at e
  cases e; exact h
 | g :: gs,l,y,h,e=>by
  obtain⟨⟨l',ok⟩,hp⟩:∃ r,postB l g.1 g.2=r:=⟨_,rfl⟩
  rw [postL_cons hp] at e
  cases ok with
  | false=>simp at e
  | true=>exact postL_ok (postB_ok hp) (by simpa using e)
theorem postP_Ans {x:DLedger} {legs:List DAcct} (h:LedgerOkP x):Ans (postP x legs):=by
 unfold postP
 cases hp:postL x.1 legs with
 | none=>exact .inr ⟨(by show(8:Int)≠0; decide),rfl⟩
 | some l=>exact .inl ⟨rfl,postL_ok h.1 hp,h.2⟩
end Go.Proofs.YtceoihhldnnenaaGreatDoor
namespace Go.Proofs.YtceoihhldnnenaaGreatDoor
open Sx
set_option maxRecDepth 100000
theorem sval_flip {e:Bool} {o:List Lim}:sval (!e) o=-sval e o:=by
 unfold sval
 cases e <;> simp
abbrev SubPost (V:Know) (x y:DMoney):Know→Value→Prop:=fun V' v=>V.le V'∧∃ c z f,v=.tuple #[qv2 c,.bool true]∧rMoney.R V' c z f∧MonP z∧z.1=x.1∧svM z=svM x-svM y
theorem sub_len {x y:DMoney} {e:Bool} {o:List Lim} (mx:PayP x) (my:MonP y) (ny:y.2.1=false) (hl:valN y.2.2.1≤valN x.2.2.1) (C:Can o) (v:sval e o=svM x-svM y):o.length≤4:=by
 have h1:=sval_abs (c0:=e) C.1
 have h2:=valN_nonneg my.2.1.1.1.1
 have ex:svM x=valN x.2.2.1:=sval_pos mx.2
 have ey:svM y=valN y.2.2.1:=sval_pos ny
 have h3:=can_len mx.1.2.1.1.1 C (by omega)
 have h4:=mx.1.2.2
 omega
theorem cS_IntSubQ (V:Know) (c0:Bool) (c1:SlV) (d0:Bool) (d1:SlV) (a b:List Lim) (f g:List Nat) (h:LR rI V c1 a f) (h':LR rI V d1 b g) (ha:IntOkP c0 a) (hb:IntOkP d0 b) (la:a.length≤20) (lb:b.length≤20) :
  CallX Tryz.prog V 46 [qv0 (c0,c1,()),qv0 (d0,d1,())] (IntPost V (sval c0 a-sval d0 b) 50):=by
 refine CallX.of_fits Tryz.mix (fS_IntSub _ _) fun _=>?_
 simp only [tS_IntSub,T.wp]
 refine(cS_IntOk V c0 c1 a f h).mono ?_
 rintro V1 _ ⟨rfl,e1,rfl,he1⟩
 obtain rfl:e1=true:=he1.2 ha
 refine⟨nofun,true,rfl,nofun,fun _=>(cS_IntOk V1 d0 d1 b g h').mono ?_⟩
 rintro V2 _ ⟨rfl,e2,rfl,he2⟩
 obtain rfl:e2=true:=he2.2 hb
 refine⟨nofun,true,rfl,nofun,fun _=>(rS_IntNeg V2 d0 d1 b g h' hb).mono ?_⟩
 rintro V3 _ ⟨le3,s3,f3,rfl,L3,_⟩
 refine⟨fun _=>le3,_,rfl,(cS_l04Add V3 c0 c1 _ s3 a b f f3 (h.le le3) L3 ha.1.1 hb.1.1 (by omega) (by omega)).mono ?_⟩
 rintro V4 _ ⟨le4,e4,s4,o4,f4,rfl,L4,O4,ok4,v4,n4⟩
 refine⟨nofun,_,rfl,le3.trans le4,e4,s4,o4,f4,rfl,L4,O4.pre le3,ok4,?_,n4⟩
 rw [v4,(made_ok (q:=!d0) hb.1.1 (by omega)).2,sval_flip]
 omega
theorem cI_MoneySubP {V:Know} (hV:HcI V) (c d:Scs MonSh) (x y:DMoney) (f g:List Nat) (hx:rMoney.R V c x f) (hy:rMoney.R V d y g) (mx:PayP x) (my:MonP y) (ny:y.2.1=false) (ey:y.1=x.1) (hl:valN y.2.2.1≤valN x.2.2.1) :
  CallX Tryz.prog V 313 [qv2 c,qv2 d] (SubPost V x y):=by
 refine CallX.of_fits Tryz.mix (fI_MoneySub _ _) fun _=>?_
 simp only [tI_MoneySub,T.wp]
 refine(cI_alike hV c d x y f g hx hy).mono ?_
 rintro V1 _ ⟨le1,e1,rfl,he1⟩
 obtain rfl:e1=true:=he1.2 ⟨mx.1,my,ey.symm⟩
 obtain⟨s,rfl,hlx,z0⟩:=mon_elim hx
 obtain⟨s',rfl,hly,z0'⟩:=mon_elim hy
 have nx:=mx.1.2.2
 have n2:=my.2.2
 refine⟨nofun,true,rfl,nofun,fun _=>(cI_intNeg V1 y.2.1 s' y.2.2.1 g (hly.le le1) (by omega)).mono ?_⟩
 rintro V2 _ ⟨le2,s2,f2,rfl,L2,_⟩
 have l2:=le1.trans le2
 refine⟨fun _=>le2,_,rfl,(cI_intAdd V2 x.2.1 s _ s2 x.2.2.1 y.2.2.1 f f2 (hlx.le l2) L2 mx.1.2.1.1.1 my.2.1.1.1 (by omega) (by omega)).mono ?_⟩
 rintro V3 _ ⟨le3,e3,s3,o3,f3,rfl,L3,_,C3,v3,p3,_⟩
 rw [(made_ok (q:=!y.2.1) my.2.1.1.1 (by omega)).2,sval_flip] at v3
 replace v3:sval e3 o3=svM x-svM y:=v3
 have n3:=sub_len mx my ny hl C3 v3
 have ok3:IntOkP e3 o3:=⟨⟨C3,by omega⟩,p3⟩
 have l3:=l2.trans le3
 refine⟨fun _=>le3,_,rfl,(rI_moneyOf (hV.le l3) x.1 e3 s3 o3 f3 L3 mx.1.1 ok3).mono ?_⟩
 rintro V4 _ ⟨le4,⟨_,rfl⟩ | ⟨k,_⟩⟩
 ·exact⟨nofun,((x.1,e3,s3,()),true,()),rfl,l3.trans le4,(x.1,e3,s3,()),(x.1,e3,o3,()),f3,rfl,mon_mk z0 (L3.le le4),⟨mx.1.1,ok3,n3⟩,rfl,v3⟩
 ·exact absurd n3 k
theorem cS_MoneySubP {V:Know} (c d:Scs MonSh) (x y:DMoney) (f g:List Nat) (hx:rMoney.R V c x f) (hy:rMoney.R V d y g) (mx:PayP x) (my:MonP y) (ny:y.2.1=false) (ey:y.1=x.1) (hl:valN y.2.2.1≤valN x.2.2.1) :
  CallX Tryz.prog V 120 [qv2 c,qv2 d] (SubPost V x y):=by
 refine CallX.of_fits Tryz.mix (fS_MoneySub _ _) fun _=>?_
 simp only [tS_MoneySub,T.wp]
 refine(cS_l09Both c d x y f g hx hy).mono ?_
 rintro V1 _ ⟨le1,e1,rfl,he1⟩
 obtain rfl:e1=true:=he1.2 ⟨mx.1,my,ey.symm⟩
 obtain⟨s,rfl,hlx,z0⟩:=mon_elim hx
 obtain⟨s',rfl,hly,z0'⟩:=mon_elim hy
 have nx:=mx.1.2.2
 have n2:=my.2.2
 refine⟨nofun,true,rfl,nofun,fun _=>(cS_IntSubQ V1 x.2.1 s y.2.1 s' x.2.2.1 y.2.2.1 f g (hlx.le le1) (hly.le le1) mx.1.2.1 my.2.1 (by omega) (by omega)).mono ?_⟩
 rintro V3 _ ⟨le3,e3,s3,o3,f3,rfl,L3,_,ok3,v3,_⟩
 replace v3:sval e3 o3=svM x-svM y:=v3
 have n3:=sub_len mx my ny hl ok3.1.1 v3
 have l3:=le1.trans le3
 refine⟨fun _=>le3,_,rfl,(rS_l09Make x.1 e3 s3 o3 f3 L3 mx.1.1 ok3).mono ?_⟩
 rintro V4 _ ⟨le4,⟨_,rfl⟩ | ⟨k,_⟩⟩
 ·exact⟨nofun,((x.1,e3,s3,()),true,()),rfl,l3.trans le4,(x.1,e3,s3,()),(x.1,e3,o3,()),f3,rfl,mon_mk z0 (L3.le le4),⟨mx.1.1,ok3,n3⟩,rfl,v3⟩
 ·exact absurd n3 k
abbrev TaxPost (V:Know) (g:DMoney) (m:List Lim) (sc md:Int):Know→Value→Prop:=fun V' v=>V.le V'∧∃ c1 f1 c2 f2 c3 t,v=.tuple #[qv2 c1,qv2 c2,qv1 c3,.bool true]∧rMoney.R V' c1 t.1 f1∧rMoney.R V' c2 t.2 f2∧TaxR g m sc md t
theorem one_intok:IntOkP false [((1:Int),())]:=one_ok.1
theorem one_sval:sval false [((1:Int),())]=1:=by rw [sval_pos rfl,valN_one]
theorem cI_TaxIn {V:Know} (hV:HcI V) (c:Scs MonSh) (x:DMoney) (f:List Nat) (h:rMoney.R V c x f) (px:PayP x) (n:Bool) (t:SlV) (m:List Lim) (sc:Int) (g:List Nat) (h':LR rI V t m g) (hd:TaxP n m sc) (md:Int) (hm:RmP md) :
  CallX Tryz.prog V 303 [qv2 c,decV n t sc,.int .i64 md] (TaxPost V x m sc md):=by
 refine CallX.of_fits Tryz.mix (fI_TaxIn _ _ _) fun _=>?_
 obtain⟨s,rfl,hl,z0⟩:=mon_elim h
 simp only [tI_TaxIn,T.wp]
 refine(cI_MoneyOk hV x.1 x.2.1 s x.2.2.1 f hl).mono ?_
 rintro V1 _ ⟨le1,e1,rfl,he1⟩
 obtain rfl:e1=true:=he1.2 px.1
 refine⟨nofun,true,rfl,nofun,fun _=>(cI_TaxRateOk V1 n t m g sc (h'.le le1)).mono ?_⟩
 rintro V2 _ ⟨le2,e2,rfl,he2⟩
 obtain rfl:e2=true:=he2.2 hd
 have l2:=le1.trans le2
 refine⟨nofun,true,rfl,nofun,fun _=>(cI_IntOf1 V2).mono ?_⟩
 rintro V3 _ ⟨le3,s3,f3,rfl,L3⟩
 have l3:=l2.trans le3
 refine⟨nofun,(false,s3,()),rfl,(cI_RatInt V3 false s3 _ f3 L3 one_intok).mono ?_⟩
 rintro V4 _ ⟨le4,c4,x4,e4,f4,rfl,R4,_,hx4⟩
 rw [one_sval] at hx4
 obtain rfl:e4=true:=redS_fits (by decide) hx4 (by decide) (by decide)
 have l4:=l3.trans le4
 refine⟨nofun,(c4,true,()),rfl,(cI_DecRat V4 n t m g sc (h'.le l4) hd.1).mono ?_⟩
 rintro V5 _ ⟨le5,c5,x5,f5,rfl,R5,_,hx5⟩
 have l5:=l4.trans le5
 have ok4:=redS_ok (by decide) hx4 rfl
 have ok5:=redS_ok (ten_pos _) hx5 rfl
 obtain⟨s4,t4,g4,k4,rfl,L4,M4,rfl⟩:=rat_elim (rRat.le R4 le5)
 obtain⟨s5,t5,g5,k5,rfl,L5,M5,rfl⟩:=rat_elim R5
 refine⟨fun _=>le5,_,rfl,(cI_RatAdd V5 x4.1 s4 t4 x5.1 s5 t5 x4.2.1 x4.2.2.1 x5.2.1 x5.2.2.1 _ _ _ _ L4 M4 L5 M5 ok4 ok5).mono ?_⟩
 rintro V6 _ ⟨le6,c6,x6,e6,f6,rfl,R6,_,hx6⟩
 have l6:=l5.trans le6
 obtain⟨hx6,rfl⟩:=tax_by hd hx4 hx5 hx6
 have ok6:=redS_ok (ten_pos _) hx6 rfl
 refine⟨nofun,(c6,true,()),rfl,(cI_MoneyRat (hV.le l6) x.1 x.2.1 s x.2.2.1 f (hl.le l6) px.1).mono ?_⟩
 rintro V7 _ ⟨le7,c7,x7,f7,rfl,R7,_,hx7⟩
 replace hx7:RedS (svM x) 1 x7 true:=hx7
 have l7:=l6.trans le7
 have ok7:=redS_ok (by decide) hx7 rfl
 obtain⟨s6,t6,g6,k6,rfl,L6,M6,rfl⟩:=rat_elim (rRat.le R6 le7)
 obtain⟨s7,t7,g7,k7,rfl,L7,M7,rfl⟩:=rat_elim R7
 refine⟨fun _=>le7,_,rfl,(cI_RatDiv V7 x7.1 s7 t7 x6.1 s6 t6 x7.2.1 x7.2.2.1 x6.2.1 x6.2.2.1 _ _ _ _ L7 M7 L6 M6 ok7 ok6 (tax_len hd.1.1.1.1 hx6)).mono ?_⟩
 rintro V8 _ ⟨le8,c8,x8,e8,f8,rfl,R8,_,hx8⟩
 have l8:=l7.trans le8
 obtain⟨hx8,rfl⟩:=tax_net px hd hx7 hx6 hx8
 have ok8:=redS_ok (taxD_pos hd.1.1.1.1) hx8 rfl
 obtain⟨s8,t8,g8,k8,rfl,L8,M8,rfl⟩:=rat_elim R8
 refine⟨nofun,((x8.1,s8,t8,()),true,()),rfl,(cI_RatMoney (hV.le l8) x.1 x8 s8 t8 _ _ L8 M8 ok8 md hm px.1.1).mono ?_⟩
 rintro V9 _ ⟨le9,c9,mo,f9,c9',ra,g9,ok9,rfl,R9,_,_,e,q,hq,hc⟩
 have l9:=l8.trans le9
 obtain⟨rfl,hle⟩:=tax_le px hd.1.1.1.1 hx8 hq
 have nq:=can_len px.1.2.1.1.1 hq.1 hle
 have nx:=px.1.2.2
 rcases hc with ⟨_,rfl,rfl,_⟩ | ⟨k,_⟩
 rotate_left
 ·exact absurd (show q.length≤4 by omega) k
 have mq:MonP (x.1,false,q,()):=⟨px.1.1,(rnd_len ok8 hq).2.1,(by show q.length≤4; omega)⟩
 refine⟨nofun,(c9,c9',true,()),rfl,(cI_MoneySubP (hV.le l9) (x.1,x.2.1,s,()) c9 x (x.1,false,q,()) f f9 (rMoney.le h l9) R9 px mq rfl rfl hle).mono ?_⟩
 rintro V10 _ ⟨le10,c10,z,f10,rfl,R10,mz,z1,vz⟩
 have fin:TaxPost V x m sc md V10 (packed [qv2 c9,qv2 c10,qv1 c9',.bool true]):=⟨l9.trans le10,c9,f9,c10,f10,c9',((x.1,false,q,()),z),rfl,rMoney.le R9 le10,R10,x8,false,q,hx8,hq,rfl,mz,z1,vz⟩
 exact⟨nofun,(c10,true,()),rfl,⟨nofun,fun _=>⟨nofun,fun _=>⟨nofun,fun _=>⟨nofun,fun _=>fin⟩⟩⟩⟩⟩
theorem cS_TaxIn {V:Know} (_:HcS V) (c:Scs MonSh) (x:DMoney) (f:List Nat) (h:rMoney.R V c x f) (px:PayP x) (n:Bool) (t:SlV) (m:List Lim) (sc:Int) (g:List Nat) (h':LR rI V t m g) (hd:TaxP n m sc) (md:Int) (hm:RmP md) :
  CallX Tryz.prog V 65 [qv2 c,decV n t sc,.int .i64 md] (TaxPost V x m sc md):=by
 refine CallX.of_fits Tryz.mix (fS_TaxIn _ _ _) fun _=>?_
 obtain⟨s,rfl,hl,z0⟩:=mon_elim h
 simp only [tS_TaxIn,T.wp]
 refine(cS_MoneyOk  x.1 x.2.1 s x.2.2.1 f hl).mono ?_
 rintro V1 _ ⟨le1,e1,rfl,he1⟩
 obtain rfl:e1=true:=he1.2 px.1
 refine⟨nofun,true,rfl,nofun,fun _=>(cS_TaxRateOk V1 n t m g sc (h'.le le1)).mono ?_⟩
 rintro V2 _ ⟨le2,e2,rfl,he2⟩
 obtain rfl:e2=true:=he2.2 hd
 have l2:=le1.trans le2
 refine⟨nofun,true,rfl,nofun,fun _=>(cS_IntOf1 V2).mono ?_⟩
 rintro V3 _ ⟨le3,s3,f3,rfl,L3⟩
 have l3:=l2.trans le3
 refine⟨nofun,(false,s3,()),rfl,(cS_RatInt V3 false s3 _ f3 L3 one_intok).mono ?_⟩
 rintro V4 _ ⟨le4,c4,x4,e4,f4,rfl,R4,_,hx4⟩
 rw [one_sval] at hx4
 obtain rfl:e4=true:=redS_fits (by decide) hx4 (by decide) (by decide)
 have l4:=l3.trans le4
 refine⟨nofun,(c4,true,()),rfl,(cS_DecRat V4 n t m g sc (h'.le l4) hd.1).mono ?_⟩
 rintro V5 _ ⟨le5,c5,x5,f5,rfl,R5,_,hx5⟩
 have l5:=l4.trans le5
 have ok4:=redS_ok (by decide) hx4 rfl
 have ok5:=redS_ok (ten_pos _) hx5 rfl
 obtain⟨s4,t4,g4,k4,rfl,L4,M4,rfl⟩:=rat_elim (rRat.le R4 le5)
 obtain⟨s5,t5,g5,k5,rfl,L5,M5,rfl⟩:=rat_elim R5
 refine⟨fun _=>le5,_,rfl,(cS_RatAdd V5 x4.1 s4 t4 x5.1 s5 t5 x4.2.1 x4.2.2.1 x5.2.1 x5.2.2.1 _ _ _ _ L4 M4 L5 M5 ok4 ok5).mono ?_⟩
 rintro V6 _ ⟨le6,c6,x6,e6,f6,rfl,R6,_,hx6⟩
 have l6:=l5.trans le6
 obtain⟨hx6,rfl⟩:=tax_by hd hx4 hx5 hx6
 have ok6:=redS_ok (ten_pos _) hx6 rfl
 refine⟨nofun,(c6,true,()),rfl,(cS_MoneyRat x.1 x.2.1 s x.2.2.1 f (hl.le l6) px.1).mono ?_⟩
 rintro V7 _ ⟨le7,c7,x7,f7,rfl,R7,_,hx7⟩
 replace hx7:RedS (svM x) 1 x7 true:=hx7
 have l7:=l6.trans le7
 have ok7:=redS_ok (by decide) hx7 rfl
 obtain⟨s6,t6,g6,k6,rfl,L6,M6,rfl⟩:=rat_elim (rRat.le R6 le7)
 obtain⟨s7,t7,g7,k7,rfl,L7,M7,rfl⟩:=rat_elim R7
 refine⟨fun _=>le7,_,rfl,(cS_RatDiv V7 x7.1 s7 t7 x6.1 s6 t6 x7.2.1 x7.2.2.1 x6.2.1 x6.2.2.1 _ _ _ _ L7 M7 L6 M6 ok7 ok6 (tax_len hd.1.1.1.1 hx6)).mono ?_⟩
 rintro V8 _ ⟨le8,c8,x8,e8,f8,rfl,R8,_,hx8⟩
 have l8:=l7.trans le8
 obtain⟨hx8,rfl⟩:=tax_net px hd hx7 hx6 hx8
 have ok8:=redS_ok (taxD_pos hd.1.1.1.1) hx8 rfl
 obtain⟨s8,t8,g8,k8,rfl,L8,M8,rfl⟩:=rat_elim R8
 refine⟨nofun,((x8.1,s8,t8,()),true,()),rfl,(cS_RatMoney x.1 x8 s8 t8 _ _ L8 M8 ok8 md hm px.1.1).mono ?_⟩
 rintro V9 _ ⟨le9,c9,mo,f9,c9',ra,g9,ok9,rfl,R9,_,_,e,q,hq,hc⟩
 have l9:=l8.trans le9
 obtain⟨rfl,hle⟩:=tax_le px hd.1.1.1.1 hx8 hq
 have nq:=can_len px.1.2.1.1.1 hq.1 hle
 have nx:=px.1.2.2
 rcases hc with ⟨_,rfl,rfl,_⟩ | ⟨k,_⟩
 rotate_left
 ·exact absurd (show q.length≤4 by omega) k
 have mq:MonP (x.1,false,q,()):=⟨px.1.1,(rnd_len ok8 hq).2.1,(by show q.length≤4; omega)⟩
 refine⟨nofun,(c9,c9',true,()),rfl,(cS_MoneySubP (x.1,x.2.1,s,()) c9 x (x.1,false,q,()) f f9 (rMoney.le h l9) R9 px mq rfl rfl hle).mono ?_⟩
 rintro V10 _ ⟨le10,c10,z,f10,rfl,R10,mz,z1,vz⟩
 have fin:TaxPost V x m sc md V10 (packed [qv2 c9,qv2 c10,qv1 c9',.bool true]):=⟨l9.trans le10,c9,f9,c10,f10,c9',((x.1,false,q,()),z),rfl,rMoney.le R9 le10,R10,x8,false,q,hx8,hq,rfl,mz,z1,vz⟩
 exact⟨nofun,(c10,true,()),rfl,⟨nofun,fun _=>⟨nofun,fun _=>fin⟩⟩⟩
theorem dec_el {V:Know} {c:Scs [.b,.l,.i .i64]} {x:DDec} {f:List Nat} (h:rDec.R V c x f):∃ s,c=(x.1,s,x.2.2.1,())∧LR rI V s x.2.1 f:=by
 obtain⟨c0,c1,c2,cu⟩:=c
 obtain⟨e0,g,g',rfl,hs,e2,hN⟩:=h
 replace e0:c0=x.1:=e0
 replace e2:c2=x.2.2.1:=e2
 replace hN:g'=[]:=hN
 subst e0 e2 hN
 rw [List.append_nil]
 exact⟨c1,rfl,hs⟩
theorem cI_opTax {V0 V:Know} (hV:HcI V) (c:Scs LedSh) (x:DLedger) (f:List Nat) (h:rLedger.R V c x f) (ht:rLedger.tot x≤1048576) (O:Own V0 V f) (le0:V0.le V) (a b t:ByteArray) (ha:a.size≤9223372036854775807) (hb:b.size≤9223372036854775807) (hT:t.size≤9223372036854775807) (cm:Scs MonSh) (m:DMoney) (g:List Nat) (hm:rMoney.R V cm m g) (cd:Scs [.b,.l,.i .i64]) (d:DDec) (gd:List Nat) (hd:rDec.R V cd d gd) (md:Int) :
  CallX Tryz.prog V 298 [qv10 (a,b,t,cm.1,cm.2.1,cm.2.2.1,cd.1,cd.2.1,cd.2.2.1,md,()),qv3 c] (fun V' v=>V.le V'∧DoPost V0 (taxRun x a b t m d md) V' v):=by
 refine CallX.of_fits Tryz.mix (fI_opTax__run _ _) fun _=>?_
 obtain⟨s,rfl,hl,z0⟩:=mon_elim hm
 obtain⟨sd,rfl,hld⟩:=dec_el hd
 simp only [tI_opTax__run,T.wp]
 have hsz:∀ k∈[a,b,t],k.size≤9223372036854775807:=fun k hk=>by
  simp only [List.mem_cons,List.not_mem_nil,or_false] at hk
  rcases hk with rfl | rfl | rfl
  ·exact ha
  ·exact hb
  ·exact hT
 intro b1 c1 sp1 hb1 hc1 _
 have q1:=kset_le (x:=([Value.string a,Value.string b,Value.string t]++sp1,((9:TypeId),((0,0):Nat × Nat)))) hb1
 refine(cI_areNames _ ⟨some ⟨b1,0,none⟩,3,c1⟩ [(a,()),(b,()),(t,())] [b1] (lr_new (fps:=[]) (els_nm (ns:=[a,b,t]) hsz) kset_same rfl hc1 (by simp)) (fun i hi=>by
  match i,hi with
  | 0,_=>exact ha
  | 1,_=>exact hb
  | 2,_=>exact hT)).mono ?_
 rintro V1 _ ⟨le1,e1,rfl,he1⟩
 have l1:=q1.trans le1
 refine⟨nofun,e1,rfl,fun hf=>?_,fun k1=>?_⟩
 ·rw [taxRun_no (fun k=>by
   rw [he1.2 (fun i hi=>by
    match i,hi with
    | 0,_=>exact k.1.1.1
    | 1,_=>exact k.1.1.2
    | 2,_=>exact k.1.2)] at hf
   cases hf)]
  exact⟨l1,do_zero (le0.trans l1) 1⟩
 have w1:=he1.1 (by simpa using k1)
 have ww:(WordP a∧WordP b)∧WordP t:=⟨⟨w1 0 (by simp),w1 1 (by simp)⟩,w1 2 (by simp)⟩
 refine(cI_payable (hV.le l1) (m.1,m.2.1,s,()) m g (rMoney.le hm l1)).mono ?_
 rintro V2 _ ⟨le2,e2,rfl,he2⟩
 have l2:=l1.trans le2
 refine⟨nofun,e2,rfl,fun hf=>?_,fun k2=>?_⟩
 ·rw [taxRun_no (fun k=>by rw [he2.2 k.2.1] at hf; cases hf)]
  exact⟨l2,do_zero (le0.trans l2) 1⟩
 have w2:=he2.1 (by simpa using k2)
 refine(cI_TaxRateOk _ d.1 sd d.2.1 gd d.2.2.1 (hld.le l2)).mono ?_
 rintro V3 _ ⟨le3,e3,rfl,he3⟩
 have l3:=l2.trans le3
 refine⟨nofun,e3,rfl,fun hf=>?_,fun k3=>(rI_isMode _ md).mono ?_⟩
 ·rw [taxRun_no (fun k=>by rw [he3.2 k.2.2.1] at hf; cases hf)]
  exact⟨l3,do_zero (le0.trans l3) 1⟩
 have w3:=he3.1 (by simpa using k3)
 rintro _ _ ⟨rfl,rfl⟩
 refine⟨nofun,_,rfl,fun hf=>?_,fun k4=>?_⟩
 ·rw [taxRun_no (fun k=>by
   have q:0≤md∧md≤6:=k.2.2.2
   rw [decide_eq_true q] at hf; cases hf)]
  exact⟨l3,do_zero (le0.trans l3) 1⟩
 have w4:0≤md∧md≤6:=by simpa using k4
 replace w4:RmP md:=w4
 intro b3 c3 sp3 hb3 hc3 _
 have q3:=kset_le (x:=([Value.string a,Value.string b,Value.string t]++sp3,((9:TypeId),((0,0):Nat × Nat)))) hb3
 have l4:=l3.trans q3
 refine(cI_fits _ c x f (rLedger.le h l4) ht m.1 ⟨some ⟨b3,0,none⟩,3,c3⟩ [(a,()),(b,()),(t,())] [b3] (lr_new (fps:=[]) (els_nm (ns:=[a,b,t]) hsz) kset_same rfl hc3 (by simp))).mono ?_
 rintro V5 _ ⟨le5,rfl⟩
 have l5:=l4.trans le5
 refine⟨nofun,_,rfl,fun hne=>?_,fun he=>?_⟩
 ·rw [taxRun_fit ⟨ww,w2,w3,w4⟩ (by simpa using hne)]
  exact⟨l5,do_zero (le0.trans l5) _⟩
 have he':¬ fitsP x.1 m.1 [a,b,t]≠0:=by simpa using he
 refine(cI_TaxIn (hV.le l5) (m.1,m.2.1,s,()) m g (rMoney.le hm l5) w2 d.1 sd d.2.1 d.2.2.1 gd (hld.le l5) w3 md w4).mono ?_
 rintro V6 _ ⟨le6,c1,f1,c2,f2,c6,y,rfl,R1,R2,hy⟩
 have l6:=l5.trans le6
 rw [taxRun_post ⟨ww,w2,w3,w4⟩ he' hy]
 refine⟨nofun,(c1,c2,c6,true,()),rfl,nofun,fun _=>?_⟩
 refine(cI_minus _ (m.1,m.2.1,s,()) m g (rMoney.le hm l6) (by have:=w2.1.2.2; omega)).mono ?_
 rintro V7 _ ⟨le7,cy,fy,rfl,Ry,_⟩
 have l7:=l6.trans le7
 refine⟨fun _=>le7,cy,rfl,fun b8 hb8=>?_⟩
 have q8:=kset_le (x:=([Value.string a,.string cy.1,.bool cy.2.1,Sc.val .l cy.2.2.1,.string b,.string c1.1,.bool c1.2.1,Sc.val .l c1.2.2.1,.string t,.string c2.1,.bool c2.2.1,Sc.val .l c2.2.2.1],((121:TypeId),((0,0):Nat × Nat)))) hb8
 have l8:=l7.trans q8
 have l68:=le7.trans q8
 have hel:Els rAcct _ [((a,cy):Scs [.s,.s,.b,.l]),(b,c1),(t,c2)] [((a,negM m):DAcct),(b,y.1),(t,y.2)] (fy++(f1++(f2++[]))):=⟨fy,_,rfl,⟨⟨rfl,ha⟩,rMoney.le Ry q8⟩,f1,_,rfl,⟨⟨rfl,hb⟩,rMoney.le R1 l68⟩,f2,[],rfl,⟨⟨rfl,hT⟩,rMoney.le R2 l68⟩,rfl⟩
 refine(cI_post (V0:=V0) (hV.le l8) c x f (rLedger.le h l8) (O.post l8) (le0.trans l8) ⟨some ⟨b8,0,none⟩,3,3⟩ [(a,negM m),(b,y.1),(t,y.2)] _ (lr_new (post:=[]) hel (by rw [kset_same]; rfl) rfl (by simp) (by simp))).mono ?_
 rintro V9 _ ⟨le9,le09,c9,f9,rfl,R9,O9⟩
 exact⟨fun _=>le9,(c9,_,()),rfl,l8.trans le9,le09,c9,f9,rfl,R9,O9⟩
theorem cI_DoTax {V:Know} (hV:HcI V) (c:Scs LedSh) (x:DLedger) (f:List Nat) (h:rLedger.R V c x f) (ht:rLedger.tot x≤1048576) (a b t:ByteArray) (ha:a.size≤9223372036854775807) (hb:b.size≤9223372036854775807) (hT:t.size≤9223372036854775807) (cm:Scs MonSh) (m:DMoney) (g:List Nat) (hm:rMoney.R V cm m g) (cd:Scs [.b,.l,.i .i64]) (d:DDec) (gd:List Nat) (hd:rDec.R V cd d gd) (md:Int) :
  CallX Tryz.prog V 19 [qv3 c,.string a,.string b,.string t,qv2 cm,qv4 cd,.int .i64 md] (DoPost V (perfP x (taxRun x a b t m d md))):=by
 refine CallX.of_fits Tryz.mix (fI_DoTax _ _ _ _ _ _ _) fun _=>?_
 simp only [tI_DoTax,T.wp]
 have key:CallX Tryz.prog V 52 [qv3 c,.iface 125 (qv10 (a,b,t,cm.1,cm.2.1,cm.2.2.1,cd.1,cd.2.1,cd.2.2.1,md,()))] (DoPost V (perfP x (taxRun x a b t m d md))) :=
  CallX.of_fits Tryz.mix (fI_perform_opTax c (a,b,t,cm.1,cm.2.1,cm.2.2.1,cd.1,cd.2.1,cd.2.2.1,md,())) fun _=>perf_wp0 (g:=298) (o:=qv10 (a,b,t,cm.1,cm.2.1,cm.2.2.1,cd.1,cd.2.1,cd.2.2.1,md,())) hV h ht (fun ok V1 c1 f1 le1 R1 O1=>(cI_opTax (V0:=V) (hV.le le1) c1 x f1 R1 ht O1 le1 a b t ha hb hT cm m g (rMoney.le hm le1) cd d gd (rDec.le hd le1) md).mono fun _ _ k=>k.2) taxRun_zero
 refine key.mono ?_
 rintro V1 _ ⟨le1,c1,f1,rfl,R1,O1⟩
 exact⟨nofun,(c1,_,()),rfl,le1,c1,f1,rfl,R1,O1⟩
theorem cS_DoTax {V:Know} (hV:HcS V) (c:Scs LedSh) (x:DLedger) (f:List Nat) (h:rLedger.R V c x f) (ht:rLedger.tot x≤1048576) (a b t:ByteArray) (ha:a.size≤9223372036854775807) (hb:b.size≤9223372036854775807) (hT:t.size≤9223372036854775807) (cm:Scs MonSh) (m:DMoney) (g:List Nat) (hm:rMoney.R V cm m g) (cd:Scs [.b,.l,.i .i64]) (d:DDec) (gd:List Nat) (hd:rDec.R V cd d gd) (md:Int) :
  CallX Tryz.prog V 16 [qv3 c,.string a,.string b,.string t,qv2 cm,qv4 cd,.int .i64 md] (DoS V (perfP x (taxRun x a b t m d md))):=by
 refine CallX.of_fits Tryz.mix (fS_DoTax _ _ _ _ _ _ _) fun _=>?_
 obtain⟨s,rfl,hl,z0⟩:=mon_elim hm
 obtain⟨sd,rfl,hld⟩:=dec_el hd
 simp only [tS_DoTax,T.wp]
 refine(cS_LedgerOk hV c x f h).mono ?_
 rintro V1 _ ⟨le1,e1,rfl,he1⟩
 refine⟨nofun,e1,rfl,fun hf=>?_,fun k1=>?_⟩
 ·rw [perfP_no (fun k=>by rw [he1.2 k] at hf; cases hf)]
  exact doS_zero le1 1
 rw [perfP_ok (he1.1 (by simpa using k1))]
 refine(cS_IsWord _ a ha).mono ?_
 rintro _ _ ⟨rfl,ea,rfl,hea⟩
 refine⟨nofun,ea,rfl,fun hf=>?_,fun ka=>?_⟩
 ·rw [taxRun_no (fun k=>by rw [hea.2 k.1.1.1] at hf; cases hf)]
  exact doS_zero le1 1
 refine(cS_IsWord _ b hb).mono ?_
 rintro _ _ ⟨rfl,eb,rfl,heb⟩
 refine⟨nofun,eb,rfl,fun hf=>?_,fun kb=>?_⟩
 ·rw [taxRun_no (fun k=>by rw [heb.2 k.1.1.2] at hf; cases hf)]
  exact doS_zero le1 1
 refine(cS_IsWord _ t hT).mono ?_
 rintro _ _ ⟨rfl,et,rfl,het⟩
 refine⟨nofun,et,rfl,fun hf=>?_,fun kt=>?_⟩
 ·rw [taxRun_no (fun k=>by rw [het.2 k.1.2] at hf; cases hf)]
  exact doS_zero le1 1
 have ww:(WordP a∧WordP b)∧WordP t:=⟨⟨hea.1 (by simpa using ka),heb.1 (by simpa using kb)⟩,het.1 (by simpa using kt)⟩
 refine(cS_l21Money (m.1,m.2.1,s,()) m g (rMoney.le hm le1)).mono ?_
 rintro V2 _ ⟨le2,e2,rfl,he2⟩
 have l2:=le1.trans le2
 refine⟨nofun,e2,rfl,fun hf=>?_,fun k2=>?_⟩
 ·rw [taxRun_no (fun k=>by rw [he2.2 k.2.1] at hf; cases hf)]
  exact doS_zero l2 1
 have w2:=he2.1 (by simpa using k2)
 refine(cS_TaxRateOk _ d.1 sd d.2.1 gd d.2.2.1 (hld.le l2)).mono ?_
 rintro V3 _ ⟨le3,e3,rfl,he3⟩
 have l3:=l2.trans le3
 refine⟨nofun,e3,rfl,fun hf=>?_,fun k3=>(rS_l06Mode _ md).mono ?_⟩
 ·rw [taxRun_no (fun k=>by rw [he3.2 k.2.2.1] at hf; cases hf)]
  exact doS_zero l3 1
 have w3:=he3.1 (by simpa using k3)
 rintro _ _ ⟨rfl,rfl⟩
 refine⟨nofun,_,rfl,fun hf=>?_,fun k4=>?_⟩
 ·rw [taxRun_no (fun k=>by
   have q:0≤md∧md≤6:=k.2.2.2
   rw [decide_eq_true q] at hf; cases hf)]
  exact doS_zero l3 1
 have w4:0≤md∧md≤6:=by simpa using k4
 replace w4:RmP md:=w4
 refine(cS_TaxIn (hV.le l3) (m.1,m.2.1,s,()) m g (rMoney.le hm l3) w2 d.1 sd d.2.1 d.2.2.1 gd (hld.le l3) w3 md w4).mono ?_
 rintro V6 _ ⟨le6,c1,f1,c2,f2,c6,y,rfl,R1,R2,hy⟩
 have l6:=l3.trans le6
 rw [taxRun_ok ⟨ww,w2,w3,w4⟩ hy]
 refine⟨nofun,(c1,c2,c6,true,()),rfl,?_⟩
 refine(cS_l21Less V6 (m.1,m.2.1,s,()) m g (rMoney.le hm l6) w2.1).mono ?_
 rintro V7 _ ⟨le7,cy,fy,rfl,Ry,_⟩
 have l7:=l6.trans le7
 refine⟨fun _=>le7,cy,rfl,fun b8 hb8=>?_⟩
 have q8:=kset_le (x:=([Value.string a,.string cy.1,.bool cy.2.1,Sc.val .l cy.2.2.1,.string b,.string c1.1,.bool c1.2.1,Sc.val .l c1.2.2.1,.string t,.string c2.1,.bool c2.2.1,Sc.val .l c2.2.2.1],((121:TypeId),((0,0):Nat × Nat)))) hb8
 have l8:=l7.trans q8
 have l68:=le7.trans q8
 have hel:Els rAcct _ [((a,cy):Scs [.s,.s,.b,.l]),(b,c1),(t,c2)] [((a,negM m):DAcct),(b,y.1),(t,y.2)] (fy++(f1++(f2++[]))):=⟨fy,_,rfl,⟨⟨rfl,ha⟩,rMoney.le Ry q8⟩,f1,_,rfl,⟨⟨rfl,hb⟩,rMoney.le R1 l68⟩,f2,[],rfl,⟨⟨rfl,hT⟩,rMoney.le R2 l68⟩,rfl⟩
 refine(cS_l21Legs (hV.le l8) c x f (rLedger.le h l8) ht ⟨some ⟨b8,0,none⟩,3,3⟩ [(a,negM m),(b,y.1),(t,y.2)] _ (lr_new (post:=[]) hel (by rw [kset_same]; rfl) rfl (by simp) (by simp))).mono ?_
 rintro V9 _ ⟨le9,c9,f9,rfl,R9⟩
 exact⟨fun _=>le9,(c9,_,()),rfl,l8.trans le9,c9,f9,rfl,R9⟩
theorem taxRun_Ans {x:DLedger} {a b t:ByteArray} {m:DMoney} {d:DDec} {md:Int} (h:LedgerOkP x):Ans (taxRun x a b t m d md):=by
 unfold taxRun
 split
 ·split
  ·rename_i k
   exact .inr ⟨k,rfl⟩
  ·exact postP_Ans h
 ·exact .inr ⟨by decide,rfl⟩
theorem uI_DoTax {V:Know} (hV:HcI V) (c:Scs LedSh) (x:DLedger) (f:List Nat) (h:rLedger.R V c x f) (ht:rLedger.tot x≤1048576) (a:ByteArray) (za:a.size≤1048576) (b:ByteArray) (zb:b.size≤1048576) (t:ByteArray) (zt:t.size≤1048576) (cm:Scs MonSh) (m:DMoney) (g:List Nat) (hm:rMoney.R V cm m g) (_:rMoney.tot m≤1048576) (cd:Scs [.b,.l,.i .i64]) (d:DDec) (gd:List Nat) (hd:rDec.R V cd d gd) (_:rDec.tot d≤1048576) (md:Int) :
  CallX Tryz.prog V 19 [qv3 c,.string a,.string b,.string t,qv2 cm,qv4 cd,.int .i64 md] (UI V (perfP x (taxRun x a b t m d md))):=(cI_DoTax hV c x f h ht a b t (by omega) (by omega) (by omega) cm m g hm cd d gd hd md).mono (fun _ _=>doPost_u)
theorem uS_DoTax {V:Know} (hV:HcS V) (c:Scs LedSh) (x:DLedger) (f:List Nat) (h:rLedger.R V c x f) (ht:rLedger.tot x≤1048576) (a:ByteArray) (za:a.size≤1048576) (b:ByteArray) (zb:b.size≤1048576) (t:ByteArray) (zt:t.size≤1048576) (cm:Scs MonSh) (m:DMoney) (g:List Nat) (hm:rMoney.R V cm m g) (_:rMoney.tot m≤1048576) (cd:Scs [.b,.l,.i .i64]) (d:DDec) (gd:List Nat) (hd:rDec.R V cd d gd) (_:rDec.tot d≤1048576) (md:Int) :
  CallX Tryz.prog V 16 [qv3 c,.string a,.string b,.string t,qv2 cm,qv4 cd,.int .i64 md] (US V (perfP x (taxRun x a b t m d md))):=(cS_DoTax hV c x f h ht a b t (by omega) (by omega) (by omega) cm m g hm cd d gd hd md).mono (fun _ _=>doS_u)
end Go.Proofs.YtceoihhldnnenaaGreatDoor
