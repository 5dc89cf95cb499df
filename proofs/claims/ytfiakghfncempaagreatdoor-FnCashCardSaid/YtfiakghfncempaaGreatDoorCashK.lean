/-
  Amounts of one currency, fractions compared: what the law on cash calls besides.
-/
import Derived.Test.YtfiakghfncempaaGreatDoorShelf
import Derived.Test.YtfiakghfncempaaGreatDoorRiX
namespace Go.Proofs.YtfiakghfncempaaGreatDoor
open Sx
set_option maxRecDepth 100000
abbrev LedSh:List Sc:=[.l,.l,.s,.l]
abbrev zeroL:DLedger:=([],[],ByteArray.empty,[],())
abbrev zeroLC:Scs LedSh:=(⟨none,0,0⟩,⟨none,0,0⟩,ByteArray.empty,⟨none,0,0⟩,())
theorem zeroL_R (V:Know):rLedger.R V zeroLC zeroL []:=rSl.mk (f:=[]) lrNil (rSl.mk (f:=[]) lrNil (rStr.mk (by decide) (rSl.mk (f:=[]) lrNil rNil.mk)))
abbrev DoPost (V:Know) (y:DLedger × Int):Know→Value→Prop:=fun V' v=>V.le V'∧∃ c f,v=.tuple #[qv4 c,.int .i64 y.2]∧rLedger.R V' c y.1 f∧Own V V' f
theorem do_zero {V V':Know} (le:V.le V') (n:Int):DoPost V (zeroL,n) V' (packed [qv4 zeroLC,.int .i64 n]):=⟨le,zeroLC,[],rfl,zeroL_R V',Own.nil⟩
open Classical in
noncomputable def perfP (x:DLedger) (y:DLedger × Int):DLedger × Int:=if LedgerOkP x then y else (zeroL,1)
theorem perfP_ok {x:DLedger} {y:DLedger × Int} (h:LedgerOkP x):perfP x y=y:=if_pos h
theorem perfP_no {x:DLedger} {y:DLedger × Int} (h:¬ LedgerOkP x):perfP x y=(zeroL,1):=if_neg h
def tPerf (g:Nat) (o:Value) (x0:Scs LedSh):T :=
 .call false 104 [qv4 x0] (.v (.o .b)) fun y1 =>
 .br (!y1) (.ret [qv4 zeroLC,.int .i64 (1:Int)]) <|
 .rg <|
 .call false 105 [qv4 x0] (.v (.g [.l,.l,.s,.l])) fun y2 =>
 .call false g [o,qv4 y2] (.t [(.g [.l,.l,.s,.l]),(.o (.i .i64))]) fun y3 =>
 .br (y3.2.1 != (0:Int)) (.ret [qv4 zeroLC,.int .i64 y3.2.1]) <|
 .ret [qv4 y3.1,.int .i64 (0:Int)]
theorem perf_wp0 {V V0:Know} (hV:HcI V) {c:Scs LedSh} {x:DLedger} {f:List Nat} (h:rLedger.R V c x f) (ht:rLedger.tot x≤1048576) {g:Nat} {o:Value} {y:DLedger × Int}
  (hrun:LedgerOkP x→∀ V1 c1 f1,V.le V1→rLedger.R V1 c1 x f1→Own V V1 f1→CallX Tryz.prog V1 g [o,qv4 c1] (fun V2 v=>DoPost V y V2 v)) (hy:y.2≠0→y.1=zeroL) :
  (tPerf g o c).wp Tryz.prog (fun V' vs=>DoPost V (perfP x y) V' (packed vs)) V V0 []:=by
 simp only [tPerf,T.wp]
 refine(cI_LedgerOk hV c x f h).mono ?_
 rintro V1 _ ⟨le1,e1,rfl,he1⟩
 refine⟨nofun,e1,rfl,fun hf=>?_,fun h1=>?_⟩
 ·rw [perfP_no (fun k=>by rw [he1.2 k] at hf; cases hf)]
  exact do_zero le1 1
 have ok:=he1.1 (by simpa using h1)
 rw [perfP_ok ok]
 refine(kI_ledgerCopy V1 c x f (rLedger.le h le1) ht).mono ?_
 rintro V2 _ ⟨le2,c2,f2,rfl,R2,O2⟩
 have l2:=le1.trans le2
 refine⟨fun _=>le2,c2,rfl,(hrun ok V2 c2 f2 l2 R2 (O2.pre le1)).mono ?_⟩
 rintro V3 _ ⟨le3,c3,f3,rfl,R3,O3⟩
 refine⟨nofun,(c3,y.2,()),rfl,fun hne=>?_,fun he=>?_⟩
 ·have e:=hy (by simpa using hne)
  obtain⟨y1,y2⟩:=y
  replace e:y1=zeroL:=e
  subst e
  exact do_zero le3 y2
 ·have e:y.2=0:=by simpa using he
  obtain⟨y1,y2⟩:=y
  replace e:y2=0:=e
  subst e
  exact⟨le3,c3,f3,rfl,R3,O3⟩
noncomputable def addRat (x y:DRat):DRat × Bool:=theOne (AddRP x y)
theorem addRat_eq {x y:DRat} {r:DRat × Bool} (hx:RatP x) (hy:RatP y) (h:AddRP x y r):addRat x y=r :=
 theOne_eq h fun r' h'=>by
  obtain⟨a,b⟩:=redS_inj (Int.mul_pos (ratP_pos hx) (ratP_pos hy)) h' h
  exact Prod.ext a b
open Classical in
noncomputable def keepP (x:DLedger) (c:ByteArray) (r:DRat):DLedger × Int :=
 if RatP r∧known c=true∧(addRat (atR x.2.1 c) r).2=true∧RatP (addRat (atR x.2.1 c) r).1 then ((x.1,addR c (addRat (atR x.2.1 c) r).1 x.2.1,x.2.2),0) else (zeroL,8)
theorem keepP_yes {x:DLedger} {c:ByteArray} {r y:DRat} (h:RestsOkP x.2.1) (k:known c=true) (hr:RatP r) (hy:AddRP (atR x.2.1 c) r (y,true)):keepP x c r=((x.1,addR c y x.2.1,x.2.2),0):=by
 have e:=addRat_eq (atR_ok h c) hr hy
 have ok:=redS_ok (Int.mul_pos (ratP_pos (atR_ok h c)) (ratP_pos hr)) hy rfl
 unfold keepP
 rw [e,if_pos ⟨hr,k,rfl,ok⟩]
theorem keepP_no {x:DLedger} {c:ByteArray} {r y:DRat} (h:RestsOkP x.2.1) (hr:RatP r) (hy:AddRP (atR x.2.1 c) r (y,false)):keepP x c r=(zeroL,8):=by
 have e:=addRat_eq (atR_ok h c) hr hy
 unfold keepP
 rw [e,if_neg (fun k=>by cases k.2.2.1)]
theorem keepP_zero {x:DLedger} {c:ByteArray} {r:DRat}:(keepP x c r).2≠0→(keepP x c r).1=zeroL:=by
 unfold keepP
 split
 ·intro h; exact absurd rfl h
 ·intro _; rfl
def cashOf (x:ByteArray):Int:=(curRowOf x).2.2.2.1
theorem cash_bd {x:ByteArray} (h:known x=true):1≤cashOf x∧cashOf x≤1000000:=by
 unfold known at h
 unfold cashOf curRowOf
 cases hf:curFrom curI x 0 with
 | none=>rw [hf] at h; cases h
 | some r =>
  have hm:r∈curI:=List.mem_of_find?_eq_some hf
  have:∀ r∈curI,1≤r.2.2.2.1∧r.2.2.2.1≤1000000:=by decide +kernel
  exact this r hm
noncomputable def stepV (c:Bool) (n:List Lim) (m k:Int):Int:=sv c (rndN m c (valN n) k*k)
noncomputable abbrev MonV (x:DMoney) (m:Int):Int:=stepV x.2.1 x.2.2.1 m (cashOf x.1)
def CashR (x:DMoney) (m:Int) (t:DMoney × DRat):Prop:=MonP t.1∧t.1.1=x.1∧svM t.1=MonV x m∧RedS (svM x-MonV x m) 1 t.2 true
theorem cashR_inj {x:DMoney} {m:Int} {t t':DMoney × DRat} (h:CashR x m t) (h':CashR x m t'):t'=t :=
 Prod.ext (mon_inj h'.1 h.1 (h'.2.1.trans h.2.1.symm) (h'.2.2.1.trans h.2.2.1.symm)) (redS_inj (by decide) h'.2.2.2 h.2.2.2).1
open Classical in
noncomputable def cashAt (x:DLedger) (i:Nat) (m:Int):DLedger × Int :=
 if h:i<x.1.length then
  if ∃ t,CashR x.1[i].2 m t then keepP (x.1.set i (x.1[i].1,(theOne (CashR x.1[i].2 m)).1),x.2) x.1[i].2.1 (theOne (CashR x.1[i].2 m)).2 else (zeroL,8)
 else (zeroL,8)
theorem cashAt_yes {x:DLedger} {i:Nat} {m:Int} (h:i<x.1.length) {z:DMoney} {r:DRat} (k:CashR x.1[i].2 m (z,r)):cashAt x i m=keepP (x.1.set i (x.1[i].1,z),x.2) x.1[i].2.1 r:=by
 have e:=theOne_eq k fun y hy=>cashR_inj k hy
 unfold cashAt
 rw [dif_pos h,if_pos ⟨_,k⟩,e]
theorem cashAt_no {x:DLedger} {i:Nat} {m:Int} (h:i<x.1.length) (k:¬ ∃ t,CashR x.1[i].2 m t):cashAt x i m=(zeroL,8):=by
 unfold cashAt
 rw [dif_pos h,if_neg k]
open Classical in
noncomputable def cashRun (x:DLedger) (n:ByteArray) (m:Int):DLedger × Int :=
 if WordP n∧RmP m then match fnd n x.1 with
  | none=>(zeroL,3)
  | some i=>cashAt x i m
 else (zeroL,1)
theorem cashRun_no {x:DLedger} {n:ByteArray} {m:Int} (h:¬ (WordP n∧RmP m)):cashRun x n m=(zeroL,1):=if_neg h
theorem cashRun_none {x:DLedger} {n:ByteArray} {m:Int} (h:WordP n∧RmP m) (hf:fnd n x.1=none):cashRun x n m=(zeroL,3):=by
 unfold cashRun
 rw [if_pos h,hf]
theorem cashRun_at {x:DLedger} {n:ByteArray} {m:Int} {i:Nat} (h:WordP n∧RmP m) (hf:fnd n x.1=some i):cashRun x n m=cashAt x i m:=by
 unfold cashRun
 rw [if_pos h,hf]
theorem cashRun_zero {x:DLedger} {n:ByteArray} {m:Int}:(cashRun x n m).2≠0→(cashRun x n m).1=zeroL:=by
 unfold cashRun
 split
 ·split
  ·intro _; rfl
  ·unfold cashAt
   split
   ·split
    ·exact keepP_zero
    ·intro _; rfl
   ·intro _; rfl
 ·intro _; rfl
theorem cI_AcctAt (V:Know) (s:SlV) (l:List DAcct) (f:List Nat) (h:LR rAcct V s l f) (n:ByteArray):CallX Tryz.prog V 43 [qv3 (s,()),.string n] (AxPost V n l):=by
 refine CallX.of_fits Tryz.mix (fI_AcctAt _ _) fun _=>?_
 simp only [tI_AcctAt,T.wp]
 intro b hb
 have leb:=kset_le (x:=([Value.string n],((9:TypeId),((0,0):Nat × Nat)))) hb
 have hv:kset V b ([Value.string n],((9:TypeId),((0,0):Nat × Nat))) b=some _:=kset_same
 revert leb hv
 generalize kset V b ([Value.string n],((9:TypeId),((0,0):Nat × Nat)))=V1
 intro leb hv
 have h1:=h.le leb
 have hn:=h.1
 have key:CallX Tryz.prog V1 102 [Sc.val .l s,.func (.func 103) #[] #[.pointer (some ⟨b,0,none⟩)]] (fun V' r=>V'=V1∧r=.int .i64 (atN n l)):=by
  refine CallX.of_fits Tryz.mix (fX_IndexFunc_Acct s (103,⟨b,0,none⟩)) fun _=>?_
  rw [tX_IndexFunc_Acct]
  refine findR_wp (p:=fun a=>a.1=n) h1 (fun i hi N hy hN=>?_) (fun i hi e hj=>⟨rfl,by rw [ax_yes hi e hj]; rfl⟩) (fun hno=>⟨rfl,by rw [ax_no hno]; rfl⟩)
  obtain⟨b1,o1,c1,fc,a1,l1,hR,_⟩:=h1.at hi
  have e0:(i:Int).toNat=i:=by omega
  simp only [T.wp]
  rw [e0]
  refine⟨_,a1,by omega,by omega,c1,l1,?_⟩
  have hc:CallX Tryz.prog V1 103 [qv10 c1,.pointer (some ⟨b,0,none⟩)] (fun V' r=>V'=V1∧r=.bool (l[i].1.toList == n.toList)):=by
   refine CallX.of_fits Tryz.mix (fI_AcctAt_1 c1 ⟨b,0,none⟩) fun _=>?_
   simp only [tI_AcctAt_1,T.wp]
   refine⟨n,?_,trivial,?_⟩
   ·simp only [loadV,Bool.false_eq_true,if_false,hv]
    rfl
   ·rw [acct_name hR]; rfl
  refine hc.mono ?_
  rintro V2 _ ⟨rfl,rfl⟩
  refine⟨nofun,_,rfl,fun he=>hy (text_eq.1 he),fun he=>⟨_,rfl,hN fun e=>?_⟩⟩
  have:=text_eq.2 e
  rw [this] at he; cases he
 refine key.mono ?_
 rintro V2 _ ⟨rfl,rfl⟩
 exact⟨nofun,_,rfl,leb,rfl⟩
def balP (l:List DAcct) (n:ByteArray):DMoney:=match fnd n l with
 | none=>nilM
 | some i=>(l.getD i (n,nilM)).2
theorem balP_some {l:List DAcct} {n:ByteArray} {i:Nat} (h:fnd n l=some i) (hi:i<l.length):balP l n=l[i].2:=by
 rw [balP,h]
 show(l.getD i (n,nilM)).2=_
 rw [getD_at hi]
theorem balP_none {l:List DAcct} {n:ByteArray} (h:fnd n l=none):balP l n=nilM:=by rw [balP,h]
theorem cI_BalanceOf (V:Know) (s:SlV) (l:List DAcct) (f:List Nat) (h:LR rAcct V s l f) (ht:totE rAcct l≤1048576) (n:ByteArray):CallX Tryz.prog V 7 [qv3 (s,()),.string n]
  (fun V' v=>V.le V'∧∃ c f,v=.tuple #[qv2 c,.bool (decide (fnd n l≠none))]∧rMoney.R V' c (balP l n) f∧Own V V' f):=by
 refine CallX.of_fits Tryz.mix (fI_BalanceOf _ _) fun _=>?_
 simp only [tI_BalanceOf,T.wp]
 refine(cI_AcctAt V s l f h n).mono ?_
 rintro V1 _ ⟨le1,rfl⟩
 refine⟨nofun,_,rfl,fun hlt=>?_,fun hge=>?_⟩
 ·have hf:=at_neg.1 (of_decide_eq_true hlt)
  rw [balP_none hf,hf]
  exact⟨le1,(ByteArray.empty,false,⟨none,0,0⟩,()),[],rfl,nilM_R V1,Own.nil⟩
 obtain⟨i,hi,hfi,hat,_⟩:=at_some (of_decide_eq_false hge)
 have e0:(i:Int).toNat=i:=by omega
 rw [hat,e0,balP_some hfi hi,hfi]
 have hn:=h.1
 obtain⟨b1,o1,c1,fc,a1,l1,hR,_⟩:=(h.le le1).at hi
 have htx:=totE_mem rAcct hi
 have et:rAcct.tot l[i]=l[i].1.size+rMoney.tot l[i].2:=rfl
 refine⟨_,a1,by omega,(by show(i:Int)<(s.n:Int); omega),c1.2,load_part l1 rfl,(kI_moneyCopy V1 c1.2 l[i].2 fc hR.2 (by omega)).mono ?_⟩
 rintro V2 _ ⟨le2,c2,f2,rfl,R2,O2⟩
 exact⟨nofun,c2,rfl,le1.trans le2,c2,f2,rfl,R2,O2.pre le1⟩
theorem ledger_mk {V:Know} {s0 s1 s3:SlV} {c2:ByteArray} {x:DLedger} {f0 f1 f3:List Nat} (h0:LR rAcct V s0 x.1 f0) (h1:LR rRest V s1 x.2.1 f1) (hc:c2=x.2.2.1) (z:c2.size≤9223372036854775807) (h3:LR rRate V s3 x.2.2.2.1 f3) :
  rLedger.R V (s0,s1,c2,s3,()) x (f0++(f1++f3)):=by
 refine rSl.mk (r:=rSl rRest (rStr (rSl rRate rNil))) h0 (rSl.mk (r:=rStr (rSl rRate rNil)) h1 ⟨⟨hc,hc ▸ z⟩,f3,[],by simp,h3,rfl⟩)
theorem pI_CurCash {V:Know} (hV:HcI V) (x:ByteArray):CallX Tryz.prog V 10 [.string x] (fun V' r=>V.le V'∧r=.int .i64 (cashOf x)):=by
 refine CallX.of_fits Tryz.mix (fI_CurCash _) fun _=>?_
 simp only [tI_CurCash,T.wp]
 refine(cI_currencyOf hV x).mono ?_
 rintro V1 _ ⟨rfl,rfl⟩
 exact⟨nofun,(curRowOf x,known x,()),rfl,Know.le.refl _,rfl⟩
abbrev RtoPost (V:Know) (m:Int) (c:Bool) (n:List Lim) (k:Int):Know→Value→Prop:=fun V' r=>V.le V'∧∃ e t o g,r=.tuple #[qv0 (e,t,()),.bool true]∧LR rI V' t o g∧Own V V' g∧IntOkP e o∧sval e o=stepV c n m k∧o.length≤10
theorem step_fin {c:Bool} {q o:List Lim} {z k:Int} (hq:Can q) (ho:Can o) (l:o.length≤50) (vq:valN q=z) (vo:valN o=valN q*k):IntOkP ((c && decide (0<q.length)) && decide (0<o.length)) o∧sval ((c && decide (0<q.length)) && decide (0<o.length)) o=sv c (z*k):=by
 obtain⟨h1,h2⟩:=made_ok (q:=c && decide (0<q.length)) ho l
 refine⟨h1,h2.trans ?_⟩
 have e:valN o=z*k:=by rw [vo,vq]
 by_cases hz:0<q.length
 ·rw [decide_eq_true hz,Bool.and_true]; exact sv_sval e
 ·rw [decide_eq_false hz,Bool.and_false]
  have h0:=valN_nonneg hq.1
  have:¬ 0<valN q:=fun k=>hz ((can_pos hq).2 k)
  have z0:z=0:=by omega
  subst z0
  rw [Int.zero_mul] at e ⊢
  unfold sval sv
  rw [e]; cases c <;> rfl
theorem rnd_lenN {m:Int} {c:Bool} {n q:List Lim} {k:Int} (hn:Can n) (hq:Can q) (hk:0<k) (h:valN q=rndN m c (valN n) k):q.length≤n.length :=
 can_len hn hq (by rw [h]; exact rnd_le (valN_nonneg hn.1) hk)
theorem cI_RoundTo (V:Know) (c:Bool) (s:SlV) (n:List Lim) (f:List Nat) (h:LR rI V s n f) (ok:IntOkP c n) (l4:n.length≤4) (k:Int) (k1:1≤k) (k2:k≤1000000) (m:Int) (hm:RmP m) :
  CallX Tryz.prog V 262 [qv0 (c,s,()),.int .i64 k,.int .i64 m] (RtoPost V m c n k):=by
 refine CallX.of_fits Tryz.mix (fI_RoundTo _ _ _) fun _=>?_
 have hn:=h.1
 simp only [tI_RoundTo,T.wp]
 refine(cI_IntOk V c s n f h).mono ?_
 rintro V1 _ ⟨rfl,e1,rfl,he1⟩
 obtain rfl:e1=true:=he1.2 ok
 refine⟨nofun,true,rfl,nofun,fun _=>⟨fun hb=>?_,fun _=>⟨fun hb=>?_,fun _=>⟨fun hb=>?_,fun _=>(rI_isMode V1 m).mono ?_⟩⟩⟩⟩
 ·have:(s.n:Int) > 18:=of_decide_eq_true hb
  omega
 ·have:k<1:=of_decide_eq_true hb
  omega
 ·have:k > 1000000:=of_decide_eq_true hb
  omega
 rintro V2 _ ⟨rfl,rfl⟩
 refine⟨nofun,_,rfl,fun hb=>?_,fun _=>(cI_NatOf V2 k ⟨by omega,by omega⟩).mono ?_⟩
 ·rw [decide_eq_true (show 0≤m∧m≤6 from hm)] at hb; cases hb
 rintro V3 _ ⟨le3,s3,o3,f3,rfl,L3,_,C3,v3,n3⟩
 have p3:0<o3.length:=(can_pos C3).2 (by omega)
 refine⟨nofun,s3,rfl,(cI_roundQuotient V3 c s s3 n o3 f f3 (h.le le3) L3 ok.1.1 C3 (by omega) p3 m hm).mono ?_⟩
 rintro V4 _ ⟨le4,e4,q,s4,f4,rfl,L4,_,C4,v4,ee⟩
 subst ee
 rw [v3] at v4
 have n4:=rnd_lenN ok.1.1 C4 (by omega) v4
 refine⟨nofun,_,rfl,(cI_natMul V4 s4 s3 q o3 f4 f3 L4 (L3.le le4) C4.1 C3.1 (by omega) (by omega)).mono ?_⟩
 rintro V5 _ ⟨le5,s5,o,bk,rfl,N5,hb5,C5,v5,_⟩
 have n5:=mul_len C3 C5 C4.1 v5
 have L5:=N5.lr
 have e5:=L5.1
 refine⟨fun _=>le5,s5,rfl,(cI_signed V5 _ s5).mono ?_⟩
 rintro V6 _ ⟨rfl,rfl⟩
 have l5:=(le3.trans le4).trans le5
 rw [v3] at v5
 obtain⟨w1,w2⟩:=step_fin (c:=c) C4 C5 (by omega) v4 v5
 refine⟨nofun,_,rfl,l5,_,s5,o,[bk],rfl,L5,⟨by simp,fun b hb=>?_,fun b hb=>?_⟩,?_,?_,by omega⟩
 ·rcases List.mem_singleton.1 hb with rfl
  exact none_of_le (le3.trans le4) hb5
 ·rcases List.mem_singleton.1 hb with rfl
  obtain⟨sp,_,q,_⟩:=N5
  exact⟨_,_,q⟩
 ·rw [show decide ((s5.n:Int) > 0)=decide (0<o.length) from decide_eq_decide.2 (by omega)]; exact w1
 ·rw [show decide ((s5.n:Int) > 0)=decide (0<o.length) from decide_eq_decide.2 (by omega)]; exact w2
theorem cI_keep {V0 V:Know} (hV:HcI V) (c:Scs LedSh) (x:DLedger) (f:List Nat) (h:rLedger.R V c x f) (ok:RestsOkP x.2.1) (O:Own V0 V f) (le0:V0.le V) (cur:ByteArray) (kc:known cur=true) (d:Scs [.b,.l,.l]) (r:DRat) (g:List Nat) (hr:rRat.R V d r g) (rok:RatP r) :
  CallX Tryz.prog V 264 [qv4 c,.string cur,qv1 d] (fun V' v=>V.le V'∧DoPost V0 (keepP x cur r) V' v):=by
 refine CallX.of_fits Tryz.mix (fI_keep _ _ _) fun _=>?_
 obtain⟨c0,c1,c2,c3,cu⟩:=c
 obtain⟨x0,x1,x2,x3,xu⟩:=x
 obtain⟨f0,g0,rfl,h0,h⟩:=h
 obtain⟨f1,g1,rfl,h1,h⟩:=h
 obtain⟨⟨e2,z2⟩,h⟩:=h
 replace e2:c2=x2:=e2
 subst e2
 obtain⟨f3,g3,rfl,h3,hN⟩:=h
 replace hN:g3=[]:=hN
 subst hN
 rw [List.append_nil] at O
 replace h0:LR rAcct V c0 x0 f0:=h0
 replace h1:LR rRest V c1 x1 f1:=h1
 replace h3:LR rRate V c3 x3 f3:=h3
 simp only [tI_keep,T.wp]
 refine(cI_RestAdd hV c1 x1 f1 h1 ok cur kc d r g hr rok).mono ?_
 rintro V1 _ ⟨le1,t,l',f',e,rfl,L',O',hq⟩
 refine⟨nofun,(t,e,()),rfl,fun hf=>?_,fun ht=>?_⟩
 ·obtain rfl:e=false:=by simpa using hf
  rcases hq with ⟨q,_⟩ | ⟨_,_,y,hy⟩
  ·cases q
  rw [keepP_no ok rok hy]
  exact⟨le1,do_zero (le0.trans le1) 8⟩
 ·obtain rfl:e=true:=by simpa using ht
  rcases hq with ⟨_,y,hy,rfl⟩ | ⟨q,_⟩
  rotate_left
  ·cases q
  rw [keepP_yes ok kc rok hy]
  refine⟨le1,le0.trans le1,(c0,t,c2,c3,()),f0++(f'++f3),rfl,ledger_mk (x:=(x0,addR cur y x1,c2,x3,())) (h0.le le1) L' rfl z2 (h3.le le1),?_⟩
  have o1:Own V0 V (f0++f3):=O.sub ((List.sublist_append_right f1 f3).append_left f0)
  refine(o1.append O' le0 le1).perm ?_
  rw [List.append_assoc]
  exact List.Perm.append_left f0 List.perm_append_comm
theorem own_store {V0 V8 V9:Know} {f0 f0' g fr:List Nat} {bb:Nat} (O:Own V0 V8 (f0++fr)) (O':Own V0 V9 f0') (hb:bb∈f0) (hs:∀ y∈f0',y∈f0∨y∈g) (hg:∀ y∈g,y ∉ fr) (ho:∀ y,y≠bb→V9 y=V8 y):Own V0 V9 (f0'++fr):=by
 have hn:=List.nodup_append.1 O.1
 refine⟨List.nodup_append.2 ⟨O'.1,hn.2.1,fun a ha b hb2 e=>?_⟩,fun y hy=>?_,fun y hy=>?_⟩
 ·subst e
  rcases hs a ha with h | h
  ·exact hn.2.2 a h a hb2 rfl
  ·exact hg a h hb2
 ·rcases List.mem_append.1 hy with h | h
  ·exact O'.2.1 y h
  ·exact O.2.1 y (by simp [h])
 ·rcases List.mem_append.1 hy with h | h
  ·exact O'.2.2 y h
  ·obtain⟨c,t,k⟩:=O.2.2 y (by simp [h])
   exact⟨c,t,by rw [ho y (fun e=>hn.2.2 bb hb y h e.symm)]; exact k⟩
theorem sval_not {e:Bool} {o:List Lim}:sval (!e) o=-sval e o:=by
 unfold sval
 cases e <;> simp
theorem cash_diff {x:DMoney} {m:Int} (hx:MonP x):(svM x-MonV x m).natAbs≤1000000:=by
 obtain⟨k1,k2⟩:=cash_bd hx.1
 obtain⟨h1,h2⟩:=rnd_diff (m:=m) (neg:=x.2.1) (n:=valN x.2.2.1) (d:=cashOf x.1) (by omega)
 show(sval x.2.1 x.2.2.1-sv x.2.1 (rndN m x.2.1 (valN x.2.2.1) (cashOf x.1)*cashOf x.1)).natAbs≤1000000
 generalize rndN m x.2.1 (valN x.2.2.1) (cashOf x.1)*cashOf x.1=w at h1 h2 ⊢
 unfold sval sv
 split <;> omega
theorem small_len {e:Bool} {o:List Lim} (h:Can o) (k:(sval e o).natAbs≤1000000):o.length≤1:=by
 refine Nat.le_of_not_lt fun hl=>?_
 have h1:=can_ge h (by omega)
 have h2:=pw_mono (show 1≤o.length-1 by omega)
 have h3:=sval_abs (c0:=e) h.1
 omega
theorem diff_rat {z:Int} {x:DRat} {e:Bool} (h:RedS z 1 x e) (k:z.natAbs≤1000000):e=true:=by
 have e18:(1000000000:Int) ^ 18=1000000000000000000000000000000000000000000000000000000000000000000000000000000000000000000000000000000000000000000000000000000000000000000000000000000000000000000:=by decide
 exact redS_fits (by decide) h (by omega) (by omega)
theorem cashR_no {x:DMoney} {m:Int} {e:Bool} {o:List Lim} (ok:IntOkP e o) (v:sval e o=MonV x m) (hl:¬ o.length≤4):¬ ∃ t,CashR x m t:=by
 rintro⟨t,h1,_,h3,_⟩
 obtain⟨_,e2⟩:=int_inj ok h1.2.1 (v.trans h3.symm)
 rw [e2] at hl
 exact hl h1.2.2
theorem cI_opCash {V0 V:Know} (hV0:HcI V0) (c:Scs LedSh) (x:DLedger) (f:List Nat) (h:rLedger.R V c x f) (ht:rLedger.tot x≤1048576) (okL:LedgerOkP x) (O:Own V0 V f) (le0:V0.le V) (n:ByteArray) (hz:n.size≤9223372036854775807) (m:Int) :
  CallX Tryz.prog V 260 [qv8 (n,m,()),qv4 c] (fun V' v=>DoPost V0 (cashRun x n m) V' v):=by
 refine CallX.of_fits Tryz.mix (fI_opCash__run _ _) fun _=>?_
 have hV:=hV0.le le0
 obtain⟨c0,c1,c2,c3,cu⟩:=c
 obtain⟨x0,x1,x2,x3,xu⟩:=x
 obtain⟨f0,g0,rfl,h0,h⟩:=h
 obtain⟨f1,g1,rfl,h1,h⟩:=h
 obtain⟨⟨e2,z2⟩,h⟩:=h
 replace e2:c2=x2:=e2
 subst e2
 obtain⟨f3,g3,rfl,h3,hN⟩:=h
 replace hN:g3=[]:=hN
 subst hN
 rw [List.append_nil] at O
 replace h0:LR rAcct V c0 x0 f0:=h0
 replace h1:LR rRest V c1 x1 f1:=h1
 replace h3:LR rRate V c3 x3 f3:=h3
 have O0:Own V0 V f0:=O.sub (List.sublist_append_left _ _)
 have tt:totE rAcct x0≤1048576:=by
  have e:rLedger.tot (x0,x1,c2,x3,xu)=x0.length+totE rAcct x0+(x1.length+totE rRest x1+rRates.tot (c2,x3,xu)):=rfl
  omega
 simp only [tI_opCash__run,T.wp]
 refine(cI_IsWord V n hz).mono ?_
 rintro V1 _ ⟨rfl,b1,rfl,hb1⟩
 refine⟨nofun,b1,rfl,fun hf=>?_,fun k1=>(rI_isMode V1 m).mono ?_⟩
 ·rw [cashRun_no (fun k=>by rw [hb1.2 k.1] at hf; cases hf)]
  exact do_zero le0 1
 have w1:=hb1.1 (by simpa using k1)
 rintro V2 _ ⟨rfl,rfl⟩
 refine⟨nofun,_,rfl,fun hf=>?_,fun k2=>?_⟩
 ·rw [cashRun_no (fun k=>by
   have q:0≤m∧m≤6:=k.2
   rw [decide_eq_true q] at hf; cases hf)]
  exact do_zero le0 1
 have hm:RmP m:=by
  have q:decide (0≤m∧m≤6)=true:=by simpa using k2
  have q2:0≤m∧m≤6:=of_decide_eq_true q
  exact q2
 refine(cI_BalanceOf V2 c0 x0 f0 h0 tt n).mono ?_
 rintro V3 _ ⟨le3,cb,fb,rfl,Rb,Ob⟩
 have l3:=le0.trans le3
 rw [show decide (fnd n x0≠none)=(fnd n x0).isSome by cases fnd n x0 <;> simp]
 cases hf:fnd n x0 with
 | none =>
  refine⟨nofun,(cb,false,()),rfl,fun _=>?_,nofun⟩
  rw [cashRun_none ⟨w1,hm⟩ hf]
  exact do_zero l3 3
 | some i =>
 obtain⟨hi,hin⟩:=fnd_at hf
 rw [cashRun_at ⟨w1,hm⟩ hf]
 rw [balP_some hf hi] at Rb
 have mok:MonP x0[i].2:=(okL.1.2 i hi).2.2.1
 obtain⟨sb,rfl,Lb,zb⟩:=mon_elim Rb
 obtain⟨q1,q2⟩:=cash_bd mok.1
 have n4:=mok.2.2
 refine⟨nofun,((x0[i].2.1,x0[i].2.2.1,sb,()),true,()),rfl,nofun,fun _=>(pI_CurCash (hV.le le3) x0[i].2.1).mono ?_⟩
 rintro V4 _ ⟨le4,rfl⟩
 have l34:=le3.trans le4
 refine⟨fun _=>le4,_,rfl,(cI_RoundTo V4 x0[i].2.2.1 sb x0[i].2.2.2.1 fb (Lb.le le4) mok.2.1 n4 (cashOf x0[i].2.1) q1 q2 m hm).mono ?_⟩
 rintro V5 _ ⟨le5,e,t,o,g5,rfl,L5,O5,ok5,v5,n5⟩
 have l5:=l34.trans le5
 refine⟨nofun,((e,t,()),true,()),rfl,(rI_moneyOf (hV.le l5) x0[i].2.1 e t o g5 L5 mok.1 ok5).mono ?_⟩
 rintro V6 _ ⟨le6,hmo⟩
 have l6:=l5.trans le6
 rcases hmo with ⟨h4,rfl⟩ | ⟨h4,rfl⟩
 rotate_left
 ·refine⟨nofun,(_,false,()),rfl,nofun,fun _=>⟨fun _=>?_,nofun⟩⟩
  rw [cashAt_no hi (cashR_no ok5 v5 h4)]
  exact do_zero (le0.trans l6) 8
 refine⟨nofun,(_,true,()),rfl,nofun,fun _=>⟨nofun,fun _=>(cI_AcctAt V6 c0 x0 f0 (h0.le l6) n).mono ?_⟩⟩
 rintro V7 _ ⟨le7,rfl⟩
 have l7:=l6.trans le7
 have h7:=h0.le l7
 have hn7:=h7.1
 rw [atN_some hf]
 have e0:(i:Int).toNat=i:=by omega
 obtain⟨bb,ob,cs,u,cr,fc,hsa,hbb,hlen,hld,hR,hfc,hset⟩:=h7.putRow (O0.post l7) hi
 have Rz:rMoney.R V7 (x0[i].2.1,e,t,()) (x0[i].2.1,e,o,()) g5:=mon_mk zb (L5.le (le6.trans le7))
 have O57:Own V2 V7 g5:=(O5.pre l34).post (le6.trans le7)
 obtain⟨f0',Lf,Of,lef,hbf,hsub⟩:=hset (c':=(cr.1,(x0[i].2.1,e,t,()))) (x':=(x0[i].1,(x0[i].2.1,e,o,()))) (k:=1) (vs:=Scs.vals MonSh (x0[i].2.1,e,t,())) (Know.le.refl _) (le0.trans l7) ⟨hR.1,Rz⟩ (O0.append O57 le0 l7) (by simp [vals_len]) (setl_mon cr _)
 have hold:∀ y∈f0++(f1++f3),V2 y≠none:=fun y hy hn=>by
  obtain⟨c',t',k⟩:=O.2.2 y hy
  rw [hn] at k; cases k
 have hbv:V2 bb≠none:=hold bb (by simp [hbf])
 have hnb:∀ {V':Know} {g:List Nat},Own V2 V' g→bb ∉ g:=fun hO hm=>hbv (hO.2.1 bb hm)
 refine⟨fun _=>le7,(i:Int),rfl,?_⟩
 rw [e0]
 refine⟨_,hsa,by omega,by omega,cs,u,?_⟩
 simp only [addr_add_eq]
 refine⟨trivial,hbb,(by show ob+i*4+1+3≤cs.length; have q:ob+i*4+4≤cs.length:=hlen; omega),?_⟩
 generalize hV8:kset V7 bb (setl cs (ob+i*List.length [Sc.s,.s,.b,.l]+1) (Scs.vals MonSh (x0[i].2.1,e,t,())),(u,(0,0)))=V8 at Lf Of lef
 have hoff:∀ y,y≠bb→V8 y=V7 y:=fun y hy=>by rw [← hV8]; exact kset_other hy
 have hn3:=(List.nodup_append.1 O.1).2.2
 have hbr:∀ y∈f1++f3,y≠bb:=fun y hy e=>hn3 bb hbf y hy e.symm
 have le08:V0.le V8:=lef
 have O8:Own V0 V8 (f0'++(f1++f3)):=own_store (O.post l7) Of hbf hsub (fun y hy hy2=>hold y (by simp [hy2]) (O57.2.1 y hy)) hoff
 have R8:rLedger.R V8 (c0,c1,c2,c3,()) (x0.set i (x0[i].1,(x0[i].2.1,e,o,())),x1,c2,x3,()) (f0'++(f1++f3)) :=
  ledger_mk (x:=(x0.set i (x0[i].1,(x0[i].2.1,e,o,())),x1,c2,x3,())) Lf ((h1.le l7).loc fun y hy=>hoff y (hbr y (by simp [hy]))) rfl z2 ((h3.le l7).loc fun y hy=>hoff y (hbr y (by simp [hy])))
 have offL:∀ {s:SlV} {l:List Lim} {g:List Nat},LR rI V7 s l g→bb ∉ g→LR rI V8 s l g:=fun h hg=>h.loc fun y hy=>hoff y (fun e=>hg (e ▸ hy))
 have L58:=offL (L5.le (le6.trans le7)) (hnb O57)
 have Lb8:=offL (Lb.le (((le4.trans le5).trans le6).trans le7)) (hnb (Ob.post (Know.le.refl _)))
 change CallX Tryz.prog (kset V7 bb (setl cs (ob+i*List.length [Sc.s,.s,.b,.l]+1) (Scs.vals MonSh (x0[i].2.1,e,t,())),(u,(0,0)))) _ _ _
 rw [hV8]
 refine(cI_intNeg V8 e t o g5 L58 (by omega)).mono ?_
 rintro V9 _ ⟨le9,s9,f9,rfl,L9,_⟩
 have l08:V0.le V9:=le08.trans le9
 have s9v:sval (!e && decide (0<o.length)) o=-MonV x0[i].2 m:=by
  rw [(made_ok (q:=!e) ok5.1.1 (by omega)).2,sval_not,v5]
 refine⟨fun _=>(by subst hV8; exact le9),_,rfl,(cI_intAdd V9 x0[i].2.2.1 sb _ s9 x0[i].2.2.2.1 o fb f9 (Lb8.le le9) L9 mok.2.1.1.1 ok5.1.1 (by omega) (by omega)).mono ?_⟩
 rintro V10 _ ⟨le10,e10,s10,o10,f10,rfl,L10,_,C10,v10,p10,_⟩
 have v10':sval e10 o10=svM x0[i].2-MonV x0[i].2 m:=by
  rw [v10,s9v]; rfl
 have hd:=cash_diff (m:=m) mok
 have n10:=small_len (e:=e10) C10 (by rw [v10']; exact hd)
 refine⟨nofun,_,rfl,(cI_RatInt V10 e10 s10 o10 f10 L10 ⟨⟨C10,by omega⟩,p10⟩).mono ?_⟩
 rintro V11 _ ⟨le11,c11,r11,e11,f11,rfl,R11,_,hx⟩
 rw [v10'] at hx
 obtain rfl:=diff_rat hx hd
 have rok:=redS_ok (by decide) hx rfl
 have hC:CashR x0[i].2 m ((x0[i].2.1,e,o,()),r11):=⟨⟨mok.1,ok5,h4⟩,rfl,v5,hx⟩
 rw [cashAt_yes hi hC]
 have l811:=(le9.trans le10).trans le11
 refine⟨nofun,(c11,true,()),rfl,nofun,fun _=>(cI_keep (V0:=V0) (hV0.le (le08.trans l811)) (c0,c1,c2,c3,()) _ _ (rLedger.le R8 l811) okL.2.1 (O8.post l811) (le08.trans l811) x0[i].2.1 mok.1 c11 r11 f11 R11 rok).mono ?_⟩
 rintro V12 _ ⟨le12,h12⟩
 obtain⟨le012,c12,f12,rfl,R12,O12⟩:=h12
 exact⟨nofun,(c12,_,()),rfl,le012,c12,f12,rfl,R12,O12⟩
theorem cI_DoCash {V:Know} (hV:HcI V) (c:Scs LedSh) (x:DLedger) (f:List Nat) (h:rLedger.R V c x f) (ht:rLedger.tot x≤1048576) (n:ByteArray) (hz:n.size≤9223372036854775807) (m:Int) :
  CallX Tryz.prog V 8 [qv4 c,.string n,.int .i64 m] (DoPost V (perfP x (cashRun x n m))):=by
 refine CallX.of_fits Tryz.mix (fI_DoCash _ _ _) fun _=>?_
 simp only [tI_DoCash,T.wp]
 have key:CallX Tryz.prog V 45 [qv4 c,.iface 103 (qv8 (n,m,()))] (DoPost V (perfP x (cashRun x n m))) :=
  CallX.of_fits Tryz.mix (fI_perform_opCash c (n,m,())) fun _=>perf_wp0 (g:=260) (o:=qv8 (n,m,())) hV h ht (fun ok V1 c1 f1 le1 R1 O1=>cI_opCash hV c1 x f1 R1 ht ok O1 le1 n hz m) cashRun_zero
 refine key.mono ?_
 rintro V1 _ ⟨le1,c1,f1,rfl,R1,O1⟩
 exact⟨nofun,(c1,_,()),rfl,le1,c1,f1,rfl,R1,O1⟩
end Go.Proofs.YtfiakghfncempaaGreatDoor
namespace Go.Proofs.YtfiakghfncempaaGreatDoor
open Sx
set_option maxRecDepth 100000
theorem lims_ex:∀ (k:Nat) {v:Int},0≤v→v<1000000000 ^ k→∃ l:List Lim,Lims l∧l.length=k∧valN l=v
 | 0,v,h0,h1=>⟨[],lims_nil,rfl,by
  have:v<1:=by simpa using h1
  show(0:Int)=v
  omega⟩
 | k+1,v,h0,h1=>by
  have hp:(0:Int)<1000000000 ^ k:=pw_pos k
  have e:=Int.mul_ediv_add_emod v (1000000000 ^ k)
  have m0:=Int.emod_nonneg v (show(1000000000:Int) ^ k≠0 by omega)
  have m1:=Int.emod_lt_of_pos v hp
  have q0:=Int.ediv_nonneg h0 (Int.le_of_lt hp)
  have q1:v / 1000000000 ^ k<1000000000:=Int.ediv_lt_of_lt_mul hp (by rw [pw_succ] at h1; exact h1)
  obtain⟨l,hl,hk,hv⟩:=lims_ex k m0 m1
  refine⟨l++[(v / 1000000000 ^ k,())],lims_snoc hl ⟨q0,q1⟩,by simp [hk],?_⟩
  have hs:=valTo_snoc (l:=l) (x:=(v / 1000000000 ^ k,())) (Nat.le_refl l.length)
  show valTo _ (l++[(v / 1000000000 ^ k,())]).length=v
  rw [List.length_append,show l.length+[((v / 1000000000 ^ k,()):Lim)].length=l.length+1 from rfl,valTo,hs,limb_snoc,hk]
  have hv':valTo l k=v % 1000000000 ^ k:=by
   have h9:=hv
   unfold valN at h9
   rw [hk] at h9
   exact h9
  rw [hv']
  show v % 1000000000 ^ k+v / 1000000000 ^ k*1000000000 ^ k=v
  rw [Int.mul_comm (v / 1000000000 ^ k)]
  omega
theorem can_ex {k:Nat} {v:Int} (h0:0≤v) (h1:v<1000000000 ^ k):∃ l:List Lim,Can l∧valN l=v:=by
 obtain⟨l,hl,_,hv⟩:=lims_ex k h0 h1
 obtain⟨h2,h3⟩:=trim_can hl
 exact⟨trimL l,h2,h3.trans hv⟩
theorem redS_ex {S D:Int} (hD:0<D) (hS:(S.natAbs:Int)<1000000000 ^ 18) (hDb:D<1000000000 ^ 18):∃ y,RedS S D y true:=by
 have hg:=gcd_pos (N:=(S.natAbs:Int)) hD
 have d1:((Int.gcd (S.natAbs:Int) D:Nat):Int) ∣ (S.natAbs:Int):=Int.gcd_dvd_left ..
 have d2:((Int.gcd (S.natAbs:Int) D:Nat):Int) ∣ D:=Int.gcd_dvd_right ..
 obtain⟨a,ha⟩:=d1
 obtain⟨b,hb⟩:=d2
 have s0:(0:Int)≤(S.natAbs:Int):=by omega
 generalize hgg:((Int.gcd (S.natAbs:Int) D:Nat):Int)=g at *
 have a0:0≤a:=Int.le_of_mul_le_mul_left (a:=g) (by rw [Int.mul_zero,← ha]; exact s0) hg
 have b0:0≤b:=Int.le_of_mul_le_mul_left (a:=g) (by rw [Int.mul_zero,← hb]; omega) hg
 have le1:a≤(S.natAbs:Int):=by
  rw [ha]
  have:=Int.mul_le_mul_of_nonneg_right (show(1:Int)≤g by omega) a0
  omega
 have le2:b≤D:=by
  rw [hb]
  have:=Int.mul_le_mul_of_nonneg_right (show(1:Int)≤g by omega) b0
  omega
 obtain⟨p,cp,vp⟩:=can_ex (k:=18) a0 (by omega)
 obtain⟨q,cq,vq⟩:=can_ex (k:=18) b0 (by omega)
 have hr:Red (S.natAbs:Int) D p q:=⟨cp,cq,by rw [hgg,vp,Int.mul_comm]; exact ha.symm,by rw [hgg,vq,Int.mul_comm]; exact hb.symm⟩
 have bd:∀ {l:List Lim},Can l→valN l<1000000000 ^ 18→l.length≤18:=fun {l} cl h=>by
  by_cases kk:l.length≤18
  ·exact kk
  ·have g1:=can_ge cl (by omega)
   have g2:=pw_mono (show 18≤l.length-1 by omega)
   omega
 exact⟨_,p,q,hr,.inl ⟨bd cp (by omega),bd cq (by omega),rfl,rfl⟩⟩
theorem can_small {v:Int} (h:0≤v) (k:v<1000000000):∃ o:List Lim,Can o∧valN o=v∧o.length≤1∧(0<v→0<o.length):=by
 by_cases z:v=0
 ·exact⟨[],⟨lims_nil,.inl rfl⟩,by subst z; rfl,by simp,by omega⟩
 ·exact⟨[(v,())],⟨lims_one ⟨h,k⟩,.inr z⟩,valN_one v,by simp,by simp⟩
theorem mon_ex {c:ByteArray} (hc:known c=true) {v:Int} (h:v.natAbs<1000000000):∃ z:DMoney,MonP z∧z.1=c∧svM z=v∧z.2.2.1.length≤1:=by
 obtain⟨o,h1,h2,h3,h4⟩:=can_small (v:=(v.natAbs:Int)) (by omega) (by omega)
 refine⟨(c,decide (v<0),o,()),⟨hc,⟨⟨h1,by show o.length≤50; omega⟩,fun e=>h4 ?_⟩,by show o.length≤4; omega⟩,rfl,?_,h3⟩
 ·have:v<0:=of_decide_eq_true e
  omega
 ·show sval (decide (v<0)) o=v
  unfold sval
  by_cases k:v<0
  ·simp only [k,decide_true,if_true]; omega
  ·simp only [k,decide_false,Bool.false_eq_true,if_false]; omega
theorem int_ex {v:Int} (h:v.natAbs<1000000000):∃ y:DRat,RedS v 1 y true∧RatP y∧rS y=v∧rD y=1∧y.2.1.length≤1∧y.2.2.1.length≤1:=by
 have p9:((10:Int) ^ 9)≤1000000000 ^ 18:=by decide
 obtain⟨y,hy⟩:=redS_ex (S:=v) (D:=1) (by decide) (by omega) (by decide)
 have hok:=redS_ok (by decide) hy rfl
 obtain⟨h1,h2⟩:=redS_wide (by decide) hy 1 1 (by omega) (by decide)
 have e1:RedS v 1 y true:=hy
 obtain⟨p,q,hr,k⟩:=e1
 have hq:valN q=1:=by
  have:=hr.2.2.2
  have g1:Int.gcd (v.natAbs:Int) 1=1:=Int.gcd_one_right ..
  rw [g1] at this
  simpa using this
 rcases k with ⟨_,_,_,rfl⟩ | ⟨_,e,_⟩
 ·obtain⟨hv,_,_⟩:=redS_val (by decide) hy
  refine⟨_,hy,hok,?_,hq,h1,h2⟩
  have hv':sval (decide (v<0)) p*1=v*valN q:=hv
  rw [hq] at hv'
  show sval (decide (v<0)) p=v
  omega
 ·cases e
theorem rnd_near {m:Int} {neg:Bool} {n d:Int} (hd:0<d):-d<n-rndN m neg n d*d∧n-rndN m neg n d*d<d:=by
 have e:=Int.mul_ediv_add_emod n d
 have h0:=Int.emod_nonneg n (show d≠0 by omega)
 have h1:=Int.emod_lt_of_pos n hd
 have e2:n / d*d=d*(n / d):=Int.mul_comm _ _
 rcases rnd_cases m neg n d with ⟨q,_⟩ | q
 ·rw [q,Int.add_mul,Int.one_mul,e2]; omega
 ·rw [q,e2]; omega
theorem cash_near {x:DMoney} {m:Int} (hx:MonP x):((svM x-MonV x m).natAbs:Int)<cashOf x.1:=by
 obtain⟨c1,c2⟩:=cash_bd hx.1
 obtain⟨h1,h2⟩:=rnd_near (m:=m) (neg:=x.2.1) (n:=valN x.2.2.1) (d:=cashOf x.1) (by omega)
 show((sval x.2.1 x.2.2.1-sv x.2.1 (rndN m x.2.1 (valN x.2.2.1) (cashOf x.1)*cashOf x.1)).natAbs:Int)<_
 generalize rndN m x.2.1 (valN x.2.2.1) (cashOf x.1)*cashOf x.1=w at h1 h2 ⊢
 unfold sval sv
 split <;> omega
theorem cash_mod {x:DMoney} {m:Int} (hx:MonP x):((MonV x m).natAbs:Int) % cashOf x.1=0:=by
 obtain⟨c1,c2⟩:=cash_bd hx.1
 have hn:=rnd_nonneg (m:=m) (neg:=x.2.1) (valN_nonneg hx.2.1.1.1.1) (show 0<cashOf x.1 by omega)
 have h0:0≤rndN m x.2.1 (valN x.2.2.1) (cashOf x.1)*cashOf x.1:=Int.mul_nonneg hn (by omega)
 have e:((MonV x m).natAbs:Int)=rndN m x.2.1 (valN x.2.2.1) (cashOf x.1)*cashOf x.1:=by
  show((sv x.2.1 (rndN m x.2.1 (valN x.2.2.1) (cashOf x.1)*cashOf x.1)).natAbs:Int)=_
  unfold sv
  split <;> omega
 rw [e,Int.mul_emod_left]
theorem cash_run {x:DLedger} {n:ByteArray} {m:Int} {i:Nat} (ok:LedgerOkP x) (sm:SmB x.1) (bd:Bd 3 x.2.1) (hm:RmP m) (hf:fnd n x.1=some i) (hi:i<x.1.length) :
  ∃ z r y,CashR x.1[i].2 m (z,r)∧z.2.2.1.length≤1∧rS r=svM x.1[i].2-MonV x.1[i].2 m∧rD r=1∧RatP r∧AddRP (atR x.2.1 x.1[i].2.1) r (y,true)∧cashRun x n m=((x.1.set i (x.1[i].1,z),addR x.1[i].2.1 y x.2.1,x.2.2),0):=by
 obtain⟨_,w1,w2,_⟩:=ok.1.2 i hi
 obtain⟨_,hnm⟩:=fnd_at hf
 rw [hnm] at w1
 have hs:=sm _ (List.getElem_mem hi)
 have hc:=cash_near (m:=m) w2
 obtain⟨c1,c2⟩:=cash_bd w2.1
 obtain⟨z,z1,z2,z3,z4⟩:=mon_ex w2.1 (v:=MonV x.1[i].2 m) (by omega)
 obtain⟨r,r1,r2,r3,r4,r5,r6⟩:=int_ex (v:=svM x.1[i].2-MonV x.1[i].2 m) (by omega)
 have hR:CashR x.1[i].2 m (z,r):=⟨z1,z2,z3,r1⟩
 have hat:=atR_ok ok.2.1 x.1[i].2.1
 have hb:(atR x.2.1 x.1[i].2.1).2.1.length≤17∧(atR x.2.1 x.1[i].2.1).2.2.1.length≤15:=by
  unfold atR
  cases hf:x.2.1.find? (keyB x.1[i].2.1) with
  | none=>exact⟨by decide,by decide⟩
  | some w =>
   obtain⟨a,b⟩:=bd.2 w (List.mem_of_find?_eq_some hf)
   exact⟨a,b⟩
 have hy:∃ y,AddRP (atR x.2.1 x.1[i].2.1) r (y,true):=by
  have a1:=lim_bd hat.1.1.1.1 hb.1
  have a2:=lim_bd hat.2.1.1.1 hb.2
  have a3:((rS (atR x.2.1 x.1[i].2.1)).natAbs:Int)=valN (atR x.2.1 x.1[i].2.1).2.1:=sval_abs hat.1.1.1.1
  have a4:rD (atR x.2.1 x.1[i].2.1)=valN (atR x.2.1 x.1[i].2.1).2.2.1:=rfl
  have p1:(1000000000:Int) ^ 18=1000000000*1000000000 ^ 17:=pw_succ 17
  have p2:(1000000000:Int) ^ 17=1000000000*1000000000 ^ 16:=pw_succ 16
  have p3:(1000000000:Int) ^ 16=1000000000*1000000000 ^ 15:=pw_succ 15
  have hp:=ratP_pos hat
  refine redS_ex ?_ ?_ ?_
  ·rw [r4,Int.mul_one]; exact hp
  ·rw [r4,Int.mul_one,r3]
   have h2:=Int.natAbs_add_le (rS (atR x.2.1 x.1[i].2.1)) ((svM x.1[i].2-MonV x.1[i].2 m)*rD (atR x.2.1 x.1[i].2.1))
   rw [Int.natAbs_mul] at h2
   have h3:((svM x.1[i].2-MonV x.1[i].2 m).natAbs*(rD (atR x.2.1 x.1[i].2.1)).natAbs)≤1000000*(rD (atR x.2.1 x.1[i].2.1)).natAbs:=Nat.mul_le_mul_right _ (by omega)
   omega
  ·rw [r4,Int.mul_one]; omega
 obtain⟨y,hy⟩:=hy
 refine⟨z,r,y,hR,z4,r3,r4,r2,hy,?_⟩
 rw [cashRun_at ⟨w1,hm⟩ hf,cashAt_yes hi hR]
 exact keepP_yes (x:=(x.1.set i (x.1[i].1,z),x.2)) ok.2.1 w2.1 r2 hy
end Go.Proofs.YtfiakghfncempaaGreatDoor
namespace Go.Proofs.YtfiakghfncempaaGreatDoor
open Sx
set_option maxRecDepth 100000
theorem cI_alike {V:Know} (hV:hasCur V) (c d:Scs [.s,.b,.l]) (x y:DMoney) (f g:List Nat) (hx:rMoney.R V c x f) (hy:rMoney.R V d y g):CallX Tryz.prog V 51 [qv2 c,qv2 d] (fun V' r=>V.le V'∧∃ e,r=.bool e∧(e=true↔AlikeP x y)):=by
 obtain⟨c0,c1,c2,cu⟩:=c
 obtain⟨d0,d1,d2,du⟩:=d
 obtain⟨x0,x1,x2,xu⟩:=x
 obtain⟨y0,y1,y2,yu⟩:=y
 obtain⟨⟨ec0,zc0⟩,hx⟩:=hx
 replace ec0:c0=x0:=ec0
 subst ec0
 replace zc0:c0.size≤9223372036854775807:=zc0
 obtain⟨ec1,hx⟩:=hx
 replace ec1:c1=x1:=ec1
 subst ec1
 obtain⟨ff2,ffr2,ec2,sc2,hx⟩:=hx
 subst ec2
 replace sc2:LR rI _ c2 x2 ff2:=sc2
 replace hx:_=[]:=hx
 subst hx
 obtain⟨⟨ed0,zd0⟩,hy⟩:=hy
 replace ed0:d0=y0:=ed0
 subst ed0
 replace zd0:d0.size≤9223372036854775807:=zd0
 obtain⟨ed1,hy⟩:=hy
 replace ed1:d1=y1:=ed1
 subst ed1
 obtain⟨gg2,ggr2,ed2,sd2,hy⟩:=hy
 subst ed2
 replace sd2:LR rI _ d2 y2 gg2:=sd2
 replace hy:_=[]:=hy
 subst hy
 refine CallX.of_fits Tryz.mix (fI_alike _ _) fun _=>?_
 simp only [tI_alike,T.wp]
 refine(cI_MoneyOk hV c0 c1 c2 x2 _ sc2).mono ?_
 rintro V1 r ⟨hle,e,rfl,he⟩
 refine⟨nofun,e,rfl,fun ht=>?_,fun hf=>⟨hle,false,rfl,⟨(fun h=>by cases h),(fun k=>by rw [he.2 k.1] at hf; cases hf)⟩⟩⟩
 refine(cI_MoneyOk (hV.le hle) d0 d1 d2 y2 _ (sd2.le hle)).mono ?_
 rintro V2 r ⟨hle2,e2,rfl,he2⟩
 refine⟨nofun,e2,rfl,fun ht2=>⟨hle.trans hle2,_,rfl,⟨fun hd=>⟨he.1 ht,he2.1 ht2,text_eq.1 hd⟩,fun k=>text_eq.2 k.2.2⟩⟩,fun hf=>⟨hle.trans hle2,false,rfl,⟨(fun h=>by cases h),(fun k=>by rw [he2.2 k.2.1] at hf; cases hf)⟩⟩⟩
theorem sval_flip {e:Bool} {o:List Lim}:sval (!e) o=-sval e o:=by
 unfold sval
 cases e <;> simp
theorem cI_RatCmp (V:Know) (x y:DRat) (c d:Scs [.b,.l,.l]) (f g:List Nat) (hx:rRat.R V c x f) (hy:rRat.R V d y g) (ox:RatOkP x.1 x.2.1 x.2.2.1) (oy:RatOkP y.1 y.2.1 y.2.2.1) :
  CallX Tryz.prog V 20 [qv1 c,qv1 d] (fun V' r=>V.le V'∧r=.int .i64 (sgn (sval x.1 x.2.1*valN y.2.2.1-sval y.1 y.2.1*valN x.2.2.1))):=by
 refine CallX.of_fits Tryz.mix (fI_RatCmp _ _) fun _=>?_
 obtain⟨s1,s2,g1,g2,rfl,L1,L2,rfl⟩:=rat_elim hx
 obtain⟨t1,t2,k1,k2,rfl,M1,M2,rfl⟩:=rat_elim hy
 simp only [tI_RatCmp,T.wp]
 have z1:=ox.2.2.2.1
 have z2:=ox.2.2.2.2.1
 have z3:=oy.2.2.2.1
 have z4:=oy.2.2.2.2.1
 refine(cI_ratsOk V x.1 s1 s2 y.1 t1 t2 x.2.1 x.2.2.1 y.2.1 y.2.2.1 _ _ _ _ L1 L2 M1 M2 ox oy).mono ?_
 rintro V1 _ ⟨le1,rfl⟩
 refine⟨nofun,true,rfl,nofun,fun _=>(cI_num V1 x.1 s1 s2 t2 x.2.1 [] y.2.2.1 _ [] _ (L1.le le1) (M2.le le1) ox.1.1.1 oy.2.1.1 (by omega) (by omega)).mono ?_⟩
 rintro V2 _ ⟨le2,e2,u2,o2,f2,rfl,L3,C3,v3,n3⟩
 have l2:=le1.trans le2
 refine⟨fun _=>le2,_,rfl,(cI_num V2 y.1 t1 t2 s2 y.2.1 [] x.2.2.1 _ [] _ (M1.le l2) (L2.le l2) oy.1.1.1 ox.2.1.1 (by omega) (by omega)).mono ?_⟩
 rintro V3 _ ⟨le3,e3,u3,o3,f3,rfl,L4,C4,v4,n4⟩
 refine⟨nofun,_,rfl,(cI_intCmp V3 e2 u2 e3 u3 o2 o3 f2 f3 (L3.le le3) L4 C3 C4 (by omega) (by omega)).mono ?_⟩
 rintro V4 _ ⟨le4,rfl⟩
 exact⟨nofun,_,rfl,(l2.trans le3).trans le4,by rw [v3,v4]; rfl⟩
theorem cI_IntSmall (V:Know) (k:Int) (h:0<k∧k<1000000000):CallX Tryz.prog V 19 [.int .i64 k] (fun V' r=>V.le V'∧∃ s f,r=qv0 (false,s,())∧LR rI V' s [(k,())] f):=by
 refine CallX.of_fits Tryz.mix (fI_IntOf _) fun _=>?_
 simp only [tI_IntOf,T.wp]
 refine⟨fun hn=>?_,fun _=>?_⟩
 ·have:=of_decide_eq_true hn
  omega
 rw [show IntKind.u64.wrap k=k from wrap_u64 (by omega)]
 refine(cI_natOf V k (by omega)).mono ?_
 rintro V1 _ ⟨le1,s,o,f,rfl,L,_,C,v,_⟩
 have e:o=[(k,())]:=can_inj C ⟨lims_one (by omega),.inr (by show k≠0; omega)⟩ (by rw [v,valN_one])
 subst e
 exact⟨nofun,s,rfl,le1,s,f,rfl,L⟩
theorem cL_must (V:Know) (c:Scs [.b,.l,.l]):CallX Tryz.prog V 14 [qv1 c,.bool true] (fun V' r=>V'=V∧r=qv1 c):=by
 refine CallX.of_fits Tryz.mix (fL_must _ _) fun _=>?_
 simp only [tL_must,T.wp]
 exact⟨nofun,fun _=>⟨by trivial,rfl⟩⟩
end Go.Proofs.YtfiakghfncempaaGreatDoor
