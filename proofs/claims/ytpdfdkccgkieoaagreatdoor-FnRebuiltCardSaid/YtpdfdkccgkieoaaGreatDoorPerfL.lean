/-
  What the laws on operations ask: both answers are one; a result is small.
-/
import Derived.Test.YtpdfdkccgkieoaaGreatDoorLit
import Derived.Test.YtpdfdkccgkieoaaGreatDoorTxt
import Derived.Test.YtpdfdkccgkieoaaGreatDoorPostX
namespace Go.Proofs.YtpdfdkccgkieoaaGreatDoor
open Sx
set_option maxRecDepth 100000
abbrev LedSh:List Sc:=[.l,.l,.s,.l]
abbrev zeroL:DLedger:=([],[],ByteArray.empty,[],())
abbrev zeroLC:Scs LedSh:=(⟨none,0,0⟩,⟨none,0,0⟩,ByteArray.empty,⟨none,0,0⟩,())
theorem lrNil {sh:List Sc} {α:Type} {r:Rp sh α} {V:Know}:LR r V ⟨none,0,0⟩ [] []:=⟨rfl,Nat.le_refl _,by decide,.inl ⟨rfl,fun _=>rfl,rfl⟩⟩
theorem zeroL_R (V:Know):rLedger.R V zeroLC zeroL []:=rSl.mk (f:=[]) lrNil (rSl.mk (f:=[]) lrNil (rStr.mk (by decide) (rSl.mk (f:=[]) lrNil rNil.mk)))
abbrev DoPost (V:Know) (y:DLedger × Int):Know→Value→Prop:=fun V' v=>V.le V'∧∃ c f,v=.tuple #[qv0 c,.int .i64 y.2]∧rLedger.R V' c y.1 f∧Own V V' f
theorem do_zero {V V':Know} (le:V.le V') (n:Int):DoPost V (zeroL,n) V' (packed [qv0 zeroLC,.int .i64 n]):=⟨le,zeroLC,[],rfl,zeroL_R V',Own.nil⟩
open Classical in
noncomputable def perfP (x:DLedger) (y:DLedger × Int):DLedger × Int:=if LedgerOkP x then y else (zeroL,1)
theorem perfP_ok {x:DLedger} {y:DLedger × Int} (h:LedgerOkP x):perfP x y=y:=if_pos h
theorem perfP_no {x:DLedger} {y:DLedger × Int} (h:¬ LedgerOkP x):perfP x y=(zeroL,1):=if_neg h
def tPerf (g:Nat) (o:Value) (x0:Scs LedSh):T :=
 .call false 12 [qv0 x0] (.v (.o .b)) fun y1 =>
 .br (!y1) (.ret [qv0 zeroLC,.int .i64 (1:Int)]) <|
 .rg <|
 .call false 35 [qv0 x0] (.v (.g [.l,.l,.s,.l])) fun y2 =>
 .call false g [o,qv0 y2] (.t [(.g [.l,.l,.s,.l]),(.o (.i .i64))]) fun y3 =>
 .br (y3.2.1 != (0:Int)) (.ret [qv0 zeroLC,.int .i64 y3.2.1]) <|
 .ret [qv0 y3.1,.int .i64 (0:Int)]
theorem perf_wp0 {V V0:Know} (hV:HcI V) {c:Scs LedSh} {x:DLedger} {f:List Nat} (h:rLedger.R V c x f) (ht:rLedger.tot x≤1048576) {g:Nat} {o:Value} {y:DLedger × Int}
  (hrun:LedgerOkP x→∀ V1 c1 f1,V.le V1→rLedger.R V1 c1 x f1→Own V V1 f1→CallX Tryz.prog V1 g [o,qv0 c1] (fun V2 v=>DoPost V y V2 v)) (hy:y.2≠0→y.1=zeroL) :
  (tPerf g o c).wp Tryz.prog (fun V' vs=>DoPost V (perfP x y) V' (packed vs)) V V0 []:=by
 simp only [tPerf,T.wp]
 refine(cI_LedgerOk hV c x f h).mono ?_
 rintro V1 _ ⟨le1,e1,rfl,he1⟩
 refine⟨nofun,e1,rfl,fun hf=>?_,fun h1=>?_⟩
 ·rw [perfP_no (fun k=>by rw [he1.2 k] at hf; cases hf)]
  exact do_zero le1 1
 have ok:=he1.1 (by simpa using h1)
 rw [perfP_ok ok]
 refine(kI_ledgerCopy V1 c x f (rLedger.le h le1) ht).mono ?_
 rintro V2 _ ⟨le2,c2,f2,rfl,R2,O2⟩
 have l2:=le1.trans le2
 refine⟨fun _=>le2,c2,rfl,(hrun ok V2 c2 f2 l2 R2 (O2.pre le1)).mono ?_⟩
 rintro V3 _ ⟨le3,c3,f3,rfl,R3,O3⟩
 refine⟨nofun,(c3,y.2,()),rfl,fun hne=>?_,fun he=>?_⟩
 ·have e:=hy (by simpa using hne)
  obtain⟨y1,y2⟩:=y
  replace e:y1=zeroL:=e
  subst e
  exact do_zero le3 y2
 ·have e:y.2=0:=by simpa using he
  obtain⟨y1,y2⟩:=y
  replace e:y2=0:=e
  subst e
  exact⟨le3,c3,f3,rfl,R3,O3⟩
theorem perf_wp {V V0:Know} (hV:HcI V) {c:Scs LedSh} {x:DLedger} {f:List Nat} (h:rLedger.R V c x f) (ht:rLedger.tot x≤1048576) {g:Nat} {o:Value} {y:DLedger × Int}
  (hrun:LedgerOkP x→∀ V1 c1 f1,V.le V1→rLedger.R V1 c1 x f1→Own V V1 f1→CallX Tryz.prog V1 g [o,qv0 c1] (fun V2 v=>V1.le V2∧DoPost V y V2 v)) (hy:y.2≠0→y.1=zeroL) :
  (tPerf g o c).wp Tryz.prog (fun V' vs=>DoPost V (perfP x y) V' (packed vs)) V V0 [] :=
 perf_wp0 hV h ht (fun ok V1 c1 f1 le1 R1 O1=>(hrun ok V1 c1 f1 le1 R1 O1).mono fun _ _ h=>h.2) hy
open Classical in
noncomputable def rateRun (x:DLedger) (r:DRate):DLedger × Int:=if RateOkP r then (if PutOk x.2.2.1 x.2.2.2.1 r then ((x.1,x.2.1,x.2.2.1,putR r x.2.2.2.1,()),0) else (zeroL,9)) else (zeroL,1)
theorem rateRun_form {x:DLedger} {r:DRate} (h:¬ RateOkP r):rateRun x r=(zeroL,1):=if_neg h
theorem rateRun_full {x:DLedger} {r:DRate} (h:RateOkP r) (k:¬ PutOk x.2.2.1 x.2.2.2.1 r):rateRun x r=(zeroL,9):=(if_pos h).trans (if_neg k)
theorem rateRun_ok {x:DLedger} {r:DRate} (h:RateOkP r) (k:PutOk x.2.2.1 x.2.2.2.1 r):rateRun x r=((x.1,x.2.1,x.2.2.1,putR r x.2.2.2.1,()),0):=(if_pos h).trans (if_pos k)
theorem rateRun_zero {x:DLedger} {r:DRate} (h:(rateRun x r).2≠0):(rateRun x r).1=zeroL:=by
 unfold rateRun at h ⊢
 split
 ·rename_i q
  rw [if_pos q] at h
  split
  ·rename_i k
   rw [if_pos k] at h
   exact absurd rfl h
  ·rfl
 ·rfl
theorem cI_opRate {V0 V:Know} (hV:HcI V) (c:Scs LedSh) (x:DLedger) (f:List Nat) (h:rLedger.R V c x f) (ht:rLedger.tot x≤1048576) (O:Own V0 V f) (le0:V0.le V) (d:Scs [.s,.s,.b,.l,.i .i64]) (r:DRate) (g:List Nat) (hr:rRate.R V d r g) (tr:rRate.tot r≤1048576) :
  CallX Tryz.prog V 410 [qv6 d,qv0 c] (fun V' v=>V.le V'∧DoPost V0 (rateRun x r) V' v):=by
 refine CallX.of_fits Tryz.mix (fI_opRate__run _ _) fun _=>?_
 obtain⟨s3,g3,rfl,hm⟩:=rate_elim hr
 obtain⟨c0,c1,c2,c3,cu⟩:=c
 obtain⟨x0,x1,x2,x3,xu⟩:=x
 obtain⟨f0,g0,rfl,h0,h⟩:=h
 obtain⟨f1,g1,rfl,h1,h⟩:=h
 obtain⟨⟨e2,z2⟩,h⟩:=h
 replace e2:c2=x2:=e2
 subst e2
 obtain⟨f3,g3',rfl,h3,hN⟩:=h
 replace hN:g3'=[]:=hN
 subst hN
 replace h0:LR rAcct V c0 x0 f0:=h0
 replace h1:LR rRest V c1 x1 f1:=h1
 replace h3:LR rRate V c3 x3 f3:=h3
 replace ht:(x0.length+totE rAcct x0+(x1.length+totE rRest x1+(c2.size+(x3.length+totE rRate x3+0))))≤1048576:=ht
 simp only [tI_opRate__run,T.wp]
 refine(cI_RateOk hV r s3 g3 hm).mono ?_
 rintro V1 _ ⟨le1,e1,rfl,he1⟩
 refine⟨nofun,e1,rfl,fun hf=>?_,fun k1=>?_⟩
 ·rw [rateRun_form (fun k=>by rw [he1.2 k] at hf; cases hf)]
  exact⟨le1,do_zero (le0.trans le1) 1⟩
 have ok:=he1.1 (by simpa using k1)
 refine(cI_RatePut (hV.le le1) (c2,c3,()) (c2,x3,()) _ (rStr.mk z2 (rSl.mk (h3.le le1) rNil.mk)) (by show(c2.size+(x3.length+totE rRate x3+0))≤1048576; omega) _ r g (rRate.le hr le1) tr).mono ?_
 rintro V2 _ ⟨le2,c5,f5,rfl,R5,O5⟩
 have l2:=le1.trans le2
 by_cases k:PutOk c2 x3 r
 ·rw [putP_ok (x:=(c2,x3,())) k] at R5 ⊢
  rw [rateRun_ok (x:=(x0,x1,c2,x3,xu)) ok k]
  refine⟨nofun,(c5,true,()),rfl,nofun,fun _=>⟨l2,le0.trans l2,(c0,c1,c5.1,c5.2.1,()),f0++(f1++f5),rfl,rSl.mk (r:=rSl rRest (rStr (rSl rRate rNil))) (h0.le l2) (rSl.mk (r:=rStr (rSl rRate rNil)) (h1.le l2) R5),?_⟩⟩
  have o1:Own V0 V (f0++f1):=O.sub (by rw [← List.append_assoc]; exact List.sublist_append_left _ _)
  rw [← List.append_assoc]
  exact(o1.post le1).append O5 (le0.trans le1) le2
 ·rw [putP_no (x:=(c2,x3,())) k] at R5 ⊢
  rw [rateRun_full (x:=(x0,x1,c2,x3,xu)) ok k]
  exact⟨nofun,(c5,false,()),rfl,fun _=>⟨l2,do_zero (le0.trans l2) 9⟩,nofun⟩
end Go.Proofs.YtpdfdkccgkieoaaGreatDoor
namespace Go.Proofs.YtpdfdkccgkieoaaGreatDoor
open Sx
set_option maxRecDepth 100000
theorem each_wp {P:Program} {K:Know→List Value→Prop} {V V0:Know} {n:Nat} {rest:List LSh} (z:LShs rest) (p:Nat→Prop) (bad:List Value) {body tail:LShs (.o (.o (.i .i64)) :: rest)→T} {Ns:List (List LV→Know→Prop)} (hn:n≤9223372036854775807)
  (hbody:∀ (V':Know) (i:Nat) (N:List LV→Know→Prop),V.le V'→i<n→(∀ V2,V'.le V2→¬ p i→K V2 bad)→(∀ V2,V'.le V2→p i→N (.v (.int .i64 (IntKind.i64.wrap ((i:Int)+1))) :: LShs.lvs rest z) V2)→(body ((i:Int),z)).wp P K V' V' (Ns++[N]))
  (htail:∀ V',V.le V'→(∀ i,i<n→p i)→∀ N,(tail ((n:Int),z)).wp P K V' V' (Ns++[N])) (hbad:∀ V' i,V.le V'→i<n→¬ p i→K V' bad) :
  (T.lp (.o (.o (.i .i64)) :: rest) (.v (.int .i64 (0:Int)) :: LShs.lvs rest z) fun y=>.br (decide ((y.1:Int)<(n:Int))) (body y) (tail y)).wp P K V V0 Ns:=by
 simp only [T.wp]
 refine⟨fun y V'=>V.le V'∧y.2=z∧∃ i:Nat,(y.1:Int)=(i:Int)∧i≤n∧∀ j,j<i→p j,fun y _=>((n:Int)-(y.1:Int)).toNat,⟨((0:Int),z),rfl,Know.le.refl _,rfl,0,rfl,by omega,fun j hj=>by omega⟩,?_⟩
 rintro⟨(i:Int),z'⟩ V' ⟨hV,hz,k,hk,hle,hall⟩
 replace hk:i=(k:Int):=hk
 replace hz:z'=z:=hz
 subst hk hz
 refine⟨fun hlt=>?_,fun hge=>?_⟩
 ·have h1:k<n:=by
   have:(k:Int)<(n:Int):=of_decide_eq_true hlt
   omega
  refine hbody V' k _ hV h1 (fun V2 h2 hne=>hbad V2 k (hV.trans h2) h1 hne) fun V2 h2 he=>?_
  refine⟨(((k+1:Nat):Int),z'),by rw [nxt h1 (by omega)]; rfl,⟨hV.trans h2,rfl,k+1,rfl,h1,fun j hj=>?_⟩,?_⟩
  ·by_cases e:j=k
   ·subst e; exact he
   ·exact hall j (by omega)
  ·show((n:Int)-((k+1:Nat):Int)).toNat<((n:Int)-(k:Int)).toNat
   omega
 ·have h1:k=n:=by
   have:¬ (k:Int)<(n:Int):=of_decide_eq_false hge
   omega
  subst h1
  exact htail V' hV hall _
def balP (l:List DAcct) (n:ByteArray):DMoney:=match fnd n l with
 | none=>nilM
 | some i=>(l.getD i (n,nilM)).2
theorem balP_some {l:List DAcct} {n:ByteArray} {i:Nat} (h:fnd n l=some i) (hi:i<l.length):balP l n=l[i].2:=by
 rw [balP,h]
 show(l.getD i (n,nilM)).2=_
 rw [getD_at hi]
theorem balP_none {l:List DAcct} {n:ByteArray} (h:fnd n l=none):balP l n=nilM:=by rw [balP,h]
abbrev rNm:Rp [.s] (ByteArray × Unit):=rStr rNil
open Classical in
noncomputable def fitsP (l:List DAcct) (c:ByteArray) (ns:List ByteArray):Int:=if ∃ n∈ns,fnd n l=none then 3 else if ∃ n∈ns,(balP l n).1≠c then 5 else 0
noncomputable def postP (x:DLedger) (legs:List DAcct):DLedger × Int:=match postL x.1 legs with
 | none=>(zeroL,8)
 | some l=>((l,x.2),0)
open Classical in
noncomputable def legsP (x:DLedger) (legs:List DAcct):DLedger × Int:=if ∃ g∈legs,fnd g.1 x.1=none then (zeroL,3) else if ∃ g∈legs,(balP x.1 g.1).1≠g.2.1 then (zeroL,5) else postP x legs
theorem postL_cons {l:List DAcct} {g:DAcct} {gs:List DAcct} {y:List DAcct} {ok:Bool} (h:postB l g.1 g.2=(y,ok)):postL l (g :: gs)=if ok=true then postL y gs else none:=by
 rw [postL,h]
 cases ok <;> rfl
theorem nm_at {V:Know} {t:SlV} {ns:List (ByteArray × Unit)} {g:List Nat} (h:LR rNm V t ns g) {i:Nat} (hi:i<ns.length):∃ b o,t.a=some ⟨b,o,none⟩∧loadV V ((⟨b,o,none⟩:Addr).add (i*1)) 1=some [.string ns[i].1]:=by
 obtain⟨b1,o1,c1,fc,a1,l1,hR,_⟩:=h.at hi
 refine⟨b1,o1,a1,?_⟩
 have e:c1.1=ns[i].1:=hR.1.1
 rw [← e]; exact l1
theorem names_ex {α:Type} {f:α→ByteArray} {p:ByteArray→Prop} {ns:List α}:(∃ n∈ns.map f,p n)↔∃ (i:Nat) (h:i<ns.length),p (f ns[i]):=by
 constructor
 ·rintro⟨n,hn,hp⟩
  obtain⟨x,hx,rfl⟩:=List.mem_map.1 hn
  obtain⟨i,hi,rfl⟩:=List.mem_iff_getElem.1 hx
  exact⟨i,hi,hp⟩
 ·rintro⟨i,hi,hp⟩
  exact⟨_,List.mem_map_of_mem (List.getElem_mem hi),hp⟩
theorem cI_BalanceOf (V:Know) (s:SlV) (l:List DAcct) (f:List Nat) (h:LR rAcct V s l f) (ht:totE rAcct l≤1048576) (n:ByteArray):CallX Tryz.prog V 317 [qv4 (s,()),.string n]
  (fun V' v=>V.le V'∧∃ c f,v=.tuple #[qv2 c,.bool (decide (fnd n l≠none))]∧rMoney.R V' c (balP l n) f∧Own V V' f):=by
 refine CallX.of_fits Tryz.mix (fI_BalanceOf _ _) fun _=>?_
 simp only [tI_BalanceOf,T.wp]
 refine(cI_AcctAt V s l f h n).mono ?_
 rintro V1 _ ⟨le1,rfl⟩
 refine⟨nofun,_,rfl,fun hlt=>?_,fun hge=>?_⟩
 ·have hf:=at_neg.1 (of_decide_eq_true hlt)
  rw [balP_none hf,hf]
  exact⟨le1,(ByteArray.empty,false,⟨none,0,0⟩,()),[],rfl,nilM_R V1,Own.nil⟩
 obtain⟨i,hi,hfi,hat,_⟩:=at_some (of_decide_eq_false hge)
 have e0:(i:Int).toNat=i:=by omega
 rw [hat,e0,balP_some hfi hi,hfi]
 have hn:=h.1
 obtain⟨b1,o1,c1,fc,a1,l1,hR,_⟩:=(h.le le1).at hi
 have htx:=totE_mem rAcct hi
 have et:rAcct.tot l[i]=l[i].1.size+rMoney.tot l[i].2:=rfl
 refine⟨_,a1,by omega,(by show(i:Int)<(s.n:Int); omega),c1.2,load_part l1 rfl,(kI_moneyCopy V1 c1.2 l[i].2 fc hR.2 (by omega)).mono ?_⟩
 rintro V2 _ ⟨le2,c2,f2,rfl,R2,O2⟩
 exact⟨nofun,c2,rfl,le1.trans le2,c2,f2,rfl,R2,O2.pre le1⟩
theorem cI_haveAccts (V:Know) (c:Scs LedSh) (x:DLedger) (f:List Nat) (h:rLedger.R V c x f) (t:SlV) (ns:List (ByteArray × Unit)) (g:List Nat) (hs:LR rNm V t ns g) :
  CallX Tryz.prog V 314 [qv0 c,Sc.val .l t] (fun V' r=>V.le V'∧∃ k:Int,r=.int .i64 k∧((k=3∧∃ n∈ns.map (·.1),fnd n x.1=none)∨(k=0∧¬ ∃ n∈ns.map (·.1),fnd n x.1=none))):=by
 refine CallX.of_fits Tryz.mix (fI_haveAccts _ _) fun _=>?_
 obtain⟨s0,s1,s3,f0,f1,f3,rfl,L0,_,_⟩:=ledger_elim h
 have hn:=hs.1
 have h63:=hs.2.2.1
 rw [tI_haveAccts]
 refine each_wp () (fun i=>∀ (h:i<ns.length),fnd ns[i].1 x.1≠none) [.int .i64 3] (n:=t.n) h63 (fun V1 i N le1 hi hbad hgo=>?_) (fun V1 le1 hall N=>?_) (fun V1 i le1 hi hne=>?_)
 ·have hi2:i<ns.length:=by omega
  obtain⟨b,o,a1,l1⟩:=nm_at (hs.le le1) hi2
  have e0:(i:Int).toNat=i:=by omega
  simp only [T.wp]
  rw [e0]
  refine⟨_,a1,by omega,by omega,ns[i].1,l1,(cI_AcctAt V1 s0 x.1 f0 (L0.le le1) ns[i].1).mono ?_⟩
  rintro V2 _ ⟨le2,rfl⟩
  refine⟨nofun,_,rfl,fun hlt=>hbad V2 le2 fun k=>k hi2 (at_neg.1 (of_decide_eq_true hlt)),fun hge=>⟨_,rfl,hgo V2 le2 fun _ k=>(of_decide_eq_false hge) (at_neg.2 k)⟩⟩
 ·refine⟨le1,0,rfl,.inr ⟨rfl,fun k=>?_⟩⟩
  obtain⟨i,hi,e⟩:=names_ex.1 k
  exact hall i (by omega) hi e
 ·refine⟨le1,3,rfl,.inl ⟨rfl,names_ex.2 ⟨i,by omega,?_⟩⟩⟩
  exact Decidable.not_not.1 fun k=>hne fun _=>k
theorem cI_match (V:Know) (c:Scs LedSh) (x:DLedger) (f:List Nat) (h:rLedger.R V c x f) (ht:rLedger.tot x≤1048576) (cur:ByteArray) (t:SlV) (ns:List (ByteArray × Unit)) (g:List Nat) (hs:LR rNm V t ns g) :
  CallX Tryz.prog V 315 [qv0 c,.string cur,Sc.val .l t] (fun V' r=>V.le V'∧∃ k:Int,r=.int .i64 k∧((k=5∧∃ n∈ns.map (·.1),(balP x.1 n).1≠cur)∨(k=0∧¬ ∃ n∈ns.map (·.1),(balP x.1 n).1≠cur))):=by
 refine CallX.of_fits Tryz.mix (fI_match _ _ _) fun _=>?_
 obtain⟨s0,s1,s3,f0,f1,f3,rfl,L0,_,_⟩:=ledger_elim h
 have hn:=hs.1
 have h63:=hs.2.2.1
 have tt:totE rAcct x.1≤1048576:=by
  have e:rLedger.tot x=x.1.length+totE rAcct x.1+(x.2.1.length+totE rRest x.2.1+rRates.tot x.2.2):=rfl
  omega
 rw [tI_match]
 refine each_wp () (fun i=>∀ (h:i<ns.length),(balP x.1 ns[i].1).1=cur) [.int .i64 5] (n:=t.n) h63 (fun V1 i N le1 hi hbad hgo=>?_) (fun V1 le1 hall N=>?_) (fun V1 i le1 hi hne=>?_)
 ·have hi2:i<ns.length:=by omega
  obtain⟨b,o,a1,l1⟩:=nm_at (hs.le le1) hi2
  have e0:(i:Int).toNat=i:=by omega
  simp only [T.wp]
  rw [e0]
  refine⟨_,a1,by omega,by omega,ns[i].1,l1,(cI_BalanceOf V1 s0 x.1 f0 (L0.le le1) tt ns[i].1).mono ?_⟩
  rintro V2 _ ⟨le2,c2,f2,rfl,R2,_⟩
  have e2:c2.1=(balP x.1 ns[i].1).1:=R2.1.1
  refine⟨nofun,(c2,_,()),rfl,fun hne=>hbad V2 le2 fun k=>?_,fun he=>⟨_,rfl,hgo V2 le2 fun _=>?_⟩⟩
  ·have:=text_eq.2 (e2.trans (k hi2))
   rw [this] at hne; cases hne
  ·exact e2.symm.trans (text_eq.1 (by simpa using he))
 ·refine⟨le1,0,rfl,.inr ⟨rfl,fun k=>?_⟩⟩
  obtain⟨i,hi,e⟩:=names_ex.1 k
  exact e (hall i (by omega) hi)
 ·refine⟨le1,5,rfl,.inl ⟨rfl,names_ex.2 ⟨i,by omega,fun k=>hne fun _=>k⟩⟩⟩
theorem cI_fits (V:Know) (c:Scs LedSh) (x:DLedger) (f:List Nat) (h:rLedger.R V c x f) (ht:rLedger.tot x≤1048576) (cur:ByteArray) (t:SlV) (ns:List (ByteArray × Unit)) (g:List Nat) (hs:LR rNm V t ns g) :
  CallX Tryz.prog V 312 [qv0 c,.string cur,Sc.val .l t] (fun V' r=>V.le V'∧r=.int .i64 (fitsP x.1 cur (ns.map (·.1)))):=by
 refine CallX.of_fits Tryz.mix (fI_fits _ _ _) fun _=>?_
 simp only [tI_fits,T.wp]
 refine(cI_haveAccts V c x f h t ns g hs).mono ?_
 rintro V1 _ ⟨le1,k,rfl,hk⟩
 refine⟨nofun,k,rfl,fun hne=>?_,fun he=>?_⟩
 ·rcases hk with ⟨rfl,hk⟩ | ⟨rfl,_⟩
  ·exact⟨le1,by rw [fitsP,if_pos hk]; rfl⟩
  ·simp at hne
 ·rcases hk with ⟨rfl,_⟩ | ⟨rfl,hk⟩
  ·simp at he
  ·refine(cI_match V1 c x f (rLedger.le h le1) ht cur t ns g (hs.le le1)).mono ?_
   rintro V2 _ ⟨le2,k2,rfl,hk2⟩
   refine⟨nofun,k2,rfl,le1.trans le2,?_⟩
   rw [fitsP,if_neg hk]
   rcases hk2 with ⟨rfl,hk2⟩ | ⟨rfl,hk2⟩
   ·rw [if_pos hk2]; rfl
   ·rw [if_neg hk2]; rfl
theorem ledger_mk {V:Know} {s0 s1 s3:SlV} {c2:ByteArray} {x:DLedger} {f0 f1 f3:List Nat} (h0:LR rAcct V s0 x.1 f0) (h1:LR rRest V s1 x.2.1 f1) (hc:c2=x.2.2.1) (z:c2.size≤9223372036854775807) (h3:LR rRate V s3 x.2.2.2.1 f3) :
  rLedger.R V (s0,s1,c2,s3,()) x (f0++(f1++f3)):=by
 refine rSl.mk (r:=rSl rRest (rStr (rSl rRate rNil))) h0 (rSl.mk (r:=rStr (rSl rRate rNil)) h1 ⟨⟨hc,hc ▸ z⟩,f3,[],by simp,h3,rfl⟩)
theorem cI_post {V0 V:Know} (hV:HcI V) (c:Scs LedSh) (x:DLedger) (f:List Nat) (h:rLedger.R V c x f) (O:Own V0 V f) (le0:V0.le V) (t:SlV) (legs:List DAcct) (g:List Nat) (hs:LR rAcct V t legs g) :
  CallX Tryz.prog V 313 [qv0 c,Sc.val .l t] (fun V' v=>V.le V'∧DoPost V0 (postP x legs) V' v):=by
 refine CallX.of_fits Tryz.mix (fI_post _ _) fun _=>?_
 obtain⟨c0,c1,c2,c3,cu⟩:=c
 obtain⟨x0,x1,x2,x3,xu⟩:=x
 obtain⟨f0,g0,rfl,h0,h⟩:=h
 obtain⟨f1,g1,rfl,h1,h⟩:=h
 obtain⟨⟨e2,z2⟩,h⟩:=h
 replace e2:c2=x2:=e2
 subst e2
 obtain⟨f3,g3,rfl,h3,hN⟩:=h
 replace hN:g3=[]:=hN
 subst hN
 rw [List.append_nil] at O
 replace h0:LR rAcct V c0 x0 f0:=h0
 replace h1:LR rRest V c1 x1 f1:=h1
 replace h3:LR rRate V c3 x3 f3:=h3
 have hn:=hs.1
 have h63:=hs.2.2.1
 simp only [tI_post,T.wp]
 refine⟨fun y V'=>V.le V'∧y.2.2=(c1,c2,c3,⟨none,0,0⟩,⟨none,0,0⟩,ByteArray.empty,⟨none,0,0⟩,())∧∃ (k:Nat) (lk:List DAcct) (fk:List Nat),y.1=(k:Int)∧k≤legs.length∧LR rAcct V' y.2.1 lk fk∧Own V0 V' (fk++(f1++f3))∧postL x0 legs=postL lk (legs.drop k),
  fun y _=>((legs.length:Int)-(y.1:Int)).toNat,⟨((0:Int),c0,c1,c2,c3,⟨none,0,0⟩,⟨none,0,0⟩,ByteArray.empty,⟨none,0,0⟩,()),rfl,Know.le.refl _,rfl,0,x0,f0,rfl,Nat.zero_le _,h0,O,by simp⟩,?_⟩
 rintro⟨(i:Int),sk,y1,y2,y3,y4,y5,y6,y7,yu⟩ V1 ⟨le1,hy,k,lk,fk,hk,hkl,Lk,Ok,hp⟩
 replace hk:i=(k:Int):=hk
 subst hk
 replace hy:(y1,y2,y3,y4,y5,y6,y7,yu)=(c1,c2,c3,(⟨none,0,0⟩:SlV),(⟨none,0,0⟩:SlV),ByteArray.empty,(⟨none,0,0⟩:SlV),()):=hy
 simp only [Prod.mk.injEq,and_true] at hy
 obtain⟨rfl,rfl,rfl,rfl,rfl,rfl,rfl⟩:=hy
 replace Lk:LR rAcct V1 sk lk fk:=Lk
 have e0:(k:Int).toNat=k:=by omega
 refine⟨fun hlt=>?_,fun hge=>?_⟩
 ·have hi:k<legs.length:=by
   have:(k:Int)<(t.n:Int):=of_decide_eq_true hlt
   omega
  obtain⟨b,o,cl,fc,a1,l1,hR,_⟩:=(hs.le le1).at hi
  dsimp only
  rw [e0]
  have en:cl.1=legs[k].1:=hR.1.1
  refine⟨_,a1,by omega,(by show(k:Int)<(t.n:Int); omega),cl,l1,(cI_BookPost (hV.le le1) sk lk fk Lk cl.1 cl.2 legs[k].2 fc hR.2).mono ?_⟩
  rintro V2 _ ⟨le2,s2,f2,rfl,L2,O2⟩
  rw [en] at L2 ⊢
  have l2:=le1.trans le2
  obtain⟨⟨l',ok⟩,hpb⟩:∃ r,postB lk legs[k].1 legs[k].2=r:=⟨_,rfl⟩
  rw [hpb] at L2 ⊢
  rw [List.drop_eq_getElem_cons hi,postL_cons hpb] at hp
  refine⟨nofun,((s2,()),ok,()),rfl,fun hf=>?_,fun hT=>?_⟩
  ·have:ok=false:=by simpa using hf
   subst this
   refine⟨l2,?_⟩
   rw [postP,hp]
   exact do_zero (le0.trans l2) 8
  ·have:ok=true:=by simpa using hT
   subst this
   refine⟨_,rfl,(((k+1:Nat):Int),s2,y1,y2,y3,⟨none,0,0⟩,⟨none,0,0⟩,ByteArray.empty,⟨none,0,0⟩,()),by rw [nxt hi (by omega)]; rfl,⟨l2,rfl,k+1,l',f2,rfl,hi,L2,?_,hp⟩,?_⟩
   ·exact(((Ok.sub (List.sublist_append_right fk (f1++f3))).append O2 (le0.trans le1) le2).perm List.perm_append_comm)
   ·show((legs.length:Int)-((k+1:Nat):Int)).toNat<((legs.length:Int)-(k:Int)).toNat
    omega
 ·have hi:k=legs.length:=by
   have:¬ (k:Int)<(t.n:Int):=of_decide_eq_false hge
   omega
  subst hi
  rw [List.drop_length,postL] at hp
  refine⟨le1,?_⟩
  rw [postP,hp]
  exact⟨le0.trans le1,(sk,y1,y2,y3,()),fk++(f1++f3),rfl,ledger_mk (x:=(lk,x1,y2,x3,())) Lk (h1.le le1) rfl z2 (h3.le le1),Ok⟩
end Go.Proofs.YtpdfdkccgkieoaaGreatDoor
namespace Go.Proofs.YtpdfdkccgkieoaaGreatDoor
open Sx
set_option maxRecDepth 100000
def PayP (x:DMoney):Prop:=MonP x∧x.2.1=false
abbrev BoolPost (V:Know) (p:Prop):Know→Value→Prop:=fun V' r=>V.le V'∧∃ e,r=.bool e∧(e=true↔p)
theorem cI_payable {V:Know} (hV:HcI V) (c:Scs MonSh) (x:DMoney) (f:List Nat) (h:rMoney.R V c x f):CallX Tryz.prog V 133 [qv2 c] (BoolPost V (PayP x)):=by
 refine CallX.of_fits Tryz.mix (fI_payable _) fun _=>?_
 obtain⟨s,rfl,hl,_⟩:=mon_elim h
 simp only [tI_payable,T.wp]
 refine(cI_MoneyOk hV x.1 x.2.1 s x.2.2.1 f hl).mono ?_
 rintro V1 _ ⟨le1,e,rfl,he⟩
 refine⟨nofun,e,rfl,fun ht=>⟨le1,_,rfl,?_⟩,fun hf=>⟨le1,_,rfl,?_⟩⟩
 ·have:e=true:=ht
  rw [Bool.not_eq_true']
  exact⟨fun k=>⟨he.1 this,k⟩,fun k=>k.2⟩
 ·exact⟨(fun k=>by cases k),(fun k=>by rw [he.2 k.1] at hf; cases hf)⟩
def negM (x:DMoney):DMoney:=(x.1,(!x.2.1 && decide (0<x.2.2.1.length)),x.2.2.1,())
abbrev MonPost (V:Know) (x:DMoney):Know→Value→Prop:=fun V' v=>V.le V'∧∃ c f,v=qv2 c∧rMoney.R V' c x f∧Own V V' f
theorem cI_minus (V:Know) (c:Scs MonSh) (x:DMoney) (f:List Nat) (h:rMoney.R V c x f) (hl:x.2.2.1.length≤1048576):CallX Tryz.prog V 25 [qv2 c] (MonPost V (negM x)):=by
 refine CallX.of_fits Tryz.mix (fI_minus _) fun _=>?_
 obtain⟨s,rfl,hl',z⟩:=mon_elim h
 simp only [tI_minus,T.wp]
 refine(cI_intNeg V x.2.1 s x.2.2.1 f hl' hl).mono ?_
 rintro V1 _ ⟨le1,s1,f1,rfl,L1,O1⟩
 exact⟨fun _=>le1,_,rfl,le1,(x.1,_,s1,()),f1,rfl,mon_mk z L1,O1⟩
theorem lr_new {sh:List Sc} {α:Type} {r:Rp sh α} {V:Know} {b n cap:Nat} {cs:List (Scs sh)} {l:List α} {fps:List Nat} {post:List Value} {t:KTy} (h:Els r V cs l fps) (hb:V b=some (cs.flatMap (Scs.vals sh)++post,t)) (hn:n=l.length) (hc:l.length≤cap) (hl:l.length≤9223372036854775807) :
  LR r V ⟨some ⟨b,0,none⟩,n,cap⟩ l (b :: fps):=by
 subst hn
 exact⟨rfl,hc,hl,.inr ⟨b,[],post,t,fps,cs,rfl,by simpa using hb,h,rfl⟩⟩
theorem els_nm {V:Know}:∀ {ns:List ByteArray},(∀ n∈ns,n.size≤9223372036854775807)→Els rNm V (ns.map fun n=>(n,())) (ns.map fun n=>(n,())) []
 | [],_=>rfl
 | n :: ns,h=>⟨[],[],rfl,⟨⟨rfl,h n (by simp)⟩,rfl⟩,els_nm fun m hm=>h m (by simp [hm])⟩
open Classical in
noncomputable def addRun (x:DLedger) (n:ByteArray) (m:DMoney) (take:Bool):DLedger × Int:=if WordP n∧PayP m then legsP x [(n,if take=true then negM m else m)] else (zeroL,1)
theorem addRun_no {x:DLedger} {n:ByteArray} {m:DMoney} {take:Bool} (h:¬ (WordP n∧PayP m)):addRun x n m take=(zeroL,1):=if_neg h
theorem addRun_ok {x:DLedger} {n:ByteArray} {m:DMoney} {take:Bool} (h:WordP n∧PayP m):addRun x n m take=legsP x [(n,if take=true then negM m else m)]:=if_pos h
theorem legs_fits {x:DLedger} {c:ByteArray} {legs:List DAcct} (hc:∀ g∈legs,g.2.1=c):legsP x legs=if fitsP x.1 c (legs.map (·.1))≠0 then (zeroL,fitsP x.1 c (legs.map (·.1))) else postP x legs:=by
 have e1:(∃ n∈legs.map (·.1),fnd n x.1=none)↔∃ g∈legs,fnd g.1 x.1=none:=by simp
 have e2:(∃ n∈legs.map (·.1),(balP x.1 n).1≠c)↔∃ g∈legs,(balP x.1 g.1).1≠g.2.1:=by
  constructor
  ·rintro⟨n,hn,hp⟩
   obtain⟨g,hg,rfl⟩:=List.mem_map.1 hn
   exact⟨g,hg,by rw [hc g hg]; exact hp⟩
  ·rintro⟨g,hg,hp⟩
   exact⟨g.1,List.mem_map_of_mem hg,by rw [← hc g hg]; exact hp⟩
 unfold legsP fitsP
 by_cases h1:∃ g∈legs,fnd g.1 x.1=none
 ·rw [if_pos h1,if_pos (e1.2 h1)]; simp
 ·rw [if_neg h1,if_neg (fun k=>h1 (e1.1 k))]
  by_cases h2:∃ g∈legs,(balP x.1 g.1).1≠g.2.1
  ·rw [if_pos h2,if_pos (e2.2 h2)]; simp
  ·rw [if_neg h2,if_neg (fun k=>h2 (e2.1 k))]; simp
theorem postP_ans {x:DLedger} {legs:List DAcct}:(postP x legs).2≠0→(postP x legs).1=zeroL:=by
 unfold postP
 cases postL x.1 legs with
 | none=>intro _; rfl
 | some l=>intro h; exact absurd rfl h
theorem legsP_zero {x:DLedger} {legs:List DAcct}:(legsP x legs).2≠0→(legsP x legs).1=zeroL:=by
 unfold legsP
 split
 ·intro _; rfl
 ·split
  ·intro _; rfl
  ·exact postP_ans
theorem addRun_zero {x:DLedger} {n:ByteArray} {m:DMoney} {take:Bool}:(addRun x n m take).2≠0→(addRun x n m take).1=zeroL:=by
 unfold addRun
 split
 ·exact legsP_zero
 ·intro _; rfl
theorem word_size {n:ByteArray} (h:WordP n):n.size≤9223372036854775807:=by
 have:=h.2.1
 omega
theorem cI_opAdd {V0 V:Know} (hV:HcI V) (c:Scs LedSh) (x:DLedger) (f:List Nat) (h:rLedger.R V c x f) (ht:rLedger.tot x≤1048576) (O:Own V0 V f) (le0:V0.le V) (n:ByteArray) (hz:n.size≤9223372036854775807) (cm:Scs MonSh) (m:DMoney) (g:List Nat) (hm:rMoney.R V cm m g) (take:Bool) :
  CallX Tryz.prog V 311 [qv10 (n,cm.1,cm.2.1,cm.2.2.1,take,()),qv0 c] (fun V' v=>V.le V'∧DoPost V0 (addRun x n m take) V' v):=by
 refine CallX.of_fits Tryz.mix (fI_opAdd__run _ _) fun _=>?_
 obtain⟨s,rfl,hl,z0⟩:=mon_elim hm
 simp only [tI_opAdd__run,T.wp]
 refine(cI_IsWord V n hz).mono ?_
 rintro V1 _ ⟨rfl,e1,rfl,he1⟩
 refine⟨nofun,e1,rfl,fun hf=>?_,fun k1=>?_⟩
 ·rw [addRun_no (fun k=>by rw [he1.2 k.1] at hf; cases hf)]
  exact⟨Know.le.refl _,do_zero le0 1⟩
 have w1:=he1.1 (by simpa using k1)
 refine(cI_payable hV (m.1,m.2.1,s,()) m g hm).mono ?_
 rintro V2 _ ⟨le2,e2,rfl,he2⟩
 refine⟨nofun,e2,rfl,fun hf=>?_,fun k2=>?_⟩
 ·rw [addRun_no (fun k=>by rw [he2.2 k.2] at hf; cases hf)]
  exact⟨le2,do_zero (le0.trans le2) 1⟩
 have w2:=he2.1 (by simpa using k2)
 rw [addRun_ok ⟨w1,w2⟩]
 intro b3 c3 sp3 hb3 hc3 _
 have q3:=kset_le (x:=([Value.string n]++sp3,((9:TypeId),((0,0):Nat × Nat)))) hb3
 have l3:=le2.trans q3
 refine(cI_fits _ c x f (rLedger.le h l3) ht m.1 ⟨some ⟨b3,0,none⟩,1,c3⟩ [(n,())] [b3] (lr_new (fps:=[]) (els_nm (ns:=[n]) (fun k hk=>by
  obtain rfl:k=n:=by simpa using hk
  exact hz)) kset_same rfl hc3 (by simp))).mono ?_
 rintro V4 _ ⟨le4,rfl⟩
 have l4:=l3.trans le4
 have hcur:∀ y:DMoney,y.1=m.1→legsP x [(n,y)]=if fitsP x.1 m.1 [n]≠0 then (zeroL,fitsP x.1 m.1 [n]) else postP x [(n,y)]:=fun y hy=>legs_fits (legs:=[(n,y)]) (fun g hg=>by
  obtain rfl:g=(n,y):=by simpa using hg
  exact hy)
 refine⟨nofun,_,rfl,fun hne=>?_,fun he=>?_⟩
 ·have hne':fitsP x.1 m.1 [n]≠0:=by simpa using hne
  rw [hcur _ (by cases take <;> rfl),if_pos hne']
  exact⟨l4,do_zero (le0.trans l4) _⟩
 have he':¬ fitsP x.1 m.1 [n]≠0:=by simpa using he
 rw [hcur _ (by cases take <;> rfl),if_neg he']
 have fin:∀ {V5:Know} {cy:Scs MonSh} {y:DMoney} {fy:List Nat},V1.le V5→rMoney.R V5 cy y fy→∀ b cp sp,V5 b=none→1≤cp→CallX Tryz.prog (kset V5 b ([.string n,.string cy.1,.bool cy.2.1,.slice cy.2.2.1.a cy.2.2.1.n cy.2.2.1.c]++sp,(353,(0,0)))) 313 [qv0 c,.slice (some ⟨b,0,none⟩) 1 cp] (fun V' v=>V5.le V'∧DoPost V0 (postP x [(n,y)]) V' v):=by
  intro V5 cy y fy l5 hy b cp sp hb hcp
  have q:=kset_le (x:=([Value.string n,.string cy.1,.bool cy.2.1,.slice cy.2.2.1.a cy.2.2.1.n cy.2.2.1.c]++sp,((353:TypeId),((0,0):Nat × Nat)))) hb
  have l6:=l5.trans q
  have hel:Els rAcct _ [((n,cy):Scs [.s,.s,.b,.l])] [((n,y):DAcct)] (fy++[]):=⟨fy,[],rfl,⟨⟨rfl,hz⟩,rMoney.le hy q⟩,rfl⟩
  refine(cI_post (V0:=V0) (hV.le l6) c x f (rLedger.le h l6) (O.post l6) (le0.trans l6) ⟨some ⟨b,0,none⟩,1,cp⟩ [(n,y)] _ (lr_new hel kset_same rfl hcp (by simp))).mono ?_
  rintro V7 _ ⟨le7,h7⟩
  exact⟨q.trans le7,h7⟩
 refine⟨fun htk=>?_,fun htk=>?_⟩
 ·have htk':take=true:=htk
  subst htk'
  refine(cI_minus V4 (m.1,m.2.1,s,()) m g (rMoney.le hm l4) (by have:=w2.1.2.2; omega)).mono ?_
  rintro V5 _ ⟨le5,cy,fy,rfl,Ry,_⟩
  have l5:=l4.trans le5
  refine⟨nofun,cy,rfl,fun b cp sp hb hcp _=>(fin l5 Ry b cp sp hb hcp).mono ?_⟩
  rintro V6 _ ⟨le6,le06,c6,f6,rfl,R6,O6⟩
  exact⟨nofun,(c6,_,()),rfl,l5.trans le6,le06,c6,f6,rfl,R6,O6⟩
 ·have htk':take=false:=htk
  subst htk'
  intro b cp sp hb hcp _
  refine(fin l4 (rMoney.le hm l4) b cp sp hb hcp).mono ?_
  rintro V6 _ ⟨le6,le06,c6,f6,rfl,R6,O6⟩
  exact⟨nofun,(c6,_,()),rfl,l4.trans le6,le06,c6,f6,rfl,R6,O6⟩
theorem cI_perfAdd {V:Know} (hV:HcI V) (c:Scs LedSh) (x:DLedger) (f:List Nat) (h:rLedger.R V c x f) (ht:rLedger.tot x≤1048576) (n:ByteArray) (hz:n.size≤9223372036854775807) (cm:Scs MonSh) (m:DMoney) (g:List Nat) (hm:rMoney.R V cm m g) (take:Bool) :
  CallX Tryz.prog V 172 [qv0 c,.iface 246 (qv10 (n,cm.1,cm.2.1,cm.2.2.1,take,()))] (DoPost V (perfP x (addRun x n m take))) :=
 CallX.of_fits Tryz.mix (fI_perform_opAdd c (n,cm.1,cm.2.1,cm.2.2.1,take,())) fun _=>perf_wp (g:=311) (o:=qv10 (n,cm.1,cm.2.1,cm.2.2.1,take,())) hV h ht (fun _ _ c1 f1 le1 R1 O1=>cI_opAdd (hV.le le1) c1 x f1 R1 ht O1 le1 n hz cm m g (rMoney.le hm le1) take) addRun_zero
theorem legsP_post {x:DLedger} {legs:List DAcct} (h:¬ ∃ g∈legs,fnd g.1 x.1=none) (k:¬ ∃ g∈legs,(balP x.1 g.1).1≠g.2.1):legsP x legs=postP x legs:=(if_neg h).trans (if_neg k)
end Go.Proofs.YtpdfdkccgkieoaaGreatDoor
namespace Go.Proofs.YtpdfdkccgkieoaaGreatDoor
open Sx
set_option maxRecDepth 100000
end Go.Proofs.YtpdfdkccgkieoaaGreatDoor
