/-
  An operation on a copy of a ledger; DoRate in the program and in the reference.
-/
import Derived.Test.YtccnjccabllcaaaGreatDoorRPutX
import Derived.Test.YtccnjccabllcaaaGreatDoorValid
namespace Go.Proofs.YtccnjccabllcaaaGreatDoor
open Sx
set_option maxRecDepth 100000
abbrev LedSh:List Sc:=[.l,.l,.s,.l]
abbrev zeroL:DLedger:=([],[],ByteArray.empty,[],())
abbrev zeroLC:Scs LedSh:=(⟨none,0,0⟩,⟨none,0,0⟩,ByteArray.empty,⟨none,0,0⟩,())
theorem lrNil {sh:List Sc} {α:Type} {r:Rp sh α} {V:Know}:LR r V ⟨none,0,0⟩ [] []:=⟨rfl,Nat.le_refl _,by decide,.inl ⟨rfl,fun _=>rfl,rfl⟩⟩
theorem zeroL_R (V:Know):rLedger.R V zeroLC zeroL []:=rSl.mk (f:=[]) lrNil (rSl.mk (f:=[]) lrNil (rStr.mk (by decide) (rSl.mk (f:=[]) lrNil rNil.mk)))
abbrev DoPost (V:Know) (y:DLedger × Int):Know→Value→Prop:=fun V' v=>V.le V'∧∃ c f,v=.tuple #[Sh1.val (.g [.l,.l,.s,.l]) c,.int .i64 y.2]∧rLedger.R V' c y.1 f∧Own V V' f
theorem do_zero {V V':Know} (le:V.le V') (n:Int):DoPost V (zeroL,n) V' (packed [Sh1.val (.g [.l,.l,.s,.l]) zeroLC,.int .i64 n]):=⟨le,zeroLC,[],rfl,zeroL_R V',Own.nil⟩
open Classical in
noncomputable def perfP (x:DLedger) (y:DLedger × Int):DLedger × Int:=if LedgerOkP x then y else (zeroL,1)
theorem perfP_ok {x:DLedger} {y:DLedger × Int} (h:LedgerOkP x):perfP x y=y:=if_pos h
theorem perfP_no {x:DLedger} {y:DLedger × Int} (h:¬ LedgerOkP x):perfP x y=(zeroL,1):=if_neg h
def tPerf (g:Nat) (o:Value) (x0:Scs LedSh):T :=
 .call false gI_LedgerOk [Sh1.val (.g [.l,.l,.s,.l]) x0] (.v (.o .b)) fun y1 =>
 .br (!y1) (.ret [Sh1.val (.g [.l,.l,.s,.l]) zeroLC,.int .i64 (1:Int)]) <|
 .rg <|
 .call false gI_ledgerCopy [Sh1.val (.g [.l,.l,.s,.l]) x0] (.v (.g [.l,.l,.s,.l])) fun y2 =>
 .call false g [o,Sh1.val (.g [.l,.l,.s,.l]) y2] (.t [(.g [.l,.l,.s,.l]),(.o (.i .i64))]) fun y3 =>
 .br (y3.2.1 != (0:Int)) (.ret [Sh1.val (.g [.l,.l,.s,.l]) zeroLC,.int .i64 y3.2.1]) <|
 .ret [Sh1.val (.g [.l,.l,.s,.l]) y3.1,.int .i64 (0:Int)]
theorem perf_wp {V V0:Know} (hV:HcI V) {c:Scs LedSh} {x:DLedger} {f:List Nat} (h:rLedger.R V c x f) (ht:rLedger.tot x≤1048576) {g:Nat} {o:Value} {y:DLedger × Int}
  (hrun:LedgerOkP x→∀ V1 c1 f1,V.le V1→rLedger.R V1 c1 x f1→Own V V1 f1→CallX Tryz.prog V1 g [o,Sh1.val (.g [.l,.l,.s,.l]) c1] (fun V2 v=>V1.le V2∧DoPost V y V2 v)) (hy:y.2≠0→y.1=zeroL) :
  (tPerf g o c).wp Tryz.prog (fun V' vs=>DoPost V (perfP x y) V' (packed vs)) V V0 []:=by
 simp only [tPerf,T.wp]
 refine(cI_LedgerOk hV c x f h).mono ?_
 rintro V1 _ ⟨le1,e1,rfl,he1⟩
 refine⟨nofun,e1,rfl,fun hf=>?_,fun h1=>?_⟩
 ·rw [perfP_no (fun k=>by rw [he1.2 k] at hf; cases hf)]
  exact do_zero le1 1
 have ok:=he1.1 (by simpa using h1)
 rw [perfP_ok ok]
 refine(kI_ledgerCopy V1 c x f (rLedger.le h le1) ht).mono ?_
 rintro V2 _ ⟨le2,c2,f2,rfl,R2,O2⟩
 have l2:=le1.trans le2
 refine⟨fun _=>le2,c2,rfl,(hrun ok V2 c2 f2 l2 R2 (O2.pre le1)).mono ?_⟩
 rintro V3 _ ⟨le23,le3,c3,f3,rfl,R3,O3⟩
 refine⟨fun _=>le23,(c3,y.2,()),rfl,fun hne=>?_,fun he=>?_⟩
 ·have e:=hy (by simpa using hne)
  obtain⟨y1,y2⟩:=y
  replace e:y1=zeroL:=e
  subst e
  exact do_zero le3 y2
 ·have e:y.2=0:=by simpa using he
  obtain⟨y1,y2⟩:=y
  replace e:y2=0:=e
  subst e
  exact⟨le3,c3,f3,rfl,R3,O3⟩
theorem kS_l20Copy (V:Know) (c:Scs LedSh) (x:DLedger) (f:List Nat) (h:rLedger.R V c x f) (ht:rLedger.tot x≤1048576) :
  CallX Tryz.prog V gS_l20Copy [Sh1.val (.g [.l,.l,.s,.l]) c] (fun V' v=>V.le V'∧∃ c' f',v=Sh1.val (.g [.l,.l,.s,.l]) c'∧rLedger.R V' c' x f'):=by
 obtain⟨c0,c1,c2,c3,cu⟩:=c
 obtain⟨x0,x1,x2,x3,xu⟩:=x
 obtain⟨f0,g0,_,h0,h⟩:=h
 obtain⟨f1,g1,_,h1,h⟩:=h
 obtain⟨⟨e2,z2⟩,h⟩:=h
 replace e2:c2=x2:=e2
 subst e2
 obtain⟨f3,g3,_,h3,_⟩:=h
 replace h0:LR rAcct V c0 x0 f0:=h0
 replace h1:LR rRest V c1 x1 f1:=h1
 replace h3:LR rRate V c3 x3 f3:=h3
 replace ht:(x0.length+totE rAcct x0+(x1.length+totE rRest x1+(c2.size+(x3.length+totE rRate x3+0))))≤1048576:=ht
 refine CallX.of_fits Tryz.mix (fS_l20Copy _) fun _=>?_
 simp only [tS_l20Copy,T.wp]
 refine(kS_l17Copy V (c0,()) (x0,()) _ (rSl.mk h0 rNil.mk) (by show(x0.length+totE rAcct x0+0)≤1048576; omega)).mono ?_
 rintro V1 _ ⟨le1,⟨d0,du⟩,k0,rfl,⟨a0,b0,_,r0,_⟩,_⟩
 refine⟨fun _=>le1,(d0,()),rfl,?_⟩
 refine(kS_l19Copy V1 c1 x1 f1 (h1.le le1) (by omega)).mono ?_
 rintro V2 _ ⟨le2,d1,k1,rfl,r1,_⟩
 refine⟨fun _=>le2,d1,rfl,?_⟩
 refine(kS_l20Rates V2 (c2,c3,()) (c2,x3,()) _ (rStr.mk z2 (rSl.mk (h3.le (le1.trans le2)) rNil.mk)) (by show(c2.size+(x3.length+totE rRate x3+0))≤1048576; omega)).mono ?_
 rintro V3 _ ⟨le3,⟨d2,d3,dv⟩,k3,rfl,R3,_⟩
 refine⟨fun _=>le3,(d2,d3,()),rfl,(le1.trans le2).trans le3,(d0,d1,d2,d3,()),a0++(k1++k3),rfl,?_⟩
 exact rSl.mk (r:=rSl rRest (rStr (rSl rRate rNil))) (LR.le (show LR rAcct V1 d0 x0 a0 from r0) (le2.trans le3)) (rSl.mk (r:=rStr (rSl rRate rNil)) (r1.le le3) R3)
open Classical in
abbrev DoS (V:Know) (y:DLedger × Int):Know→Value→Prop:=fun V' v=>V.le V'∧∃ c f,v=.tuple #[Sh1.val (.g [.l,.l,.s,.l]) c,.int .i64 y.2]∧rLedger.R V' c y.1 f
theorem doS_zero {V V':Know} (le:V.le V') (n:Int):DoS V (zeroL,n) V' (packed [Sh1.val (.g [.l,.l,.s,.l]) zeroLC,.int .i64 n]):=⟨le,zeroLC,[],rfl,zeroL_R V'⟩
end Go.Proofs.YtccnjccabllcaaaGreatDoor
