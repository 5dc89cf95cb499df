/-
  A text turned into bytes: a new block that nobody writes beyond.
-/
import Derived.Test.YtagkjnpggkmehaaGreatDoorLedA
import Derived.Test.YtagkjnpggkmehaaGreatDoorMath
import Derived.Test.YtagkjnpggkmehaaGreatDoorDivB
import Derived.Test.YtagkjnpggkmehaaGreatDoorLoopT
import Derived.Lib.ConvBytes
namespace Go.Proofs.YtagkjnpggkmehaaGreatDoor
open Sx
set_option maxRecDepth 100000
theorem acct_size {V:Know} {s:SlV} {l:List DAcct} {f:List Nat} (h:LR rAcct V s l f) (i:Nat) (hi:i<l.length):l[i].1.size≤9223372036854775807:=by
 obtain⟨b,o,c,fc,a1,l1,hR,_⟩:=h.at hi
 exact hR.1.2
theorem cS_BookOk {V:Know} (hV:HcS V) (s:SlV) (l:List DAcct) (f:List Nat) (h:LR rAcct V s l f):CallX Tryz.prog V 125 [qv5 (s,())] (OkPost V (BookOkP l)):=by
 refine CallX.of_fits Tryz.mix (fS_BookOk _) fun _=>?_
 have hn:=h.1
 have h63:=h.2.2.1
 unfold tS_BookOk
 refine rows_wp (n:=s.n) (V:=V) (p:=AcctAtP l) (Ns:=[]) h63 ?_ ?_ ?_
 ·intro V' i N hV' hi hall hno hyes
  exact bookS_body hV h (acct_size h) hV' (by omega) hno hyes
 ·intro V' hV' hall N
  refine⟨hV',_,rfl,?_⟩
  exact⟨fun hd=>⟨by have:(s.n:Int)≤12:=of_decide_eq_true hd; omega,fun i hi=>hall i (by omega)⟩,fun k=>decide_eq_true (by have:=k.1; show(s.n:Int)≤12; omega)⟩
 ·intro V' i hV' hi hne
  exact not_ok hV' fun k=>hne (k.2 i (by omega))
theorem cI_BookOk {V:Know} (hV:HcI V) (s:SlV) (l:List DAcct) (f:List Nat) (h:LR rAcct V s l f):CallX Tryz.prog V 132 [qv5 (s,())] (OkPost V (BookOkP l)):=by
 refine CallX.of_fits Tryz.mix (fI_BookOk _) fun _=>?_
 have hn:=h.1
 have h63:=h.2.2.1
 unfold tI_BookOk
 change (decide ((s.n:Int) > 12)=true→T.wp _ _ _ _ _ _)∧(decide ((s.n:Int) > 12)=false→T.wp _ _ _ _ _ _)
 refine⟨fun h12=>not_ok (Know.le.refl _) fun k=>?_,fun h12=>?_⟩
 ·have:(s.n:Int) > 12:=of_decide_eq_true h12
  have:=k.1
  omega
 have q:¬ (s.n:Int) > 12:=of_decide_eq_false h12
 refine rows_wp (n:=s.n) (V:=V) (p:=AcctAtP l) (Ns:=[]) h63 ?_ ?_ ?_
 ·intro V' i N hV' hi hall hno hyes
  exact bookI_body hV h (acct_size h) hV' (by omega) hno hyes
 ·intro V' hV' hall N
  refine⟨hV',_,rfl,?_⟩
  exact⟨fun _=>⟨by omega,fun i hi=>hall i (by omega)⟩,fun _=>rfl⟩
 ·intro V' i hV' hi hne
  exact not_ok hV' fun k=>hne (k.2 i (by omega))
theorem restS_body {V:Know} (hV:HcS V) {s:SlV} {l:List DRest} {f:List Nat} (h:LR rRest V s l f) {K:Know→List Value→Prop} {i:Nat} {N:List LV→Know→Prop} {V':Know} (hV':V.le V') (hi:i<l.length)
  (hno:∀ V2,V'.le V2→¬ RestAtP l i→K V2 [.bool false]) (hyes:∀ V2,V'.le V2→RestAtP l i→N [.v (.int .i64 (IntKind.i64.wrap ((i:Int)+1)))] V2) :
  (T.el s.a s.n (i:Int) fun y2=>.ld false (y2.add (Int.toNat (i:Int)*(4:Nat))) (.g [.s,.b,.l,.l]) fun y3=>.rg <|
   .call true 89 [.string y3.fst] (.v (.o .b)) fun y4=>.br (!y4) (.ret [.bool false]) <|
   .call true 90 [qv1 y3.2] (.v (.o .b)) fun y5=>.br (!y5) (.ret [.bool false]) <|
   .call true 91 [qv1 y3.2] (.v (.o (.i .i64))) fun(y6:Int)=>.br (y6 == (0:Int)) (.ret [.bool false]) <|
   .br (decide ((i:Int) > (0:Int))) (
    .el s.a s.n (IntKind.i64.wrap ((i:Int)-(1:Int))) fun y6=>.ld true ((y6.add ((IntKind.i64.wrap ((i:Int)-(1:Int))).toNat*(4:Nat))).add (0:Nat)) (.o .s) fun y7 =>
    .br (!Op.bytesLess (ByteArray.toList y7) (ByteArray.toList y3.fst)) (.ret [.bool false]) <| .nx 0 [.v (.int .i64 (IntKind.i64.wrap ((i:Int)+(1:Int))))]) <|
   .nx 0 [.v (.int .i64 (IntKind.i64.wrap ((i:Int)+(1:Int))))]).wp Tryz.prog K V' V' [N]:=by
 simp only [T.wp]
 have hn:=h.1
 have hL:=h.le hV'
 obtain⟨b,o,c,fc,a1,l1,hR,_⟩:=hL.at hi
 obtain⟨c2,c3,g,g',rfl,hc2,hc3⟩:=rest_elim hR
 have e0:(i:Int).toNat=i:=by omega
 have hin:(i:Int)<(s.n:Int):=by omega
 rw [e0]
 refine⟨_,a1,by omega,hin,(l[i].1,l[i].2.1,c2,c3,()),l1,?_⟩
 refine(kS_CurKnown (hV.le hV') l[i].1).mono ?_
 rintro V1 r ⟨le1,rfl⟩
 refine⟨fun _=>le1,_,rfl,fun hf=>hno _ le1 fun k=>?_,fun ht=>?_⟩
 ·obtain⟨_,k1,_⟩:=k
  rw [k1] at hf; cases hf
 have w1:known l[i].1=true:=by simpa using ht
 refine(cS_RatOk V1 l[i].2.1 c2 c3 l[i].2.2.1 l[i].2.2.2.1 g g' (hc2.le le1) (hc3.le le1)).mono ?_
 rintro V2 r ⟨le2,e2,rfl,he2⟩
 have l2:=le1.trans le2
 refine⟨fun _=>le2,e2,rfl,fun hf=>hno _ l2 fun k=>?_,fun ht2=>?_⟩
 ·obtain⟨_,_,k1,_⟩:=k
  rw [he2.2 k1] at hf; cases hf
 have w2:=he2.1 (by simpa using ht2)
 refine(cS_RatSign V2 l[i].2.1 c2 c3 l[i].2.2.1 l[i].2.2.2.1 g g' (hc2.le l2) (hc3.le l2) w2).mono ?_
 rintro V3 r ⟨le3,rfl⟩
 have l3:=l2.trans le3
 refine⟨fun _=>le3,_,rfl,fun hf=>hno _ l3 fun k=>?_,fun ht3=>⟨fun hpos=>?_,fun hz=>?_⟩⟩
 ·obtain⟨_,_,_,k1,_⟩:=k
  exact k1 (by simpa using hf)
 ·have w3:sgn (sval l[i].2.1 l[i].2.2.1)≠0:=by simpa using ht3
  have hp:0<i:=by
   have:(i:Int) > 0:=of_decide_eq_true hpos
   omega
  have wr:IntKind.i64.wrap ((i:Int)-1)=((i-1:Nat):Int):=by
   have:=h.2.2.1
   rw [wrap_i64 (by omega)]; omega
  have e1':((i-1:Nat):Int).toNat=i-1:=by omega
  obtain⟨b2,o2,c2',f2,a2,l2',hR2,_⟩:=hL.part (show i-1<l.length by omega)
  obtain⟨_,_,_,_,rfl,_⟩:=rest_elim hR2
  rw [wr,e1']
  refine⟨_,a2,by omega,by omega,l[i-1].1,l2' 0 1 _ rfl,fun hf=>hno _ l3 fun k=>?_,fun ht3=>⟨_,rfl,hyes _ l3 ⟨hi,w1,w2,w3,fun _=>by simpa [LessP] using ht3⟩⟩⟩
  obtain⟨_,_,_,_,k1⟩:=k
  have:=k1 hp
  unfold LessP at this
  rw [this] at hf; cases hf
 ·have w3:sgn (sval l[i].2.1 l[i].2.2.1)≠0:=by simpa using ht3
  have hp:¬ 0<i:=by
   have:¬ (i:Int) > 0:=of_decide_eq_false hz
   omega
  exact⟨_,rfl,hyes _ l3 ⟨hi,w1,w2,w3,fun h=>absurd h hp⟩⟩
theorem cS_RestsOk {V:Know} (hV:HcS V) (s:SlV) (l:List DRest) (f:List Nat) (h:LR rRest V s l f):CallX Tryz.prog V 35 [Sc.val .l s] (OkPost V (RestsOkP l)):=by
 refine CallX.of_fits Tryz.mix (fS_RestsOk _) fun _=>?_
 have hn:=h.1
 have h63:=h.2.2.1
 unfold tS_RestsOk
 refine rows_wp (n:=s.n) (V:=V) (p:=RestAtP l) (Ns:=[]) h63 ?_ ?_ ?_
 ·intro V' i N hV' hi hall hno hyes
  exact restS_body hV h hV' (by omega) hno hyes
 ·intro V' hV' hall N
  exact⟨hV',_,rfl,⟨fun _ i hi=>hall i (by omega),fun _=>rfl⟩⟩
 ·intro V' i hV' hi hne
  exact not_ok hV' fun k=>hne (k i (by omega))
theorem restI_body {V:Know} (hV:HcI V) {s:SlV} {l:List DRest} {f:List Nat} (h:LR rRest V s l f) {K:Know→List Value→Prop} {i:Nat} {N:List LV→Know→Prop} {V':Know} (hV':V.le V') (hi:i<l.length)
  (hno:∀ V2,V'.le V2→¬ RestAtP l i→K V2 [.bool false]) (hyes:∀ V2,V'.le V2→RestAtP l i→N [.v (.int .i64 (IntKind.i64.wrap ((i:Int)+1)))] V2) :
  (T.el s.a s.n (i:Int) fun y2=>.ld false (y2.add (Int.toNat (i:Int)*(4:Nat))) (.g [.s,.b,.l,.l]) fun y3=>.rg <|
   .call true 52 [.string y3.fst] (.v (.o .b)) fun y4=>.br (!y4) (.ret [.bool false]) <|
   .call true 53 [qv1 y3.2] (.v (.o .b)) fun y5=>.br (!y5) (.ret [.bool false]) <|
   .call true 54 [qv1 y3.2] (.v (.o (.i .i64))) fun(y6:Int)=>.br (y6 == (0:Int)) (.ret [.bool false]) <|
   .br (decide ((i:Int) > (0:Int))) (
    .el s.a s.n (IntKind.i64.wrap ((i:Int)-(1:Int))) fun y6=>.ld true ((y6.add ((IntKind.i64.wrap ((i:Int)-(1:Int))).toNat*(4:Nat))).add (0:Nat)) (.o .s) fun y7 =>
    .br (!Op.bytesLess (ByteArray.toList y7) (ByteArray.toList y3.fst)) (.ret [.bool false]) <| .nx 0 [.v (.int .i64 (IntKind.i64.wrap ((i:Int)+(1:Int))))]) <|
   .nx 0 [.v (.int .i64 (IntKind.i64.wrap ((i:Int)+(1:Int))))]).wp Tryz.prog K V' V' [N]:=by
 simp only [T.wp]
 have hn:=h.1
 have hL:=h.le hV'
 obtain⟨b,o,c,fc,a1,l1,hR,_⟩:=hL.at hi
 obtain⟨c2,c3,g,g',rfl,hc2,hc3⟩:=rest_elim hR
 have e0:(i:Int).toNat=i:=by omega
 have hin:(i:Int)<(s.n:Int):=by omega
 rw [e0]
 refine⟨_,a1,by omega,hin,(l[i].1,l[i].2.1,c2,c3,()),l1,?_⟩
 refine(kI_CurKnown (hV.le hV') l[i].1).mono ?_
 rintro V1 r ⟨le1,rfl⟩
 refine⟨fun _=>le1,_,rfl,fun hf=>hno _ le1 fun k=>?_,fun ht=>?_⟩
 ·obtain⟨_,k1,_⟩:=k
  rw [k1] at hf; cases hf
 have w1:known l[i].1=true:=by simpa using ht
 refine(cI_RatOk V1 l[i].2.1 c2 c3 l[i].2.2.1 l[i].2.2.2.1 g g' (hc2.le le1) (hc3.le le1)).mono ?_
 rintro V2 r ⟨le2,e2,rfl,he2⟩
 have l2:=le1.trans le2
 refine⟨fun _=>le2,e2,rfl,fun hf=>hno _ l2 fun k=>?_,fun ht2=>?_⟩
 ·obtain⟨_,_,k1,_⟩:=k
  rw [he2.2 k1] at hf; cases hf
 have w2:=he2.1 (by simpa using ht2)
 refine(cI_RatSign V2 l[i].2.1 c2 c3 l[i].2.2.1 l[i].2.2.2.1 g g' (hc2.le l2) (hc3.le l2) w2).mono ?_
 rintro V3 r ⟨le3,rfl⟩
 have l3:=l2.trans le3
 refine⟨fun _=>le3,_,rfl,fun hf=>hno _ l3 fun k=>?_,fun ht3=>⟨fun hpos=>?_,fun hz=>?_⟩⟩
 ·obtain⟨_,_,_,k1,_⟩:=k
  exact k1 (by simpa using hf)
 ·have w3:sgn (sval l[i].2.1 l[i].2.2.1)≠0:=by simpa using ht3
  have hp:0<i:=by
   have:(i:Int) > 0:=of_decide_eq_true hpos
   omega
  have wr:IntKind.i64.wrap ((i:Int)-1)=((i-1:Nat):Int):=by
   have:=h.2.2.1
   rw [wrap_i64 (by omega)]; omega
  have e1':((i-1:Nat):Int).toNat=i-1:=by omega
  obtain⟨b2,o2,c2',f2,a2,l2',hR2,_⟩:=hL.part (show i-1<l.length by omega)
  obtain⟨_,_,_,_,rfl,_⟩:=rest_elim hR2
  rw [wr,e1']
  refine⟨_,a2,by omega,by omega,l[i-1].1,l2' 0 1 _ rfl,fun hf=>hno _ l3 fun k=>?_,fun ht3=>⟨_,rfl,hyes _ l3 ⟨hi,w1,w2,w3,fun _=>by simpa [LessP] using ht3⟩⟩⟩
  obtain⟨_,_,_,_,k1⟩:=k
  have:=k1 hp
  unfold LessP at this
  rw [this] at hf; cases hf
 ·have w3:sgn (sval l[i].2.1 l[i].2.2.1)≠0:=by simpa using ht3
  have hp:¬ 0<i:=by
   have:¬ (i:Int) > 0:=of_decide_eq_false hz
   omega
  exact⟨_,rfl,hyes _ l3 ⟨hi,w1,w2,w3,fun h=>absurd h hp⟩⟩
theorem cI_RestsOk {V:Know} (hV:HcI V) (s:SlV) (l:List DRest) (f:List Nat) (h:LR rRest V s l f):CallX Tryz.prog V 17 [Sc.val .l s] (OkPost V (RestsOkP l)):=by
 refine CallX.of_fits Tryz.mix (fI_RestsOk _) fun _=>?_
 have hn:=h.1
 have h63:=h.2.2.1
 unfold tI_RestsOk
 refine rows_wp (n:=s.n) (V:=V) (p:=RestAtP l) (Ns:=[]) h63 ?_ ?_ ?_
 ·intro V' i N hV' hi hall hno hyes
  exact restI_body hV h hV' (by omega) hno hyes
 ·intro V' hV' hall N
  exact⟨hV',_,rfl,⟨fun _ i hi=>hall i (by omega),fun _=>rfl⟩⟩
 ·intro V' i hV' hi hne
  exact not_ok hV' fun k=>hne (k i (by omega))
theorem rkey_eq {r:DRate} {a b:ByteArray}:rkey r=(a,b)↔r.1=a∧r.2.1=b:=by
 unfold rkey
 rw [Prod.mk.injEq]
theorem cS_l10AtX (V:Know) (s:SlV) (l:List DRate) (f:List Nat) (h:LR rRate V s l f) (a b:ByteArray):CallX Tryz.prog V 194 [Sc.val .l s,.string a,.string b]
  (fun V' r=>V'=V∧∃ k:Int,r=.int .i64 k∧((∃ (i:Nat) (hi:i<l.length),k=(i:Int)∧rkey l[i]=(a,b)∧∀ (j:Nat) (hj:j<l.length),j<i→rkey l[j]≠(a,b))∨(k=-1∧∀ (j:Nat) (hj:j<l.length),rkey l[j]≠(a,b)))):=by
 refine CallX.of_fits Tryz.mix (fS_l10At _ _ _) fun _=>?_
 have hn:=h.1
 have h63:=h.2.2.1
 simp only [tS_l10At,T.wp]
 refine⟨fun y V'=>V'=V∧∃ i:Nat,y.1=(i:Int)∧i≤l.length∧∀ (j:Nat) (hj:j<l.length),j<i→rkey l[j]≠(a,b),fun y=>((l.length:Int)-(y.1:Int)).toNat,⟨((0:Int),()),rfl,rfl,0,rfl,by omega,fun j _ h=>by omega⟩,?_⟩
 rintro⟨(i:Int),u⟩ V' ⟨rfl,k,hk,hkle,hall⟩
 replace hk:i=(k:Int):=hk
 subst hk
 refine⟨fun hlt=>?_,fun hge=>?_⟩
 ·have hkl:k<l.length:=by
   have:(k:Int)<(s.n:Int):=of_decide_eq_true hlt
   omega
  obtain⟨b1,o1,c1,fc,a1,l1,hR,_⟩:=h.at hkl
  obtain⟨c3,g,rfl,_⟩:=rate_elim hR
  have e0:(k:Int).toNat=k:=by omega
  dsimp only
  rw [e0]
  have next:rkey l[k]≠(a,b)→∃ y':LShs [.o (.o (.i .i64))],[LV.v (.int .i64 (IntKind.i64.wrap ((k:Int)+1)))]=LShs.lvs _ y'∧(V'=V'∧∃ i:Nat,y'.1=(i:Int)∧i≤l.length∧∀ (j:Nat) (hj:j<l.length),j<i→rkey l[j]≠(a,b))∧((l.length:Int)-(y'.1:Int)).toNat<((l.length:Int)-(k:Int)).toNat:=by
   intro hp
   refine⟨(((k+1:Nat):Int),()),by rw [nxt hkl (by omega)]; rfl,⟨rfl,k+1,rfl,hkl,fun j hj h2=>?_⟩,?_⟩
   ·by_cases e:j=k
    ·subst e; exact hp
    ·exact hall j hj (by omega)
   ·show((l.length:Int)-((k+1:Nat):Int)).toNat<((l.length:Int)-(k:Int)).toNat
    omega
  refine⟨_,a1,by omega,by omega,(l[k].1,l[k].2.1,l[k].2.2.1,c3,l[k].2.2.2.2.1,()),l1,fun h1=>⟨fun h2=>?_,fun h2=>⟨_,rfl,next fun e=>?_⟩⟩,fun h1=>⟨_,rfl,next fun e=>?_⟩⟩
  ·have hkey:rkey l[k]=(a,b):=rkey_eq.2 ⟨text_eq.1 h1,text_eq.1 h2⟩
   exact⟨rfl,(k:Int),rfl,.inl ⟨k,hkl,rfl,hkey,hall⟩⟩
  ·have:=text_eq.2 (rkey_eq.1 e).2
   rw [this] at h2; cases h2
  ·have:=text_eq.2 (rkey_eq.1 e).1
   rw [this] at h1; cases h1
 ·have hkl:k=l.length:=by
   have:¬ (k:Int)<(s.n:Int):=of_decide_eq_false hge
   omega
  subst hkl
  exact⟨rfl,-1,rfl,.inr ⟨rfl,fun j hj=>hall j hj hj⟩⟩
theorem cS_l10At (V:Know) (s:SlV) (l:List DRate) (f:List Nat) (h:LR rRate V s l f) (a b:ByteArray):CallX Tryz.prog V 194 [Sc.val .l s,.string a,.string b]
  (fun V' r=>V'=V∧∃ k:Int,r=.int .i64 k∧∀ i (hi:i<l.length),rkey l[i]=(a,b)→(k=(i:Int)↔∀ (j:Nat) (hj:j<l.length),j<i→rkey l[j]≠(a,b))):=by
 refine(cS_l10AtX V s l f h a b).mono ?_
 rintro V' r ⟨rfl,k,rfl,hk⟩
 refine⟨rfl,k,rfl,fun i hi hki=>?_⟩
 rcases hk with ⟨i0,h0,rfl,hk0,hf⟩ | ⟨rfl,hn⟩
 ·constructor
  ·intro e j hj hji
   exact hf j hj (by omega)
  ·intro hno
   by_cases c1:i0<i
   ·exact absurd hk0 (hno i0 h0 c1)
   ·by_cases c2:i<i0
    ·exact absurd hki (hf i hi c2)
    ·omega
 ·exact absurd hki (hn i hi)
theorem cS_RatesOk {V:Know} (p:ByteArray) (s:SlV) (l:List DRate) (f:List Nat) (h:LR rRate V s l f):CallX Tryz.prog V 126 [qv7 (p,s,())] (OkPost V (RatesOkP p l)):=by
 refine CallX.of_fits Tryz.mix (fS_RatesOk _) fun _=>?_
 have hn:=h.1
 have h63:=h.2.2.1
 simp only [tS_RatesOk,T.wp]
 refine(cS_CurKnown V p).mono ?_
 rintro V1 r ⟨le1,rfl⟩
 refine⟨nofun,_,rfl,fun hf=>not_ok le1 fun k=>?_,fun ht=>⟨fun h12=>not_ok le1 fun k=>?_,fun h12=>?_⟩⟩
 ·rw [k.1] at hf; cases hf
 ·have:(s.n:Int) > 12:=of_decide_eq_true h12
  have:=k.2.1
  omega
 have q1:known p=true:=by simpa using ht
 have q2:¬ (s.n:Int) > 12:=of_decide_eq_false h12
 refine⟨fun y V'=>V.le V'∧∃ i:Nat,y.1=(i:Int)∧i≤l.length∧∀ j,j<i→RateAtP l j,fun y=>((l.length:Int)-(y.1:Int)).toNat,⟨((0:Int),()),rfl,le1,0,rfl,by omega,fun j h=>by omega⟩,?_⟩
 rintro⟨(i:Int),u⟩ V' ⟨hle,k,hk,hkle,hall⟩
 replace hk:i=(k:Int):=hk
 subst hk
 refine⟨fun hlt=>?_,fun hge=>?_⟩
 ·have hkl:k<l.length:=by
   have:(k:Int)<(s.n:Int):=of_decide_eq_true hlt
   omega
  obtain⟨b1,o1,c1,fc,a1,l1,hR,_⟩:=(h.le hle).at hkl
  obtain⟨c3,g,rfl,hc3⟩:=rate_elim hR
  have e0:(k:Int).toNat=k:=by omega
  dsimp only
  rw [e0]
  refine⟨_,a1,by omega,by omega,(l[k].1,l[k].2.1,l[k].2.2.1,c3,l[k].2.2.2.2.1,()),l1,?_⟩
  refine(cS_RateOk (V:=V') trivial l[k] c3 g hc3).mono ?_
  rintro V2 r ⟨le2,e2,rfl,he2⟩
  have l2:=hle.trans le2
  refine⟨nofun,e2,rfl,fun hf=>not_ok l2 fun kk=>?_,fun ht2=>?_⟩
  ·obtain⟨_,k1,_⟩:=kk.2.2 k hkl
   rw [he2.2 k1] at hf; cases hf
  have w2:=he2.1 (by simpa using ht2)
  refine(cS_l10At V2 s l f (h.le l2) l[k].1 l[k].2.1).mono ?_
  rintro V3 r ⟨rfl,x,rfl,hx⟩
  have hx:=hx k hkl rfl
  refine⟨nofun,x,rfl,fun hf=>not_ok l2 fun kk=>?_,fun ht3=>?_⟩
  ·obtain⟨_,_,k2⟩:=kk.2.2 k hkl
   have:x=(k:Int):=hx.2 k2
   simp [this] at hf
  ·have e:x=(k:Int):=by simpa using ht3
   refine⟨_,rfl,(((k+1:Nat):Int),()),by rw [nxt hkl (by omega)]; rfl,⟨l2,k+1,rfl,hkl,fun j hj=>?_⟩,?_⟩
   ·by_cases ej:j=k
    ·subst ej; exact⟨hkl,w2,hx.1 e⟩
    ·exact hall j (by omega)
   ·show((l.length:Int)-((k+1:Nat):Int)).toNat<((l.length:Int)-(k:Int)).toNat
    omega
 ·have hkl:k=l.length:=by
   have:¬ (k:Int)<(s.n:Int):=of_decide_eq_false hge
   omega
  subst hkl
  exact⟨hle,true,rfl,⟨fun _=>⟨q1,by omega,hall⟩,fun _=>rfl⟩⟩
theorem pairTy:PairTy Tryz.prog 198 9 :=
 ⟨by kernel_rfl,by kernel_rfl,by kernel_rfl,⟨of_decide_eq_true (by kernel_rfl),of_decide_eq_true (by kernel_rfl)⟩,⟨by kernel_rfl,by kernel_rfl⟩,⟨by kernel_rfl,by kernel_rfl⟩,by kernel_rfl⟩
theorem bool_zero (w:World):(zeroValue 4).run Tryz.prog w=.ok (.bool false) w:=prun_run (by kernel_rfl) w
theorem keys_mem {l:List DRate} {i:Nat} (hi:i<l.length):rkey l[i] ∉ (l.take i).map rkey↔∀ (j:Nat) (hj:j<l.length),j<i→rkey l[j]≠rkey l[i]:=by
 constructor
 ·intro h j hj hji e
  refine h (List.mem_map.2 ⟨l[j],?_,e⟩)
  exact List.mem_take_iff_getElem.2 ⟨j,by omega,rfl⟩
 ·intro h hm
  obtain⟨r,hr,e⟩:=List.mem_map.1 hm
  obtain⟨j,hj,rfl⟩:=List.mem_take_iff_getElem.1 hr
  exact h j (by omega) (by omega) e
theorem cI_RatesOk {V:Know} (hV:HcI V) (p:ByteArray) (s:SlV) (l:List DRate) (f:List Nat) (h:LR rRate V s l f):CallX Tryz.prog V 133 [qv7 (p,s,())] (OkPost V (RatesOkP p l)):=by
 refine CallX.of_fits Tryz.mix (fI_RatesOk _) fun _=>?_
 have hn:=h.1
 have h63:=h.2.2.1
 simp only [tI_RatesOk,T.wp]
 refine(kI_CurKnown hV p).mono ?_
 rintro V1 r ⟨le1,rfl⟩
 refine⟨nofun,_,rfl,fun hf=>not_ok le1 fun k=>?_,fun ht=>⟨fun h12=>not_ok le1 fun k=>?_,fun h12=>?_⟩⟩
 ·rw [k.1] at hf; cases hf
 ·have:(s.n:Int) > 12:=of_decide_eq_true h12
  have:=k.2.1
  omega
 have q1:known p=true:=by simpa using ht
 have q2:¬ (s.n:Int) > 12:=of_decide_eq_false h12
 refine semx_mk.mono ?_
 rintro V2 r ⟨m,hm,rfl,rfl⟩
 have hm0:V m=none:=none_le le1 hm
 refine⟨⟨.map (some m),rfl⟩,rfl,?_⟩
 refine⟨fun y V'=>V.le V'∧∃ i:Nat,y.1=(i:Int)∧i≤l.length∧V' m=some (mapC (pairEs 0 ((l.take i).map rkey)),(((l.take i).map rkey).length,(1,0)))∧∀ j,j<i→RateAtP l j,fun y=>((l.length:Int)-(y.1:Int)).toNat,
  ⟨((0:Int),()),rfl,le1.trans (kset_le hm),0,rfl,by omega,kset_same,fun j h=>by omega⟩,?_⟩
 rintro⟨(i:Int),u⟩ V' ⟨hle,k,hk,hkle,hmap,hall⟩
 replace hk:i=(k:Int):=hk
 subst hk
 refine⟨fun hlt=>?_,fun hge=>?_⟩
 ·have hkl:k<l.length:=by
   have:(k:Int)<(s.n:Int):=of_decide_eq_true hlt
   omega
  obtain⟨b1,o1,c1,fc,a1,l1,hR,_⟩:=(h.le hle).at hkl
  obtain⟨c3,g,rfl,hc3⟩:=rate_elim hR
  have e0:(k:Int).toNat=k:=by omega
  dsimp only
  rw [e0]
  refine⟨_,a1,by omega,by omega,(l[k].1,l[k].2.1,l[k].2.2.1,c3,l[k].2.2.2.2.1,()),l1,?_⟩
  refine(cI_RateOk (V:=V') (hV.le hle) l[k] c3 g hc3).mono ?_
  rintro V3 r ⟨le2,e2,rfl,he2⟩
  have l2:=hle.trans le2
  refine⟨nofun,e2,rfl,fun hf=>not_ok l2 fun kk=>?_,fun ht2=>?_⟩
  ·obtain⟨_,k1,_⟩:=kk.2.2 k hkl
   rw [he2.2 k1] at hf; cases hf
  have w2:=he2.1 (by simpa using ht2)
  have hmap3:=le2 _ _ hmap
  refine(semx_lkPair (E:=4) (show Tryz.prog.underlying 196=some (.map 198 4) by kernel_rfl) bool_zero pairTy hmap3 (rkey l[k])).mono ?_
  rintro V4 r ⟨rfl,e3,rfl,he3⟩
  refine⟨e3,rfl,fun hf=>not_ok l2 fun kk=>?_,fun ht3=>?_⟩
  ·obtain⟨_,_,k2⟩:=kk.2.2 k hkl
   exact(keys_mem hkl).2 k2 (he3.1 hf)
  have hnk:rkey l[k] ∉ (l.take k).map rkey:=fun hm=>by rw [he3.2 hm] at ht3; cases ht3
  refine(semx_upPair (E:=4) (show Tryz.prog.underlying 196=some (.map 198 4) by kernel_rfl) pairTy hmap3 (rkey l[k]) hnk).mono ?_
  rintro V5 r ⟨rfl,rfl⟩
  refine⟨(),rfl,_,rfl,(((k+1:Nat):Int),()),by rw [nxt hkl (by omega)]; rfl,⟨?_,k+1,rfl,hkl,?_,fun j hj=>?_⟩,?_⟩
  ·intro b x hb
   rw [kset_other (fun e=>by rw [e,hm0] at hb; cases hb)]
   exact l2 b x hb
  ·rw [kset_same,List.take_succ_eq_append_getElem hkl,List.map_append]
   rfl
  ·by_cases ej:j=k
   ·subst ej; exact⟨hkl,w2,(keys_mem hkl).1 hnk⟩
   ·exact hall j (by omega)
  ·show((l.length:Int)-((k+1:Nat):Int)).toNat<((l.length:Int)-(k:Int)).toNat
   omega
 ·have hkl:k=l.length:=by
   have:¬ (k:Int)<(s.n:Int):=of_decide_eq_false hge
   omega
  subst hkl
  exact⟨hle,true,rfl,⟨fun _=>⟨q1,by omega,hall⟩,fun _=>rfl⟩⟩
theorem cS_LedgerOk {V:Know} (hV:HcS V) (c:Scs [.l,.l,.s,.l]) (x:DLedger) (f:List Nat) (h:rLedger.R V c x f):CallX Tryz.prog V 68 [qv3 c] (OkPost V (LedgerOkP x)):=by
 refine CallX.of_fits Tryz.mix (fS_LedgerOk _) fun _=>?_
 obtain⟨c0,c1,c2,c3,cu⟩:=c
 obtain⟨x0,x1,x2,x3,xu⟩:=x
 obtain⟨f0,g0,_,h0,h⟩:=h
 obtain⟨f1,g1,_,h1,h⟩:=h
 obtain⟨⟨e2,_⟩,h⟩:=h
 replace e2:c2=x2:=e2
 subst e2
 obtain⟨f3,g3,_,h3,_⟩:=h
 replace h0:LR rAcct V c0 x0 f0:=h0
 replace h1:LR rRest V c1 x1 f1:=h1
 replace h3:LR rRate V c3 x3 f3:=h3
 simp only [tS_LedgerOk,T.wp]
 refine(cS_BookOk hV c0 x0 f0 h0).mono ?_
 rintro V1 r ⟨le1,e1,rfl,he1⟩
 refine⟨nofun,e1,rfl,fun ht=>?_,fun hf=>not_ok le1 fun k=>?_⟩
 rotate_left
 ·rw [he1.2 k.1] at hf; cases hf
 refine(cS_RestsOk (hV.le le1) c1 x1 f1 (h1.le le1)).mono ?_
 rintro V2 r ⟨le2,e2,rfl,he2⟩
 have l2:=le1.trans le2
 refine⟨nofun,e2,rfl,fun ht2=>?_,fun hf=>not_ok l2 fun k=>?_⟩
 rotate_left
 ·rw [he2.2 k.2.1] at hf; cases hf
 refine(cS_RatesOk (V:=V2) c2 c3 x3 f3 (h3.le l2)).mono ?_
 rintro V3 r ⟨le3,e3,rfl,he3⟩
 exact⟨nofun,e3,rfl,l2.trans le3,e3,rfl,⟨fun ht3=>⟨he1.1 ht,he2.1 ht2,he3.1 ht3⟩,fun k=>he3.2 k.2.2⟩⟩
theorem cI_LedgerOk {V:Know} (hV:HcI V) (c:Scs [.l,.l,.s,.l]) (x:DLedger) (f:List Nat) (h:rLedger.R V c x f):CallX Tryz.prog V 72 [qv3 c] (OkPost V (LedgerOkP x)):=by
 refine CallX.of_fits Tryz.mix (fI_LedgerOk _) fun _=>?_
 obtain⟨c0,c1,c2,c3,cu⟩:=c
 obtain⟨x0,x1,x2,x3,xu⟩:=x
 obtain⟨f0,g0,_,h0,h⟩:=h
 obtain⟨f1,g1,_,h1,h⟩:=h
 obtain⟨⟨e2,_⟩,h⟩:=h
 replace e2:c2=x2:=e2
 subst e2
 obtain⟨f3,g3,_,h3,_⟩:=h
 replace h0:LR rAcct V c0 x0 f0:=h0
 replace h1:LR rRest V c1 x1 f1:=h1
 replace h3:LR rRate V c3 x3 f3:=h3
 simp only [tI_LedgerOk,T.wp]
 refine(cI_BookOk hV c0 x0 f0 h0).mono ?_
 rintro V1 r ⟨le1,e1,rfl,he1⟩
 refine⟨nofun,e1,rfl,fun ht=>?_,fun hf=>not_ok le1 fun k=>?_⟩
 rotate_left
 ·rw [he1.2 k.1] at hf; cases hf
 refine(cI_RestsOk (hV.le le1) c1 x1 f1 (h1.le le1)).mono ?_
 rintro V2 r ⟨le2,e2,rfl,he2⟩
 have l2:=le1.trans le2
 refine⟨nofun,e2,rfl,fun ht2=>?_,fun hf=>not_ok l2 fun k=>?_⟩
 rotate_left
 ·rw [he2.2 k.2.1] at hf; cases hf
 refine(cI_RatesOk (hV.le l2) c2 c3 x3 f3 (h3.le l2)).mono ?_
 rintro V3 r ⟨le3,e3,rfl,he3⟩
 exact⟨nofun,e3,rfl,l2.trans le3,e3,rfl,⟨fun ht3=>⟨he1.1 ht,he2.1 ht2,he3.1 ht3⟩,fun k=>he3.2 k.2.2⟩⟩
end Go.Proofs.YtagkjnpggkmehaaGreatDoor
namespace Go.Proofs.YtagkjnpggkmehaaGreatDoor
open Sx
set_option maxRecDepth 100000
abbrev rNs:Rp [.s] (ByteArray × Unit):=rStr rNil
theorem lr_lit {sh:List Sc} {α:Type} {r:Rp sh α} {V:Know} {b n cap:Nat} {cs:List (Scs sh)} {l:List α} {fps:List Nat} {post:List Value} {t:KTy} (h:Els r V cs l fps) (hb:V b=some (cs.flatMap (Scs.vals sh)++post,t)) (hn:n=l.length) (hc:l.length≤cap) (hl:l.length≤9223372036854775807) :
  LR r V ⟨some ⟨b,0,none⟩,n,cap⟩ l (b :: fps):=by
 subst hn
 exact⟨rfl,hc,hl,.inr ⟨b,[],post,t,fps,cs,rfl,by simpa using hb,h,rfl⟩⟩
theorem els_ns {V:Know}:∀ {ns:List ByteArray},(∀ n∈ns,n.size≤9223372036854775807)→Els rNs V (ns.map fun n=>(n,())) (ns.map fun n=>(n,())) []
 | [],_=>rfl
 | n :: ns,h=>⟨[],[],rfl,⟨⟨rfl,h n (by simp)⟩,rfl⟩,els_ns fun m hm=>h m (by simp [hm])⟩
theorem vals_ns:∀ ns:List ByteArray,(ns.map fun n=>((n,()):Scs [.s])).flatMap (Scs.vals [.s])=ns.map Value.string
 | []=>rfl
 | n :: ns=>by
  rw [List.map_cons,List.flatMap_cons,vals_ns ns]
  rfl
theorem els_intD {V:Know}:∀ l:List Lim,Els rI V l l []
 | []=>rfl
 | _ :: l=>⟨[],[],rfl,⟨rfl,rfl⟩,els_intD l⟩
theorem vals_int:∀ l:List Lim,l.flatMap (Scs.vals [.i .i64])=l.map cellI
 | []=>rfl
 | _ :: l=>by
  rw [List.flatMap_cons,vals_int l]
  rfl
theorem lr_cells {V:Know} {b cap:Nat} {l:List Lim} {post:List Value} {t:KTy} (h:V b=some (l.map cellI++post,t)) (hc:l.length≤cap) (hl:l.length≤9223372036854775807):LR rI V ⟨some ⟨b,0,none⟩,l.length,cap⟩ l [b] :=
 lr_lit (sh:=[.i .i64]) (r:=rI) (cs:=l) (fps:=[]) (els_intD l) (by rw [vals_int]; exact h) rfl hc hl
end Go.Proofs.YtagkjnpggkmehaaGreatDoor
namespace Go.Proofs.YtagkjnpggkmehaaGreatDoor
open Sx
set_option maxRecDepth 100000
abbrev bv (l:List UInt8):List Value:=l.map fun b=>Value.int .u8 b.toNat
theorem semx_bytes {P:Program} {V:Know} {src dst e:TypeId} {s:ByteArray} {K:Know→Value→Prop} (hs:P.underlying src=some .string) (hd:P.underlying dst=some (.slice e)) (he:P.underlying e=some (.int .u8))
  (h:∀ b cap spare,V b=none→s.size≤cap→K (kset V b (bv (bl s)++spare,(e,(cap,cap+1)))) (.slice (some ⟨b,0,none⟩) s.size cap)):SemX P V (MOp.cv src dst (.string s)).sem K:=by
 intro w hw
 have hc:s.size≤Go.grownCap w s.size 0 e:=Go.grownCap_ge w s.size 0 e
 refine⟨_,_,kset V w.heap.size (bv (bl s)++List.replicate (Go.grownCap w s.size 0 e-s.size) (.int .u8 0),(e,(Go.grownCap w s.size 0 e,Go.grownCap w s.size 0 e+1))),Go.Lib.run_convert_string_bytes w src dst e s hs hd he,⟨rfl,rfl,rfl,by rw [Go.Lib.bytesWorld_size]; omega,fun b hb _=>Go.Lib.bytesWorld_at_old w e s b hb,fun b hb hn=>?_⟩,fun b c u hb=>?_,h _ _ _ hw.size_none hc⟩
 ·rw [kset_other (by omega)]; exact hn
 ·by_cases hbe:b=w.heap.size
  ·subst hbe
   rw [kset_same] at hb
   simp only [Option.some.injEq,Prod.mk.injEq] at hb
   obtain⟨rfl,rfl⟩:=hb
   rw [Go.Lib.bytesWorld_at_new]
   have e1:Go.Lib.bytesCells w e s=(bv (bl s)++List.replicate (Go.grownCap w s.size 0 e-s.size) (Value.int .u8 0)).toArray:=by
    unfold Go.Lib.bytesCells
    simp [bv,bl]
   have e2:(Go.Lib.bytesCells w e s).size=Go.grownCap w s.size 0 e:=by
    unfold Go.Lib.bytesCells
    have:s.data.size=s.size:=rfl
    simp only [Array.size_append,Array.size_map,Array.size_replicate]
    omega
   have e3:noTup (bv (bl s)++List.replicate (Go.grownCap w s.size 0 e-s.size) (Value.int .u8 0))=true:=by
    refine List.all_eq_true.2 fun x hx=>?_
    rcases List.mem_append.1 hx with k | k
    ·obtain⟨y,_,rfl⟩:=List.mem_map.1 k
     rfl
    ·rw [List.eq_of_mem_replicate k]
   rw [e2,e1,objOf_cells e3]
  ·rw [kset_other hbe] at hb
   have:=hw b c u hb
   rw [Go.Lib.bytesWorld_at_old w e s b (Array.getElem?_eq_some_iff.1 this).1]; exact this
end Go.Proofs.YtagkjnpggkmehaaGreatDoor
