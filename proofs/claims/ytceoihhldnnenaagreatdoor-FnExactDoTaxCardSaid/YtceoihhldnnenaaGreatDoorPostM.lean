/-
  Amounts posted to a book: the plain law.
-/
import Derived.Test.YtceoihhldnnenaaGreatDoorLedA
import Derived.Test.YtceoihhldnnenaaGreatDoorOk
import Derived.Test.YtceoihhldnnenaaGreatDoorStr
namespace Go.Proofs.YtceoihhldnnenaaGreatDoor
open Sx
set_option maxRecDepth 100000
theorem acct_size {V:Know} {s:SlV} {l:List DAcct} {f:List Nat} (h:LR rAcct V s l f) (i:Nat) (hi:i<l.length):l[i].1.size≤9223372036854775807:=by
 obtain⟨b,o,c,fc,a1,l1,hR,_⟩:=h.at hi
 exact hR.1.2
theorem cS_BookOk {V:Know} (hV:HcS V) (s:SlV) (l:List DAcct) (f:List Nat) (h:LR rAcct V s l f):CallX Tryz.prog V 79 [qv5 (s,())] (OkPost V (BookOkP l)):=by
 refine CallX.of_fits Tryz.mix (fS_BookOk _) fun _=>?_
 have hn:=h.1
 have h63:=h.2.2.1
 unfold tS_BookOk
 refine rows_wp (n:=s.n) (V:=V) (p:=AcctAtP l) (Ns:=[]) h63 ?_ ?_ ?_
 ·intro V' i N hV' hi hall hno hyes
  exact bookS_body hV h (acct_size h) hV' (by omega) hno hyes
 ·intro V' hV' hall N
  refine⟨hV',_,rfl,?_⟩
  exact⟨fun hd=>⟨by have:(s.n:Int)≤12:=of_decide_eq_true hd; omega,fun i hi=>hall i (by omega)⟩,fun k=>decide_eq_true (by have:=k.1; show(s.n:Int)≤12; omega)⟩
 ·intro V' i hV' hi hne
  exact not_ok hV' fun k=>hne (k.2 i (by omega))
theorem cI_BookOk {V:Know} (hV:HcI V) (s:SlV) (l:List DAcct) (f:List Nat) (h:LR rAcct V s l f):CallX Tryz.prog V 151 [qv5 (s,())] (OkPost V (BookOkP l)):=by
 refine CallX.of_fits Tryz.mix (fI_BookOk _) fun _=>?_
 have hn:=h.1
 have h63:=h.2.2.1
 unfold tI_BookOk
 change (decide ((s.n:Int) > 12)=true→T.wp _ _ _ _ _ _)∧(decide ((s.n:Int) > 12)=false→T.wp _ _ _ _ _ _)
 refine⟨fun h12=>not_ok (Know.le.refl _) fun k=>?_,fun h12=>?_⟩
 ·have:(s.n:Int) > 12:=of_decide_eq_true h12
  have:=k.1
  omega
 have q:¬ (s.n:Int) > 12:=of_decide_eq_false h12
 refine rows_wp (n:=s.n) (V:=V) (p:=AcctAtP l) (Ns:=[]) h63 ?_ ?_ ?_
 ·intro V' i N hV' hi hall hno hyes
  exact bookI_body hV h (acct_size h) hV' (by omega) hno hyes
 ·intro V' hV' hall N
  refine⟨hV',_,rfl,?_⟩
  exact⟨fun _=>⟨by omega,fun i hi=>hall i (by omega)⟩,fun _=>rfl⟩
 ·intro V' i hV' hi hne
  exact not_ok hV' fun k=>hne (k.2 i (by omega))
theorem restS_body {V:Know} (hV:HcS V) {s:SlV} {l:List DRest} {f:List Nat} (h:LR rRest V s l f) {K:Know→List Value→Prop} {i:Nat} {N:List LV→Know→Prop} {V':Know} (hV':V.le V') (hi:i<l.length)
  (hno:∀ V2,V'.le V2→¬ RestAtP l i→K V2 [.bool false]) (hyes:∀ V2,V'.le V2→RestAtP l i→N [.v (.int .i64 (IntKind.i64.wrap ((i:Int)+1)))] V2) :
  (T.el s.a s.n (i:Int) fun y2=>.ld false (y2.add (Int.toNat (i:Int)*(4:Nat))) (.g [.s,.b,.l,.l]) fun y3=>.rg <|
   .call true 95 [.string y3.fst] (.v (.o .b)) fun y4=>.br (!y4) (.ret [.bool false]) <|
   .call true 130 [qv1 y3.2] (.v (.o .b)) fun y5=>.br (!y5) (.ret [.bool false]) <|
   .call true 97 [qv1 y3.2] (.v (.o (.i .i64))) fun(y6:Int)=>.br (y6 == (0:Int)) (.ret [.bool false]) <|
   .br (decide ((i:Int) > (0:Int))) (
    .el s.a s.n (IntKind.i64.wrap ((i:Int)-(1:Int))) fun y6=>.ld true ((y6.add ((IntKind.i64.wrap ((i:Int)-(1:Int))).toNat*(4:Nat))).add (0:Nat)) (.o .s) fun y7 =>
    .br (!Op.bytesLess (ByteArray.toList y7) (ByteArray.toList y3.fst)) (.ret [.bool false]) <| .nx 0 [.v (.int .i64 (IntKind.i64.wrap ((i:Int)+(1:Int))))]) <|
   .nx 0 [.v (.int .i64 (IntKind.i64.wrap ((i:Int)+(1:Int))))]).wp Tryz.prog K V' V' [N]:=by
 simp only [T.wp]
 have hn:=h.1
 have hL:=h.le hV'
 obtain⟨b,o,c,fc,a1,l1,hR,_⟩:=hL.at hi
 obtain⟨c2,c3,g,g',rfl,hc2,hc3⟩:=rest_elim hR
 have e0:(i:Int).toNat=i:=by omega
 have hin:(i:Int)<(s.n:Int):=by omega
 rw [e0]
 refine⟨_,a1,by omega,hin,(l[i].1,l[i].2.1,c2,c3,()),l1,?_⟩
 refine(kS_CurKnown (hV.le hV') l[i].1).mono ?_
 rintro V1 r ⟨le1,rfl⟩
 refine⟨fun _=>le1,_,rfl,fun hf=>hno _ le1 fun k=>?_,fun ht=>?_⟩
 ·obtain⟨_,k1,_⟩:=k
  rw [k1] at hf; cases hf
 have w1:known l[i].1=true:=by simpa using ht
 refine(cS_RatOk V1 l[i].2.1 c2 c3 l[i].2.2.1 l[i].2.2.2.1 g g' (hc2.le le1) (hc3.le le1)).mono ?_
 rintro V2 r ⟨le2,e2,rfl,he2⟩
 have l2:=le1.trans le2
 refine⟨fun _=>le2,e2,rfl,fun hf=>hno _ l2 fun k=>?_,fun ht2=>?_⟩
 ·obtain⟨_,_,k1,_⟩:=k
  rw [he2.2 k1] at hf; cases hf
 have w2:=he2.1 (by simpa using ht2)
 refine(cS_RatSign V2 l[i].2.1 c2 c3 l[i].2.2.1 l[i].2.2.2.1 g g' (hc2.le l2) (hc3.le l2) w2).mono ?_
 rintro V3 r ⟨le3,rfl⟩
 have l3:=l2.trans le3
 refine⟨fun _=>le3,_,rfl,fun hf=>hno _ l3 fun k=>?_,fun ht3=>⟨fun hpos=>?_,fun hz=>?_⟩⟩
 ·obtain⟨_,_,_,k1,_⟩:=k
  exact k1 (by simpa using hf)
 ·have w3:sgn (sval l[i].2.1 l[i].2.2.1)≠0:=by simpa using ht3
  have hp:0<i:=by
   have:(i:Int) > 0:=of_decide_eq_true hpos
   omega
  have wr:IntKind.i64.wrap ((i:Int)-1)=((i-1:Nat):Int):=by
   have:=h.2.2.1
   rw [wrap_i64 (by omega)]; omega
  have e1':((i-1:Nat):Int).toNat=i-1:=by omega
  obtain⟨b2,o2,c2',f2,a2,l2',hR2,_⟩:=hL.part (show i-1<l.length by omega)
  obtain⟨_,_,_,_,rfl,_⟩:=rest_elim hR2
  rw [wr,e1']
  refine⟨_,a2,by omega,by omega,l[i-1].1,l2' 0 1 _ rfl,fun hf=>hno _ l3 fun k=>?_,fun ht3=>⟨_,rfl,hyes _ l3 ⟨hi,w1,w2,w3,fun _=>by simpa [LessP] using ht3⟩⟩⟩
  obtain⟨_,_,_,_,k1⟩:=k
  have:=k1 hp
  unfold LessP at this
  rw [this] at hf; cases hf
 ·have w3:sgn (sval l[i].2.1 l[i].2.2.1)≠0:=by simpa using ht3
  have hp:¬ 0<i:=by
   have:¬ (i:Int) > 0:=of_decide_eq_false hz
   omega
  exact⟨_,rfl,hyes _ l3 ⟨hi,w1,w2,w3,fun h=>absurd h hp⟩⟩
theorem cS_RestsOk {V:Know} (hV:HcS V) (s:SlV) (l:List DRest) (f:List Nat) (h:LR rRest V s l f):CallX Tryz.prog V 80 [Sc.val .l s] (OkPost V (RestsOkP l)):=by
 refine CallX.of_fits Tryz.mix (fS_RestsOk _) fun _=>?_
 have hn:=h.1
 have h63:=h.2.2.1
 unfold tS_RestsOk
 refine rows_wp (n:=s.n) (V:=V) (p:=RestAtP l) (Ns:=[]) h63 ?_ ?_ ?_
 ·intro V' i N hV' hi hall hno hyes
  exact restS_body hV h hV' (by omega) hno hyes
 ·intro V' hV' hall N
  exact⟨hV',_,rfl,⟨fun _ i hi=>hall i (by omega),fun _=>rfl⟩⟩
 ·intro V' i hV' hi hne
  exact not_ok hV' fun k=>hne (k i (by omega))
theorem restI_body {V:Know} (hV:HcI V) {s:SlV} {l:List DRest} {f:List Nat} (h:LR rRest V s l f) {K:Know→List Value→Prop} {i:Nat} {N:List LV→Know→Prop} {V':Know} (hV':V.le V') (hi:i<l.length)
  (hno:∀ V2,V'.le V2→¬ RestAtP l i→K V2 [.bool false]) (hyes:∀ V2,V'.le V2→RestAtP l i→N [.v (.int .i64 (IntKind.i64.wrap ((i:Int)+1)))] V2) :
  (T.el s.a s.n (i:Int) fun y2=>.ld false (y2.add (Int.toNat (i:Int)*(4:Nat))) (.g [.s,.b,.l,.l]) fun y3=>.rg <|
   .call true 186 [.string y3.fst] (.v (.o .b)) fun y4=>.br (!y4) (.ret [.bool false]) <|
   .call true 187 [qv1 y3.2] (.v (.o .b)) fun y5=>.br (!y5) (.ret [.bool false]) <|
   .call true 188 [qv1 y3.2] (.v (.o (.i .i64))) fun(y6:Int)=>.br (y6 == (0:Int)) (.ret [.bool false]) <|
   .br (decide ((i:Int) > (0:Int))) (
    .el s.a s.n (IntKind.i64.wrap ((i:Int)-(1:Int))) fun y6=>.ld true ((y6.add ((IntKind.i64.wrap ((i:Int)-(1:Int))).toNat*(4:Nat))).add (0:Nat)) (.o .s) fun y7 =>
    .br (!Op.bytesLess (ByteArray.toList y7) (ByteArray.toList y3.fst)) (.ret [.bool false]) <| .nx 0 [.v (.int .i64 (IntKind.i64.wrap ((i:Int)+(1:Int))))]) <|
   .nx 0 [.v (.int .i64 (IntKind.i64.wrap ((i:Int)+(1:Int))))]).wp Tryz.prog K V' V' [N]:=by
 simp only [T.wp]
 have hn:=h.1
 have hL:=h.le hV'
 obtain⟨b,o,c,fc,a1,l1,hR,_⟩:=hL.at hi
 obtain⟨c2,c3,g,g',rfl,hc2,hc3⟩:=rest_elim hR
 have e0:(i:Int).toNat=i:=by omega
 have hin:(i:Int)<(s.n:Int):=by omega
 rw [e0]
 refine⟨_,a1,by omega,hin,(l[i].1,l[i].2.1,c2,c3,()),l1,?_⟩
 refine(kI_CurKnown (hV.le hV') l[i].1).mono ?_
 rintro V1 r ⟨le1,rfl⟩
 refine⟨fun _=>le1,_,rfl,fun hf=>hno _ le1 fun k=>?_,fun ht=>?_⟩
 ·obtain⟨_,k1,_⟩:=k
  rw [k1] at hf; cases hf
 have w1:known l[i].1=true:=by simpa using ht
 refine(cI_RatOk V1 l[i].2.1 c2 c3 l[i].2.2.1 l[i].2.2.2.1 g g' (hc2.le le1) (hc3.le le1)).mono ?_
 rintro V2 r ⟨le2,e2,rfl,he2⟩
 have l2:=le1.trans le2
 refine⟨fun _=>le2,e2,rfl,fun hf=>hno _ l2 fun k=>?_,fun ht2=>?_⟩
 ·obtain⟨_,_,k1,_⟩:=k
  rw [he2.2 k1] at hf; cases hf
 have w2:=he2.1 (by simpa using ht2)
 refine(cI_RatSign V2 l[i].2.1 c2 c3 l[i].2.2.1 l[i].2.2.2.1 g g' (hc2.le l2) (hc3.le l2) w2).mono ?_
 rintro V3 r ⟨le3,rfl⟩
 have l3:=l2.trans le3
 refine⟨fun _=>le3,_,rfl,fun hf=>hno _ l3 fun k=>?_,fun ht3=>⟨fun hpos=>?_,fun hz=>?_⟩⟩
 ·obtain⟨_,_,_,k1,_⟩:=k
  exact k1 (by simpa using hf)
 ·have w3:sgn (sval l[i].2.1 l[i].2.2.1)≠0:=by simpa using ht3
  have hp:0<i:=by
   have:(i:Int) > 0:=of_decide_eq_true hpos
   omega
  have wr:IntKind.i64.wrap ((i:Int)-1)=((i-1:Nat):Int):=by
   have:=h.2.2.1
   rw [wrap_i64 (by omega)]; omega
  have e1':((i-1:Nat):Int).toNat=i-1:=by omega
  obtain⟨b2,o2,c2',f2,a2,l2',hR2,_⟩:=hL.part (show i-1<l.length by omega)
  obtain⟨_,_,_,_,rfl,_⟩:=rest_elim hR2
  rw [wr,e1']
  refine⟨_,a2,by omega,by omega,l[i-1].1,l2' 0 1 _ rfl,fun hf=>hno _ l3 fun k=>?_,fun ht3=>⟨_,rfl,hyes _ l3 ⟨hi,w1,w2,w3,fun _=>by simpa [LessP] using ht3⟩⟩⟩
  obtain⟨_,_,_,_,k1⟩:=k
  have:=k1 hp
  unfold LessP at this
  rw [this] at hf; cases hf
 ·have w3:sgn (sval l[i].2.1 l[i].2.2.1)≠0:=by simpa using ht3
  have hp:¬ 0<i:=by
   have:¬ (i:Int) > 0:=of_decide_eq_false hz
   omega
  exact⟨_,rfl,hyes _ l3 ⟨hi,w1,w2,w3,fun h=>absurd h hp⟩⟩
theorem cI_RestsOk {V:Know} (hV:HcI V) (s:SlV) (l:List DRest) (f:List Nat) (h:LR rRest V s l f):CallX Tryz.prog V 152 [Sc.val .l s] (OkPost V (RestsOkP l)):=by
 refine CallX.of_fits Tryz.mix (fI_RestsOk _) fun _=>?_
 have hn:=h.1
 have h63:=h.2.2.1
 unfold tI_RestsOk
 refine rows_wp (n:=s.n) (V:=V) (p:=RestAtP l) (Ns:=[]) h63 ?_ ?_ ?_
 ·intro V' i N hV' hi hall hno hyes
  exact restI_body hV h hV' (by omega) hno hyes
 ·intro V' hV' hall N
  exact⟨hV',_,rfl,⟨fun _ i hi=>hall i (by omega),fun _=>rfl⟩⟩
 ·intro V' i hV' hi hne
  exact not_ok hV' fun k=>hne (k i (by omega))
theorem rkey_eq {r:DRate} {a b:ByteArray}:rkey r=(a,b)↔r.1=a∧r.2.1=b:=by
 unfold rkey
 rw [Prod.mk.injEq]
theorem cS_l10AtX (V:Know) (s:SlV) (l:List DRate) (f:List Nat) (h:LR rRate V s l f) (a b:ByteArray):CallX Tryz.prog V 132 [Sc.val .l s,.string a,.string b]
  (fun V' r=>V'=V∧∃ k:Int,r=.int .i64 k∧((∃ (i:Nat) (hi:i<l.length),k=(i:Int)∧rkey l[i]=(a,b)∧∀ (j:Nat) (hj:j<l.length),j<i→rkey l[j]≠(a,b))∨(k=-1∧∀ (j:Nat) (hj:j<l.length),rkey l[j]≠(a,b)))):=by
 refine CallX.of_fits Tryz.mix (fS_l10At _ _ _) fun _=>?_
 have hn:=h.1
 have h63:=h.2.2.1
 simp only [tS_l10At,T.wp]
 refine⟨fun y V'=>V'=V∧∃ i:Nat,y.1=(i:Int)∧i≤l.length∧∀ (j:Nat) (hj:j<l.length),j<i→rkey l[j]≠(a,b),fun y=>((l.length:Int)-(y.1:Int)).toNat,⟨((0:Int),()),rfl,rfl,0,rfl,by omega,fun j _ h=>by omega⟩,?_⟩
 rintro⟨(i:Int),u⟩ V' ⟨rfl,k,hk,hkle,hall⟩
 replace hk:i=(k:Int):=hk
 subst hk
 refine⟨fun hlt=>?_,fun hge=>?_⟩
 ·have hkl:k<l.length:=by
   have:(k:Int)<(s.n:Int):=of_decide_eq_true hlt
   omega
  obtain⟨b1,o1,c1,fc,a1,l1,hR,_⟩:=h.at hkl
  obtain⟨c3,g,rfl,_⟩:=rate_elim hR
  have e0:(k:Int).toNat=k:=by omega
  dsimp only
  rw [e0]
  have next:rkey l[k]≠(a,b)→∃ y':LShs [.o (.o (.i .i64))],[LV.v (.int .i64 (IntKind.i64.wrap ((k:Int)+1)))]=LShs.lvs _ y'∧(V'=V'∧∃ i:Nat,y'.1=(i:Int)∧i≤l.length∧∀ (j:Nat) (hj:j<l.length),j<i→rkey l[j]≠(a,b))∧((l.length:Int)-(y'.1:Int)).toNat<((l.length:Int)-(k:Int)).toNat:=by
   intro hp
   refine⟨(((k+1:Nat):Int),()),by rw [nxt hkl (by omega)]; rfl,⟨rfl,k+1,rfl,hkl,fun j hj h2=>?_⟩,?_⟩
   ·by_cases e:j=k
    ·subst e; exact hp
    ·exact hall j hj (by omega)
   ·show((l.length:Int)-((k+1:Nat):Int)).toNat<((l.length:Int)-(k:Int)).toNat
    omega
  refine⟨_,a1,by omega,by omega,(l[k].1,l[k].2.1,l[k].2.2.1,c3,l[k].2.2.2.2.1,()),l1,fun h1=>⟨fun h2=>?_,fun h2=>⟨_,rfl,next fun e=>?_⟩⟩,fun h1=>⟨_,rfl,next fun e=>?_⟩⟩
  ·have hkey:rkey l[k]=(a,b):=rkey_eq.2 ⟨text_eq.1 h1,text_eq.1 h2⟩
   exact⟨rfl,(k:Int),rfl,.inl ⟨k,hkl,rfl,hkey,hall⟩⟩
  ·have:=text_eq.2 (rkey_eq.1 e).2
   rw [this] at h2; cases h2
  ·have:=text_eq.2 (rkey_eq.1 e).1
   rw [this] at h1; cases h1
 ·have hkl:k=l.length:=by
   have:¬ (k:Int)<(s.n:Int):=of_decide_eq_false hge
   omega
  subst hkl
  exact⟨rfl,-1,rfl,.inr ⟨rfl,fun j hj=>hall j hj hj⟩⟩
theorem cS_l10At (V:Know) (s:SlV) (l:List DRate) (f:List Nat) (h:LR rRate V s l f) (a b:ByteArray):CallX Tryz.prog V 132 [Sc.val .l s,.string a,.string b]
  (fun V' r=>V'=V∧∃ k:Int,r=.int .i64 k∧∀ i (hi:i<l.length),rkey l[i]=(a,b)→(k=(i:Int)↔∀ (j:Nat) (hj:j<l.length),j<i→rkey l[j]≠(a,b))):=by
 refine(cS_l10AtX V s l f h a b).mono ?_
 rintro V' r ⟨rfl,k,rfl,hk⟩
 refine⟨rfl,k,rfl,fun i hi hki=>?_⟩
 rcases hk with ⟨i0,h0,rfl,hk0,hf⟩ | ⟨rfl,hn⟩
 ·constructor
  ·intro e j hj hji
   exact hf j hj (by omega)
  ·intro hno
   by_cases c1:i0<i
   ·exact absurd hk0 (hno i0 h0 c1)
   ·by_cases c2:i<i0
    ·exact absurd hki (hf i hi c2)
    ·omega
 ·exact absurd hki (hn i hi)
theorem cS_RatesOk {V:Know} (p:ByteArray) (s:SlV) (l:List DRate) (f:List Nat) (h:LR rRate V s l f):CallX Tryz.prog V 81 [qv6 (p,s,())] (OkPost V (RatesOkP p l)):=by
 refine CallX.of_fits Tryz.mix (fS_RatesOk _) fun _=>?_
 have hn:=h.1
 have h63:=h.2.2.1
 simp only [tS_RatesOk,T.wp]
 refine(cS_CurKnown V p).mono ?_
 rintro V1 r ⟨le1,rfl⟩
 refine⟨nofun,_,rfl,fun hf=>not_ok le1 fun k=>?_,fun ht=>⟨fun h12=>not_ok le1 fun k=>?_,fun h12=>?_⟩⟩
 ·rw [k.1] at hf; cases hf
 ·have:(s.n:Int) > 12:=of_decide_eq_true h12
  have:=k.2.1
  omega
 have q1:known p=true:=by simpa using ht
 have q2:¬ (s.n:Int) > 12:=of_decide_eq_false h12
 refine⟨fun y V'=>V.le V'∧∃ i:Nat,y.1=(i:Int)∧i≤l.length∧∀ j,j<i→RateAtP l j,fun y=>((l.length:Int)-(y.1:Int)).toNat,⟨((0:Int),()),rfl,le1,0,rfl,by omega,fun j h=>by omega⟩,?_⟩
 rintro⟨(i:Int),u⟩ V' ⟨hle,k,hk,hkle,hall⟩
 replace hk:i=(k:Int):=hk
 subst hk
 refine⟨fun hlt=>?_,fun hge=>?_⟩
 ·have hkl:k<l.length:=by
   have:(k:Int)<(s.n:Int):=of_decide_eq_true hlt
   omega
  obtain⟨b1,o1,c1,fc,a1,l1,hR,_⟩:=(h.le hle).at hkl
  obtain⟨c3,g,rfl,hc3⟩:=rate_elim hR
  have e0:(k:Int).toNat=k:=by omega
  dsimp only
  rw [e0]
  refine⟨_,a1,by omega,by omega,(l[k].1,l[k].2.1,l[k].2.2.1,c3,l[k].2.2.2.2.1,()),l1,?_⟩
  refine(cS_RateOk (V:=V') trivial l[k] c3 g hc3).mono ?_
  rintro V2 r ⟨le2,e2,rfl,he2⟩
  have l2:=hle.trans le2
  refine⟨nofun,e2,rfl,fun hf=>not_ok l2 fun kk=>?_,fun ht2=>?_⟩
  ·obtain⟨_,k1,_⟩:=kk.2.2 k hkl
   rw [he2.2 k1] at hf; cases hf
  have w2:=he2.1 (by simpa using ht2)
  refine(cS_l10At V2 s l f (h.le l2) l[k].1 l[k].2.1).mono ?_
  rintro V3 r ⟨rfl,x,rfl,hx⟩
  have hx:=hx k hkl rfl
  refine⟨nofun,x,rfl,fun hf=>not_ok l2 fun kk=>?_,fun ht3=>?_⟩
  ·obtain⟨_,_,k2⟩:=kk.2.2 k hkl
   have:x=(k:Int):=hx.2 k2
   simp [this] at hf
  ·have e:x=(k:Int):=by simpa using ht3
   refine⟨_,rfl,(((k+1:Nat):Int),()),by rw [nxt hkl (by omega)]; rfl,⟨l2,k+1,rfl,hkl,fun j hj=>?_⟩,?_⟩
   ·by_cases ej:j=k
    ·subst ej; exact⟨hkl,w2,hx.1 e⟩
    ·exact hall j (by omega)
   ·show((l.length:Int)-((k+1:Nat):Int)).toNat<((l.length:Int)-(k:Int)).toNat
    omega
 ·have hkl:k=l.length:=by
   have:¬ (k:Int)<(s.n:Int):=of_decide_eq_false hge
   omega
  subst hkl
  exact⟨hle,true,rfl,⟨fun _=>⟨q1,by omega,hall⟩,fun _=>rfl⟩⟩
theorem pairTy:PairTy Tryz.prog 243 9 :=
 ⟨by kernel_rfl,by kernel_rfl,by kernel_rfl,⟨of_decide_eq_true (by kernel_rfl),of_decide_eq_true (by kernel_rfl)⟩,⟨by kernel_rfl,by kernel_rfl⟩,⟨by kernel_rfl,by kernel_rfl⟩,by kernel_rfl⟩
theorem bool_zero (w:World):(zeroValue 4).run Tryz.prog w=.ok (.bool false) w:=prun_run (by kernel_rfl) w
theorem keys_mem {l:List DRate} {i:Nat} (hi:i<l.length):rkey l[i] ∉ (l.take i).map rkey↔∀ (j:Nat) (hj:j<l.length),j<i→rkey l[j]≠rkey l[i]:=by
 constructor
 ·intro h j hj hji e
  refine h (List.mem_map.2 ⟨l[j],?_,e⟩)
  exact List.mem_take_iff_getElem.2 ⟨j,by omega,rfl⟩
 ·intro h hm
  obtain⟨r,hr,e⟩:=List.mem_map.1 hm
  obtain⟨j,hj,rfl⟩:=List.mem_take_iff_getElem.1 hr
  exact h j (by omega) (by omega) e
theorem cI_RatesOk {V:Know} (hV:HcI V) (p:ByteArray) (s:SlV) (l:List DRate) (f:List Nat) (h:LR rRate V s l f):CallX Tryz.prog V 153 [qv6 (p,s,())] (OkPost V (RatesOkP p l)):=by
 refine CallX.of_fits Tryz.mix (fI_RatesOk _) fun _=>?_
 have hn:=h.1
 have h63:=h.2.2.1
 simp only [tI_RatesOk,T.wp]
 refine(kI_CurKnown hV p).mono ?_
 rintro V1 r ⟨le1,rfl⟩
 refine⟨nofun,_,rfl,fun hf=>not_ok le1 fun k=>?_,fun ht=>⟨fun h12=>not_ok le1 fun k=>?_,fun h12=>?_⟩⟩
 ·rw [k.1] at hf; cases hf
 ·have:(s.n:Int) > 12:=of_decide_eq_true h12
  have:=k.2.1
  omega
 have q1:known p=true:=by simpa using ht
 have q2:¬ (s.n:Int) > 12:=of_decide_eq_false h12
 refine semx_mk.mono ?_
 rintro V2 r ⟨m,hm,rfl,rfl⟩
 have hm0:V m=none:=none_le le1 hm
 refine⟨⟨.map (some m),rfl⟩,rfl,?_⟩
 refine⟨fun y V'=>V.le V'∧∃ i:Nat,y.1=(i:Int)∧i≤l.length∧V' m=some (mapC (pairEs 0 ((l.take i).map rkey)),(((l.take i).map rkey).length,(1,0)))∧∀ j,j<i→RateAtP l j,fun y=>((l.length:Int)-(y.1:Int)).toNat,
  ⟨((0:Int),()),rfl,le1.trans (kset_le hm),0,rfl,by omega,kset_same,fun j h=>by omega⟩,?_⟩
 rintro⟨(i:Int),u⟩ V' ⟨hle,k,hk,hkle,hmap,hall⟩
 replace hk:i=(k:Int):=hk
 subst hk
 refine⟨fun hlt=>?_,fun hge=>?_⟩
 ·have hkl:k<l.length:=by
   have:(k:Int)<(s.n:Int):=of_decide_eq_true hlt
   omega
  obtain⟨b1,o1,c1,fc,a1,l1,hR,_⟩:=(h.le hle).at hkl
  obtain⟨c3,g,rfl,hc3⟩:=rate_elim hR
  have e0:(k:Int).toNat=k:=by omega
  dsimp only
  rw [e0]
  refine⟨_,a1,by omega,by omega,(l[k].1,l[k].2.1,l[k].2.2.1,c3,l[k].2.2.2.2.1,()),l1,?_⟩
  refine(cI_RateOk (V:=V') (hV.le hle) l[k] c3 g hc3).mono ?_
  rintro V3 r ⟨le2,e2,rfl,he2⟩
  have l2:=hle.trans le2
  refine⟨nofun,e2,rfl,fun hf=>not_ok l2 fun kk=>?_,fun ht2=>?_⟩
  ·obtain⟨_,k1,_⟩:=kk.2.2 k hkl
   rw [he2.2 k1] at hf; cases hf
  have w2:=he2.1 (by simpa using ht2)
  have hmap3:=le2 _ _ hmap
  refine(semx_lkPair (E:=4) (show Tryz.prog.underlying 241=some (.map 243 4) by kernel_rfl) bool_zero pairTy hmap3 (rkey l[k])).mono ?_
  rintro V4 r ⟨rfl,e3,rfl,he3⟩
  refine⟨e3,rfl,fun hf=>not_ok l2 fun kk=>?_,fun ht3=>?_⟩
  ·obtain⟨_,_,k2⟩:=kk.2.2 k hkl
   exact(keys_mem hkl).2 k2 (he3.1 hf)
  have hnk:rkey l[k] ∉ (l.take k).map rkey:=fun hm=>by rw [he3.2 hm] at ht3; cases ht3
  refine(semx_upPair (E:=4) (show Tryz.prog.underlying 241=some (.map 243 4) by kernel_rfl) pairTy hmap3 (rkey l[k]) hnk).mono ?_
  rintro V5 r ⟨rfl,rfl⟩
  refine⟨(),rfl,_,rfl,(((k+1:Nat):Int),()),by rw [nxt hkl (by omega)]; rfl,⟨?_,k+1,rfl,hkl,?_,fun j hj=>?_⟩,?_⟩
  ·intro b x hb
   rw [kset_other (fun e=>by rw [e,hm0] at hb; cases hb)]
   exact l2 b x hb
  ·rw [kset_same,List.take_succ_eq_append_getElem hkl,List.map_append]
   rfl
  ·by_cases ej:j=k
   ·subst ej; exact⟨hkl,w2,(keys_mem hkl).1 hnk⟩
   ·exact hall j (by omega)
  ·show((l.length:Int)-((k+1:Nat):Int)).toNat<((l.length:Int)-(k:Int)).toNat
   omega
 ·have hkl:k=l.length:=by
   have:¬ (k:Int)<(s.n:Int):=of_decide_eq_false hge
   omega
  subst hkl
  exact⟨hle,true,rfl,⟨fun _=>⟨q1,by omega,hall⟩,fun _=>rfl⟩⟩
theorem cS_LedgerOk {V:Know} (hV:HcS V) (c:Scs [.l,.l,.s,.l]) (x:DLedger) (f:List Nat) (h:rLedger.R V c x f):CallX Tryz.prog V 38 [qv3 c] (OkPost V (LedgerOkP x)):=by
 refine CallX.of_fits Tryz.mix (fS_LedgerOk _) fun _=>?_
 obtain⟨c0,c1,c2,c3,cu⟩:=c
 obtain⟨x0,x1,x2,x3,xu⟩:=x
 obtain⟨f0,g0,_,h0,h⟩:=h
 obtain⟨f1,g1,_,h1,h⟩:=h
 obtain⟨⟨e2,_⟩,h⟩:=h
 replace e2:c2=x2:=e2
 subst e2
 obtain⟨f3,g3,_,h3,_⟩:=h
 replace h0:LR rAcct V c0 x0 f0:=h0
 replace h1:LR rRest V c1 x1 f1:=h1
 replace h3:LR rRate V c3 x3 f3:=h3
 simp only [tS_LedgerOk,T.wp]
 refine(cS_BookOk hV c0 x0 f0 h0).mono ?_
 rintro V1 r ⟨le1,e1,rfl,he1⟩
 refine⟨nofun,e1,rfl,fun ht=>?_,fun hf=>not_ok le1 fun k=>?_⟩
 rotate_left
 ·rw [he1.2 k.1] at hf; cases hf
 refine(cS_RestsOk (hV.le le1) c1 x1 f1 (h1.le le1)).mono ?_
 rintro V2 r ⟨le2,e2,rfl,he2⟩
 have l2:=le1.trans le2
 refine⟨nofun,e2,rfl,fun ht2=>?_,fun hf=>not_ok l2 fun k=>?_⟩
 rotate_left
 ·rw [he2.2 k.2.1] at hf; cases hf
 refine(cS_RatesOk (V:=V2) c2 c3 x3 f3 (h3.le l2)).mono ?_
 rintro V3 r ⟨le3,e3,rfl,he3⟩
 exact⟨nofun,e3,rfl,l2.trans le3,e3,rfl,⟨fun ht3=>⟨he1.1 ht,he2.1 ht2,he3.1 ht3⟩,fun k=>he3.2 k.2.2⟩⟩
theorem cI_LedgerOk {V:Know} (hV:HcI V) (c:Scs [.l,.l,.s,.l]) (x:DLedger) (f:List Nat) (h:rLedger.R V c x f):CallX Tryz.prog V 103 [qv3 c] (OkPost V (LedgerOkP x)):=by
 refine CallX.of_fits Tryz.mix (fI_LedgerOk _) fun _=>?_
 obtain⟨c0,c1,c2,c3,cu⟩:=c
 obtain⟨x0,x1,x2,x3,xu⟩:=x
 obtain⟨f0,g0,_,h0,h⟩:=h
 obtain⟨f1,g1,_,h1,h⟩:=h
 obtain⟨⟨e2,_⟩,h⟩:=h
 replace e2:c2=x2:=e2
 subst e2
 obtain⟨f3,g3,_,h3,_⟩:=h
 replace h0:LR rAcct V c0 x0 f0:=h0
 replace h1:LR rRest V c1 x1 f1:=h1
 replace h3:LR rRate V c3 x3 f3:=h3
 simp only [tI_LedgerOk,T.wp]
 refine(cI_BookOk hV c0 x0 f0 h0).mono ?_
 rintro V1 r ⟨le1,e1,rfl,he1⟩
 refine⟨nofun,e1,rfl,fun ht=>?_,fun hf=>not_ok le1 fun k=>?_⟩
 rotate_left
 ·rw [he1.2 k.1] at hf; cases hf
 refine(cI_RestsOk (hV.le le1) c1 x1 f1 (h1.le le1)).mono ?_
 rintro V2 r ⟨le2,e2,rfl,he2⟩
 have l2:=le1.trans le2
 refine⟨nofun,e2,rfl,fun ht2=>?_,fun hf=>not_ok l2 fun k=>?_⟩
 rotate_left
 ·rw [he2.2 k.2.1] at hf; cases hf
 refine(cI_RatesOk (hV.le l2) c2 c3 x3 f3 (h3.le l2)).mono ?_
 rintro V3 r ⟨le3,e3,rfl,he3⟩
 exact⟨nofun,e3,rfl,l2.trans le3,e3,rfl,⟨fun ht3=>⟨he1.1 ht,he2.1 ht2,he3.1 ht3⟩,fun k=>he3.2 k.2.2⟩⟩
end Go.Proofs.YtceoihhldnnenaaGreatDoor
namespace Go.Proofs.YtceoihhldnnenaaGreatDoor
open Sx
theorem bless_irr:∀ x:List UInt8,Op.bytesLess x x=false
 | []=>rfl
 | a :: x=>by rw [Op.bytesLess,bless_irr x]; simp
theorem bless_trans:∀ {x y z:List UInt8},Op.bytesLess x y=true→Op.bytesLess y z=true→Op.bytesLess x z=true
 | _,[],_,h,_=>by simp [Op.bytesLess] at h
 | _,_ :: _,[],_,h=>by simp [Op.bytesLess] at h
 | [],_ :: _,_ :: _,_,_=>rfl
 | a :: x,b :: y,c :: z,h,k=>by
  simp only [Op.bytesLess,Bool.or_eq_true,decide_eq_true_eq,Bool.and_eq_true,beq_iff_eq] at h k ⊢
  rcases h with h | ⟨rfl,h⟩
  ·rcases k with k | ⟨rfl,k⟩
   ·exact .inl (UInt8.lt_trans h k)
   ·exact .inl h
  ·rcases k with k | ⟨rfl,k⟩
   ·exact .inl k
   ·exact .inr ⟨rfl,bless_trans h k⟩
theorem bless_tot:∀ (x y:List UInt8),Op.bytesLess x y=true∨x=y∨Op.bytesLess y x=true
 | [],[]=>.inr (.inl rfl)
 | [],_ :: _=>.inl rfl
 | _ :: _,[]=>.inr (.inr rfl)
 | a :: x,b :: y=>by
  simp only [Op.bytesLess,Bool.or_eq_true,decide_eq_true_eq,Bool.and_eq_true,beq_iff_eq,List.cons.injEq]
  rcases UInt8.lt_or_le a b with h | h
  ·exact .inl (.inl h)
  by_cases e:a=b
  ·subst e
   rcases bless_tot x y with k | k | k
   ·exact .inl (.inr ⟨rfl,k⟩)
   ·exact .inr (.inl ⟨rfl,k⟩)
   ·exact .inr (.inr (.inr ⟨rfl,k⟩))
  ·exact .inr (.inr (.inl (UInt8.lt_of_le_of_ne h (fun q=>e q.symm))))
theorem LessP.irr {a:ByteArray}:¬ LessP a a:=fun h=>by
 unfold LessP at h
 rw [bless_irr] at h; cases h
theorem LessP.trans {a b c:ByteArray} (h:LessP a b) (k:LessP b c):LessP a c:=bless_trans h k
theorem LessP.tot {a b:ByteArray} (h:¬ LessP a b) (k:a≠b):LessP b a:=by
 rcases bless_tot a.toList b.toList with q | q | q
 ·exact absurd q h
 ·exact absurd (toList_inj.1 q) k
 ·exact q
theorem known_mem {x:ByteArray} (h:known x=true):x∈curI.map (·.1):=by
 unfold known curFrom at h
 cases hf:(curI.drop 0).find? (curHas x) with
 | none=>rw [hf] at h; cases h
 | some r =>
  have h1:=List.find?_some hf
  have e:r.1=x:=text_eq.1 h1
  rw [← e]
  exact List.mem_map_of_mem (List.mem_of_find?_eq_some hf)
theorem known_sz3 {x:ByteArray} (h:known x=true):x.size≤3:=by
 have:∀ y∈curI.map (·.1),y.size≤3:=by decide +kernel
 exact this x (known_mem h)
theorem nodup_le {β:Type} [DecidableEq β]:∀ {l m:List β},l.Nodup→(∀ x∈l,x∈m)→l.length≤m.length
 | [],_,_,_=>Nat.zero_le _
 | a :: l,m,nd,h=>by
  obtain⟨n1,n2⟩:=List.nodup_cons.1 nd
  have ha:=h a (by simp)
  have ih:=nodup_le (l:=l) (m:=m.erase a) n2 fun x hx=>(List.mem_erase_of_ne (fun e=>n1 (by rw [← e]; exact hx))).2 (h x (by simp [hx]))
  have:=List.length_erase_of_mem ha
  have hp:=List.length_pos_of_mem ha
  simp only [List.length_cons]
  omega
def Sorted {α:Type} (key:α→ByteArray) (l:List α):Prop:=∀ (i:Nat) (h:i<l.length),0<i→LessP (key (l[i-1]'(by omega))) (key l[i])
theorem Sorted.lt {α:Type} {key:α→ByteArray} {l:List α} (h:Sorted key l):∀ {i j:Nat} (hj:j<l.length) (hij:i<j),LessP (key (l[i]'(by omega))) (key l[j])
 | i,j+1,hj,hij=>by
  have h1:=h (j+1) hj (by omega)
  by_cases e:i=j
  ·subst e; exact h1
  ·exact(Sorted.lt h (i:=i) (j:=j) (by omega) (by omega)).trans h1
theorem Sorted.nodup {α:Type} {key:α→ByteArray} {l:List α} (h:Sorted key l):(l.map key).Nodup:=by
 rw [List.nodup_iff_pairwise_ne]
 rw [List.pairwise_iff_getElem]
 intro i j hi hj hij e
 simp only [List.getElem_map] at e
 have:=h.lt (i:=i) (j:=j) (by simpa using hj) hij
 rw [e] at this
 exact LessP.irr this
theorem rests_sorted {l:List DRest} (h:RestsOkP l):Sorted (·.1) l:=fun i hi h0=>by
 obtain⟨_,_,_,_,q⟩:=h i hi
 exact q h0
theorem rests_len {l:List DRest} (h:RestsOkP l):l.length≤20:=by
 have:=nodup_le (rests_sorted h).nodup (m:=curI.map (·.1)) fun x hx=>by
  obtain⟨i,hi,rfl⟩:=List.mem_iff_getElem.1 hx
  obtain⟨h1,h2,_⟩:=h i (by simpa using hi)
  simp only [List.getElem_map]
  exact known_mem h2
 have e:(curI.map (·.1)).length=20:=rfl
 simpa [e] using this
theorem totE_bound {sh:List Sc} {α:Type} {r:Rp sh α} {n:Nat}:∀ {l:List α},(∀ i (h:i<l.length),r.tot l[i]≤n)→totE r l≤l.length*n
 | [],_=>Nat.zero_le _
 | x :: l,h=>by
  have h0:r.tot x≤n:=h 0 (by simp)
  have ih:=totE_bound (r:=r) (l:=l) (n:=n) fun i hi=>by
   have:=h (i+1) (by simpa using hi)
   simpa using this
  rw [totE,List.length_cons,Nat.add_mul]
  omega
theorem int0:∀ l:List Lim,totE rI l=0
 | []=>rfl
 | _ :: l=>by rw [totE,int0 l]; rfl
theorem money_tot {x:DMoney} (h:MoneyOkP x.1 x.2.1 x.2.2.1):rMoney.tot x≤7:=by
 have e:rMoney.tot x=x.1.size+(x.2.2.1.length+totE rI x.2.2.1+0):=rfl
 rw [e,int0]
 have:=known_sz3 h.1
 have:=h.2.2
 omega
theorem rat_tot {x:DRat} (h:RatOkP x.1 x.2.1 x.2.2.1):rRat.tot x≤36:=by
 have e:rRat.tot x=x.2.1.length+totE rI x.2.1+(x.2.2.1.length+totE rI x.2.2.1+0):=rfl
 rw [e,int0,int0]
 have:=h.2.2.2.1
 have:=h.2.2.2.2.1
 omega
theorem rate_tot {x:DRate} (h:RateOkP x):rRate.tot x≤8:=by
 have e:rRate.tot x=x.1.size+(x.2.1.size+(x.2.2.2.1.length+totE rI x.2.2.2.1+0)):=rfl
 rw [e,int0]
 have:=known_sz3 h.1
 have:=known_sz3 h.2.1
 have:=h.2.2.2.2.2
 omega
theorem rates_tot {x:DRates} (h:RatesOkP x.1 x.2.1):rRates.tot x≤111:=by
 have e:rRates.tot x=x.1.size+(x.2.1.length+totE rRate x.2.1+0):=rfl
 have b:=totE_bound (r:=rRate) (n:=8) (l:=x.2.1) fun i hi=>rate_tot (h.2.2 i hi).2.1
 have:=known_sz3 h.1
 have:=h.2.1
 rw [e]
 omega
theorem book_tot {l:List DAcct} (h:BookOkP l):l.length+totE rAcct l≤240:=by
 have b:=totE_bound (r:=rAcct) (n:=19) (l:=l) fun i hi=>by
  obtain⟨_,q1,q2,_⟩:=h.2 i hi
  have e:rAcct.tot l[i]=l[i].1.size+rMoney.tot l[i].2:=rfl
  have:=money_tot (x:=l[i].2) q2
  have:=q1.2.1
  omega
 have:=h.1
 omega
theorem rests_tot {l:List DRest} (h:RestsOkP l):l.length+totE rRest l≤800:=by
 have b:=totE_bound (r:=rRest) (n:=39) (l:=l) fun i hi=>by
  obtain⟨_,q1,q2,_⟩:=h i hi
  have e:rRest.tot l[i]=l[i].1.size+rRat.tot l[i].2:=rfl
  have:=rat_tot (x:=l[i].2) q2
  have:=known_sz3 q1
  omega
 have:=rests_len h
 omega
theorem ledger_tot {x:DLedger} (h:LedgerOkP x):rLedger.tot x≤4096:=by
 have e:rLedger.tot x=x.1.length+totE rAcct x.1+(x.2.1.length+totE rRest x.2.1+rRates.tot x.2.2):=rfl
 have:=book_tot h.1
 have:=rests_tot h.2.1
 have:=rates_tot (x:=x.2.2) h.2.2
 omega
theorem ledger_elim {V:Know} {c:Scs [.l,.l,.s,.l]} {x:DLedger} {f:List Nat} (h:rLedger.R V c x f):∃ s0 s1 s3 f0 f1 f3,c=(s0,s1,x.2.2.1,s3,())∧LR rAcct V s0 x.1 f0∧LR rRest V s1 x.2.1 f1∧LR rRate V s3 x.2.2.2.1 f3:=by
 obtain⟨c0,c1,c2,c3,cu⟩:=c
 obtain⟨f0,g0,rfl,h0,f1,g1,rfl,h1,⟨e2,_⟩,f3,g3,rfl,h3,_⟩:=h
 replace e2:c2=x.2.2.1:=e2
 subst e2
 exact⟨c0,c1,c3,f0,f1,f3,rfl,h0,h1,h3⟩
end Go.Proofs.YtceoihhldnnenaaGreatDoor
namespace Go.Proofs.YtceoihhldnnenaaGreatDoor
open Sx
set_option maxRecDepth 100000
def AlikeP (x y:DMoney):Prop:=MoneyOkP x.1 x.2.1 x.2.2.1∧MoneyOkP y.1 y.2.1 y.2.2.1∧x.1=y.1
theorem cS_l09Both {V:Know} (c d:Scs [.s,.b,.l]) (x y:DMoney) (f g:List Nat) (hx:rMoney.R V c x f) (hy:rMoney.R V d y g):CallX Tryz.prog V 164 [qv2 c,qv2 d] (fun V' r=>V.le V'∧∃ e,r=.bool e∧(e=true↔AlikeP x y)):=by
 obtain⟨c0,c1,c2,cu⟩:=c
 obtain⟨d0,d1,d2,du⟩:=d
 obtain⟨x0,x1,x2,xu⟩:=x
 obtain⟨y0,y1,y2,yu⟩:=y
 obtain⟨⟨ec0,zc0⟩,hx⟩:=hx
 replace ec0:c0=x0:=ec0
 subst ec0
 replace zc0:c0.size≤9223372036854775807:=zc0
 obtain⟨ec1,hx⟩:=hx
 replace ec1:c1=x1:=ec1
 subst ec1
 obtain⟨ff2,ffr2,ec2,sc2,hx⟩:=hx
 subst ec2
 replace sc2:LR rI _ c2 x2 ff2:=sc2
 replace hx:_=[]:=hx
 subst hx
 obtain⟨⟨ed0,zd0⟩,hy⟩:=hy
 replace ed0:d0=y0:=ed0
 subst ed0
 replace zd0:d0.size≤9223372036854775807:=zd0
 obtain⟨ed1,hy⟩:=hy
 replace ed1:d1=y1:=ed1
 subst ed1
 obtain⟨gg2,ggr2,ed2,sd2,hy⟩:=hy
 subst ed2
 replace sd2:LR rI _ d2 y2 gg2:=sd2
 replace hy:_=[]:=hy
 subst hy
 refine CallX.of_fits Tryz.mix (fS_l09Both _ _) fun _=>?_
 simp only [tS_l09Both,T.wp]
 refine(cS_MoneyOk c0 c1 c2 x2 _ sc2).mono ?_
 rintro V1 r ⟨hle,e,rfl,he⟩
 refine⟨nofun,e,rfl,fun ht=>?_,fun hf=>⟨hle,false,rfl,⟨(fun h=>by cases h),(fun k=>by rw [he.2 k.1] at hf; cases hf)⟩⟩⟩
 refine(cS_MoneyOk d0 d1 d2 y2 _ (sd2.le hle)).mono ?_
 rintro V2 r ⟨hle2,e2,rfl,he2⟩
 refine⟨nofun,e2,rfl,fun ht2=>⟨hle.trans hle2,_,rfl,⟨fun hd=>⟨he.1 ht,he2.1 ht2,text_eq.1 hd⟩,fun k=>text_eq.2 k.2.2⟩⟩,fun hf=>⟨hle.trans hle2,false,rfl,⟨(fun h=>by cases h),(fun k=>by rw [he2.2 k.2.1] at hf; cases hf)⟩⟩⟩
theorem cI_alike {V:Know} (hV:hasCur V) (c d:Scs [.s,.b,.l]) (x y:DMoney) (f g:List Nat) (hx:rMoney.R V c x f) (hy:rMoney.R V d y g):CallX Tryz.prog V 319 [qv2 c,qv2 d] (fun V' r=>V.le V'∧∃ e,r=.bool e∧(e=true↔AlikeP x y)):=by
 obtain⟨c0,c1,c2,cu⟩:=c
 obtain⟨d0,d1,d2,du⟩:=d
 obtain⟨x0,x1,x2,xu⟩:=x
 obtain⟨y0,y1,y2,yu⟩:=y
 obtain⟨⟨ec0,zc0⟩,hx⟩:=hx
 replace ec0:c0=x0:=ec0
 subst ec0
 replace zc0:c0.size≤9223372036854775807:=zc0
 obtain⟨ec1,hx⟩:=hx
 replace ec1:c1=x1:=ec1
 subst ec1
 obtain⟨ff2,ffr2,ec2,sc2,hx⟩:=hx
 subst ec2
 replace sc2:LR rI _ c2 x2 ff2:=sc2
 replace hx:_=[]:=hx
 subst hx
 obtain⟨⟨ed0,zd0⟩,hy⟩:=hy
 replace ed0:d0=y0:=ed0
 subst ed0
 replace zd0:d0.size≤9223372036854775807:=zd0
 obtain⟨ed1,hy⟩:=hy
 replace ed1:d1=y1:=ed1
 subst ed1
 obtain⟨gg2,ggr2,ed2,sd2,hy⟩:=hy
 subst ed2
 replace sd2:LR rI _ d2 y2 gg2:=sd2
 replace hy:_=[]:=hy
 subst hy
 refine CallX.of_fits Tryz.mix (fI_alike _ _) fun _=>?_
 simp only [tI_alike,T.wp]
 refine(cI_MoneyOk hV c0 c1 c2 x2 _ sc2).mono ?_
 rintro V1 r ⟨hle,e,rfl,he⟩
 refine⟨nofun,e,rfl,fun ht=>?_,fun hf=>⟨hle,false,rfl,⟨(fun h=>by cases h),(fun k=>by rw [he.2 k.1] at hf; cases hf)⟩⟩⟩
 refine(cI_MoneyOk (hV.le hle) d0 d1 d2 y2 _ (sd2.le hle)).mono ?_
 rintro V2 r ⟨hle2,e2,rfl,he2⟩
 refine⟨nofun,e2,rfl,fun ht2=>⟨hle.trans hle2,_,rfl,⟨fun hd=>⟨he.1 ht,he2.1 ht2,text_eq.1 hd⟩,fun k=>text_eq.2 k.2.2⟩⟩,fun hf=>⟨hle.trans hle2,false,rfl,⟨(fun h=>by cases h),(fun k=>by rw [he2.2 k.2.1] at hf; cases hf)⟩⟩⟩
end Go.Proofs.YtceoihhldnnenaaGreatDoor
namespace Go.Proofs.YtceoihhldnnenaaGreatDoor
open Sx
set_option maxRecDepth 100000
noncomputable def theOne {α:Type} [Nonempty α] (p:α→Prop):α:=Classical.epsilon p
theorem theOne_eq {α:Type} [Nonempty α] {p:α→Prop} {x:α} (h:p x) (u:∀ y,p y→y=x):theOne p=x:=u _ (Classical.epsilon_spec (p:=p) ⟨x,h⟩)
theorem int_inj {e e':Bool} {o o':List Lim} (h:IntOkP e o) (h':IntOkP e' o') (k:sval e o=sval e' o'):e=e'∧o=o':=by
 have h0:=valN_nonneg h.1.1.1
 have h0':=valN_nonneg h'.1.1.1
 have z:∀ {e:Bool} {o:List Lim},IntOkP e o→e=true→0<valN o:=fun h k=>(can_pos h.1.1).1 (h.2 k)
 unfold sval at k
 cases e <;> cases e' <;> simp only [if_true,if_false,Bool.false_eq_true] at k
 ·exact⟨rfl,can_inj h.1.1 h'.1.1 (by omega)⟩
 ·have:=z h' rfl; omega
 ·have:=z h rfl; omega
 ·exact⟨rfl,can_inj h.1.1 h'.1.1 (by omega)⟩
abbrev nilM:DMoney:=(ByteArray.empty,false,[],())
abbrev MonP (x:DMoney):Prop:=MoneyOkP x.1 x.2.1 x.2.2.1
abbrev svM (x:DMoney):Int:=sval x.2.1 x.2.2.1
def AddP (x y:DMoney) (r:DMoney × Bool):Prop :=
 (r.2=true∧AlikeP x y∧MonP r.1∧r.1.1=x.1∧svM r.1=svM x+svM y) ∨
 (r.2=false∧r.1=nilM∧¬ (AlikeP x y∧∃ z:DMoney,MonP z∧z.1=x.1∧svM z=svM x+svM y))
theorem mon_inj {x y:DMoney} (h:MonP x) (k:MonP y) (e:x.1=y.1) (s:svM x=svM y):x=y:=by
 obtain⟨x0,x1,x2,xu⟩:=x
 obtain⟨y0,y1,y2,yu⟩:=y
 obtain⟨rfl,rfl⟩:=int_inj h.2.1 k.2.1 s
 replace e:x0=y0:=e
 subst e; rfl
theorem addP_inj {x y:DMoney} {r r':DMoney × Bool} (h:AddP x y r) (h':AddP x y r'):r'=r:=by
 obtain⟨z,ok⟩:=r
 obtain⟨z',ok'⟩:=r'
 rcases h with ⟨a,b,c,d,e⟩ | ⟨a,b,c⟩ <;> rcases h' with ⟨a',b',c',d',e'⟩ | ⟨a',b',c'⟩
 ·replace a:ok=true:=a
  replace a':ok'=true:=a'
  subst a a'
  rw [show z'=z from mon_inj c' c (d'.trans d.symm) (e'.trans e.symm)]
 ·exact absurd ⟨b,z,c,d,e⟩ c'
 ·exact absurd ⟨b',z',c',d',e'⟩ c
 ·replace a:ok=false:=a
  replace a':ok'=false:=a'
  replace b:z=nilM:=b
  replace b':z'=nilM:=b'
  subst a a' b b'; rfl
noncomputable def addM (x y:DMoney):DMoney × Bool:=theOne (AddP x y)
theorem addM_eq {x y:DMoney} {r:DMoney × Bool} (h:AddP x y r):addM x y=r:=theOne_eq h fun _ k=>addP_inj h k
def fnd (n:ByteArray):List DAcct→Option Nat
 | []=>none
 | a :: l=>if a.1=n then some 0 else (fnd n l).map (·+1)
theorem fnd_some {n:ByteArray}:∀ {l:List DAcct} {i:Nat} (h:i<l.length),l[i].1=n→(∀ (j:Nat) (hj:j<l.length),j<i→l[j].1≠n)→fnd n l=some i
 | a :: l,0,_,e,_=>by
  have e:a.1=n:=e
  rw [fnd,if_pos e]
 | a :: l,i+1,h,e,hj=>by
  have h0:a.1≠n:=hj 0 (by simp) (by omega)
  rw [fnd,if_neg h0,fnd_some (l:=l) (i:=i) (by simpa using h) (by simpa using e) fun j hj' hji=>by
   have:=hj (j+1) (by simpa using hj') (by omega)
   simpa using this]
  rfl
theorem fnd_none {n:ByteArray}:∀ {l:List DAcct},(∀ (j:Nat) (hj:j<l.length),l[j].1≠n)→fnd n l=none
 | [],_=>rfl
 | a :: l,h=>by
  have h0:a.1≠n:=h 0 (by simp)
  rw [fnd,if_neg h0,fnd_none (l:=l) fun j hj=>by
   have:=h (j+1) (by simpa using hj)
   simpa using this]
  rfl
theorem fnd_at {n:ByteArray}:∀ {l:List DAcct} {i:Nat},fnd n l=some i→∃ h:i<l.length,l[i].1=n
 | a :: l,i,h=>by
  rw [fnd] at h
  split at h
  ·rename_i e
   cases h
   exact⟨by simp,e⟩
  ·cases hf:fnd n l with
   | none=>rw [hf] at h; cases h
   | some j =>
    rw [hf] at h
    cases h
    obtain⟨h1,h2⟩:=fnd_at hf
    exact⟨by simpa using h1,by simpa using h2⟩
def atN (n:ByteArray) (l:List DAcct):Int:=match fnd n l with
 | none=>-1
 | some i=>i
theorem atN_none {n:ByteArray} {l:List DAcct} (h:fnd n l=none):atN n l=-1:=by rw [atN,h]
theorem atN_some {n:ByteArray} {l:List DAcct} {i:Nat} (h:fnd n l=some i):atN n l=i:=by rw [atN,h]
open Classical in
noncomputable def postB (l:List DAcct) (n:ByteArray) (m:DMoney):List DAcct × Bool :=
 if BookOkP l then match fnd n l with
  | none=>([],false)
  | some i=>if (addM (l.getD i (n,nilM)).2 m).2=true then (l.set i ((l.getD i (n,nilM)).1,(addM (l.getD i (n,nilM)).2 m).1),true) else ([],false)
 else ([],false)
theorem postB_no {l:List DAcct} {n:ByteArray} {m:DMoney} (h:¬ BookOkP l):postB l n m=([],false):=if_neg h
theorem postB_none {l:List DAcct} {n:ByteArray} {m:DMoney} (h:fnd n l=none):postB l n m=([],false):=by
 unfold postB
 rw [h]
 simp
theorem getD_at {l:List DAcct} {i:Nat} {d:DAcct} (h:i<l.length):l.getD i d=l[i]:=by
 rw [List.getD_eq_getElem?_getD,List.getElem?_eq_getElem h]; rfl
theorem postB_some {l:List DAcct} {n:ByteArray} {m:DMoney} {i:Nat} (h:BookOkP l) (hf:fnd n l=some i) (hi:i<l.length) {z:DMoney} {ok:Bool} (ha:addM l[i].2 m=(z,ok)) :
  postB l n m=(if ok=true then l.set i (l[i].1,z) else [],ok):=by
 unfold postB
 rw [if_pos h,hf]
 show(if (addM (l.getD i (n,nilM)).2 m).2=true then (l.set i ((l.getD i (n,nilM)).1,(addM (l.getD i (n,nilM)).2 m).1),true) else ([],false))=_
 rw [getD_at hi,ha]
 cases ok <;> rfl
noncomputable def postL:List DAcct→List DAcct→Option (List DAcct)
 | l,[]=>some l
 | l,g :: gs=>match postB l g.1 g.2 with
  | (l',true)=>postL l' gs
  | (_,false)=>none
end Go.Proofs.YtceoihhldnnenaaGreatDoor
