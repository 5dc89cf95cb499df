/-
  Slice literals as lists: of any rows, of texts, of numbers.
-/
import Derived.Test.YtpdfdkccgkieoaaGreatDoorLedA
import Derived.Test.YtpdfdkccgkieoaaGreatDoorPut
import Derived.Test.YtpdfdkccgkieoaaGreatDoorWr
import Derived.Test.YtpdfdkccgkieoaaGreatDoorRead
namespace Go.Proofs.YtpdfdkccgkieoaaGreatDoor
open Sx
set_option maxRecDepth 100000
theorem acct_size {V:Know} {s:SlV} {l:List DAcct} {f:List Nat} (h:LR rAcct V s l f) (i:Nat) (hi:i<l.length):l[i].1.size≤9223372036854775807:=by
 obtain⟨b,o,c,fc,a1,l1,hR,_⟩:=h.at hi
 exact hR.1.2
theorem cS_BookOk {V:Know} (hV:HcS V) (s:SlV) (l:List DAcct) (f:List Nat) (h:LR rAcct V s l f):CallX Tryz.prog V 96 [qv4 (s,())] (OkPost V (BookOkP l)):=by
 refine CallX.of_fits Tryz.mix (fS_BookOk _) fun _=>?_
 have hn:=h.1
 have h63:=h.2.2.1
 unfold tS_BookOk
 refine rows_wp (n:=s.n) (V:=V) (p:=AcctAtP l) (Ns:=[]) h63 ?_ ?_ ?_
 ·intro V' i N hV' hi hall hno hyes
  exact bookS_body hV h (acct_size h) hV' (by omega) hno hyes
 ·intro V' hV' hall N
  refine⟨hV',_,rfl,?_⟩
  exact⟨fun hd=>⟨by have:(s.n:Int)≤12:=of_decide_eq_true hd; omega,fun i hi=>hall i (by omega)⟩,fun k=>decide_eq_true (by have:=k.1; show(s.n:Int)≤12; omega)⟩
 ·intro V' i hV' hi hne
  exact not_ok hV' fun k=>hne (k.2 i (by omega))
theorem cI_BookOk {V:Know} (hV:HcI V) (s:SlV) (l:List DAcct) (f:List Nat) (h:LR rAcct V s l f):CallX Tryz.prog V 32 [qv4 (s,())] (OkPost V (BookOkP l)):=by
 refine CallX.of_fits Tryz.mix (fI_BookOk _) fun _=>?_
 have hn:=h.1
 have h63:=h.2.2.1
 unfold tI_BookOk
 change (decide ((s.n:Int) > 12)=true→T.wp _ _ _ _ _ _)∧(decide ((s.n:Int) > 12)=false→T.wp _ _ _ _ _ _)
 refine⟨fun h12=>not_ok (Know.le.refl _) fun k=>?_,fun h12=>?_⟩
 ·have:(s.n:Int) > 12:=of_decide_eq_true h12
  have:=k.1
  omega
 have q:¬ (s.n:Int) > 12:=of_decide_eq_false h12
 refine rows_wp (n:=s.n) (V:=V) (p:=AcctAtP l) (Ns:=[]) h63 ?_ ?_ ?_
 ·intro V' i N hV' hi hall hno hyes
  exact bookI_body hV h (acct_size h) hV' (by omega) hno hyes
 ·intro V' hV' hall N
  refine⟨hV',_,rfl,?_⟩
  exact⟨fun _=>⟨by omega,fun i hi=>hall i (by omega)⟩,fun _=>rfl⟩
 ·intro V' i hV' hi hne
  exact not_ok hV' fun k=>hne (k.2 i (by omega))
theorem restS_body {V:Know} (hV:HcS V) {s:SlV} {l:List DRest} {f:List Nat} (h:LR rRest V s l f) {K:Know→List Value→Prop} {i:Nat} {N:List LV→Know→Prop} {V':Know} (hV':V.le V') (hi:i<l.length)
  (hno:∀ V2,V'.le V2→¬ RestAtP l i→K V2 [.bool false]) (hyes:∀ V2,V'.le V2→RestAtP l i→N [.v (.int .i64 (IntKind.i64.wrap ((i:Int)+1)))] V2) :
  (T.el s.a s.n (i:Int) fun y2=>.ld false (y2.add (Int.toNat (i:Int)*(4:Nat))) (.g [.s,.b,.l,.l]) fun y3=>.rg <|
   .call true 65 [.string y3.fst] (.v (.o .b)) fun y4=>.br (!y4) (.ret [.bool false]) <|
   .call true 107 [qv5 y3.2] (.v (.o .b)) fun y5=>.br (!y5) (.ret [.bool false]) <|
   .call true 67 [qv5 y3.2] (.v (.o (.i .i64))) fun(y6:Int)=>.br (y6 == (0:Int)) (.ret [.bool false]) <|
   .br (decide ((i:Int) > (0:Int))) (
    .el s.a s.n (IntKind.i64.wrap ((i:Int)-(1:Int))) fun y6=>.ld true ((y6.add ((IntKind.i64.wrap ((i:Int)-(1:Int))).toNat*(4:Nat))).add (0:Nat)) (.o .s) fun y7 =>
    .br (!Op.bytesLess (ByteArray.toList y7) (ByteArray.toList y3.fst)) (.ret [.bool false]) <| .nx 0 [.v (.int .i64 (IntKind.i64.wrap ((i:Int)+(1:Int))))]) <|
   .nx 0 [.v (.int .i64 (IntKind.i64.wrap ((i:Int)+(1:Int))))]).wp Tryz.prog K V' V' [N]:=by
 simp only [T.wp]
 have hn:=h.1
 have hL:=h.le hV'
 obtain⟨b,o,c,fc,a1,l1,hR,_⟩:=hL.at hi
 obtain⟨c2,c3,g,g',rfl,hc2,hc3⟩:=rest_elim hR
 have e0:(i:Int).toNat=i:=by omega
 have hin:(i:Int)<(s.n:Int):=by omega
 rw [e0]
 refine⟨_,a1,by omega,hin,(l[i].1,l[i].2.1,c2,c3,()),l1,?_⟩
 refine(kS_CurKnown (hV.le hV') l[i].1).mono ?_
 rintro V1 r ⟨le1,rfl⟩
 refine⟨fun _=>le1,_,rfl,fun hf=>hno _ le1 fun k=>?_,fun ht=>?_⟩
 ·obtain⟨_,k1,_⟩:=k
  rw [k1] at hf; cases hf
 have w1:known l[i].1=true:=by simpa using ht
 refine(cS_RatOk V1 l[i].2.1 c2 c3 l[i].2.2.1 l[i].2.2.2.1 g g' (hc2.le le1) (hc3.le le1)).mono ?_
 rintro V2 r ⟨le2,e2,rfl,he2⟩
 have l2:=le1.trans le2
 refine⟨fun _=>le2,e2,rfl,fun hf=>hno _ l2 fun k=>?_,fun ht2=>?_⟩
 ·obtain⟨_,_,k1,_⟩:=k
  rw [he2.2 k1] at hf; cases hf
 have w2:=he2.1 (by simpa using ht2)
 refine(cS_RatSign V2 l[i].2.1 c2 c3 l[i].2.2.1 l[i].2.2.2.1 g g' (hc2.le l2) (hc3.le l2) w2).mono ?_
 rintro V3 r ⟨le3,rfl⟩
 have l3:=l2.trans le3
 refine⟨fun _=>le3,_,rfl,fun hf=>hno _ l3 fun k=>?_,fun ht3=>⟨fun hpos=>?_,fun hz=>?_⟩⟩
 ·obtain⟨_,_,_,k1,_⟩:=k
  exact k1 (by simpa using hf)
 ·have w3:sgn (sval l[i].2.1 l[i].2.2.1)≠0:=by simpa using ht3
  have hp:0<i:=by
   have:(i:Int) > 0:=of_decide_eq_true hpos
   omega
  have wr:IntKind.i64.wrap ((i:Int)-1)=((i-1:Nat):Int):=by
   have:=h.2.2.1
   rw [wrap_i64 (by omega)]; omega
  have e1':((i-1:Nat):Int).toNat=i-1:=by omega
  obtain⟨b2,o2,c2',f2,a2,l2',hR2,_⟩:=hL.part (show i-1<l.length by omega)
  obtain⟨_,_,_,_,rfl,_⟩:=rest_elim hR2
  rw [wr,e1']
  refine⟨_,a2,by omega,by omega,l[i-1].1,l2' 0 1 _ rfl,fun hf=>hno _ l3 fun k=>?_,fun ht3=>⟨_,rfl,hyes _ l3 ⟨hi,w1,w2,w3,fun _=>by simpa [LessP] using ht3⟩⟩⟩
  obtain⟨_,_,_,_,k1⟩:=k
  have:=k1 hp
  unfold LessP at this
  rw [this] at hf; cases hf
 ·have w3:sgn (sval l[i].2.1 l[i].2.2.1)≠0:=by simpa using ht3
  have hp:¬ 0<i:=by
   have:¬ (i:Int) > 0:=of_decide_eq_false hz
   omega
  exact⟨_,rfl,hyes _ l3 ⟨hi,w1,w2,w3,fun h=>absurd h hp⟩⟩
theorem cS_RestsOk {V:Know} (hV:HcS V) (s:SlV) (l:List DRest) (f:List Nat) (h:LR rRest V s l f):CallX Tryz.prog V 64 [Sc.val .l s] (OkPost V (RestsOkP l)):=by
 refine CallX.of_fits Tryz.mix (fS_RestsOk _) fun _=>?_
 have hn:=h.1
 have h63:=h.2.2.1
 unfold tS_RestsOk
 refine rows_wp (n:=s.n) (V:=V) (p:=RestAtP l) (Ns:=[]) h63 ?_ ?_ ?_
 ·intro V' i N hV' hi hall hno hyes
  exact restS_body hV h hV' (by omega) hno hyes
 ·intro V' hV' hall N
  exact⟨hV',_,rfl,⟨fun _ i hi=>hall i (by omega),fun _=>rfl⟩⟩
 ·intro V' i hV' hi hne
  exact not_ok hV' fun k=>hne (k i (by omega))
theorem restI_body {V:Know} (hV:HcI V) {s:SlV} {l:List DRest} {f:List Nat} (h:LR rRest V s l f) {K:Know→List Value→Prop} {i:Nat} {N:List LV→Know→Prop} {V':Know} (hV':V.le V') (hi:i<l.length)
  (hno:∀ V2,V'.le V2→¬ RestAtP l i→K V2 [.bool false]) (hyes:∀ V2,V'.le V2→RestAtP l i→N [.v (.int .i64 (IntKind.i64.wrap ((i:Int)+1)))] V2) :
  (T.el s.a s.n (i:Int) fun y2=>.ld false (y2.add (Int.toNat (i:Int)*(4:Nat))) (.g [.s,.b,.l,.l]) fun y3=>.rg <|
   .call true 14 [.string y3.fst] (.v (.o .b)) fun y4=>.br (!y4) (.ret [.bool false]) <|
   .call true 75 [qv5 y3.2] (.v (.o .b)) fun y5=>.br (!y5) (.ret [.bool false]) <|
   .call true 76 [qv5 y3.2] (.v (.o (.i .i64))) fun(y6:Int)=>.br (y6 == (0:Int)) (.ret [.bool false]) <|
   .br (decide ((i:Int) > (0:Int))) (
    .el s.a s.n (IntKind.i64.wrap ((i:Int)-(1:Int))) fun y6=>.ld true ((y6.add ((IntKind.i64.wrap ((i:Int)-(1:Int))).toNat*(4:Nat))).add (0:Nat)) (.o .s) fun y7 =>
    .br (!Op.bytesLess (ByteArray.toList y7) (ByteArray.toList y3.fst)) (.ret [.bool false]) <| .nx 0 [.v (.int .i64 (IntKind.i64.wrap ((i:Int)+(1:Int))))]) <|
   .nx 0 [.v (.int .i64 (IntKind.i64.wrap ((i:Int)+(1:Int))))]).wp Tryz.prog K V' V' [N]:=by
 simp only [T.wp]
 have hn:=h.1
 have hL:=h.le hV'
 obtain⟨b,o,c,fc,a1,l1,hR,_⟩:=hL.at hi
 obtain⟨c2,c3,g,g',rfl,hc2,hc3⟩:=rest_elim hR
 have e0:(i:Int).toNat=i:=by omega
 have hin:(i:Int)<(s.n:Int):=by omega
 rw [e0]
 refine⟨_,a1,by omega,hin,(l[i].1,l[i].2.1,c2,c3,()),l1,?_⟩
 refine(kI_CurKnown (hV.le hV') l[i].1).mono ?_
 rintro V1 r ⟨le1,rfl⟩
 refine⟨fun _=>le1,_,rfl,fun hf=>hno _ le1 fun k=>?_,fun ht=>?_⟩
 ·obtain⟨_,k1,_⟩:=k
  rw [k1] at hf; cases hf
 have w1:known l[i].1=true:=by simpa using ht
 refine(cI_RatOk V1 l[i].2.1 c2 c3 l[i].2.2.1 l[i].2.2.2.1 g g' (hc2.le le1) (hc3.le le1)).mono ?_
 rintro V2 r ⟨le2,e2,rfl,he2⟩
 have l2:=le1.trans le2
 refine⟨fun _=>le2,e2,rfl,fun hf=>hno _ l2 fun k=>?_,fun ht2=>?_⟩
 ·obtain⟨_,_,k1,_⟩:=k
  rw [he2.2 k1] at hf; cases hf
 have w2:=he2.1 (by simpa using ht2)
 refine(cI_RatSign V2 l[i].2.1 c2 c3 l[i].2.2.1 l[i].2.2.2.1 g g' (hc2.le l2) (hc3.le l2) w2).mono ?_
 rintro V3 r ⟨le3,rfl⟩
 have l3:=l2.trans le3
 refine⟨fun _=>le3,_,rfl,fun hf=>hno _ l3 fun k=>?_,fun ht3=>⟨fun hpos=>?_,fun hz=>?_⟩⟩
 ·obtain⟨_,_,_,k1,_⟩:=k
  exact k1 (by simpa using hf)
 ·have w3:sgn (sval l[i].2.1 l[i].2.2.1)≠0:=by simpa using ht3
  have hp:0<i:=by
   have:(i:Int) > 0:=of_decide_eq_true hpos
   omega
  have wr:IntKind.i64.wrap ((i:Int)-1)=((i-1:Nat):Int):=by
   have:=h.2.2.1
   rw [wrap_i64 (by omega)]; omega
  have e1':((i-1:Nat):Int).toNat=i-1:=by omega
  obtain⟨b2,o2,c2',f2,a2,l2',hR2,_⟩:=hL.part (show i-1<l.length by omega)
  obtain⟨_,_,_,_,rfl,_⟩:=rest_elim hR2
  rw [wr,e1']
  refine⟨_,a2,by omega,by omega,l[i-1].1,l2' 0 1 _ rfl,fun hf=>hno _ l3 fun k=>?_,fun ht3=>⟨_,rfl,hyes _ l3 ⟨hi,w1,w2,w3,fun _=>by simpa [LessP] using ht3⟩⟩⟩
  obtain⟨_,_,_,_,k1⟩:=k
  have:=k1 hp
  unfold LessP at this
  rw [this] at hf; cases hf
 ·have w3:sgn (sval l[i].2.1 l[i].2.2.1)≠0:=by simpa using ht3
  have hp:¬ 0<i:=by
   have:¬ (i:Int) > 0:=of_decide_eq_false hz
   omega
  exact⟨_,rfl,hyes _ l3 ⟨hi,w1,w2,w3,fun h=>absurd h hp⟩⟩
theorem cI_RestsOk {V:Know} (hV:HcI V) (s:SlV) (l:List DRest) (f:List Nat) (h:LR rRest V s l f):CallX Tryz.prog V 33 [Sc.val .l s] (OkPost V (RestsOkP l)):=by
 refine CallX.of_fits Tryz.mix (fI_RestsOk _) fun _=>?_
 have hn:=h.1
 have h63:=h.2.2.1
 unfold tI_RestsOk
 refine rows_wp (n:=s.n) (V:=V) (p:=RestAtP l) (Ns:=[]) h63 ?_ ?_ ?_
 ·intro V' i N hV' hi hall hno hyes
  exact restI_body hV h hV' (by omega) hno hyes
 ·intro V' hV' hall N
  exact⟨hV',_,rfl,⟨fun _ i hi=>hall i (by omega),fun _=>rfl⟩⟩
 ·intro V' i hV' hi hne
  exact not_ok hV' fun k=>hne (k i (by omega))
theorem rkey_eq {r:DRate} {a b:ByteArray}:rkey r=(a,b)↔r.1=a∧r.2.1=b:=by
 unfold rkey
 rw [Prod.mk.injEq]
theorem cS_l10AtX (V:Know) (s:SlV) (l:List DRate) (f:List Nat) (h:LR rRate V s l f) (a b:ByteArray):CallX Tryz.prog V 105 [Sc.val .l s,.string a,.string b]
  (fun V' r=>V'=V∧∃ k:Int,r=.int .i64 k∧((∃ (i:Nat) (hi:i<l.length),k=(i:Int)∧rkey l[i]=(a,b)∧∀ (j:Nat) (hj:j<l.length),j<i→rkey l[j]≠(a,b))∨(k=-1∧∀ (j:Nat) (hj:j<l.length),rkey l[j]≠(a,b)))):=by
 refine CallX.of_fits Tryz.mix (fS_l10At _ _ _) fun _=>?_
 have hn:=h.1
 have h63:=h.2.2.1
 simp only [tS_l10At,T.wp]
 refine⟨fun y V'=>V'=V∧∃ i:Nat,y.1=(i:Int)∧i≤l.length∧∀ (j:Nat) (hj:j<l.length),j<i→rkey l[j]≠(a,b),fun y=>((l.length:Int)-(y.1:Int)).toNat,⟨((0:Int),()),rfl,rfl,0,rfl,by omega,fun j _ h=>by omega⟩,?_⟩
 rintro⟨(i:Int),u⟩ V' ⟨rfl,k,hk,hkle,hall⟩
 replace hk:i=(k:Int):=hk
 subst hk
 refine⟨fun hlt=>?_,fun hge=>?_⟩
 ·have hkl:k<l.length:=by
   have:(k:Int)<(s.n:Int):=of_decide_eq_true hlt
   omega
  obtain⟨b1,o1,c1,fc,a1,l1,hR,_⟩:=h.at hkl
  obtain⟨c3,g,rfl,_⟩:=rate_elim hR
  have e0:(k:Int).toNat=k:=by omega
  dsimp only
  rw [e0]
  have next:rkey l[k]≠(a,b)→∃ y':LShs [.o (.o (.i .i64))],[LV.v (.int .i64 (IntKind.i64.wrap ((k:Int)+1)))]=LShs.lvs _ y'∧(V'=V'∧∃ i:Nat,y'.1=(i:Int)∧i≤l.length∧∀ (j:Nat) (hj:j<l.length),j<i→rkey l[j]≠(a,b))∧((l.length:Int)-(y'.1:Int)).toNat<((l.length:Int)-(k:Int)).toNat:=by
   intro hp
   refine⟨(((k+1:Nat):Int),()),by rw [nxt hkl (by omega)]; rfl,⟨rfl,k+1,rfl,hkl,fun j hj h2=>?_⟩,?_⟩
   ·by_cases e:j=k
    ·subst e; exact hp
    ·exact hall j hj (by omega)
   ·show((l.length:Int)-((k+1:Nat):Int)).toNat<((l.length:Int)-(k:Int)).toNat
    omega
  refine⟨_,a1,by omega,by omega,(l[k].1,l[k].2.1,l[k].2.2.1,c3,l[k].2.2.2.2.1,()),l1,fun h1=>⟨fun h2=>?_,fun h2=>⟨_,rfl,next fun e=>?_⟩⟩,fun h1=>⟨_,rfl,next fun e=>?_⟩⟩
  ·have hkey:rkey l[k]=(a,b):=rkey_eq.2 ⟨text_eq.1 h1,text_eq.1 h2⟩
   exact⟨rfl,(k:Int),rfl,.inl ⟨k,hkl,rfl,hkey,hall⟩⟩
  ·have:=text_eq.2 (rkey_eq.1 e).2
   rw [this] at h2; cases h2
  ·have:=text_eq.2 (rkey_eq.1 e).1
   rw [this] at h1; cases h1
 ·have hkl:k=l.length:=by
   have:¬ (k:Int)<(s.n:Int):=of_decide_eq_false hge
   omega
  subst hkl
  exact⟨rfl,-1,rfl,.inr ⟨rfl,fun j hj=>hall j hj hj⟩⟩
theorem cS_l10At (V:Know) (s:SlV) (l:List DRate) (f:List Nat) (h:LR rRate V s l f) (a b:ByteArray):CallX Tryz.prog V 105 [Sc.val .l s,.string a,.string b]
  (fun V' r=>V'=V∧∃ k:Int,r=.int .i64 k∧∀ i (hi:i<l.length),rkey l[i]=(a,b)→(k=(i:Int)↔∀ (j:Nat) (hj:j<l.length),j<i→rkey l[j]≠(a,b))):=by
 refine(cS_l10AtX V s l f h a b).mono ?_
 rintro V' r ⟨rfl,k,rfl,hk⟩
 refine⟨rfl,k,rfl,fun i hi hki=>?_⟩
 rcases hk with ⟨i0,h0,rfl,hk0,hf⟩ | ⟨rfl,hn⟩
 ·constructor
  ·intro e j hj hji
   exact hf j hj (by omega)
  ·intro hno
   by_cases c1:i0<i
   ·exact absurd hk0 (hno i0 h0 c1)
   ·by_cases c2:i<i0
    ·exact absurd hki (hf i hi c2)
    ·omega
 ·exact absurd hki (hn i hi)
theorem cS_RatesOk {V:Know} (p:ByteArray) (s:SlV) (l:List DRate) (f:List Nat) (h:LR rRate V s l f):CallX Tryz.prog V 102 [qv7 (p,s,())] (OkPost V (RatesOkP p l)):=by
 refine CallX.of_fits Tryz.mix (fS_RatesOk _) fun _=>?_
 have hn:=h.1
 have h63:=h.2.2.1
 simp only [tS_RatesOk,T.wp]
 refine(cS_CurKnown V p).mono ?_
 rintro V1 r ⟨le1,rfl⟩
 refine⟨nofun,_,rfl,fun hf=>not_ok le1 fun k=>?_,fun ht=>⟨fun h12=>not_ok le1 fun k=>?_,fun h12=>?_⟩⟩
 ·rw [k.1] at hf; cases hf
 ·have:(s.n:Int) > 12:=of_decide_eq_true h12
  have:=k.2.1
  omega
 have q1:known p=true:=by simpa using ht
 have q2:¬ (s.n:Int) > 12:=of_decide_eq_false h12
 refine⟨fun y V'=>V.le V'∧∃ i:Nat,y.1=(i:Int)∧i≤l.length∧∀ j,j<i→RateAtP l j,fun y=>((l.length:Int)-(y.1:Int)).toNat,⟨((0:Int),()),rfl,le1,0,rfl,by omega,fun j h=>by omega⟩,?_⟩
 rintro⟨(i:Int),u⟩ V' ⟨hle,k,hk,hkle,hall⟩
 replace hk:i=(k:Int):=hk
 subst hk
 refine⟨fun hlt=>?_,fun hge=>?_⟩
 ·have hkl:k<l.length:=by
   have:(k:Int)<(s.n:Int):=of_decide_eq_true hlt
   omega
  obtain⟨b1,o1,c1,fc,a1,l1,hR,_⟩:=(h.le hle).at hkl
  obtain⟨c3,g,rfl,hc3⟩:=rate_elim hR
  have e0:(k:Int).toNat=k:=by omega
  dsimp only
  rw [e0]
  refine⟨_,a1,by omega,by omega,(l[k].1,l[k].2.1,l[k].2.2.1,c3,l[k].2.2.2.2.1,()),l1,?_⟩
  refine(cS_RateOk (V:=V') trivial l[k] c3 g hc3).mono ?_
  rintro V2 r ⟨le2,e2,rfl,he2⟩
  have l2:=hle.trans le2
  refine⟨nofun,e2,rfl,fun hf=>not_ok l2 fun kk=>?_,fun ht2=>?_⟩
  ·obtain⟨_,k1,_⟩:=kk.2.2 k hkl
   rw [he2.2 k1] at hf; cases hf
  have w2:=he2.1 (by simpa using ht2)
  refine(cS_l10At V2 s l f (h.le l2) l[k].1 l[k].2.1).mono ?_
  rintro V3 r ⟨rfl,x,rfl,hx⟩
  have hx:=hx k hkl rfl
  refine⟨nofun,x,rfl,fun hf=>not_ok l2 fun kk=>?_,fun ht3=>?_⟩
  ·obtain⟨_,_,k2⟩:=kk.2.2 k hkl
   have:x=(k:Int):=hx.2 k2
   simp [this] at hf
  ·have e:x=(k:Int):=by simpa using ht3
   refine⟨_,rfl,(((k+1:Nat):Int),()),by rw [nxt hkl (by omega)]; rfl,⟨l2,k+1,rfl,hkl,fun j hj=>?_⟩,?_⟩
   ·by_cases ej:j=k
    ·subst ej; exact⟨hkl,w2,hx.1 e⟩
    ·exact hall j (by omega)
   ·show((l.length:Int)-((k+1:Nat):Int)).toNat<((l.length:Int)-(k:Int)).toNat
    omega
 ·have hkl:k=l.length:=by
   have:¬ (k:Int)<(s.n:Int):=of_decide_eq_false hge
   omega
  subst hkl
  exact⟨hle,true,rfl,⟨fun _=>⟨q1,by omega,hall⟩,fun _=>rfl⟩⟩
theorem pairTy:PairTy Tryz.prog 143 9 :=
 ⟨by kernel_rfl,by kernel_rfl,by kernel_rfl,⟨of_decide_eq_true (by kernel_rfl),of_decide_eq_true (by kernel_rfl)⟩,⟨by kernel_rfl,by kernel_rfl⟩,⟨by kernel_rfl,by kernel_rfl⟩,by kernel_rfl⟩
theorem bool_zero (w:World):(zeroValue 4).run Tryz.prog w=.ok (.bool false) w:=prun_run (by kernel_rfl) w
theorem keys_mem {l:List DRate} {i:Nat} (hi:i<l.length):rkey l[i] ∉ (l.take i).map rkey↔∀ (j:Nat) (hj:j<l.length),j<i→rkey l[j]≠rkey l[i]:=by
 constructor
 ·intro h j hj hji e
  refine h (List.mem_map.2 ⟨l[j],?_,e⟩)
  exact List.mem_take_iff_getElem.2 ⟨j,by omega,rfl⟩
 ·intro h hm
  obtain⟨r,hr,e⟩:=List.mem_map.1 hm
  obtain⟨j,hj,rfl⟩:=List.mem_take_iff_getElem.1 hr
  exact h j (by omega) (by omega) e
theorem cI_RatesOk {V:Know} (hV:HcI V) (p:ByteArray) (s:SlV) (l:List DRate) (f:List Nat) (h:LR rRate V s l f):CallX Tryz.prog V 34 [qv7 (p,s,())] (OkPost V (RatesOkP p l)):=by
 refine CallX.of_fits Tryz.mix (fI_RatesOk _) fun _=>?_
 have hn:=h.1
 have h63:=h.2.2.1
 simp only [tI_RatesOk,T.wp]
 refine(kI_CurKnown hV p).mono ?_
 rintro V1 r ⟨le1,rfl⟩
 refine⟨nofun,_,rfl,fun hf=>not_ok le1 fun k=>?_,fun ht=>⟨fun h12=>not_ok le1 fun k=>?_,fun h12=>?_⟩⟩
 ·rw [k.1] at hf; cases hf
 ·have:(s.n:Int) > 12:=of_decide_eq_true h12
  have:=k.2.1
  omega
 have q1:known p=true:=by simpa using ht
 have q2:¬ (s.n:Int) > 12:=of_decide_eq_false h12
 refine semx_mk.mono ?_
 rintro V2 r ⟨m,hm,rfl,rfl⟩
 have hm0:V m=none:=none_le le1 hm
 refine⟨⟨.map (some m),rfl⟩,rfl,?_⟩
 refine⟨fun y V'=>V.le V'∧∃ i:Nat,y.1=(i:Int)∧i≤l.length∧V' m=some (mapC (pairEs 0 ((l.take i).map rkey)),(((l.take i).map rkey).length,(1,0)))∧∀ j,j<i→RateAtP l j,fun y=>((l.length:Int)-(y.1:Int)).toNat,
  ⟨((0:Int),()),rfl,le1.trans (kset_le hm),0,rfl,by omega,kset_same,fun j h=>by omega⟩,?_⟩
 rintro⟨(i:Int),u⟩ V' ⟨hle,k,hk,hkle,hmap,hall⟩
 replace hk:i=(k:Int):=hk
 subst hk
 refine⟨fun hlt=>?_,fun hge=>?_⟩
 ·have hkl:k<l.length:=by
   have:(k:Int)<(s.n:Int):=of_decide_eq_true hlt
   omega
  obtain⟨b1,o1,c1,fc,a1,l1,hR,_⟩:=(h.le hle).at hkl
  obtain⟨c3,g,rfl,hc3⟩:=rate_elim hR
  have e0:(k:Int).toNat=k:=by omega
  dsimp only
  rw [e0]
  refine⟨_,a1,by omega,by omega,(l[k].1,l[k].2.1,l[k].2.2.1,c3,l[k].2.2.2.2.1,()),l1,?_⟩
  refine(cI_RateOk (V:=V') (hV.le hle) l[k] c3 g hc3).mono ?_
  rintro V3 r ⟨le2,e2,rfl,he2⟩
  have l2:=hle.trans le2
  refine⟨nofun,e2,rfl,fun hf=>not_ok l2 fun kk=>?_,fun ht2=>?_⟩
  ·obtain⟨_,k1,_⟩:=kk.2.2 k hkl
   rw [he2.2 k1] at hf; cases hf
  have w2:=he2.1 (by simpa using ht2)
  have hmap3:=le2 _ _ hmap
  refine(semx_lkPair (E:=4) (show Tryz.prog.underlying 141=some (.map 143 4) by kernel_rfl) bool_zero pairTy hmap3 (rkey l[k])).mono ?_
  rintro V4 r ⟨rfl,e3,rfl,he3⟩
  refine⟨e3,rfl,fun hf=>not_ok l2 fun kk=>?_,fun ht3=>?_⟩
  ·obtain⟨_,_,k2⟩:=kk.2.2 k hkl
   exact(keys_mem hkl).2 k2 (he3.1 hf)
  have hnk:rkey l[k] ∉ (l.take k).map rkey:=fun hm=>by rw [he3.2 hm] at ht3; cases ht3
  refine(semx_upPair (E:=4) (show Tryz.prog.underlying 141=some (.map 143 4) by kernel_rfl) pairTy hmap3 (rkey l[k]) hnk).mono ?_
  rintro V5 r ⟨rfl,rfl⟩
  refine⟨(),rfl,_,rfl,(((k+1:Nat):Int),()),by rw [nxt hkl (by omega)]; rfl,⟨?_,k+1,rfl,hkl,?_,fun j hj=>?_⟩,?_⟩
  ·intro b x hb
   rw [kset_other (fun e=>by rw [e,hm0] at hb; cases hb)]
   exact l2 b x hb
  ·rw [kset_same,List.take_succ_eq_append_getElem hkl,List.map_append]
   rfl
  ·by_cases ej:j=k
   ·subst ej; exact⟨hkl,w2,(keys_mem hkl).1 hnk⟩
   ·exact hall j (by omega)
  ·show((l.length:Int)-((k+1:Nat):Int)).toNat<((l.length:Int)-(k:Int)).toNat
   omega
 ·have hkl:k=l.length:=by
   have:¬ (k:Int)<(s.n:Int):=of_decide_eq_false hge
   omega
  subst hkl
  exact⟨hle,true,rfl,⟨fun _=>⟨q1,by omega,hall⟩,fun _=>rfl⟩⟩
theorem cI_LedgerOk {V:Know} (hV:HcI V) (c:Scs [.l,.l,.s,.l]) (x:DLedger) (f:List Nat) (h:rLedger.R V c x f):CallX Tryz.prog V 12 [qv0 c] (OkPost V (LedgerOkP x)):=by
 refine CallX.of_fits Tryz.mix (fI_LedgerOk _) fun _=>?_
 obtain⟨c0,c1,c2,c3,cu⟩:=c
 obtain⟨x0,x1,x2,x3,xu⟩:=x
 obtain⟨f0,g0,_,h0,h⟩:=h
 obtain⟨f1,g1,_,h1,h⟩:=h
 obtain⟨⟨e2,_⟩,h⟩:=h
 replace e2:c2=x2:=e2
 subst e2
 obtain⟨f3,g3,_,h3,_⟩:=h
 replace h0:LR rAcct V c0 x0 f0:=h0
 replace h1:LR rRest V c1 x1 f1:=h1
 replace h3:LR rRate V c3 x3 f3:=h3
 simp only [tI_LedgerOk,T.wp]
 refine(cI_BookOk hV c0 x0 f0 h0).mono ?_
 rintro V1 r ⟨le1,e1,rfl,he1⟩
 refine⟨nofun,e1,rfl,fun ht=>?_,fun hf=>not_ok le1 fun k=>?_⟩
 rotate_left
 ·rw [he1.2 k.1] at hf; cases hf
 refine(cI_RestsOk (hV.le le1) c1 x1 f1 (h1.le le1)).mono ?_
 rintro V2 r ⟨le2,e2,rfl,he2⟩
 have l2:=le1.trans le2
 refine⟨nofun,e2,rfl,fun ht2=>?_,fun hf=>not_ok l2 fun k=>?_⟩
 rotate_left
 ·rw [he2.2 k.2.1] at hf; cases hf
 refine(cI_RatesOk (hV.le l2) c2 c3 x3 f3 (h3.le l2)).mono ?_
 rintro V3 r ⟨le3,e3,rfl,he3⟩
 exact⟨nofun,e3,rfl,l2.trans le3,e3,rfl,⟨fun ht3=>⟨he1.1 ht,he2.1 ht2,he3.1 ht3⟩,fun k=>he3.2 k.2.2⟩⟩
end Go.Proofs.YtpdfdkccgkieoaaGreatDoor
namespace Go.Proofs.YtpdfdkccgkieoaaGreatDoor
open Sx
set_option maxRecDepth 100000
theorem rates_elim {V:Know} {c:Scs [.s,.l]} {x:DRates} {f:List Nat} (h:rRates.R V c x f):∃ s g,c=(x.1,s,())∧LR rRate V s x.2.1 g:=by
 obtain⟨c0,c1,cu⟩:=c
 obtain⟨⟨e0,_⟩,g,r,rfl,hs,_⟩:=h
 replace e0:c0=x.1:=e0
 subst e0
 exact⟨c1,g,rfl,hs⟩
theorem kS_l10Rate (V:Know) (c:Scs [.s,.s,.b,.l,.i .i64]) (x:DRate) (f:List Nat) (h:rRate.R V c x f) (ok:RateOkP x) :
  CallX Tryz.prog V 106 [qv6 c] (fun V' r=>V.le V'∧∃ c' f',r=qv6 c'∧rRate.R V' c' x f'∧Own V V' f'):=by
 obtain⟨c0,c1,c2,c3,c4,cu⟩:=c
 obtain⟨x0,x1,x2,x3,x4,xu⟩:=x
 obtain⟨⟨e0,z0⟩,h⟩:=h
 replace e0:c0=x0:=e0
 subst e0
 obtain⟨⟨e1,z1⟩,h⟩:=h
 replace e1:c1=x1:=e1
 subst e1
 obtain⟨e2,h⟩:=h
 replace e2:c2=x2:=e2
 subst e2
 obtain⟨g,g2,_,hs,h⟩:=h
 replace hs:LR rI V c3 x3 g:=hs
 obtain⟨e4,_⟩:=h
 replace e4:c4=x4:=e4
 subst e4
 have oi:IntOkP c2 x3:=ok.2.2.2.1.1
 refine CallX.of_fits Tryz.mix (fS_l10Rate _) fun _=>?_
 simp only [tS_l10Rate,T.wp]
 refine(cS_l04Make V c2 c3 x3 g hs oi.1.1 oi.1.2).mono ?_
 rintro V1 _ ⟨le1,s1,f1,rfl,L1,O1⟩
 refine⟨fun _=>le1,_,rfl,le1,(c0,c1,c2,s1,c4,()),_,?_,rStr.mk z0 (rStr.mk z1 (rBool.mk (rSl.mk L1 (rInt.mk rNil.mk)))),by simpa using O1⟩
 have:(c2 && decide (0<x3.length))=c2:=by
  cases c2
  ·rfl
  ·have:=oi.2 rfl
   simpa using this
 show qv6 (c0,c1,(c2 && decide (0<x3.length)),s1,c4,())=_
 rw [this]
theorem growS_rates (V:Know) (c:Scs [.s,.l]) (x:DRates) (f:List Nat) (hx:rRates.R V c x f) (ht:rRates.tot x≤1048576) (ok:∀ i (h:i<x.2.1.length),RateOkP x.2.1[i]):CallX Tryz.prog V 104 [qv7 c] (GrowPost V x):=by
 obtain⟨p0,s,cu⟩:=c
 obtain⟨q0,l,xu⟩:=x
 obtain⟨⟨ep,zp⟩,hx⟩:=hx
 replace ep:p0=q0:=ep
 subst ep
 obtain⟨f1,fr1,ef,sc,hx⟩:=hx
 subst ef
 replace sc:LR rRate _ s l f1:=sc
 replace hx:_=[]:=hx
 subst hx
 replace ht:(p0.size+(l.length+totE rRate l+0))≤1048576:=ht
 have hn:=sc.1
 refine CallX.of_fits Tryz.mix (fS_l10Copy _) fun _=>?_
 simp only [tS_l10Copy,ap_d,T.wp]
 refine⟨fun y V'=>y.2.1=p0∧CopyI rRate rateTy V l y.1 y.2.2.1 V',fun y _=>((l.length:Int)-(y.1:Int)).toNat,⟨((0:Int),p0,⟨none,0,0⟩,()),rfl,rfl,CopyI.start⟩,?_⟩
 rintro⟨(i:Int),p1,s1,u⟩ V' ⟨hp,hI⟩
 replace hp:p1=p0:=hp
 subst hp
 have hI':CopyI rRate rateTy V l i s1 V':=hI
 refine⟨fun hlt=>?_,fun hge=>?_⟩
 ·have hI0:=hI'
  obtain⟨hle,k,f0,rfl,hk,_,_⟩:=hI'
  have h1:k<l.length:=by
   have:(k:Int)<(s.n:Int):=by simpa using hlt
   omega
  obtain⟨b1,o1,c1,fc,a1,l1,r1,_⟩:=(sc.le hle).at h1
  have htx:=totE_mem rRate h1
  refine⟨_,a1,(by omega:(0:Int)≤(k:Int)),(by omega:(k:Int)<(s.n:Int)),c1,l1,?_⟩
  refine(kS_l10Rate V' c1 l[k] fc r1 (ok k h1)).mono ?_
  rintro V2 r ⟨hle2,⟨c2,c3,c4,c5,c6,cv⟩,f2,rfl,hR,hO⟩
  refine⟨fun _=>hle2,(c2,c3,c4,c5,c6,()),rfl,rfl,rfl,?_⟩
  refine copy_end (sh:=[.s,.s,.b,.l,.i .i64]) (c:=(c2,c3,c4,c5,c6,())) hI0 h1 hle2 (e:=rRate) (bytes:=72) (fx:=f2) hR hO (by kernel_rfl) (by omega) (by omega) fun s' V3 h3=>?_
  refine⟨_,rfl,(((k+1:Nat):Int),p1,s',()),by rw [nxt h1 (by omega)]; rfl,⟨rfl,h3⟩,?_⟩
  show((l.length:Int)-((k+1:Nat):Int)).toNat<((l.length:Int)-(k:Int)).toNat
  omega
 ·have hi:¬ i<(l.length:Int):=by
   have:¬ i<(s.n:Int):=by simpa using hge
   omega
  obtain⟨hle,f3,hL,hO⟩:=hI'.finG hi
  exact⟨hle,s1,f3,rfl,hL,hO⟩
def putR (r:DRate):List DRate→List DRate
 | []=>[r]
 | x :: l=>if rkey x=rkey r then r :: l else x :: putR r l
theorem putR_at {r:DRate}:∀ {l:List DRate} {i:Nat} (h:i<l.length),rkey l[i]=rkey r→(∀ (j:Nat) (hj:j<l.length),j<i→rkey l[j]≠rkey r)→putR r l=l.set i r
 | x :: l,0,_,e,_=>by
  have e:rkey x=rkey r:=e
  rw [putR,if_pos e,List.set_cons_zero]
 | x :: l,i+1,h,e,hj=>by
  have h0:rkey x≠rkey r:=hj 0 (by simp) (by omega)
  rw [putR,if_neg h0,List.set_cons_succ,putR_at (l:=l) (i:=i) (by simpa using h) (by simpa using e) fun j hj' hji=>by
   have:=hj (j+1) (by simpa using hj') (by omega)
   simpa using this]
theorem putR_none {r:DRate}:∀ {l:List DRate},(∀ (j:Nat) (hj:j<l.length),rkey l[j]≠rkey r)→putR r l=l++[r]
 | [],_=>rfl
 | x :: l,h=>by
  have h0:rkey x≠rkey r:=h 0 (by simp)
  rw [putR,if_neg h0,putR_none (l:=l) fun j hj=>by
   have:=h (j+1) (by simpa using hj)
   simpa using this]
  rfl
theorem ratesOk_set {p:ByteArray} {l:List DRate} {r:DRate} (h:RatesOkP p l) (hr:RateOkP r) {i:Nat} (hi:i<l.length) (e:rkey l[i]=rkey r):RatesOkP p (l.set i r):=by
 have hk:∀ (j:Nat) (hj:j<(l.set i r).length),rkey (l.set i r)[j]=rkey (l[j]'(by simpa using hj)):=fun j hj=>by
  rw [List.getElem_set]
  split
  ·rename_i ij; subst ij; exact e.symm
  ·rfl
 refine⟨h.1,by rw [List.length_set]; exact h.2.1,fun j hj=>?_⟩
 obtain⟨q0,q1,q2⟩:=h.2.2 j (by simpa using hj)
 refine⟨hj,?_,fun m hm hmj=>by rw [hk,hk]; exact q2 m (by simpa using hm) hmj⟩
 rw [List.getElem_set]
 split
 ·exact hr
 ·exact q1
theorem ratesOk_snoc {p:ByteArray} {l:List DRate} {r:DRate} (h:RatesOkP p l) (hr:RateOkP r) (hn:∀ (j:Nat) (hj:j<l.length),rkey l[j]≠rkey r):RatesOkP p (l++[r])↔l.length+1≤12:=by
 refine⟨fun k=>by simpa using k.2.1,fun k=>⟨h.1,by simpa using k,fun j hj=>?_⟩⟩
 by_cases c:j<l.length
 ·obtain⟨q0,q1,q2⟩:=h.2.2 j c
  refine⟨hj,by rw [List.getElem_append_left c]; exact q1,fun m hm hmj=>?_⟩
  rw [List.getElem_append_left c,List.getElem_append_left (by omega)]
  exact q2 m (by omega) hmj
 ·obtain rfl:j=l.length:=by simp at hj; omega
  refine⟨hj,by simpa using hr,fun m hm hmj=>?_⟩
  rw [List.getElem_append_left hmj]
  simpa using hn m hmj
def PutOk (p:ByteArray) (l:List DRate) (r:DRate):Prop:=RatesOkP p l∧RateOkP r∧(putR r l).length≤12
open Classical in
noncomputable def putP (x:DRates) (r:DRate):DRates × Bool:=if PutOk x.1 x.2.1 r then ((x.1,putR r x.2.1,()),true) else ((ByteArray.empty,[],()),false)
theorem putP_ok {x:DRates} {r:DRate} (h:PutOk x.1 x.2.1 r):putP x r=((x.1,putR r x.2.1,()),true):=if_pos h
theorem putP_no {x:DRates} {r:DRate} (h:¬ PutOk x.1 x.2.1 r):putP x r=((ByteArray.empty,[],()),false):=if_neg h
abbrev PutPost (V:Know) (y:DRates × Bool):Know→Value→Prop:=fun V' v=>V.le V'∧∃ c f,v=.tuple #[qv7 c,.bool y.2]∧rRates.R V' c y.1 f∧Own V V' f
theorem rates_nil (V:Know):rRates.R V (ByteArray.empty,⟨none,0,0⟩,()) (ByteArray.empty,[],()) []:=rStr.mk (by decide) (rSl.mk (f:=[]) ⟨rfl,Nat.le_refl _,by decide,.inl ⟨rfl,fun _=>rfl,rfl⟩⟩ rNil.mk)
theorem put_no {V V':Know} {x:DRates} {r:DRate} (le:V.le V') (h:¬ PutOk x.1 x.2.1 r):PutPost V (putP x r) V' (packed [qv7 (ByteArray.empty,⟨none,0,0⟩,()),.bool false]):=by
 rw [putP_no h]
 exact⟨le,(ByteArray.empty,⟨none,0,0⟩,()),[],rfl,rates_nil V',Own.nil⟩
theorem rate_cell {V:Know} {c:Scs [.s,.s,.b,.l,.i .i64]} {x:DRate} {f:List Nat} (h:rRate.R V c x f):c.1=x.1∧c.2.1=x.2.1:=⟨h.1.1,h.2.1.1⟩
theorem cS_RatePut {V:Know} (hV:HcS V) (c:Scs [.s,.l]) (x:DRates) (f:List Nat) (h:rRates.R V c x f) (ht:rRates.tot x≤1048576) (d:Scs [.s,.s,.b,.l,.i .i64]) (r:DRate) (g:List Nat) (hr:rRate.R V d r g) (_:rRate.tot r≤1048576) :
  CallX Tryz.prog V 60 [qv7 c,qv6 d] (PutPost V (putP x r)):=by
 refine CallX.of_fits Tryz.mix (fS_RatePut _ _) fun _=>?_
 obtain⟨s,fl,rfl,hl⟩:=rates_elim h
 have hn:=hl.1
 obtain⟨s3,g3,rfl,hm⟩:=rate_elim hr
 simp only [tS_RatePut,ap_d,T.wp]
 refine(cS_RatesOk x.1 s x.2.1 fl hl).mono ?_
 rintro V1 _ ⟨le1,e1,rfl,he1⟩
 refine⟨nofun,e1,rfl,fun hf=>put_no le1 fun k=>?_,fun h1=>?_⟩
 ·rw [he1.2 k.1] at hf; cases hf
 have ok1:=he1.1 (by simpa using h1)
 refine(cS_RateOk (hV.le le1) r s3 g3 (hm.le le1)).mono ?_
 rintro V2 _ ⟨le2,e2,rfl,he2⟩
 have l2:=le1.trans le2
 refine⟨nofun,e2,rfl,fun hf=>put_no l2 fun k=>?_,fun h2=>?_⟩
 ·rw [he2.2 k.2.1] at hf; cases hf
 have ok2:=he2.1 (by simpa using h2)
 refine(growS_rates V2 _ x f (rRates.le h l2) ht (fun i hi=>by obtain⟨_,q,_⟩:=ok1.2.2 i hi; exact q)).mono ?_
 rintro V3 _ ⟨le3,s',f',rfl,G3,O3⟩
 have l3:=l2.trans le3
 have h12:=ok1.2.1
 refine⟨nofun,(x.1,s',()),rfl,(cS_l10AtX V3 s x.2.1 fl (hl.le l3) r.1 r.2.1).mono ?_⟩
 rintro V4 _ ⟨rfl,k,rfl,hk⟩
 have L3:=G3.lr (show x.2.1.length≤9223372036854775807 by omega)
 refine⟨nofun,k,rfl,fun hge=>?_,fun hlt=>?_⟩
 ·obtain⟨i,hi,rfl,hki,hj⟩:∃ (i:Nat) (hi:i<x.2.1.length),k=(i:Int)∧rkey x.2.1[i]=(r.1,r.2.1)∧∀ (j:Nat) (hj:j<x.2.1.length),j<i→rkey x.2.1[j]≠(r.1,r.2.1):=by
   rcases hk with hk | ⟨rfl,_⟩
   ·exact hk
   ·exact absurd (show(-1:Int)≥0 from of_decide_eq_true hge) (by omega)
  have hput:=putR_at hi hki hj
  have hok:PutOk x.1 x.2.1 r:=⟨ok1,ok2,by rw [hput,List.length_set]; exact h12⟩
  refine(kS_l10Rate V4 _ r g (rRate.le hr l3) ok2).mono ?_
  rintro V5 _ ⟨le5,c5,f5,rfl,R5,O5⟩
  obtain⟨b,o,cs,u,c6,fc,ha,hb,hlen,_,_,_,hset⟩:=(L3.le le5).putRow (V0:=V2) (O3.post le5) hi
  have l5:=l3.trans le5
  have hn':=L3.1
  have e0:(i:Int).toNat=i:=by omega
  obtain⟨q0,q1,q2,q3,q4,qu⟩:=c5
  obtain⟨fN,LN,ON,leN,_⟩:=hset (k:=0) (vs:=Scs.vals [.s,.s,.b,.l,.i .i64] (q0,q1,q2,q3,q4,())) (Know.le.refl _) (le3.trans le5) R5 (O3.append O5 le3 le5) (by simp [vals_len]) (setl_whole (by rw [vals_len,vals_len]))
  refine⟨fun _=>le5,_,rfl,_,ha,(by omega:(0:Int)≤(i:Int)),(by show(i:Int)<(s'.n:Int); omega),?_⟩
  rw [e0]
  simp only [addr_add_eq]
  refine⟨cs,u,trivial,hb,hlen,?_⟩
  refine(cS_RatesOk x.1 s' (x.2.1.set i r) fN LN).mono ?_
  rintro V6 _ ⟨le6,e6,rfl,he6⟩
  obtain rfl:e6=true:=he6.2 (ratesOk_set ok1 ok2 hi hki)
  refine⟨nofun,true,rfl,nofun,fun _=>?_⟩
  rw [putP_ok hok,hput]
  exact⟨l2.trans (leN.trans le6),(x.1,s',()),fN++[],rfl,rStr.mk (h.1.2) (rSl.mk (LN.le le6) rNil.mk),by simpa using (ON.post le6).pre l2⟩
 ·have hno:∀ (j:Nat) (hj:j<x.2.1.length),rkey x.2.1[j]≠(r.1,r.2.1):=by
   rcases hk with ⟨i,_,rfl,_⟩ | ⟨_,hk⟩
   ·exact absurd (show ¬ (i:Int)≥0 from of_decide_eq_false hlt) (by omega)
   ·exact hk
  have hput:=putR_none (r:=r) hno
  refine(kS_l10Rate V4 _ r g (rRate.le hr l3) ok2).mono ?_
  rintro V5 _ ⟨le5,⟨q0,q1,q2,q3,q4,qu⟩,f5,rfl,R5,O5⟩
  refine⟨fun _=>le5,_,rfl,rfl,rfl,?_⟩
  refine ap_row (r:=rRate) (sh:=[.s,.s,.b,.l,.i .i64]) (c:=(q0,q1,q2,q3,q4,())) (V0:=V2) (G3.le le5) R5 (O3.append O5 le3 le5) (le3.trans le5) (by kernel_rfl) (by omega) (by omega) fun s6 V6 f6 G6 O6 le6=>?_
  have L6:=G6.lr (by simp; omega)
  refine(cS_RatesOk x.1 s6 (x.2.1++[r]) f6 L6).mono ?_
  rintro V7 _ ⟨le7,e7,rfl,he7⟩
  have hl7:=l2.trans (le6.trans le7)
  refine⟨nofun,e7,rfl,fun hf=>put_no hl7 fun k=>?_,fun hT=>?_⟩
  ·have k3:=k.2.2
   rw [hput] at k3
   rw [he7.2 ((ratesOk_snoc ok1 ok2 hno).2 (by simpa using k3))] at hf
   cases hf
  ·have k7:=he7.1 (by simpa using hT)
   rw [putP_ok ⟨ok1,ok2,by rw [hput]; exact k7.2.1⟩,hput]
   exact⟨hl7,(x.1,s6,()),f6++[],rfl,rStr.mk (h.1.2) (rSl.mk (L6.le le7) rNil.mk),by simpa using (O6.post le7).pre l2⟩
theorem cI_RatePut {V:Know} (hV:HcI V) (c:Scs [.s,.l]) (x:DRates) (f:List Nat) (h:rRates.R V c x f) (ht:rRates.tot x≤1048576) (d:Scs [.s,.s,.b,.l,.i .i64]) (r:DRate) (g:List Nat) (hr:rRate.R V d r g) (tr:rRate.tot r≤1048576) :
  CallX Tryz.prog V 411 [qv7 c,qv6 d] (PutPost V (putP x r)):=by
 refine CallX.of_fits Tryz.mix (fI_RatePut _ _) fun _=>?_
 obtain⟨s,fl,rfl,hl⟩:=rates_elim h
 have hn:=hl.1
 obtain⟨s3,g3,rfl,hm⟩:=rate_elim hr
 simp only [tI_RatePut,ap_d,T.wp]
 refine(cI_RatesOk hV x.1 s x.2.1 fl hl).mono ?_
 rintro V1 _ ⟨le1,e1,rfl,he1⟩
 refine⟨nofun,e1,rfl,fun hf=>put_no le1 fun k=>?_,fun h1=>?_⟩
 ·rw [he1.2 k.1] at hf; cases hf
 have ok1:=he1.1 (by simpa using h1)
 refine(cI_RateOk (hV.le le1) r s3 g3 (hm.le le1)).mono ?_
 rintro V2 _ ⟨le2,e2,rfl,he2⟩
 have l2:=le1.trans le2
 refine⟨nofun,e2,rfl,fun hf=>put_no l2 fun k=>?_,fun h2=>?_⟩
 ·rw [he2.2 k.2.1] at hf; cases hf
 have ok2:=he2.1 (by simpa using h2)
 refine(growI_rates V2 _ x f (rRates.le h l2) ht).mono ?_
 rintro V3 _ ⟨le3,s',f',rfl,G3,O3⟩
 have l3:=l2.trans le3
 have h12:=ok1.2.1
 have L3:=G3.lr (show x.2.1.length≤9223372036854775807 by omega)
 have hn':=L3.1
 refine⟨nofun,(x.1,s',()),rfl,?_⟩
 refine⟨fun y V'=>V'=V3∧y.2.2.2=(x.1,s',())∧∃ i:Nat,y.1=(i:Int)∧i≤x.2.1.length∧∀ (j:Nat) (hj:j<x.2.1.length),j<i→rkey x.2.1[j]≠rkey r,fun y _=>((x.2.1.length:Int)-(y.1:Int)).toNat,⟨((0:Int),ByteArray.empty,⟨none,0,0⟩,x.1,s',()),rfl,rfl,rfl,0,rfl,Nat.zero_le _,fun j _ h=>by omega⟩,?_⟩
 rintro⟨(i:Int),y1,y2,y3,y4,yu⟩ V' ⟨rfl,hy,k,hk,hkl,hall⟩
 replace hk:i=(k:Int):=hk
 subst hk
 replace hy:(y3,y4,())=(x.1,s',()):=hy
 obtain⟨rfl,rfl⟩:y3=x.1∧y4=s':=by
  simp only [Prod.mk.injEq,and_true] at hy
  exact hy
 have e0:(k:Int).toNat=k:=by omega
 refine⟨fun hlt=>?_,fun hge=>?_⟩
 ·have hi:k<x.2.1.length:=by
   have:(k:Int)<(y4.n:Int):=of_decide_eq_true hlt
   omega
  have next:rkey x.2.1[k]≠rkey r→∃ y':LShs [.o (.o (.i .i64)),.o (.o (.s)),.o (.o (.l)),.o (.o (.s)),.o (.o (.l))],[LV.v (.int .i64 (IntKind.i64.wrap ((k:Int)+1))),.v (.string y1),.v (Sc.val .l y2),.v (.string x.1),.v (Sc.val .l y4)]=LShs.lvs _ y'∧(V'=V'∧y'.2.2.2=(x.1,y4,())∧∃ i:Nat,y'.1=(i:Int)∧i≤x.2.1.length∧∀ (j:Nat) (hj:j<x.2.1.length),j<i→rkey x.2.1[j]≠rkey r)∧((x.2.1.length:Int)-(y'.1:Int)).toNat<((x.2.1.length:Int)-(k:Int)).toNat:=by
   intro hp
   refine⟨(((k+1:Nat):Int),y1,y2,x.1,y4,()),by rw [nxt hi (by omega)]; rfl,⟨rfl,rfl,k+1,rfl,hi,fun j hj h2=>?_⟩,?_⟩
   ·by_cases e:j=k
    ·subst e; exact hp
    ·exact hall j hj (by omega)
   ·show((x.2.1.length:Int)-((k+1:Nat):Int)).toNat<((x.2.1.length:Int)-(k:Int)).toNat
    omega
  obtain⟨bb,oo,cc,fcc,a1,part,rc,_⟩:=L3.part hi
  obtain⟨rc0,rc1⟩:=rate_cell rc
  obtain⟨cc0,cc1,cc2,cc3,cc4,ccu⟩:=cc
  replace rc0:cc0=x.2.1[k].1:=rc0
  replace rc1:cc1=x.2.1[k].2.1:=rc1
  dsimp only
  rw [e0]
  refine⟨_,a1,by omega,by omega,cc0,part 0 1 _ rfl,fun h1=>⟨_,a1,by omega,by omega,cc1,part 1 1 _ rfl,fun h2=>?_,fun h2=>⟨_,rfl,next fun e=>?_⟩⟩,fun h1=>⟨_,rfl,next fun e=>?_⟩⟩
  ·have hki:rkey x.2.1[k]=rkey r:=rkey_eq.2 ⟨rc0.symm.trans (text_eq.1 h1),rc1.symm.trans (text_eq.1 h2)⟩
   have hput:=putR_at hi hki hall
   have hok:PutOk x.1 x.2.1 r:=⟨ok1,ok2,by rw [hput,List.length_set]; exact h12⟩
   refine(kI_rateCopy V' _ r g (rRate.le hr l3) tr).mono ?_
   rintro V5 _ ⟨le5,⟨q0,q1,q2,q3,q4,qu⟩,f5,rfl,R5,O5⟩
   obtain⟨b,o,cs,u,c6,fc,ha,hb,hlen,_,_,_,hset⟩:=(L3.le le5).putRow (V0:=V2) (O3.post le5) hi
   have l5:=l3.trans le5
   obtain⟨fN,LN,ON,leN,_⟩:=hset (k:=0) (vs:=Scs.vals [.s,.s,.b,.l,.i .i64] (q0,q1,q2,q3,q4,())) (Know.le.refl _) (le3.trans le5) R5 (O3.append O5 le3 le5) (by simp [vals_len]) (setl_whole (by rw [vals_len,vals_len]))
   refine⟨fun _=>le5,_,rfl,_,ha,by omega,by omega,?_⟩
   simp only [addr_add_eq]
   refine⟨cs,u,trivial,hb,hlen,?_⟩
   rw [putP_ok hok,hput]
   exact⟨l2.trans leN,(x.1,y4,()),fN++[],rfl,rStr.mk (h.1.2) (rSl.mk LN rNil.mk),by rw [List.append_nil]; exact ON.pre l2⟩
  ·have:=text_eq.2 (rc1.trans (rkey_eq.1 e).2)
   rw [this] at h2; cases h2
  ·have:=text_eq.2 (rc0.trans (rkey_eq.1 e).1)
   rw [this] at h1; cases h1
 ·have hi:k=x.2.1.length:=by
   have:¬ (k:Int)<(y4.n:Int):=of_decide_eq_false hge
   omega
  subst hi
  have hno:∀ (j:Nat) (hj:j<x.2.1.length),rkey x.2.1[j]≠(r.1,r.2.1):=fun j hj=>hall j hj hj
  have hput:=putR_none (r:=r) hno
  refine(kI_rateCopy V' _ r g (rRate.le hr l3) tr).mono ?_
  rintro V5 _ ⟨le5,⟨q0,q1,q2,q3,q4,qu⟩,f5,rfl,R5,O5⟩
  refine⟨fun _=>le5,_,rfl,rfl,rfl,?_⟩
  refine ap_row (r:=rRate) (sh:=[.s,.s,.b,.l,.i .i64]) (c:=(q0,q1,q2,q3,q4,())) (V0:=V2) (G3.le le5) R5 (O3.append O5 le3 le5) (le3.trans le5) (by kernel_rfl) (by omega) (by omega) fun s6 V6 f6 G6 O6 le6=>?_
  have L6:=G6.lr (by simp; omega)
  refine(cI_RatesOk (hV.le (l2.trans le6)) x.1 s6 (x.2.1++[r]) f6 L6).mono ?_
  rintro V7 _ ⟨le7,e7,rfl,he7⟩
  have hl7:=l2.trans (le6.trans le7)
  refine⟨nofun,e7,rfl,fun hf=>put_no hl7 fun k=>?_,fun hT=>?_⟩
  ·have k3:=k.2.2
   rw [hput] at k3
   rw [he7.2 ((ratesOk_snoc ok1 ok2 hno).2 (by simpa using k3))] at hf
   cases hf
  ·have k7:=he7.1 (by simpa using hT)
   rw [putP_ok ⟨ok1,ok2,by rw [hput]; exact k7.2.1⟩,hput]
   exact⟨hl7,(x.1,s6,()),f6++[],rfl,rStr.mk (h.1.2) (rSl.mk (L6.le le7) rNil.mk),by simpa using (O6.post le7).pre l2⟩
end Go.Proofs.YtpdfdkccgkieoaaGreatDoor
namespace Go.Proofs.YtpdfdkccgkieoaaGreatDoor
open Sx
set_option maxRecDepth 100000
abbrev rNs:Rp [.s] (ByteArray × Unit):=rStr rNil
theorem lr_lit {sh:List Sc} {α:Type} {r:Rp sh α} {V:Know} {b n cap:Nat} {cs:List (Scs sh)} {l:List α} {fps:List Nat} {post:List Value} {t:KTy} (h:Els r V cs l fps) (hb:V b=some (cs.flatMap (Scs.vals sh)++post,t)) (hn:n=l.length) (hc:l.length≤cap) (hl:l.length≤9223372036854775807) :
  LR r V ⟨some ⟨b,0,none⟩,n,cap⟩ l (b :: fps):=by
 subst hn
 exact⟨rfl,hc,hl,.inr ⟨b,[],post,t,fps,cs,rfl,by simpa using hb,h,rfl⟩⟩
theorem els_ns {V:Know}:∀ {ns:List ByteArray},(∀ n∈ns,n.size≤9223372036854775807)→Els rNs V (ns.map fun n=>(n,())) (ns.map fun n=>(n,())) []
 | [],_=>rfl
 | n :: ns,h=>⟨[],[],rfl,⟨⟨rfl,h n (by simp)⟩,rfl⟩,els_ns fun m hm=>h m (by simp [hm])⟩
theorem vals_ns:∀ ns:List ByteArray,(ns.map fun n=>((n,()):Scs [.s])).flatMap (Scs.vals [.s])=ns.map Value.string
 | []=>rfl
 | n :: ns=>by
  rw [List.map_cons,List.flatMap_cons,vals_ns ns]
  rfl
theorem els_intD {V:Know}:∀ l:List Lim,Els rI V l l []
 | []=>rfl
 | _ :: l=>⟨[],[],rfl,⟨rfl,rfl⟩,els_intD l⟩
theorem vals_int:∀ l:List Lim,l.flatMap (Scs.vals [.i .i64])=l.map cellI
 | []=>rfl
 | _ :: l=>by
  rw [List.flatMap_cons,vals_int l]
  rfl
theorem lr_cells {V:Know} {b cap:Nat} {l:List Lim} {post:List Value} {t:KTy} (h:V b=some (l.map cellI++post,t)) (hc:l.length≤cap) (hl:l.length≤9223372036854775807):LR rI V ⟨some ⟨b,0,none⟩,l.length,cap⟩ l [b] :=
 lr_lit (sh:=[.i .i64]) (r:=rI) (cs:=l) (fps:=[]) (els_intD l) (by rw [vals_int]; exact h) rfl hc hl
end Go.Proofs.YtpdfdkccgkieoaaGreatDoor
