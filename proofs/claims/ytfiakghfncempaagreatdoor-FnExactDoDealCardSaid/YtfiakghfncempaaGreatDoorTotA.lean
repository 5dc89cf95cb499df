/-
  Fractions made, reduced and added, in the program and in the reference.
-/
import Derived.Test.YtfiakghfncempaaGreatDoorLedA
import Derived.Test.YtfiakghfncempaaGreatDoorDivG
namespace Go.Proofs.YtfiakghfncempaaGreatDoor
open Sx
set_option maxRecDepth 100000
theorem acct_size {V:Know} {s:SlV} {l:List DAcct} {f:List Nat} (h:LR rAcct V s l f) (i:Nat) (hi:i<l.length):l[i].1.size≤9223372036854775807:=by
 obtain⟨b,o,c,fc,a1,l1,hR,_⟩:=h.at hi
 exact hR.1.2
theorem cS_BookOk {V:Know} (hV:HcS V) (s:SlV) (l:List DAcct) (f:List Nat) (h:LR rAcct V s l f):CallX Tryz.prog V 124 [qv4 (s,())] (OkPost V (BookOkP l)):=by
 refine CallX.of_fits Tryz.mix (fS_BookOk _) fun _=>?_
 have hn:=h.1
 have h63:=h.2.2.1
 unfold tS_BookOk
 refine rows_wp (n:=s.n) (V:=V) (p:=AcctAtP l) (Ns:=[]) h63 ?_ ?_ ?_
 ·intro V' i N hV' hi hall hno hyes
  exact bookS_body hV h (acct_size h) hV' (by omega) hno hyes
 ·intro V' hV' hall N
  refine⟨hV',_,rfl,?_⟩
  exact⟨fun hd=>⟨by have:(s.n:Int)≤12:=of_decide_eq_true hd; omega,fun i hi=>hall i (by omega)⟩,fun k=>decide_eq_true (by have:=k.1; show(s.n:Int)≤12; omega)⟩
 ·intro V' i hV' hi hne
  exact not_ok hV' fun k=>hne (k.2 i (by omega))
theorem cI_BookOk {V:Know} (hV:HcI V) (s:SlV) (l:List DAcct) (f:List Nat) (h:LR rAcct V s l f):CallX Tryz.prog V 162 [qv4 (s,())] (OkPost V (BookOkP l)):=by
 refine CallX.of_fits Tryz.mix (fI_BookOk _) fun _=>?_
 have hn:=h.1
 have h63:=h.2.2.1
 unfold tI_BookOk
 change (decide ((s.n:Int) > 12)=true→T.wp _ _ _ _ _ _)∧(decide ((s.n:Int) > 12)=false→T.wp _ _ _ _ _ _)
 refine⟨fun h12=>not_ok (Know.le.refl _) fun k=>?_,fun h12=>?_⟩
 ·have:(s.n:Int) > 12:=of_decide_eq_true h12
  have:=k.1
  omega
 have q:¬ (s.n:Int) > 12:=of_decide_eq_false h12
 refine rows_wp (n:=s.n) (V:=V) (p:=AcctAtP l) (Ns:=[]) h63 ?_ ?_ ?_
 ·intro V' i N hV' hi hall hno hyes
  exact bookI_body hV h (acct_size h) hV' (by omega) hno hyes
 ·intro V' hV' hall N
  refine⟨hV',_,rfl,?_⟩
  exact⟨fun _=>⟨by omega,fun i hi=>hall i (by omega)⟩,fun _=>rfl⟩
 ·intro V' i hV' hi hne
  exact not_ok hV' fun k=>hne (k.2 i (by omega))
theorem restS_body {V:Know} (hV:HcS V) {s:SlV} {l:List DRest} {f:List Nat} (h:LR rRest V s l f) {K:Know→List Value→Prop} {i:Nat} {N:List LV→Know→Prop} {V':Know} (hV':V.le V') (hi:i<l.length)
  (hno:∀ V2,V'.le V2→¬ RestAtP l i→K V2 [.bool false]) (hyes:∀ V2,V'.le V2→RestAtP l i→N [.v (.int .i64 (IntKind.i64.wrap ((i:Int)+1)))] V2) :
  (T.el s.a s.n (i:Int) fun y2=>.ld false (y2.add (Int.toNat (i:Int)*(4:Nat))) (.g [.s,.b,.l,.l]) fun y3=>.rg <|
   .call true 154 [.string y3.fst] (.v (.o .b)) fun y4=>.br (!y4) (.ret [.bool false]) <|
   .call true 174 [qv1 y3.2] (.v (.o .b)) fun y5=>.br (!y5) (.ret [.bool false]) <|
   .call true 156 [qv1 y3.2] (.v (.o (.i .i64))) fun(y6:Int)=>.br (y6 == (0:Int)) (.ret [.bool false]) <|
   .br (decide ((i:Int) > (0:Int))) (
    .el s.a s.n (IntKind.i64.wrap ((i:Int)-(1:Int))) fun y6=>.ld true ((y6.add ((IntKind.i64.wrap ((i:Int)-(1:Int))).toNat*(4:Nat))).add (0:Nat)) (.o .s) fun y7 =>
    .br (!Op.bytesLess (ByteArray.toList y7) (ByteArray.toList y3.fst)) (.ret [.bool false]) <| .nx 0 [.v (.int .i64 (IntKind.i64.wrap ((i:Int)+(1:Int))))]) <|
   .nx 0 [.v (.int .i64 (IntKind.i64.wrap ((i:Int)+(1:Int))))]).wp Tryz.prog K V' V' [N]:=by
 simp only [T.wp]
 have hn:=h.1
 have hL:=h.le hV'
 obtain⟨b,o,c,fc,a1,l1,hR,_⟩:=hL.at hi
 obtain⟨c2,c3,g,g',rfl,hc2,hc3⟩:=rest_elim hR
 have e0:(i:Int).toNat=i:=by omega
 have hin:(i:Int)<(s.n:Int):=by omega
 rw [e0]
 refine⟨_,a1,by omega,hin,(l[i].1,l[i].2.1,c2,c3,()),l1,?_⟩
 refine(kS_CurKnown (hV.le hV') l[i].1).mono ?_
 rintro V1 r ⟨le1,rfl⟩
 refine⟨fun _=>le1,_,rfl,fun hf=>hno _ le1 fun k=>?_,fun ht=>?_⟩
 ·obtain⟨_,k1,_⟩:=k
  rw [k1] at hf; cases hf
 have w1:known l[i].1=true:=by simpa using ht
 refine(cS_RatOk V1 l[i].2.1 c2 c3 l[i].2.2.1 l[i].2.2.2.1 g g' (hc2.le le1) (hc3.le le1)).mono ?_
 rintro V2 r ⟨le2,e2,rfl,he2⟩
 have l2:=le1.trans le2
 refine⟨fun _=>le2,e2,rfl,fun hf=>hno _ l2 fun k=>?_,fun ht2=>?_⟩
 ·obtain⟨_,_,k1,_⟩:=k
  rw [he2.2 k1] at hf; cases hf
 have w2:=he2.1 (by simpa using ht2)
 refine(cS_RatSign V2 l[i].2.1 c2 c3 l[i].2.2.1 l[i].2.2.2.1 g g' (hc2.le l2) (hc3.le l2) w2).mono ?_
 rintro V3 r ⟨le3,rfl⟩
 have l3:=l2.trans le3
 refine⟨fun _=>le3,_,rfl,fun hf=>hno _ l3 fun k=>?_,fun ht3=>⟨fun hpos=>?_,fun hz=>?_⟩⟩
 ·obtain⟨_,_,_,k1,_⟩:=k
  exact k1 (by simpa using hf)
 ·have w3:sgn (sval l[i].2.1 l[i].2.2.1)≠0:=by simpa using ht3
  have hp:0<i:=by
   have:(i:Int) > 0:=of_decide_eq_true hpos
   omega
  have wr:IntKind.i64.wrap ((i:Int)-1)=((i-1:Nat):Int):=by
   have:=h.2.2.1
   rw [wrap_i64 (by omega)]; omega
  have e1':((i-1:Nat):Int).toNat=i-1:=by omega
  obtain⟨b2,o2,c2',f2,a2,l2',hR2,_⟩:=hL.part (show i-1<l.length by omega)
  obtain⟨_,_,_,_,rfl,_⟩:=rest_elim hR2
  rw [wr,e1']
  refine⟨_,a2,by omega,by omega,l[i-1].1,l2' 0 1 _ rfl,fun hf=>hno _ l3 fun k=>?_,fun ht3=>⟨_,rfl,hyes _ l3 ⟨hi,w1,w2,w3,fun _=>by simpa [LessP] using ht3⟩⟩⟩
  obtain⟨_,_,_,_,k1⟩:=k
  have:=k1 hp
  unfold LessP at this
  rw [this] at hf; cases hf
 ·have w3:sgn (sval l[i].2.1 l[i].2.2.1)≠0:=by simpa using ht3
  have hp:¬ 0<i:=by
   have:¬ (i:Int) > 0:=of_decide_eq_false hz
   omega
  exact⟨_,rfl,hyes _ l3 ⟨hi,w1,w2,w3,fun h=>absurd h hp⟩⟩
theorem cS_RestsOk {V:Know} (hV:HcS V) (s:SlV) (l:List DRest) (f:List Nat) (h:LR rRest V s l f):CallX Tryz.prog V 125 [Sc.val .l s] (OkPost V (RestsOkP l)):=by
 refine CallX.of_fits Tryz.mix (fS_RestsOk _) fun _=>?_
 have hn:=h.1
 have h63:=h.2.2.1
 unfold tS_RestsOk
 refine rows_wp (n:=s.n) (V:=V) (p:=RestAtP l) (Ns:=[]) h63 ?_ ?_ ?_
 ·intro V' i N hV' hi hall hno hyes
  exact restS_body hV h hV' (by omega) hno hyes
 ·intro V' hV' hall N
  exact⟨hV',_,rfl,⟨fun _ i hi=>hall i (by omega),fun _=>rfl⟩⟩
 ·intro V' i hV' hi hne
  exact not_ok hV' fun k=>hne (k i (by omega))
theorem restI_body {V:Know} (hV:HcI V) {s:SlV} {l:List DRest} {f:List Nat} (h:LR rRest V s l f) {K:Know→List Value→Prop} {i:Nat} {N:List LV→Know→Prop} {V':Know} (hV':V.le V') (hi:i<l.length)
  (hno:∀ V2,V'.le V2→¬ RestAtP l i→K V2 [.bool false]) (hyes:∀ V2,V'.le V2→RestAtP l i→N [.v (.int .i64 (IntKind.i64.wrap ((i:Int)+1)))] V2) :
  (T.el s.a s.n (i:Int) fun y2=>.ld false (y2.add (Int.toNat (i:Int)*(4:Nat))) (.g [.s,.b,.l,.l]) fun y3=>.rg <|
   .call true 119 [.string y3.fst] (.v (.o .b)) fun y4=>.br (!y4) (.ret [.bool false]) <|
   .call true 116 [qv1 y3.2] (.v (.o .b)) fun y5=>.br (!y5) (.ret [.bool false]) <|
   .call true 207 [qv1 y3.2] (.v (.o (.i .i64))) fun(y6:Int)=>.br (y6 == (0:Int)) (.ret [.bool false]) <|
   .br (decide ((i:Int) > (0:Int))) (
    .el s.a s.n (IntKind.i64.wrap ((i:Int)-(1:Int))) fun y6=>.ld true ((y6.add ((IntKind.i64.wrap ((i:Int)-(1:Int))).toNat*(4:Nat))).add (0:Nat)) (.o .s) fun y7 =>
    .br (!Op.bytesLess (ByteArray.toList y7) (ByteArray.toList y3.fst)) (.ret [.bool false]) <| .nx 0 [.v (.int .i64 (IntKind.i64.wrap ((i:Int)+(1:Int))))]) <|
   .nx 0 [.v (.int .i64 (IntKind.i64.wrap ((i:Int)+(1:Int))))]).wp Tryz.prog K V' V' [N]:=by
 simp only [T.wp]
 have hn:=h.1
 have hL:=h.le hV'
 obtain⟨b,o,c,fc,a1,l1,hR,_⟩:=hL.at hi
 obtain⟨c2,c3,g,g',rfl,hc2,hc3⟩:=rest_elim hR
 have e0:(i:Int).toNat=i:=by omega
 have hin:(i:Int)<(s.n:Int):=by omega
 rw [e0]
 refine⟨_,a1,by omega,hin,(l[i].1,l[i].2.1,c2,c3,()),l1,?_⟩
 refine(kI_CurKnown (hV.le hV') l[i].1).mono ?_
 rintro V1 r ⟨le1,rfl⟩
 refine⟨fun _=>le1,_,rfl,fun hf=>hno _ le1 fun k=>?_,fun ht=>?_⟩
 ·obtain⟨_,k1,_⟩:=k
  rw [k1] at hf; cases hf
 have w1:known l[i].1=true:=by simpa using ht
 refine(cI_RatOk V1 l[i].2.1 c2 c3 l[i].2.2.1 l[i].2.2.2.1 g g' (hc2.le le1) (hc3.le le1)).mono ?_
 rintro V2 r ⟨le2,e2,rfl,he2⟩
 have l2:=le1.trans le2
 refine⟨fun _=>le2,e2,rfl,fun hf=>hno _ l2 fun k=>?_,fun ht2=>?_⟩
 ·obtain⟨_,_,k1,_⟩:=k
  rw [he2.2 k1] at hf; cases hf
 have w2:=he2.1 (by simpa using ht2)
 refine(cI_RatSign V2 l[i].2.1 c2 c3 l[i].2.2.1 l[i].2.2.2.1 g g' (hc2.le l2) (hc3.le l2) w2).mono ?_
 rintro V3 r ⟨le3,rfl⟩
 have l3:=l2.trans le3
 refine⟨fun _=>le3,_,rfl,fun hf=>hno _ l3 fun k=>?_,fun ht3=>⟨fun hpos=>?_,fun hz=>?_⟩⟩
 ·obtain⟨_,_,_,k1,_⟩:=k
  exact k1 (by simpa using hf)
 ·have w3:sgn (sval l[i].2.1 l[i].2.2.1)≠0:=by simpa using ht3
  have hp:0<i:=by
   have:(i:Int) > 0:=of_decide_eq_true hpos
   omega
  have wr:IntKind.i64.wrap ((i:Int)-1)=((i-1:Nat):Int):=by
   have:=h.2.2.1
   rw [wrap_i64 (by omega)]; omega
  have e1':((i-1:Nat):Int).toNat=i-1:=by omega
  obtain⟨b2,o2,c2',f2,a2,l2',hR2,_⟩:=hL.part (show i-1<l.length by omega)
  obtain⟨_,_,_,_,rfl,_⟩:=rest_elim hR2
  rw [wr,e1']
  refine⟨_,a2,by omega,by omega,l[i-1].1,l2' 0 1 _ rfl,fun hf=>hno _ l3 fun k=>?_,fun ht3=>⟨_,rfl,hyes _ l3 ⟨hi,w1,w2,w3,fun _=>by simpa [LessP] using ht3⟩⟩⟩
  obtain⟨_,_,_,_,k1⟩:=k
  have:=k1 hp
  unfold LessP at this
  rw [this] at hf; cases hf
 ·have w3:sgn (sval l[i].2.1 l[i].2.2.1)≠0:=by simpa using ht3
  have hp:¬ 0<i:=by
   have:¬ (i:Int) > 0:=of_decide_eq_false hz
   omega
  exact⟨_,rfl,hyes _ l3 ⟨hi,w1,w2,w3,fun h=>absurd h hp⟩⟩
theorem cI_RestsOk {V:Know} (hV:HcI V) (s:SlV) (l:List DRest) (f:List Nat) (h:LR rRest V s l f):CallX Tryz.prog V 163 [Sc.val .l s] (OkPost V (RestsOkP l)):=by
 refine CallX.of_fits Tryz.mix (fI_RestsOk _) fun _=>?_
 have hn:=h.1
 have h63:=h.2.2.1
 unfold tI_RestsOk
 refine rows_wp (n:=s.n) (V:=V) (p:=RestAtP l) (Ns:=[]) h63 ?_ ?_ ?_
 ·intro V' i N hV' hi hall hno hyes
  exact restI_body hV h hV' (by omega) hno hyes
 ·intro V' hV' hall N
  exact⟨hV',_,rfl,⟨fun _ i hi=>hall i (by omega),fun _=>rfl⟩⟩
 ·intro V' i hV' hi hne
  exact not_ok hV' fun k=>hne (k i (by omega))
theorem rkey_eq {r:DRate} {a b:ByteArray}:rkey r=(a,b)↔r.1=a∧r.2.1=b:=by
 unfold rkey
 rw [Prod.mk.injEq]
theorem cS_l10AtX (V:Know) (s:SlV) (l:List DRate) (f:List Nat) (h:LR rRate V s l f) (a b:ByteArray):CallX Tryz.prog V 176 [Sc.val .l s,.string a,.string b]
  (fun V' r=>V'=V∧∃ k:Int,r=.int .i64 k∧((∃ (i:Nat) (hi:i<l.length),k=(i:Int)∧rkey l[i]=(a,b)∧∀ (j:Nat) (hj:j<l.length),j<i→rkey l[j]≠(a,b))∨(k=-1∧∀ (j:Nat) (hj:j<l.length),rkey l[j]≠(a,b)))):=by
 refine CallX.of_fits Tryz.mix (fS_l10At _ _ _) fun _=>?_
 have hn:=h.1
 have h63:=h.2.2.1
 simp only [tS_l10At,T.wp]
 refine⟨fun y V'=>V'=V∧∃ i:Nat,y.1=(i:Int)∧i≤l.length∧∀ (j:Nat) (hj:j<l.length),j<i→rkey l[j]≠(a,b),fun y=>((l.length:Int)-(y.1:Int)).toNat,⟨((0:Int),()),rfl,rfl,0,rfl,by omega,fun j _ h=>by omega⟩,?_⟩
 rintro⟨(i:Int),u⟩ V' ⟨rfl,k,hk,hkle,hall⟩
 replace hk:i=(k:Int):=hk
 subst hk
 refine⟨fun hlt=>?_,fun hge=>?_⟩
 ·have hkl:k<l.length:=by
   have:(k:Int)<(s.n:Int):=of_decide_eq_true hlt
   omega
  obtain⟨b1,o1,c1,fc,a1,l1,hR,_⟩:=h.at hkl
  obtain⟨c3,g,rfl,_⟩:=rate_elim hR
  have e0:(k:Int).toNat=k:=by omega
  dsimp only
  rw [e0]
  have next:rkey l[k]≠(a,b)→∃ y':LShs [.o (.o (.i .i64))],[LV.v (.int .i64 (IntKind.i64.wrap ((k:Int)+1)))]=LShs.lvs _ y'∧(V'=V'∧∃ i:Nat,y'.1=(i:Int)∧i≤l.length∧∀ (j:Nat) (hj:j<l.length),j<i→rkey l[j]≠(a,b))∧((l.length:Int)-(y'.1:Int)).toNat<((l.length:Int)-(k:Int)).toNat:=by
   intro hp
   refine⟨(((k+1:Nat):Int),()),by rw [nxt hkl (by omega)]; rfl,⟨rfl,k+1,rfl,hkl,fun j hj h2=>?_⟩,?_⟩
   ·by_cases e:j=k
    ·subst e; exact hp
    ·exact hall j hj (by omega)
   ·show((l.length:Int)-((k+1:Nat):Int)).toNat<((l.length:Int)-(k:Int)).toNat
    omega
  refine⟨_,a1,by omega,by omega,(l[k].1,l[k].2.1,l[k].2.2.1,c3,l[k].2.2.2.2.1,()),l1,fun h1=>⟨fun h2=>?_,fun h2=>⟨_,rfl,next fun e=>?_⟩⟩,fun h1=>⟨_,rfl,next fun e=>?_⟩⟩
  ·have hkey:rkey l[k]=(a,b):=rkey_eq.2 ⟨text_eq.1 h1,text_eq.1 h2⟩
   exact⟨rfl,(k:Int),rfl,.inl ⟨k,hkl,rfl,hkey,hall⟩⟩
  ·have:=text_eq.2 (rkey_eq.1 e).2
   rw [this] at h2; cases h2
  ·have:=text_eq.2 (rkey_eq.1 e).1
   rw [this] at h1; cases h1
 ·have hkl:k=l.length:=by
   have:¬ (k:Int)<(s.n:Int):=of_decide_eq_false hge
   omega
  subst hkl
  exact⟨rfl,-1,rfl,.inr ⟨rfl,fun j hj=>hall j hj hj⟩⟩
theorem cS_l10At (V:Know) (s:SlV) (l:List DRate) (f:List Nat) (h:LR rRate V s l f) (a b:ByteArray):CallX Tryz.prog V 176 [Sc.val .l s,.string a,.string b]
  (fun V' r=>V'=V∧∃ k:Int,r=.int .i64 k∧∀ i (hi:i<l.length),rkey l[i]=(a,b)→(k=(i:Int)↔∀ (j:Nat) (hj:j<l.length),j<i→rkey l[j]≠(a,b))):=by
 refine(cS_l10AtX V s l f h a b).mono ?_
 rintro V' r ⟨rfl,k,rfl,hk⟩
 refine⟨rfl,k,rfl,fun i hi hki=>?_⟩
 rcases hk with ⟨i0,h0,rfl,hk0,hf⟩ | ⟨rfl,hn⟩
 ·constructor
  ·intro e j hj hji
   exact hf j hj (by omega)
  ·intro hno
   by_cases c1:i0<i
   ·exact absurd hk0 (hno i0 h0 c1)
   ·by_cases c2:i<i0
    ·exact absurd hki (hf i hi c2)
    ·omega
 ·exact absurd hki (hn i hi)
theorem cS_RatesOk {V:Know} (p:ByteArray) (s:SlV) (l:List DRate) (f:List Nat) (h:LR rRate V s l f):CallX Tryz.prog V 126 [qv5 (p,s,())] (OkPost V (RatesOkP p l)):=by
 refine CallX.of_fits Tryz.mix (fS_RatesOk _) fun _=>?_
 have hn:=h.1
 have h63:=h.2.2.1
 simp only [tS_RatesOk,T.wp]
 refine(cS_CurKnown V p).mono ?_
 rintro V1 r ⟨le1,rfl⟩
 refine⟨nofun,_,rfl,fun hf=>not_ok le1 fun k=>?_,fun ht=>⟨fun h12=>not_ok le1 fun k=>?_,fun h12=>?_⟩⟩
 ·rw [k.1] at hf; cases hf
 ·have:(s.n:Int) > 12:=of_decide_eq_true h12
  have:=k.2.1
  omega
 have q1:known p=true:=by simpa using ht
 have q2:¬ (s.n:Int) > 12:=of_decide_eq_false h12
 refine⟨fun y V'=>V.le V'∧∃ i:Nat,y.1=(i:Int)∧i≤l.length∧∀ j,j<i→RateAtP l j,fun y=>((l.length:Int)-(y.1:Int)).toNat,⟨((0:Int),()),rfl,le1,0,rfl,by omega,fun j h=>by omega⟩,?_⟩
 rintro⟨(i:Int),u⟩ V' ⟨hle,k,hk,hkle,hall⟩
 replace hk:i=(k:Int):=hk
 subst hk
 refine⟨fun hlt=>?_,fun hge=>?_⟩
 ·have hkl:k<l.length:=by
   have:(k:Int)<(s.n:Int):=of_decide_eq_true hlt
   omega
  obtain⟨b1,o1,c1,fc,a1,l1,hR,_⟩:=(h.le hle).at hkl
  obtain⟨c3,g,rfl,hc3⟩:=rate_elim hR
  have e0:(k:Int).toNat=k:=by omega
  dsimp only
  rw [e0]
  refine⟨_,a1,by omega,by omega,(l[k].1,l[k].2.1,l[k].2.2.1,c3,l[k].2.2.2.2.1,()),l1,?_⟩
  refine(cS_RateOk (V:=V') trivial l[k] c3 g hc3).mono ?_
  rintro V2 r ⟨le2,e2,rfl,he2⟩
  have l2:=hle.trans le2
  refine⟨nofun,e2,rfl,fun hf=>not_ok l2 fun kk=>?_,fun ht2=>?_⟩
  ·obtain⟨_,k1,_⟩:=kk.2.2 k hkl
   rw [he2.2 k1] at hf; cases hf
  have w2:=he2.1 (by simpa using ht2)
  refine(cS_l10At V2 s l f (h.le l2) l[k].1 l[k].2.1).mono ?_
  rintro V3 r ⟨rfl,x,rfl,hx⟩
  have hx:=hx k hkl rfl
  refine⟨nofun,x,rfl,fun hf=>not_ok l2 fun kk=>?_,fun ht3=>?_⟩
  ·obtain⟨_,_,k2⟩:=kk.2.2 k hkl
   have:x=(k:Int):=hx.2 k2
   simp [this] at hf
  ·have e:x=(k:Int):=by simpa using ht3
   refine⟨_,rfl,(((k+1:Nat):Int),()),by rw [nxt hkl (by omega)]; rfl,⟨l2,k+1,rfl,hkl,fun j hj=>?_⟩,?_⟩
   ·by_cases ej:j=k
    ·subst ej; exact⟨hkl,w2,hx.1 e⟩
    ·exact hall j (by omega)
   ·show((l.length:Int)-((k+1:Nat):Int)).toNat<((l.length:Int)-(k:Int)).toNat
    omega
 ·have hkl:k=l.length:=by
   have:¬ (k:Int)<(s.n:Int):=of_decide_eq_false hge
   omega
  subst hkl
  exact⟨hle,true,rfl,⟨fun _=>⟨q1,by omega,hall⟩,fun _=>rfl⟩⟩
theorem pairTy:PairTy Tryz.prog 249 9 :=
 ⟨by kernel_rfl,by kernel_rfl,by kernel_rfl,⟨of_decide_eq_true (by kernel_rfl),of_decide_eq_true (by kernel_rfl)⟩,⟨by kernel_rfl,by kernel_rfl⟩,⟨by kernel_rfl,by kernel_rfl⟩,by kernel_rfl⟩
theorem bool_zero (w:World):(zeroValue 4).run Tryz.prog w=.ok (.bool false) w:=prun_run (by kernel_rfl) w
theorem keys_mem {l:List DRate} {i:Nat} (hi:i<l.length):rkey l[i] ∉ (l.take i).map rkey↔∀ (j:Nat) (hj:j<l.length),j<i→rkey l[j]≠rkey l[i]:=by
 constructor
 ·intro h j hj hji e
  refine h (List.mem_map.2 ⟨l[j],?_,e⟩)
  exact List.mem_take_iff_getElem.2 ⟨j,by omega,rfl⟩
 ·intro h hm
  obtain⟨r,hr,e⟩:=List.mem_map.1 hm
  obtain⟨j,hj,rfl⟩:=List.mem_take_iff_getElem.1 hr
  exact h j (by omega) (by omega) e
theorem cI_RatesOk {V:Know} (hV:HcI V) (p:ByteArray) (s:SlV) (l:List DRate) (f:List Nat) (h:LR rRate V s l f):CallX Tryz.prog V 164 [qv5 (p,s,())] (OkPost V (RatesOkP p l)):=by
 refine CallX.of_fits Tryz.mix (fI_RatesOk _) fun _=>?_
 have hn:=h.1
 have h63:=h.2.2.1
 simp only [tI_RatesOk,T.wp]
 refine(kI_CurKnown hV p).mono ?_
 rintro V1 r ⟨le1,rfl⟩
 refine⟨nofun,_,rfl,fun hf=>not_ok le1 fun k=>?_,fun ht=>⟨fun h12=>not_ok le1 fun k=>?_,fun h12=>?_⟩⟩
 ·rw [k.1] at hf; cases hf
 ·have:(s.n:Int) > 12:=of_decide_eq_true h12
  have:=k.2.1
  omega
 have q1:known p=true:=by simpa using ht
 have q2:¬ (s.n:Int) > 12:=of_decide_eq_false h12
 refine semx_mk.mono ?_
 rintro V2 r ⟨m,hm,rfl,rfl⟩
 have hm0:V m=none:=none_le le1 hm
 refine⟨⟨.map (some m),rfl⟩,rfl,?_⟩
 refine⟨fun y V'=>V.le V'∧∃ i:Nat,y.1=(i:Int)∧i≤l.length∧V' m=some (mapC (pairEs 0 ((l.take i).map rkey)),(((l.take i).map rkey).length,(1,0)))∧∀ j,j<i→RateAtP l j,fun y=>((l.length:Int)-(y.1:Int)).toNat,
  ⟨((0:Int),()),rfl,le1.trans (kset_le hm),0,rfl,by omega,kset_same,fun j h=>by omega⟩,?_⟩
 rintro⟨(i:Int),u⟩ V' ⟨hle,k,hk,hkle,hmap,hall⟩
 replace hk:i=(k:Int):=hk
 subst hk
 refine⟨fun hlt=>?_,fun hge=>?_⟩
 ·have hkl:k<l.length:=by
   have:(k:Int)<(s.n:Int):=of_decide_eq_true hlt
   omega
  obtain⟨b1,o1,c1,fc,a1,l1,hR,_⟩:=(h.le hle).at hkl
  obtain⟨c3,g,rfl,hc3⟩:=rate_elim hR
  have e0:(k:Int).toNat=k:=by omega
  dsimp only
  rw [e0]
  refine⟨_,a1,by omega,by omega,(l[k].1,l[k].2.1,l[k].2.2.1,c3,l[k].2.2.2.2.1,()),l1,?_⟩
  refine(cI_RateOk (V:=V') (hV.le hle) l[k] c3 g hc3).mono ?_
  rintro V3 r ⟨le2,e2,rfl,he2⟩
  have l2:=hle.trans le2
  refine⟨nofun,e2,rfl,fun hf=>not_ok l2 fun kk=>?_,fun ht2=>?_⟩
  ·obtain⟨_,k1,_⟩:=kk.2.2 k hkl
   rw [he2.2 k1] at hf; cases hf
  have w2:=he2.1 (by simpa using ht2)
  have hmap3:=le2 _ _ hmap
  refine(semx_lkPair (E:=4) (show Tryz.prog.underlying 247=some (.map 249 4) by kernel_rfl) bool_zero pairTy hmap3 (rkey l[k])).mono ?_
  rintro V4 r ⟨rfl,e3,rfl,he3⟩
  refine⟨e3,rfl,fun hf=>not_ok l2 fun kk=>?_,fun ht3=>?_⟩
  ·obtain⟨_,_,k2⟩:=kk.2.2 k hkl
   exact(keys_mem hkl).2 k2 (he3.1 hf)
  have hnk:rkey l[k] ∉ (l.take k).map rkey:=fun hm=>by rw [he3.2 hm] at ht3; cases ht3
  refine(semx_upPair (E:=4) (show Tryz.prog.underlying 247=some (.map 249 4) by kernel_rfl) pairTy hmap3 (rkey l[k]) hnk).mono ?_
  rintro V5 r ⟨rfl,rfl⟩
  refine⟨(),rfl,_,rfl,(((k+1:Nat):Int),()),by rw [nxt hkl (by omega)]; rfl,⟨?_,k+1,rfl,hkl,?_,fun j hj=>?_⟩,?_⟩
  ·intro b x hb
   rw [kset_other (fun e=>by rw [e,hm0] at hb; cases hb)]
   exact l2 b x hb
  ·rw [kset_same,List.take_succ_eq_append_getElem hkl,List.map_append]
   rfl
  ·by_cases ej:j=k
   ·subst ej; exact⟨hkl,w2,(keys_mem hkl).1 hnk⟩
   ·exact hall j (by omega)
  ·show((l.length:Int)-((k+1:Nat):Int)).toNat<((l.length:Int)-(k:Int)).toNat
   omega
 ·have hkl:k=l.length:=by
   have:¬ (k:Int)<(s.n:Int):=of_decide_eq_false hge
   omega
  subst hkl
  exact⟨hle,true,rfl,⟨fun _=>⟨q1,by omega,hall⟩,fun _=>rfl⟩⟩
theorem cS_LedgerOk {V:Know} (hV:HcS V) (c:Scs [.l,.l,.s,.l]) (x:DLedger) (f:List Nat) (h:rLedger.R V c x f):CallX Tryz.prog V 71 [qv3 c] (OkPost V (LedgerOkP x)):=by
 refine CallX.of_fits Tryz.mix (fS_LedgerOk _) fun _=>?_
 obtain⟨c0,c1,c2,c3,cu⟩:=c
 obtain⟨x0,x1,x2,x3,xu⟩:=x
 obtain⟨f0,g0,_,h0,h⟩:=h
 obtain⟨f1,g1,_,h1,h⟩:=h
 obtain⟨⟨e2,_⟩,h⟩:=h
 replace e2:c2=x2:=e2
 subst e2
 obtain⟨f3,g3,_,h3,_⟩:=h
 replace h0:LR rAcct V c0 x0 f0:=h0
 replace h1:LR rRest V c1 x1 f1:=h1
 replace h3:LR rRate V c3 x3 f3:=h3
 simp only [tS_LedgerOk,T.wp]
 refine(cS_BookOk hV c0 x0 f0 h0).mono ?_
 rintro V1 r ⟨le1,e1,rfl,he1⟩
 refine⟨nofun,e1,rfl,fun ht=>?_,fun hf=>not_ok le1 fun k=>?_⟩
 rotate_left
 ·rw [he1.2 k.1] at hf; cases hf
 refine(cS_RestsOk (hV.le le1) c1 x1 f1 (h1.le le1)).mono ?_
 rintro V2 r ⟨le2,e2,rfl,he2⟩
 have l2:=le1.trans le2
 refine⟨nofun,e2,rfl,fun ht2=>?_,fun hf=>not_ok l2 fun k=>?_⟩
 rotate_left
 ·rw [he2.2 k.2.1] at hf; cases hf
 refine(cS_RatesOk (V:=V2) c2 c3 x3 f3 (h3.le l2)).mono ?_
 rintro V3 r ⟨le3,e3,rfl,he3⟩
 exact⟨nofun,e3,rfl,l2.trans le3,e3,rfl,⟨fun ht3=>⟨he1.1 ht,he2.1 ht2,he3.1 ht3⟩,fun k=>he3.2 k.2.2⟩⟩
theorem cI_LedgerOk {V:Know} (hV:HcI V) (c:Scs [.l,.l,.s,.l]) (x:DLedger) (f:List Nat) (h:rLedger.R V c x f):CallX Tryz.prog V 104 [qv3 c] (OkPost V (LedgerOkP x)):=by
 refine CallX.of_fits Tryz.mix (fI_LedgerOk _) fun _=>?_
 obtain⟨c0,c1,c2,c3,cu⟩:=c
 obtain⟨x0,x1,x2,x3,xu⟩:=x
 obtain⟨f0,g0,_,h0,h⟩:=h
 obtain⟨f1,g1,_,h1,h⟩:=h
 obtain⟨⟨e2,_⟩,h⟩:=h
 replace e2:c2=x2:=e2
 subst e2
 obtain⟨f3,g3,_,h3,_⟩:=h
 replace h0:LR rAcct V c0 x0 f0:=h0
 replace h1:LR rRest V c1 x1 f1:=h1
 replace h3:LR rRate V c3 x3 f3:=h3
 simp only [tI_LedgerOk,T.wp]
 refine(cI_BookOk hV c0 x0 f0 h0).mono ?_
 rintro V1 r ⟨le1,e1,rfl,he1⟩
 refine⟨nofun,e1,rfl,fun ht=>?_,fun hf=>not_ok le1 fun k=>?_⟩
 rotate_left
 ·rw [he1.2 k.1] at hf; cases hf
 refine(cI_RestsOk (hV.le le1) c1 x1 f1 (h1.le le1)).mono ?_
 rintro V2 r ⟨le2,e2,rfl,he2⟩
 have l2:=le1.trans le2
 refine⟨nofun,e2,rfl,fun ht2=>?_,fun hf=>not_ok l2 fun k=>?_⟩
 rotate_left
 ·rw [he2.2 k.2.1] at hf; cases hf
 refine(cI_RatesOk (hV.le l2) c2 c3 x3 f3 (h3.le l2)).mono ?_
 rintro V3 r ⟨le3,e3,rfl,he3⟩
 exact⟨nofun,e3,rfl,l2.trans le3,e3,rfl,⟨fun ht3=>⟨he1.1 ht,he2.1 ht2,he3.1 ht3⟩,fun k=>he3.2 k.2.2⟩⟩
end Go.Proofs.YtfiakghfncempaaGreatDoor
namespace Go.Proofs.YtfiakghfncempaaGreatDoor
open Sx
def Red (N D:Int) (p q:List Lim):Prop:=Can p∧Can q∧valN p*(Int.gcd N D:Int)=N∧valN q*(Int.gcd N D:Int)=D
theorem gcd_pos {N D:Int} (hD:0<D):0<(Int.gcd N D:Int):=by
 have:Int.gcd N D≠0:=fun e=>by
  have:=(Int.gcd_eq_zero_iff.1 e).2
  omega
 omega
theorem red_inj {N D:Int} (hD:0<D) {p q p' q':List Lim} (h:Red N D p q) (h':Red N D p' q'):p=p'∧q=q':=by
 have hg:=gcd_pos (N:=N) hD
 refine⟨can_inj h.1 h'.1 ?_,can_inj h.2.1 h'.2.1 ?_⟩
 ·exact Int.eq_of_mul_eq_mul_right (by omega) (h.2.2.1.trans h'.2.2.1.symm)
 ·exact Int.eq_of_mul_eq_mul_right (by omega) (h.2.2.2.trans h'.2.2.2.symm)
theorem red_pos {N D:Int} (hD:0<D) {p q:List Lim} (h:Red N D p q):0<valN q:=by
 have hg:=gcd_pos (N:=N) hD
 have h0:=valN_nonneg h.2.1.1
 rcases(show valN q=0∨0<valN q by omega) with e | e
 ·have:=h.2.2.2
  rw [e,Int.zero_mul] at this
  omega
 ·exact e
theorem red_num {N D:Int} (hD:0<D) {p q:List Lim} (h:Red N D p q):0<valN p↔0<N:=by
 have hg:=gcd_pos (N:=N) hD
 have h0:=valN_nonneg h.1.1
 rw [← h.2.2.1]
 constructor
 ·intro k; exact Int.mul_pos k hg
 ·intro k
  rcases(show valN p=0∨0<valN p by omega) with e | e
  ·rw [e,Int.zero_mul] at k; omega
  ·exact e
theorem red_gcd {N D:Int} (hD:0<D) {p q:List Lim} (h:Red N D p q):Int.gcd (valN p) (valN q)=1:=by
 have hg:=gcd_pos (N:=N) hD
 have e:Int.gcd (valN p*(Int.gcd N D:Int)) (valN q*(Int.gcd N D:Int))=Int.gcd (valN p) (valN q)*Int.natAbs (Int.gcd N D:Int):=Int.gcd_mul_right _ _ _
 rw [h.2.2.1,h.2.2.2] at e
 have e2:Int.natAbs (Int.gcd N D:Int)=Int.gcd N D:=Int.natAbs_natCast _
 rw [e2] at e
 have hg':0<Int.gcd N D:=by omega
 have:1*Int.gcd N D=Int.gcd (valN p) (valN q)*Int.gcd N D:=by omega
 exact(Nat.eq_of_mul_eq_mul_right hg' this).symm
theorem exact_quot {n g q r:Int} (hg:0<g) (h:n=q*g+r) (hr:0≤r∧r<g) (hd:g ∣ n):q*g=n:=by
 obtain⟨c,hc⟩:=hd
 have h2:n=c*g+0:=by rw [hc,Int.mul_comm]; omega
 obtain⟨e1,e2⟩:=quot_unique h h2 hr ⟨Int.le_refl _,hg⟩
 omega
theorem gcd_dvd_l (N D:Int):(Int.gcd N D:Int) ∣ N:=Int.gcd_dvd_left ..
theorem gcd_dvd_r (N D:Int):(Int.gcd N D:Int) ∣ D:=Int.gcd_dvd_right ..
end Go.Proofs.YtfiakghfncempaaGreatDoor
namespace Go.Proofs.YtfiakghfncempaaGreatDoor
open Sx
set_option maxRecDepth 100000
theorem lr_nil {V:Know}:LR rI V ⟨none,0,0⟩ [] []:=⟨rfl,Nat.le_refl _,by simp,.inl ⟨rfl,fun _=>rfl,rfl⟩⟩
theorem rat_mk {V:Know} {b:Bool} {s s':SlV} {p q:List Lim} {f g:List Nat} (h:LR rI V s p f) (h':LR rI V s' q g):rRat.R V (b,s,s',()) (b,p,q,()) (f++(g++[])) :=
 ⟨rfl,f,g++[],rfl,h,g,[],rfl,h',rfl⟩
def RedS (S D:Int) (x:DRat) (e:Bool):Prop:=∃ p q,Red (S.natAbs:Int) D p q∧((p.length≤18∧q.length≤18∧e=true∧x=(decide (S<0),p,q,()))∨(¬ (p.length≤18∧q.length≤18)∧e=false∧x=(false,[],[],())))
theorem redS_inj {S D:Int} (hD:0<D) {x x':DRat} {e e':Bool} (h:RedS S D x e) (h':RedS S D x' e'):x=x'∧e=e':=by
 obtain⟨p,q,h1,h2⟩:=h
 obtain⟨p',q',h1',h2'⟩:=h'
 obtain⟨rfl,rfl⟩:=red_inj hD h1 h1'
 rcases h2 with ⟨a,b,c,d⟩ | ⟨a,c,d⟩
 ·rcases h2' with ⟨_,_,c',d'⟩ | ⟨a',_,_⟩
  ·exact⟨d.trans d'.symm,c.trans c'.symm⟩
  ·exact absurd ⟨a,b⟩ a'
 ·rcases h2' with ⟨a',b',_,_⟩ | ⟨_,c',d'⟩
  ·exact absurd ⟨a',b'⟩ a
  ·exact⟨d.trans d'.symm,c.trans c'.symm⟩
theorem redS_ok {S D:Int} (hD:0<D) {x:DRat} {e:Bool} (h:RedS S D x e) (he:e=true):RatOkP x.1 x.2.1 x.2.2.1:=by
 obtain⟨p,q,h1,h2⟩:=h
 rcases h2 with ⟨a,b,_,rfl⟩ | ⟨_,c,_⟩
 ·refine⟨⟨⟨h1.1,(by omega:p.length≤50)⟩,fun hn=>?_⟩,⟨h1.2.1,(by omega:q.length≤50)⟩,(can_pos h1.2.1).2 (red_pos hD h1),b,a,red_gcd hD h1⟩
  have hs:S<0:=of_decide_eq_true hn
  exact(can_pos h1.1).2 ((red_num hD h1).2 (by omega))
 ·rw [he] at c; cases c
abbrev RatPost (V:Know) (S D:Int):Know→Value→Prop:=fun V' r=>V.le V'∧∃ c x e f,r=.tuple #[qv1 c,.bool e]∧rRat.R V' c x f∧Own V V' f∧RedS S D x e
theorem sval_abs {c0:Bool} {n:List Lim} (h:Lims n):((sval c0 n).natAbs:Int)=valN n:=by
 have:=valN_nonneg h
 unfold sval
 split <;> omega
theorem sval_neg {c0:Bool} {n:List Lim} (h:Can n) {p:List Lim} (hp:0<p.length↔0<valN n):(c0 && decide (0<p.length))=decide (sval c0 n<0):=by
 have:=valN_nonneg h.1
 cases c0 with
 | false =>
  rw [Bool.false_and]
  exact(decide_eq_false (by unfold sval; simp; omega)).symm
 | true =>
  rw [Bool.true_and]
  exact decide_eq_decide.2 (by rw [hp]; unfold sval; simp)
theorem cI_reduce (V:Know) (c0:Bool) (s s':SlV) (n d:List Lim) (f g:List Nat) (h:LR rI V s n f) (h':LR rI V s' d g) (hn:Can n) (hd:Can d) (hp:0<valN d) (ln:n.length≤900000) (ld:d.length≤900000) :
  CallX Tryz.prog V 117 [qv0 (c0,s,()),Sc.val .l s'] (RatPost V (sval c0 n) (valN d)):=by
 refine CallX.of_fits Tryz.mix (fI_reduce _ _) fun _=>?_
 simp only [tI_reduce,T.wp]
 refine(cI_natGcd V s s' n d f g h h' hn hd ln ld).mono ?_
 rintro V1 _ ⟨le1,s1,gg,f1,rfl,L1,O1,C1,v1⟩
 have hg:=gcd_pos (N:=valN n) hp
 have hgp:0<gg.length:=(can_pos C1).2 (by omega)
 refine⟨nofun,s1,rfl,(cI_natDiv V1 s s1 n gg f f1 (h.le le1) L1 hn C1 ln hgp).mono ?_⟩
 rintro V2 _ ⟨le2,sq,sr,q,r,f2,f2',rfl,L2,L2',O2,_,C2,C2',v2,b2⟩
 have l2:=le1.trans le2
 refine⟨nofun,(sq,sr,()),rfl,(cI_natDiv V2 s' s1 d gg g f1 (h'.le l2) (L1.le le2) hd C1 ld hgp).mono ?_⟩
 rintro V3 _ ⟨le3,tq,tr,q',r',f3,f3',rfl,L3,L3',O3,_,C3,C3',v3,b3⟩
 have l3:=l2.trans le3
 rw [v1] at v2 v3 b2 b3
 have x1:=exact_quot hg v2 ⟨valN_nonneg C2'.1,b2⟩ (gcd_dvd_l _ _)
 have x2:=exact_quot hg v3 ⟨valN_nonneg C3'.1,b3⟩ (gcd_dvd_r _ _)
 have hred:Red ((sval c0 n).natAbs:Int) (valN d) q q':=by
  rw [sval_abs hn.1]
  exact⟨C2,C3,x1,x2⟩
 have n2:=L2.1
 have n3:=L3.1
 have none:¬ (q.length≤18∧q'.length≤18)→RatPost V (sval c0 n) (valN d) V3 (packed [qv1 (false,(⟨none,0,0⟩:SlV),(⟨none,0,0⟩:SlV),()),.bool false]) :=
  fun hl=>⟨l3,_,(false,[],[],()),false,_,rfl,rat_mk lr_nil lr_nil,Own.nil,q,q',hred,.inr ⟨hl,rfl,rfl⟩⟩
 refine⟨nofun,(tq,tr,()),rfl,fun h1=>none fun k=>?_,fun h1=>⟨fun h2=>none fun k=>?_,fun h2=>?_⟩⟩
 ·have:(sq.n:Int) > 18:=of_decide_eq_true h1
  omega
 ·have:(tq.n:Int) > 18:=of_decide_eq_true h2
  omega
 have k1:¬ (sq.n:Int) > 18:=of_decide_eq_false h1
 have k2:¬ (tq.n:Int) > 18:=of_decide_eq_false h2
 refine(cI_signed V3 c0 sq).mono ?_
 rintro V4 _ ⟨rfl,rfl⟩
 refine⟨nofun,(c0 && decide ((sq.n:Int) > 0),sq,()),rfl,l3,_,(c0 && decide ((sq.n:Int) > 0),q,q',()),true,_,rfl,rat_mk (L2.le le3) L3,?_,q,q',hred,.inl ⟨by omega,by omega,rfl,?_⟩⟩
 ·rw [List.append_nil]
  exact(O2.append O3 le2 le3).pre le1
 ·have e:decide ((sq.n:Int) > 0)=decide (0<q.length):=decide_eq_decide.2 (by omega)
  rw [e,sval_neg hn ((can_pos C2).trans (by have:=red_num hp hred; rwa [sval_abs hn.1] at this))]
end Go.Proofs.YtfiakghfncempaaGreatDoor
