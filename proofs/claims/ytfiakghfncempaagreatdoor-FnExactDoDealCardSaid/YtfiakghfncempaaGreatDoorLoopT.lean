/-
  Loops over lists of texts: two compared, one measured, one copied.
-/
import Derived.Test.YtfiakghfncempaaGreatDoorMath
namespace Go.Proofs.YtfiakghfncempaaGreatDoor
open Sx
abbrev rString:Rp [.s] (ByteArray × Unit):=rStr rNil
theorem LR.txt {V:Know} {s:SlV} {l:List (ByteArray × Unit)} {f:List Nat} (h:LR rString V s l f) {i:Nat} (hi:i<l.length) :
  (∃ b o,s.a=some ⟨b,o,none⟩∧loadV V ((⟨b,o,none⟩:Addr).add (i*1)) 1=some [.string l[i].1])∧l[i].1.size≤9223372036854775807:=by
 obtain⟨b1,o1,c1,f1,a1,l1,r1,_⟩:=h.at hi
 have e:c1.1=l[i].1:=r1.1.1
 refine⟨?_,r1.1.2⟩
 rw [← e]
 exact⟨b1,o1,a1,l1⟩
def tEqT (x0 x1:SlV):T:=tEq x0.n x1.n fun y1 =>
 .rg <| .el x0.a x0.n y1.fst fun y2=>.ld true (y2.add (Int.toNat y1.fst*(1:Nat))) (.o .s) fun y3 =>
 .el x1.a x1.n y1.fst fun y4=>.ld true (y4.add (Int.toNat y1.fst*(1:Nat))) (.o .s) fun y5 =>
 .br (!(y3.toList == y5.toList)) (.ret [.bool false]) <| .nx 0 [.v (.int .i64 (IntKind.i64.wrap (y1.fst+(1:Int))))]
theorem tEqT_wp {P:Program} {V V0:Know} {s s':SlV} {l l':List (ByteArray × Unit)} {f f':List Nat} (h:LR rString V s l f) (h':LR rString V s' l' f') :
  (tEqT s s').wp P (fun V' vs=>V'=V∧∃ b,packed vs=.bool b∧(b=true↔l=l')) V V0 []:=by
 refine tEq_wp h.1 h'.1 (h.2.2.1) fun i hi hi' K N hK hN=>?_
 obtain⟨⟨b1,o1,a1,l1⟩,_⟩:=h.txt hi
 obtain⟨⟨b2,o2,a2,l2⟩,_⟩:=h'.txt hi'
 have hn1:=h.1
 have hn2:=h'.1
 refine⟨_,a1,by omega,(by omega:(i:Int)<(s.n:Int)),l[i].1,l1,_,a2,by omega,(by omega:(i:Int)<(s'.n:Int)),l'[i].1,l2,fun h=>hK fun e=>?_,fun h=>⟨_,rfl,hN ?_⟩⟩
 ·rw [e] at h; simp at h
 ·have:l[i].1=l'[i].1:=text_eq.1 (by simpa using h)
  exact Prod.ext this rfl
def tSzT (x0:SlV) (x1:Int):T :=
 .br (decide (IntKind.i64.wrap (x1-(x0.n:Int))<(0:Int))) (.ret [.int .i64 (-1:Int)]) <|
 .lp [.o (.o (.i .i64)),.o (.o (.i .i64))] [.v (.int .i64 (IntKind.i64.wrap (x1-(x0.n:Int)))),.v (.int .i64 (0:Int))] fun y1 =>
 .br (decide (y1.2.fst<(x0.n:Int))) (
  .el x0.a x0.n y1.2.fst fun y2 =>
  .ld false (y2.add (Int.toNat y1.2.fst*(1:Nat))) (.o .s) fun y3 =>
  .br (decide (IntKind.i64.wrap (y1.fst-(y3.size:Int))<(0:Int))) (.ret [.int .i64 (-1:Int)]) <|
  .nx 0 [.v (.int .i64 (IntKind.i64.wrap (y1.fst-(y3.size:Int)))),.v (.int .i64 (IntKind.i64.wrap (y1.2.fst+(1:Int))))]) <|
 .ret [.int .i64 y1.fst]
theorem tSzT_wp {P:Program} {V V0:Know} {s:SlV} {l:List (ByteArray × Unit)} {f:List Nat} {left:Int} (h:LR rString V s l f) (h0:0≤left) (h1:left≤1048576) :
  (tSzT s left).wp P (fun V' vs=>V'=V∧packed vs=.int .i64 (szr (l.length+totE rString l) left)) V V0 []:=by
 have hn:=h.1
 have hb:=h.2.2.1
 have hw:IntKind.i64.wrap (left-(s.n:Int))=left-(l.length:Int):=by rw [wrap_i64 (by omega),hn]
 simp only [tSzT,T.wp]
 rw [hw]
 refine⟨fun hlt=>⟨trivial,?_⟩,fun hge=>?_⟩
 ·have:left-(l.length:Int)<0:=by simpa using hlt
  rw [szr_neg (by omega)]; rfl
 have hle:(l.length:Int)≤left:=by
  have:¬ left-(l.length:Int)<0:=by simpa using hge
  omega
 refine⟨fun y V'=>V'=V∧∃ i:Nat,y.2.1=(i:Int)∧i≤l.length∧0≤(y.1:Int)∧(y.1:Int)≤1048576∧szr (totE rString (l.drop i)) y.1=szr (l.length+totE rString l) left,
  fun y=>((l.length:Int)-(y.2.1:Int)).toNat,⟨(left-(l.length:Int),(0:Int),()),rfl,rfl,0,rfl,by omega,(by omega:(0:Int)≤left-(l.length:Int)),(by omega:left-(l.length:Int)≤1048576),?_⟩,?_⟩
 ·rw [szr_add hle,szr_ge hle]; rfl
 rintro⟨(k:Int),(i:Int),u⟩ V' ⟨rfl,j,hj,hjl,hk0,hk1,hs⟩
 replace hj:i=(j:Int):=hj
 replace hk0:0≤k:=hk0
 replace hk1:k≤1048576:=hk1
 replace hs:szr (totE rString (l.drop j)) k=szr (l.length+totE rString l) left:=hs
 subst hj
 refine⟨fun hlt=>?_,fun hge=>?_⟩
 ·have hi:j<l.length:=by
   have:(j:Int)<(s.n:Int):=by simpa using hlt
   omega
  obtain⟨⟨b1,o1,a1,l1⟩,z1⟩:=h.txt hi
  rw [totE_drop rString hi] at hs
  have ht:rString.tot l[j]=l[j].1.size:=rfl
  have wk:IntKind.i64.wrap (k-(l[j].1.size:Int))=k-(l[j].1.size:Int):=wrap_i64 (by omega)
  refine⟨_,a1,(by omega:(0:Int)≤(j:Int)),(by omega:(j:Int)<(s.n:Int)),l[j].1,l1,fun hneg=>⟨rfl,?_⟩,fun hpos=>?_⟩
  ·have q:k-(l[j].1.size:Int)<0:=by
    have:=of_decide_eq_true hneg
    rw [← wk]; exact this
   rw [← hs,szr_neg (by omega)]; rfl
  ·have q:¬ k-(l[j].1.size:Int)<0:=by
    have:=of_decide_eq_false hpos
    rw [← wk]; exact this
   refine⟨_,rfl,(k-(l[j].1.size:Int),((j+1:Nat):Int),()),?_,⟨rfl,j+1,rfl,hi,?_,?_,?_⟩,?_⟩
   ·rw [nxt hi (by omega)]
    show [LV.v (.int .i64 (IntKind.i64.wrap (k-(l[j].1.size:Int)))),_]=_
    rw [wk]; rfl
   ·show 0≤k-(l[j].1.size:Int)
    omega
   ·show k-(l[j].1.size:Int)≤1048576
    omega
   ·show szr (totE rString (l.drop (j+1))) (k-(l[j].1.size:Int))=_
    have hk:((l[j].1.size:Nat):Int)≤k:=by omega
    rw [← hs,ht,szr_add hk,szr_ge hk]
   ·show((l.length:Int)-((j+1:Nat):Int)).toNat<((l.length:Int)-(j:Int)).toNat
    omega
 ·have hi:j=l.length:=by
   have:¬ (j:Int)<(s.n:Int):=by simpa using hge
   omega
  subst hi
  refine⟨rfl,?_⟩
  rw [List.drop_length] at hs
  rw [← hs]
  have:szr 0 k=k:=by unfold szr; rw [if_pos (by omega)]; omega
  show Value.int .i64 k=Value.int .i64 (szr 0 k)
  rw [this]
def tToT (ty:TypeId) (x0:SlV):T :=
 .rq ((0:Int)≤(x0.n:Int)∧(x0.n:Int)≤(x0.n:Int)∧((16:Nat):Int)*(x0.n:Int)≤(281474976710656:Int)∧(x0.n:Int)≤(9223372036854775807:Int)) <|
 .lp [.a ty,.o (.o (.i .i64))] [.a ty ((x0.n:Int).toNat) ((madeCells ⟨[.string ⟨⟨[]⟩⟩]⟩ ((x0.n:Int).toNat*(1:Nat))).toList),.v (.int .i64 (0:Int))] fun y1 =>
 .br (decide (y1.2.fst<(x0.n:Int))) (
  .el x0.a x0.n y1.2.fst fun y2 =>
  .ld false (y2.add (Int.toNat y1.2.fst*(1:Nat))) (.o .s) fun y3 =>
  .rq ((0:Int)≤y1.2.fst∧y1.2.fst<(y1.1.fst:Int)) <|
  .rq (Int.toNat y1.2.fst*(1:Nat)+[(Sh1.o .s).val y3].length≤y1.1.snd.length) <|
  .nx 0 [.a ty y1.1.fst (setl y1.1.snd (Int.toNat y1.2.fst*(1:Nat)) [(Sh1.o .s).val y3]),.v (.int .i64 (IntKind.i64.wrap (y1.2.fst+(1:Int))))]) <|
 .fz y1.1.fst y1.1.snd ty fun b2 c2 =>
 .ret [.slice (some { block:=b2,off:=0:Addr }) y1.1.fst c2]
theorem tToT_wp {P:Program} {V V0:Know} {s:SlV} {l:List (ByteArray × Unit)} {f:List Nat} {ty:TypeId} (h:LR rString V s l f) (ht:l.length+totE rString l≤1048576) :
  (tToT ty s).wp P (fun V' vs=>V.le V'∧∃ s' f',packed vs=Sc.val .l s'∧LR rString V' s' l f'∧Own V V' f') V V0 []:=by
 have hn:=h.1
 unfold tToT
 refine⟨guard_ok (by omega) (by omega),?_⟩
 refine toLoop (e:=rString) hn h.2.2.1 fun V' i hi ys K N hle hfit hN=>?_
 obtain⟨⟨b1,o1,a1,l1⟩,z1⟩:=(h.le hle).txt hi
 refine⟨_,a1,(by omega:(0:Int)≤(i:Int)),(by omega:(i:Int)<(s.n:Int)),l[i].1,l1,⟨(by omega:(0:Int)≤(i:Int)),(by omega:(i:Int)<(s.n:Int))⟩,hfit,_,rfl,?_⟩
 exact hN V' (l[i].1,()) [] (Know.le.refl _) ⟨⟨rfl,z1⟩,rfl⟩ Own.nil
end Go.Proofs.YtfiakghfncempaaGreatDoor
