/-
  Decimals: the least scale, comparison, tax rates, in the program and in the reference.
-/
import Derived.Test.YtceoihhldnnenaaGreatDoorMath
import Derived.Lib.ItoaNum
import Derived.Lib.ItoaLen
import Derived.Lib.Repeat
import Derived.Test.YtceoihhldnnenaaGreatDoorDivB
import Derived.Test.YtceoihhldnnenaaGreatDoorLedA
namespace Go.Proofs.YtceoihhldnnenaaGreatDoor
open Sx
set_option maxRecDepth 100000
def zeros (k:Nat):ByteArray:=⟨(List.replicate k 48).toArray⟩
end Go.Proofs.YtceoihhldnnenaaGreatDoor
namespace Go.Proofs.YtceoihhldnnenaaGreatDoor
open Sx
set_option maxRecDepth 100000
def ten (k:Nat):Int:=10 ^ k
theorem ten_succ (k:Nat):ten (k+1)=ten k*10:=Int.pow_succ ..
theorem ten_add (i j:Nat):ten (i+j)=ten i*ten j:=by
 induction j with
 | zero=>simp [ten]
 | succ j ih=>rw [← Nat.add_assoc,ten_succ,ih,ten_succ,Int.mul_assoc]
theorem ten_pos:∀ k:Nat,0<ten k
 | 0=>by decide
 | k+1=>by
  have:=ten_pos k
  rw [ten_succ]; omega
theorem ten_nine:∀ q:Nat,ten (9*q)=1000000000 ^ q
 | 0=>rfl
 | q+1=>by
  rw [show 9*(q+1)=9*q+9 by omega,ten_add,ten_nine q,Int.pow_succ]
  rfl
theorem ten_mono {i j:Nat} (h:i≤j):ten i≤ten j:=by
 obtain⟨d,rfl⟩:=Nat.le.dest h
 rw [ten_add]
 have h1:=ten_pos i
 have h2:=ten_pos d
 have:ten i*1≤ten i*ten d:=Int.mul_le_mul_of_nonneg_left (by omega) (by omega)
 omega
theorem ten_lt9 {k:Nat} (h:k<9):1≤ten k∧ten k≤100000000:=by
 have h1:=ten_mono (show k≤8 by omega)
 have h2:=ten_pos k
 have:ten 8=100000000:=rfl
 omega
def tenL (k:Nat):List Lim:=zer (k / 9)++[(ten (k % 9),())]
theorem tenL_len (k:Nat):(tenL k).length=k / 9+1:=by simp [tenL,len_zer]
theorem tenL_val (k:Nat):valN (tenL k)=ten k:=by
 unfold tenL
 rw [valN_app,valN_zer,valN_one,len_zer,← ten_nine,Int.mul_comm,← ten_add,Int.zero_add]
 congr 1
 omega
theorem tenL_can (k:Nat):Can (tenL k):=by
 have h:=ten_lt9 (show k % 9<9 by omega)
 refine⟨lims_app (lims_zer _) (lims_one (by omega)),.inr ?_⟩
 rw [tenL_len]
 show limb (zer (k / 9)++[(ten (k % 9),())]) (k / 9+1-1)≠0
 rw [limb_app_ge (by rw [len_zer]; omega),len_zer,show k / 9+1-1-k / 9=0 by omega]
 show(ten (k % 9))≠0
 omega
abbrev DecD:Type:=Bool × List Lim × Int × Unit
structure Same10 (m:List Lim) (s:Int) (m':List Lim) (s':Int):Prop where
 eq:valN m'*ten s.toNat=valN m*ten s'.toNat
end Go.Proofs.YtceoihhldnnenaaGreatDoor
namespace Go.Proofs.YtceoihhldnnenaaGreatDoor
open Sx
set_option maxRecDepth 100000
def Goes (n:Bool) (m:List Lim) (sc s:Int) (y:List Lim):Prop:=DecOkP n m sc∧DecOkP n y s∧Same10 m sc y s
def At (n:Bool) (m:List Lim) (sc s:Int) (x:DecD) (e:Bool):Prop:=(e=true∧∃ y,x=(n,y,s,())∧Goes n m sc s y)∨(e=false∧x=(false,[],0,())∧∀ y,¬ Goes n m sc s y)
theorem cI_natTen (V:Know) (k:Nat) (hk:k≤440):CallX Tryz.prog V 317 [.int .i64 (k:Int)] (fun V' r=>V.le V'∧∃ s f,r=Sc.val .l s∧LR rI V' s (tenL k) f∧Own V V' f):=by
 refine CallX.of_fits Tryz.mix (fI_natTen _) fun _=>?_
 have e1:(k:Int).tdiv 9=((k / 9:Nat):Int):=(Int.ofNat_tdiv k 9).symm
 have e2:(k:Int).tmod 9=((k % 9:Nat):Int):=(Int.ofNat_tmod k 9).symm
 have w1:IntKind.i64.wrap ((k / 9:Nat):Int)=((k / 9:Nat):Int):=wrap_i64 (by omega)
 have w2:IntKind.i64.wrap (((k / 9:Nat):Int)+1)=((k / 9:Nat):Int)+1:=wrap_i64 (by omega)
 simp only [tI_natTen,T.wp,e1,e2,w1,w2]
 refine⟨by decide,by decide,⟨by omega,by omega,by omega,by omega⟩,by decide,?_⟩
 refine⟨fun y V'=>V'=V∧∃ i:Nat,y.2.1=(i:Int)∧i≤k % 9∧y.1=ten i,fun y=>(((k % 9:Nat):Int)-(y.2.1:Int)).toNat,⟨((1:Int),(0:Int),()),rfl,rfl,0,rfl,by omega,rfl⟩,?_⟩
 rintro⟨(t:Int),(i:Int),u⟩ V' ⟨rfl,j,hj,hjl,ht⟩
 replace hj:i=(j:Int):=hj
 replace ht:t=ten j:=ht
 subst hj ht
 refine⟨fun hlt=>?_,fun hge=>?_⟩
 ·have hl:j<k % 9:=by
   have:(j:Int)<((k % 9:Nat):Int):=of_decide_eq_true hlt
   omega
  have hb:=ten_lt9 (show j<9 by omega)
  refine⟨_,rfl,(ten (j+1),((j+1:Nat):Int),()),?_,⟨rfl,j+1,rfl,by omega,rfl⟩,?_⟩
  ·show [LV.v (.int .i64 (IntKind.i64.wrap (ten j*10))),LV.v (.int .i64 (IntKind.i64.wrap ((j:Int)+1)))]=_
   rw [wrap_i64 (by omega:-9223372036854775808≤ten j*10∧ten j*10≤9223372036854775807),nxt hl (by omega),← ten_succ]
   rfl
  ·show(((k % 9:Nat):Int)-((j+1:Nat):Int)).toNat<(((k % 9:Nat):Int)-(j:Int)).toNat
   omega
 ·have hl:j=k % 9:=by
   have:¬ (j:Int)<((k % 9:Nat):Int):=of_decide_eq_false hge
   omega
  subst hl
  have e3:(((k / 9:Nat):Int)).toNat=k / 9:=by omega
  refine⟨rfl,⟨rfl,by omega,by omega⟩,fun b cap spare hb hcap _=>?_⟩
  have hc:(tenL k).length≤cap:=by rw [tenL_len]; omega
  have hx:(madeCells ⟨[.int .i64 (0:Int)]⟩ ((((k / 9:Nat):Int)).toNat*1)).toList++[(Sh1.o (Sc.i IntKind.i64)).val (ten (k % 9))]=(tenL k).map cellI:=by
   rw [show(((k / 9:Nat):Int)).toNat*1=k / 9 by omega,made_zer,tenL,List.map_append]
   rfl
  have hN:=newI (V:=V') (b:=b) (cap:=cap) (o:=tenL k) (spare:=spare) (t:=3) hb hc (by rw [tenL_len]; omega)
  refine⟨kset_le hb,⟨some ⟨b,0,none⟩,(tenL k).length,cap⟩,[b],?_,?_,?_⟩
  ·rw [tenL_len,show k / 9+1=(((k / 9:Nat):Int)).toNat+1 by omega]
   rfl
  ·have h1:=hN.1
   rw [← hx] at h1
   exact h1
  ·have h1:=hN.2
   rw [← hx] at h1
   exact h1
theorem cS_NatTen (V:Know) (k:Nat) (hk:k≤440):CallX Tryz.prog V 193 [.int .i64 (k:Int)] (fun V' r=>V.le V'∧∃ s f,r=Sc.val .l s∧LR rI V' s (tenL k) f∧Own V V' f):=by
 refine CallX.of_fits Tryz.mix (fS_NatTen _) fun _=>?_
 have e1:(k:Int).tdiv 9=((k / 9:Nat):Int):=(Int.ofNat_tdiv k 9).symm
 have e2:(k:Int).tmod 9=((k % 9:Nat):Int):=(Int.ofNat_tmod k 9).symm
 have w1:IntKind.i64.wrap ((k / 9:Nat):Int)=((k / 9:Nat):Int):=wrap_i64 (by omega)
 simp only [tS_NatTen,T.wp,e1,e2,w1]
 refine(cS_l01In V _ 0 449).mono ?_
 rintro V1 r ⟨rfl,rfl⟩
 refine⟨nofun,_,rfl,fun h=>?_,fun _=>?_⟩
 ·have:¬ ((0:Int)≤(k:Int)∧(k:Int)≤449):=by simpa using h
  omega
 refine⟨by decide,⟨by omega,by omega,by omega,by omega⟩,?_⟩
 refine⟨fun y V'=>V'=V1∧∃ i:Nat,y.2.1=(i:Int)∧i≤k % 9∧y.1=ten i,fun y=>(((k % 9:Nat):Int)-(y.2.1:Int)).toNat,⟨((1:Int),(0:Int),()),rfl,rfl,0,rfl,by omega,rfl⟩,?_⟩
 rintro⟨(t:Int),(i:Int),u⟩ V' ⟨rfl,j,hj,hjl,ht⟩
 replace hj:i=(j:Int):=hj
 replace ht:t=ten j:=ht
 subst hj ht
 refine⟨by decide,fun hlt=>?_,fun hge=>?_⟩
 ·have hl:j<k % 9:=by
   have:(j:Int)<((k % 9:Nat):Int):=of_decide_eq_true hlt
   omega
  have hb:=ten_lt9 (show j<9 by omega)
  refine⟨_,rfl,(ten (j+1),((j+1:Nat):Int),()),?_,⟨rfl,j+1,rfl,by omega,rfl⟩,?_⟩
  ·show [LV.v (.int .i64 (IntKind.i64.wrap (ten j*10))),LV.v (.int .i64 (IntKind.i64.wrap ((j:Int)+1)))]=_
   rw [wrap_i64 (by omega:-9223372036854775808≤ten j*10∧ten j*10≤9223372036854775807),nxt hl (by omega),← ten_succ]
   rfl
  ·show(((k % 9:Nat):Int)-((j+1:Nat):Int)).toNat<(((k % 9:Nat):Int)-(j:Int)).toNat
   omega
 ·have hl:j=k % 9:=by
   have:¬ (j:Int)<((k % 9:Nat):Int):=of_decide_eq_false hge
   omega
  subst hl
  have e3:(((k / 9:Nat):Int)).toNat=k / 9:=by omega
  refine⟨rfl,⟨rfl,by omega,by omega⟩,fun b cap spare hb hcap _=>?_⟩
  have hc:(tenL k).length≤cap:=by rw [tenL_len]; omega
  have hx:(madeCells ⟨[.int .i64 (0:Int)]⟩ ((((k / 9:Nat):Int)).toNat*1)).toList++[(Sh1.o (Sc.i IntKind.i64)).val (ten (k % 9))]=(tenL k).map cellI:=by
   rw [show(((k / 9:Nat):Int)).toNat*1=k / 9 by omega,made_zer,tenL,List.map_append]
   rfl
  have hN:=newI (V:=V') (b:=b) (cap:=cap) (o:=tenL k) (spare:=spare) (t:=3) hb hc (by rw [tenL_len]; omega)
  refine⟨kset_le hb,⟨some ⟨b,0,none⟩,(tenL k).length,cap⟩,[b],?_,?_,?_⟩
  ·rw [tenL_len,show k / 9+1=(((k / 9:Nat):Int)).toNat+1 by omega]
   rfl
  ·have h1:=hN.1
   rw [← hx] at h1
   exact h1
  ·have h1:=hN.2
   rw [← hx] at h1
   exact h1
abbrev decV (n:Bool) (s:SlV) (x:Int):Value:=qv4 (n,s,x,())
def UpP (V:Know) (n:Bool) (m:List Lim) (k:Nat):Know→Value→Prop:=fun V' r=>V.le V'∧∃ s o f,r=qv0 (n,s,())∧LR rI V' s o f∧Own V V' f∧Can o∧valN o=valN m*ten k∧o.length≤11∧(n=true→0<o.length)
theorem up_len {m o:List Lim} {k:Nat} (hm:Can m) (hm6:m.length≤6) (ho:Can o) (hk:k≤30) (hv:valN o=valN m*ten k):o.length≤11:=by
 have h:=mul_len (b:=tenL k) (tenL_can k) ho hm.1 (by rw [tenL_val]; exact hv)
 rw [tenL_len] at h
 omega
theorem up_pos {n:Bool} {m o:List Lim} {k:Nat} (hm:IntOkP n m) (ho:Can o) (hv:valN o=valN m*ten k) (h:n=true):0<o.length:=by
 have h1:=(can_pos hm.1.1).1 (hm.2 h)
 rw [can_pos ho,hv]
 exact Int.mul_pos h1 (ten_pos _)
theorem cI_scaled (V:Know) (n:Int):CallX Tryz.prog V 315 [.int .i64 n] (fun V' r=>V.le V'∧∃ a,r=Sc.val .c (323,a)∧loadV V' a 1=some [.int .i64 n]):=by
 refine CallX.of_fits Tryz.mix (fI_scaled _) fun _=>?_
 simp only [tI_scaled,T.wp]
 intro b hb
 refine⟨kset_le hb,⟨b,0,none⟩,rfl,?_⟩
 show loadV (kset V b ([.int .i64 n],_)) ⟨b,0,none⟩ 1=_
 simp [loadV,kset,cutv]
theorem cI_scaled_1 (V:Know) (n:Bool) (s:SlV) (sc x:Int) (m:List Lim) (f:List Nat) (a:Addr) (h:LR rI V s m f) (hd:DecOkP n m sc) (hx:sc≤x) (hx3:x≤30) (ha:loadV V a 1=some [.int .i64 x]) :
  CallX Tryz.prog V 323 [decV n s sc,.pointer (some a)] (UpP V n m (x-sc).toNat):=by
 refine CallX.of_fits Tryz.mix (fI_scaled_1 _ _) fun _=>?_
 simp only [tI_scaled_1,T.wp]
 have h0:=hd.2.2.1
 have e:IntKind.i64.wrap (x-sc)=(((x-sc).toNat:Nat):Int):=by rw [wrap_i64 (by omega)]; omega
 refine⟨x,ha,?_⟩
 rw [e]
 refine(cI_natTen V _ (by omega)).mono ?_
 rintro V1 _ ⟨le1,s1,f1,rfl,L1,_⟩
 refine⟨fun _=>le1,s1,rfl,(cI_natMul V1 s s1 m (tenL (x-sc).toNat) f f1 (h.le le1) L1 hd.1.1.1.1 (tenL_can _).1 (by have:=hd.2.1; omega) (by rw [tenL_len]; omega)).mono ?_⟩
 rintro V2 _ ⟨le2,s2,o,bk,rfl,N2,hb2,ho,hv,_⟩
 rw [tenL_val] at hv
 refine⟨fun _=>le2,s2,rfl,(cI_signed V2 n s2).mono ?_⟩
 rintro V3 _ ⟨rfl,rfl⟩
 refine⟨fun _=>Know.le.refl _,_,rfl,le1.trans le2,s2,o,[bk],?_,N2.lr,(N2.own hb2).pre le1,ho,hv,up_len hd.1.1.1 hd.2.1 ho (by omega) hv,up_pos hd.1 ho hv⟩
 have hn:(n && decide ((s2.n:Int) > 0))=n:=by
  cases n with
  | false=>rfl
  | true =>
   have:=up_pos hd.1 ho hv rfl
   rw [N2.lr.1]
   simp [this]
 rw [hn]
 rfl
theorem cS_l07Ten (V:Know) (k:Nat) (hk:k≤440):CallX Tryz.prog V 162 [.int .i64 (k:Int)] (fun V' r=>V.le V'∧∃ s f,r=qv0 (false,s,())∧LR rI V' s (tenL k) f∧Own V V' f):=by
 refine CallX.of_fits Tryz.mix (fS_l07Ten _) fun _=>?_
 simp only [tS_l07Ten,T.wp]
 refine(cS_NatTen V k hk).mono ?_
 rintro V1 _ ⟨le1,s1,f1,rfl,L1,O1⟩
 exact⟨nofun,s1,rfl,le1,s1,f1,rfl,L1,O1⟩
theorem cS_IntMul (V:Know) (c0:Bool) (c1:SlV) (d0:Bool) (d1:SlV) (a b:List Lim) (f g:List Nat) (h:LR rI V c1 a f) (h':LR rI V d1 b g) (ha:IntOkP c0 a) (hb:IntOkP d0 b) (hl:a.length+b.length≤50) :
  CallX Tryz.prog V 87 [qv0 (c0,c1,()),qv0 (d0,d1,())] (fun V' r=>V.le V'∧∃ s o f,r=qv0 ((c0 != d0) && decide (0<o.length),s,())∧LR rI V' s o f∧Own V V' f∧Can o∧valN o=valN a*valN b):=by
 refine CallX.of_fits Tryz.mix (fS_IntMul _ _) fun _=>?_
 simp only [tS_IntMul,T.wp]
 refine(cS_IntOk V c0 c1 a f h).mono ?_
 rintro V1 r ⟨rfl,e,rfl,he⟩
 obtain rfl:e=true:=he.2 ha
 refine⟨nofun,true,rfl,(fun h=>by cases h),fun _=>(cS_IntOk V1 d0 d1 b g h').mono ?_⟩
 rintro V2 r ⟨rfl,e,rfl,he⟩
 obtain rfl:e=true:=he.2 hb
 refine⟨nofun,true,rfl,(fun h=>by cases h),fun _=>(cS_l02Mul V2 c1 d1 a b f g h h' ha.1.1.1 hb.1.1.1 (by omega) (by omega)).mono ?_⟩
 rintro V3 _ ⟨le3,s3,o,f3,rfl,L3,O3,ho,hv⟩
 have hol:=mul_len hb.1.1 ho ha.1.1.1 hv
 refine⟨fun _=>le3,s3,rfl,(cS_l04Make V3 _ s3 o f3 L3 ho (by omega)).mono ?_⟩
 rintro V4 _ ⟨le4,s4,f4,rfl,L4,O4⟩
 exact⟨fun _=>le4,_,rfl,le3.trans le4,s4,o,f4,rfl,L4,O4.pre le3,ho,hv⟩
theorem cS_up (V:Know) (n:Bool) (s t:SlV) (m:List Lim) (f g:List Nat) (k:Nat) (h:LR rI V s m f) (h':LR rI V t (tenL k) g) (hm:IntOkP n m) (h6:m.length≤6) (hk:k≤30) :
  CallX Tryz.prog V 87 [qv0 (n,s,()),qv0 (false,t,())] (UpP V n m k):=by
 refine(cS_IntMul V n s false t m (tenL k) f g h h' hm ⟨⟨tenL_can k,by rw [tenL_len]; omega⟩,(fun h=>by cases h)⟩ (by rw [tenL_len]; omega)).mono ?_
 rintro V1 _ ⟨le1,s1,o,f1,rfl,L1,O1,ho,hv⟩
 rw [tenL_val] at hv
 refine⟨le1,s1,o,f1,?_,L1,O1,ho,hv,up_len hm.1.1 h6 ho hk hv,up_pos hm ho hv⟩
 have hn:((n != false) && decide (0<o.length))=n:=by
  cases n with
  | false=>rfl
  | true=>simp [up_pos hm ho hv rfl]
 rw [hn]
def AtPost (V:Know) (n:Bool) (m:List Lim) (sc s:Int):Know→Value→Prop:=fun V' r=>V.le V'∧∃ (x:DecD) (t:SlV) (e:Bool) (f:List Nat),r=.tuple #[decV x.1 t x.2.2.1,.bool e]∧LR rI V' t x.2.1 f∧Own V V' f∧At n m sc s x e
theorem AtPost.split {V V':Know} {n:Bool} {m:List Lim} {sc s:Int} {r:Value} (h:AtPost V n m sc s V' r):∃ y,r=Sh.val (.t [.g [.b,.l,.i .i64],.o .b]) y:=by
 obtain⟨_,x,t,e,_,rfl,_⟩:=h
 exact⟨((x.1,t,x.2.2.1,()),e,()),rfl⟩
end Go.Proofs.YtceoihhldnnenaaGreatDoor
namespace Go.Proofs.YtceoihhldnnenaaGreatDoor
open Sx
set_option maxRecDepth 100000
theorem loadV_le {V V':Know} {a:Addr} {k:Nat} {x:List Value} (h:V.le V') (hl:loadV V a k=some x):loadV V' a k=some x:=by
 unfold loadV at hl ⊢
 split at hl
 ·rename_i cs u h1 h2
  rw [h1,h _ _ h2]
  exact hl
 ·cases hl
def topS (a b:Int):Int:=if b > a then b else a
def cmpD (n:Bool) (m:List Lim) (sc:Int) (n':Bool) (m':List Lim) (sc':Int):Int :=
 sgn (sval n m*ten (topS sc sc'-sc).toNat-sval n' m'*ten (topS sc sc'-sc').toNat)
theorem topS_le (a b:Int):a≤topS a b∧b≤topS a b:=by unfold topS; split <;> omega
theorem topS_max {a b c:Int} (h:a≤c) (k:b≤c):topS a b≤c:=by unfold topS; split <;> omega
theorem sval_up {n:Bool} {m o:List Lim} {k:Nat} (h:valN o=valN m*ten k):sval n o=sval n m*ten k:=by
 unfold sval
 split
 ·rw [h,Int.neg_mul]
 ·exact h
theorem cI_DecCmp (V:Know) (n:Bool) (t:SlV) (m:List Lim) (f:List Nat) (sc:Int) (n':Bool) (t':SlV) (m':List Lim) (f':List Nat) (sc':Int) (h:LR rI V t m f) (h':LR rI V t' m' f') (hd:DecOkP n m sc) (hd':DecOkP n' m' sc') :
  CallX Tryz.prog V 306 [decV n t sc,decV n' t' sc'] (fun V' r=>V.le V'∧r=.int .i64 (cmpD n m sc n' m' sc')):=by
 refine CallX.of_fits Tryz.mix (fI_DecCmp _ _) fun _=>?_
 simp only [tI_DecCmp,T.wp]
 have t1:=topS_le sc sc'
 have t2:=topS_max hd.2.2.2 hd'.2.2.2
 refine(cI_DecOk V n t sc m f h).mono ?_
 rintro V1 r ⟨rfl,e,rfl,he⟩
 obtain rfl:e=true:=he.2 hd
 refine⟨nofun,true,rfl,(fun h=>by cases h),fun _=>(cI_DecOk V1 n' t' sc' m' f' h').mono ?_⟩
 rintro V2 r ⟨rfl,e,rfl,he⟩
 obtain rfl:e=true:=he.2 hd'
 refine⟨nofun,true,rfl,(fun h=>by cases h),fun _=>(cI_scaled V2 (topS sc sc')).mono ?_⟩
 rintro V3 _ ⟨le3,a,rfl,ha⟩
 refine⟨nofun,(323,a),rfl,(cI_scaled_1 V3 n t sc _ m f a (h.le le3) hd t1.1 t2 ha).mono ?_⟩
 rintro V4 _ ⟨le4,s4,o4,f4,rfl,L4,_,ho4,hv4,hl4,_⟩
 refine⟨fun _=>le4,(n,s4,()),rfl,(cI_scaled_1 V4 n' t' sc' _ m' f' a (h'.le (le3.trans le4)) hd' t1.2 t2 (loadV_le le4 ha)).mono ?_⟩
 rintro V5 _ ⟨le5,s5,o5,f5,rfl,L5,_,ho5,hv5,hl5,_⟩
 refine⟨fun _=>le5,(n',s5,()),rfl,(cI_intCmp V5 n s4 n' s5 o4 o5 f4 f5 (L4.le le5) L5 ho4 ho5 (by omega) (by omega)).mono ?_⟩
 rintro V6 _ ⟨le6,rfl⟩
 refine⟨fun _=>le6,_,rfl,((le3.trans le4).trans le5).trans le6,?_⟩
 rw [sval_up hv4,sval_up hv5]
 rfl
def BothPost (V:Know) (n:Bool) (m:List Lim) (sc:Int) (n':Bool) (m':List Lim) (sc':Int):Know→Value→Prop:=fun V' r=>V.le V'∧∃ s1 s2 o1 o2 f1 f2,r=.tuple #[qv0 (n,s1,()),qv0 (n',s2,()),.int .i64 (topS sc sc')] ∧
 LR rI V' s1 o1 f1∧LR rI V' s2 o2 f2∧IntOkP n o1∧IntOkP n' o2∧valN o1=valN m*ten (topS sc sc'-sc).toNat∧valN o2=valN m'*ten (topS sc sc'-sc').toNat
theorem cS_l07Both (V:Know) (n:Bool) (t:SlV) (m:List Lim) (f:List Nat) (sc:Int) (n':Bool) (t':SlV) (m':List Lim) (f':List Nat) (sc':Int) (h:LR rI V t m f) (h':LR rI V t' m' f') (hd:DecOkP n m sc) (hd':DecOkP n' m' sc') :
  CallX Tryz.prog V 160 [decV n t sc,decV n' t' sc'] (BothPost V n m sc n' m' sc'):=by
 refine CallX.of_fits Tryz.mix (fS_l07Both _ _) fun _=>?_
 simp only [tS_l07Both,T.wp]
 have t1:=topS_le sc sc'
 have t2:=topS_max hd.2.2.2 hd'.2.2.2
 have s0:=hd.2.2.1
 have s0':=hd'.2.2.1
 have w1:IntKind.i64.wrap (topS sc sc'-sc)=(((topS sc sc'-sc).toNat:Nat):Int):=by rw [wrap_i64 (by omega)]; omega
 have w2:IntKind.i64.wrap (topS sc sc'-sc')=(((topS sc sc'-sc').toNat:Nat):Int):=by rw [wrap_i64 (by omega)]; omega
 refine⟨fun hg=>?_,fun hl=>?_⟩
 ·have e:sc'=topS sc sc':=by
   have:sc' > sc:=of_decide_eq_true hg
   unfold topS
   rw [if_pos this]
  have w1':IntKind.i64.wrap (sc'-sc)=(((topS sc sc'-sc).toNat:Nat):Int):=by rw [← w1,← e]
  have w2':IntKind.i64.wrap (sc'-sc')=(((topS sc sc'-sc').toNat:Nat):Int):=by rw [← w2,← e]
  rw [w1',w2']
  refine(cS_l07Ten V _ (by omega)).mono ?_
  rintro V1 _ ⟨le1,u1,g1,rfl,M1,_⟩
  refine⟨fun _=>le1,(false,u1,()),rfl,(cS_up V1 n t u1 m f g1 _ (h.le le1) M1 hd.1 hd.2.1 (by omega)).mono ?_⟩
  rintro V2 _ ⟨le2,s2,o2,f2,rfl,L2,_,ho2,hv2,hl2,hp2⟩
  refine⟨fun _=>le2,(n,s2,()),rfl,(cS_l07Ten V2 _ (by omega)).mono ?_⟩
  rintro V3 _ ⟨le3,u3,g3,rfl,M3,_⟩
  have l3:=(le1.trans le2).trans le3
  refine⟨fun _=>le3,(false,u3,()),rfl,(cS_up V3 n' t' u3 m' f' g3 _ (h'.le l3) M3 hd'.1 hd'.2.1 (by omega)).mono ?_⟩
  rintro V4 _ ⟨le4,s4,o4,f4,rfl,L4,_,ho4,hv4,hl4,hp4⟩
  refine⟨fun _=>le4,(n',s4,()),rfl,l3.trans le4,s2,s4,o2,o4,f2,f4,?_,L2.le (le3.trans le4),L4,⟨⟨ho2,by omega⟩,hp2⟩,⟨⟨ho4,by omega⟩,hp4⟩,hv2,hv4⟩
  rw [← e]
  rfl
 ·have e:sc=topS sc sc':=by
   have:¬ sc' > sc:=of_decide_eq_false hl
   unfold topS
   rw [if_neg this]
  have w1':IntKind.i64.wrap (sc-sc)=(((topS sc sc'-sc).toNat:Nat):Int):=by rw [← w1,← e]
  have w2':IntKind.i64.wrap (sc-sc')=(((topS sc sc'-sc').toNat:Nat):Int):=by rw [← w2,← e]
  rw [w1',w2']
  refine(cS_l07Ten V _ (by omega)).mono ?_
  rintro V1 _ ⟨le1,u1,g1,rfl,M1,_⟩
  refine⟨fun _=>le1,(false,u1,()),rfl,(cS_up V1 n t u1 m f g1 _ (h.le le1) M1 hd.1 hd.2.1 (by omega)).mono ?_⟩
  rintro V2 _ ⟨le2,s2,o2,f2,rfl,L2,_,ho2,hv2,hl2,hp2⟩
  refine⟨fun _=>le2,(n,s2,()),rfl,(cS_l07Ten V2 _ (by omega)).mono ?_⟩
  rintro V3 _ ⟨le3,u3,g3,rfl,M3,_⟩
  have l3:=(le1.trans le2).trans le3
  refine⟨fun _=>le3,(false,u3,()),rfl,(cS_up V3 n' t' u3 m' f' g3 _ (h'.le l3) M3 hd'.1 hd'.2.1 (by omega)).mono ?_⟩
  rintro V4 _ ⟨le4,s4,o4,f4,rfl,L4,_,ho4,hv4,hl4,hp4⟩
  refine⟨fun _=>le4,(n',s4,()),rfl,l3.trans le4,s2,s4,o2,o4,f2,f4,?_,L2.le (le3.trans le4),L4,⟨⟨ho2,by omega⟩,hp2⟩,⟨⟨ho4,by omega⟩,hp4⟩,hv2,hv4⟩
  rw [← e]
  rfl
theorem cS_DecCmp (V:Know) (n:Bool) (t:SlV) (m:List Lim) (f:List Nat) (sc:Int) (n':Bool) (t':SlV) (m':List Lim) (f':List Nat) (sc':Int) (h:LR rI V t m f) (h':LR rI V t' m' f') (hd:DecOkP n m sc) (hd':DecOkP n' m' sc') :
  CallX Tryz.prog V 115 [decV n t sc,decV n' t' sc'] (fun V' r=>V.le V'∧r=.int .i64 (cmpD n m sc n' m' sc')):=by
 refine CallX.of_fits Tryz.mix (fS_DecCmp _ _) fun _=>?_
 simp only [tS_DecCmp,T.wp]
 refine(cS_DecOk V n t sc m f h).mono ?_
 rintro V1 r ⟨rfl,e,rfl,he⟩
 obtain rfl:e=true:=he.2 hd
 refine⟨nofun,true,rfl,(fun h=>by cases h),fun _=>(cS_DecOk V1 n' t' sc' m' f' h').mono ?_⟩
 rintro V2 r ⟨rfl,e,rfl,he⟩
 obtain rfl:e=true:=he.2 hd'
 refine⟨nofun,true,rfl,(fun h=>by cases h),fun _=>(cS_l07Both V2 n t m f sc n' t' m' f' sc' h h' hd hd').mono ?_⟩
 rintro V3 _ ⟨le3,s1,s2,o1,o2,f1,f2,rfl,L1,L2,i1,i2,v1,v2⟩
 refine⟨nofun,((n,s1,()),(n',s2,()),topS sc sc',()),rfl,(cS_IntCmp V3 n s1 n' s2 o1 o2 f1 f2 L1 L2 i1 i2).mono ?_⟩
 rintro V4 _ ⟨rfl,rfl⟩
 refine⟨nofun,_,rfl,le3,?_⟩
 rw [sval_up v1,sval_up v2]
 rfl
theorem cI_IntOne (V:Know):CallX Tryz.prog V 256 [.int .i64 1] (fun V' r=>V.le V'∧∃ s f,r=qv0 (false,s,())∧LR rI V' s [(1,())] f):=by
 refine CallX.of_fits Tryz.mix (fI_IntOf _) fun _=>?_
 simp only [tI_IntOf,T.wp]
 refine⟨fun h=>?_,fun _=>?_⟩
 ·have:(1:Int)<0:=of_decide_eq_true h
  omega
 rw [show IntKind.u64.wrap 1=1 from wrap_u64 (by omega)]
 refine(cI_natOf V 1 (by omega)).mono ?_
 rintro V1 _ ⟨le1,s,o,f,rfl,L,_,C,v,_⟩
 have e:o=[(1,())]:=can_inj C ⟨lims_one (by decide),.inr (by decide)⟩ (by rw [v,valN_one])
 subst e
 exact⟨nofun,s,rfl,le1,s,f,rfl,L⟩
theorem cS_IntOne (V:Know):CallX Tryz.prog V 86 [.int .i64 1] (fun V' r=>V.le V'∧∃ s f,r=qv0 (false,s,())∧LR rI V' s [(1,())] f):=by
 refine CallX.of_fits Tryz.mix (fS_IntOf _) fun _=>?_
 simp only [tS_IntOf,T.wp]
 refine⟨fun h=>?_,fun _=>⟨fun h=>?_,fun _=>?_⟩⟩
 ·have:(1:Int)=-9223372036854775808:=by simp at h
  omega
 ·have:(1:Int)<0:=of_decide_eq_true h
  omega
 refine(cS_NatOf V 1 (by omega)).mono ?_
 rintro V1 _ ⟨le1,s,o,f,rfl,L,_,C,v,_⟩
 have e:o=[(1,())]:=can_inj C ⟨lims_one (by decide),.inr (by decide)⟩ (by rw [v,valN_one])
 subst e
 refine⟨nofun,s,rfl,(cS_l04Make V1 false s _ f L C (by simp)).mono ?_⟩
 rintro V2 _ ⟨le2,s2,f2,rfl,L2,_⟩
 exact⟨nofun,(false,s2,()),rfl,le1.trans le2,s2,f2,rfl,L2⟩
def TaxP (n:Bool) (m:List Lim) (sc:Int):Prop:=DecOkP n m sc∧m.length≤1∧n=false∧cmpD n m sc false [(1,())] 0≤0
theorem one_ok:DecOkP false [(1,())] 0:=⟨⟨⟨⟨lims_one (by decide),.inr (by decide)⟩,by simp⟩,(fun h=>by cases h)⟩,by simp,by omega,by omega⟩
theorem cI_TaxRateOk (V:Know) (n:Bool) (t:SlV) (m:List Lim) (f:List Nat) (sc:Int) (h:LR rI V t m f):CallX Tryz.prog V 301 [decV n t sc] (OkPost V (TaxP n m sc)):=by
 refine CallX.of_fits Tryz.mix (fI_TaxRateOk _) fun _=>?_
 simp only [tI_TaxRateOk,T.wp]
 have hn:=h.1
 refine(cI_DecOk V n t sc m f h).mono ?_
 rintro V1 r ⟨rfl,e,rfl,he⟩
 refine⟨fun _=>Know.le.refl _,e,rfl,fun ht=>⟨fun h1=>⟨fun hb=>?_,fun hb=>?_⟩,fun h1=>?_⟩,fun hf=>not_ok (Know.le.refl _) fun k=>?_⟩
 ·have q:(t.n:Int)≤1:=of_decide_eq_true h1
  have hb':n=false:=by simpa using hb
  refine(cI_IntOne V1).mono ?_
  rintro V2 _ ⟨le2,s2,f2,rfl,L2⟩
  refine⟨fun _=>le2,(false,s2,()),rfl,(cI_DecCmp V2 n t m f sc false s2 _ f2 0 (h.le le2) L2 (he.1 ht) one_ok).mono ?_⟩
  rintro V3 _ ⟨le3,rfl⟩
  exact⟨fun _=>le3,_,rfl,le2.trans le3,_,rfl,⟨fun hd=>⟨he.1 ht,by omega,hb',of_decide_eq_true hd⟩,fun k=>decide_eq_true k.2.2.2⟩⟩
 ·exact not_ok (Know.le.refl _) fun k=>by rw [k.2.2.1] at hb; cases hb
 ·have q:¬ (t.n:Int)≤1:=of_decide_eq_false h1
  exact not_ok (Know.le.refl _) fun k=>by have:=k.2.1; omega
 ·rw [he.2 k.1] at hf; cases hf
theorem cS_TaxRateOk (V:Know) (n:Bool) (t:SlV) (m:List Lim) (f:List Nat) (sc:Int) (h:LR rI V t m f):CallX Tryz.prog V 64 [decV n t sc] (OkPost V (TaxP n m sc)):=by
 refine CallX.of_fits Tryz.mix (fS_TaxRateOk _) fun _=>?_
 simp only [tS_TaxRateOk,T.wp]
 have hn:=h.1
 refine(cS_DecOk V n t sc m f h).mono ?_
 rintro V1 r ⟨rfl,e,rfl,he⟩
 refine⟨fun _=>Know.le.refl _,e,rfl,fun ht=>⟨fun hb=>⟨fun h1=>?_,fun h1=>?_⟩,fun hb=>?_⟩,fun hf=>not_ok (Know.le.refl _) fun k=>?_⟩
 ·have q:(t.n:Int)≤1:=of_decide_eq_true h1
  have hb':n=false:=by simpa using hb
  refine(cS_IntOne V1).mono ?_
  rintro V2 _ ⟨le2,s2,f2,rfl,L2⟩
  refine⟨fun _=>le2,(false,s2,()),rfl,(cS_DecCmp V2 n t m f sc false s2 _ f2 0 (h.le le2) L2 (he.1 ht) one_ok).mono ?_⟩
  rintro V3 _ ⟨le3,rfl⟩
  exact⟨fun _=>le3,_,rfl,le2.trans le3,_,rfl,⟨fun hd=>⟨he.1 ht,by omega,hb',of_decide_eq_true hd⟩,fun k=>decide_eq_true k.2.2.2⟩⟩
 ·have q:¬ (t.n:Int)≤1:=of_decide_eq_false h1
  exact not_ok (Know.le.refl _) fun k=>by have:=k.2.1; omega
 ·exact not_ok (Know.le.refl _) fun k=>by rw [k.2.2.1] at hb; cases hb
 ·rw [he.2 k.1] at hf; cases hf
end Go.Proofs.YtceoihhldnnenaaGreatDoor
