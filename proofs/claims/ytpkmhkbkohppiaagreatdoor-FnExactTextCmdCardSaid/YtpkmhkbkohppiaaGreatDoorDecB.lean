/-
  Decimals: the least scale, comparison, tax rates, in the program and in the reference.
-/
import Derived.Test.YtpkmhkbkohppiaaGreatDoorLedA
import Derived.Test.YtpkmhkbkohppiaaGreatDoorDecM
namespace Go.Proofs.YtpkmhkbkohppiaaGreatDoor
open Sx
set_option maxRecDepth 100000
def Goes (n:Bool) (m:List Lim) (sc s:Int) (y:List Lim):Prop:=DecOkP n m sc∧DecOkP n y s∧Same10 m sc y s
def At (n:Bool) (m:List Lim) (sc s:Int) (x:DecD) (e:Bool):Prop:=(e=true∧∃ y,x=(n,y,s,())∧Goes n m sc s y)∨(e=false∧x=(false,[],0,())∧∀ y,¬ Goes n m sc s y)
def LowD (n:Bool) (m:List Lim) (sc:Int) (x:DecD):Prop:=∃ s y,0≤s∧s≤sc∧x=(n,y,s,())∧Goes n m sc s y∧∀ t z,0≤t→t<s→¬ Goes n m sc t z
theorem goes_inj {n:Bool} {m:List Lim} {sc s:Int} {y y':List Lim} (h:Goes n m sc s y) (k:Goes n m sc s y'):y=y':=same10_inj h.2.2 k.2.2 h.2.1.1.1.1 k.2.1.1.1.1
theorem goes_self {n:Bool} {m:List Lim} {sc:Int} (h:DecOkP n m sc):Goes n m sc sc m:=⟨h,h,⟨rfl⟩⟩
theorem low_inj {n:Bool} {m:List Lim} {sc:Int} {x x':DecD} (h:LowD n m sc x) (k:LowD n m sc x'):x=x':=by
 obtain⟨s,y,h0,h1,rfl,h2,h3⟩:=h
 obtain⟨s',y',k0,k1,rfl,k2,k3⟩:=k
 have e:s=s':=by
  by_cases h:s<s'
  ·exact absurd h2 (k3 _ _ h0 h)
  ·by_cases h':s'<s
   ·exact absurd k2 (h3 _ _ k0 h')
   ·omega
 subst e
 rw [goes_inj h2 k2]
theorem low_ok {n:Bool} {m:List Lim} {sc:Int} {x:DecD} (h:LowD n m sc x):DecOkP x.1 x.2.1 x.2.2.1:=by
 obtain⟨s,y,h0,h1,rfl,h2,h3⟩:=h
 exact h2.2.1
theorem low_self {n:Bool} {m:List Lim} {sc:Int} {x:DecD} (h:LowD n m sc x) (e:x.2.2.1=sc):x=(n,m,sc,()):=by
 obtain⟨s,y,h0,h1,rfl,h2,h3⟩:=h
 replace e:s=sc:=e
 subst e
 rw [goes_inj h2 (goes_self h2.1)]
theorem toNat_split {sc s:Int} (h0:0≤sc) (h:sc≤s):ten s.toNat=ten sc.toNat*ten (s-sc).toNat:=by
 rw [← ten_add]
 congr 1
 omega
theorem goes_up {n:Bool} {m o:List Lim} {sc s:Int} (hd:DecOkP n m sc) (h:sc≤s) (hs:s≤30) (ho:Can o) (hv:valN o=valN m*ten (s-sc).toNat) :
  (o.length≤6→Goes n m sc s o)∧(¬ o.length≤6→∀ y,¬ Goes n m sc s y):=by
 have e:=toNat_split hd.2.2.1 h
 have hS:Same10 m sc o s:=⟨by rw [hv,e,Int.mul_assoc,Int.mul_comm (ten (s-sc).toNat)]⟩
 refine⟨fun h6=>⟨hd,⟨⟨⟨ho,by omega⟩,fun hn=>?_⟩,h6,by have:=hd.2.2.1; omega,hs⟩,hS⟩,fun h6 y hy=>h6 ?_⟩
 ·have h1:=(can_pos hd.1.1.1).1 (hd.1.2 hn)
  rw [can_pos ho,hv]
  exact Int.mul_pos h1 (ten_pos _)
 ·rw [same10_inj hS hy.2.2 ho hy.2.1.1.1.1]
  exact hy.2.1.2.1
theorem goes_down {n:Bool} {m q:List Lim} {r:Int} {sc s:Int} (hd:DecOkP n m sc) (h0:0≤s) (h:s≤sc) (hq:Can q) (hv:valN m=valN q*ten (sc-s).toNat+r) (hr:0≤r∧r<ten (sc-s).toNat) :
  (r=0→Goes n m sc s q∧q.length≤6)∧(r≠0→∀ y,¬ Goes n m sc s y):=by
 have e:=toNat_split h0 h
 have hq0:=valN_nonneg hq.1
 refine⟨fun h=>?_,fun hne y hy=>hne ?_⟩
 ·subst h
  rw [Int.add_zero] at hv
  have hS:Same10 m sc q s:=⟨by rw [hv,e,Int.mul_assoc,Int.mul_comm (ten s.toNat)]⟩
  have hle:valN q≤valN m:=by
   rw [hv]
   have:=ten_pos (sc-s).toNat
   have h2:valN q*1≤valN q*ten (sc-s).toNat:=Int.mul_le_mul_of_nonneg_left (by omega) hq0
   omega
  have hl:=can_len hd.1.1.1 hq hle
  have h6:=hd.2.1
  refine⟨⟨hd,⟨⟨⟨hq,by omega⟩,fun hn=>?_⟩,by omega,h0,by have:=hd.2.2.2; omega⟩,hS⟩,by omega⟩
  have h1:=(can_pos hd.1.1.1).1 (hd.1.2 hn)
  rw [can_pos hq]
  by_cases hz:valN q=0
  ·rw [hv,hz,Int.zero_mul] at h1
   omega
  ·omega
 ·have h1:=hy.2.2.1
  rw [e,← Int.mul_assoc,Int.mul_comm (valN y),Int.mul_comm (valN m)] at h1
  have h2:valN y*ten (sc-s).toNat=valN m:=by
   refine Int.eq_of_mul_eq_mul_left (show ten s.toNat≠0 by have:=ten_pos s.toNat; omega) ?_
   rw [← h1]
   ac_rfl
  have h3:valN m=valN y*ten (sc-s).toNat+0:=by rw [h2,Int.add_zero]
  exact(quot_unique hv h3 hr ⟨Int.le_refl _,ten_pos _⟩).2
theorem lr_nil0 {V:Know}:LR rI V ⟨none,0,0⟩ [] []:=⟨rfl,Nat.le_refl _,by simp,.inl ⟨rfl,fun _=>rfl,rfl⟩⟩
theorem cI_natTen (V:Know) (k:Nat) (hk:k≤440):CallX Tryz.prog V 183 [.int .i64 (k:Int)] (fun V' r=>V.le V'∧∃ s f,r=Sc.val .l s∧LR rI V' s (tenL k) f∧Own V V' f):=by
 refine CallX.of_fits Tryz.mix (fI_natTen _) fun _=>?_
 have e1:(k:Int).tdiv 9=((k / 9:Nat):Int):=(Int.ofNat_tdiv k 9).symm
 have e2:(k:Int).tmod 9=((k % 9:Nat):Int):=(Int.ofNat_tmod k 9).symm
 have w1:IntKind.i64.wrap ((k / 9:Nat):Int)=((k / 9:Nat):Int):=wrap_i64 (by omega)
 have w2:IntKind.i64.wrap (((k / 9:Nat):Int)+1)=((k / 9:Nat):Int)+1:=wrap_i64 (by omega)
 simp only [tI_natTen,T.wp,e1,e2,w1,w2]
 refine⟨by decide,by decide,⟨by omega,by omega,by omega,by omega⟩,by decide,?_⟩
 refine⟨fun y V'=>V'=V∧∃ i:Nat,y.2.1=(i:Int)∧i≤k % 9∧y.1=ten i,fun y=>(((k % 9:Nat):Int)-(y.2.1:Int)).toNat,⟨((1:Int),(0:Int),()),rfl,rfl,0,rfl,by omega,rfl⟩,?_⟩
 rintro⟨(t:Int),(i:Int),u⟩ V' ⟨rfl,j,hj,hjl,ht⟩
 replace hj:i=(j:Int):=hj
 replace ht:t=ten j:=ht
 subst hj ht
 refine⟨fun hlt=>?_,fun hge=>?_⟩
 ·have hl:j<k % 9:=by
   have:(j:Int)<((k % 9:Nat):Int):=of_decide_eq_true hlt
   omega
  have hb:=ten_lt9 (show j<9 by omega)
  refine⟨_,rfl,(ten (j+1),((j+1:Nat):Int),()),?_,⟨rfl,j+1,rfl,by omega,rfl⟩,?_⟩
  ·show [LV.v (.int .i64 (IntKind.i64.wrap (ten j*10))),LV.v (.int .i64 (IntKind.i64.wrap ((j:Int)+1)))]=_
   rw [wrap_i64 (by omega:-9223372036854775808≤ten j*10∧ten j*10≤9223372036854775807),nxt hl (by omega),← ten_succ]
   rfl
  ·show(((k % 9:Nat):Int)-((j+1:Nat):Int)).toNat<(((k % 9:Nat):Int)-(j:Int)).toNat
   omega
 ·have hl:j=k % 9:=by
   have:¬ (j:Int)<((k % 9:Nat):Int):=of_decide_eq_false hge
   omega
  subst hl
  have e3:(((k / 9:Nat):Int)).toNat=k / 9:=by omega
  refine⟨rfl,⟨rfl,by omega,by omega⟩,fun b cap spare hb hcap _=>?_⟩
  have hc:(tenL k).length≤cap:=by rw [tenL_len]; omega
  have hx:(madeCells ⟨[.int .i64 (0:Int)]⟩ ((((k / 9:Nat):Int)).toNat*1)).toList++[(Sh1.o (Sc.i IntKind.i64)).val (ten (k % 9))]=(tenL k).map cellI:=by
   rw [show(((k / 9:Nat):Int)).toNat*1=k / 9 by omega,made_zer,tenL,List.map_append]
   rfl
  have hN:=newI (V:=V') (b:=b) (cap:=cap) (o:=tenL k) (spare:=spare) (t:=3) hb hc (by rw [tenL_len]; omega)
  refine⟨kset_le hb,⟨some ⟨b,0,none⟩,(tenL k).length,cap⟩,[b],?_,?_,?_⟩
  ·rw [tenL_len,show k / 9+1=(((k / 9:Nat):Int)).toNat+1 by omega]
   rfl
  ·have h1:=hN.1
   rw [← hx] at h1
   exact h1
  ·have h1:=hN.2
   rw [← hx] at h1
   exact h1
theorem cS_NatTen (V:Know) (k:Nat) (hk:k≤440):CallX Tryz.prog V 152 [.int .i64 (k:Int)] (fun V' r=>V.le V'∧∃ s f,r=Sc.val .l s∧LR rI V' s (tenL k) f∧Own V V' f):=by
 refine CallX.of_fits Tryz.mix (fS_NatTen _) fun _=>?_
 have e1:(k:Int).tdiv 9=((k / 9:Nat):Int):=(Int.ofNat_tdiv k 9).symm
 have e2:(k:Int).tmod 9=((k % 9:Nat):Int):=(Int.ofNat_tmod k 9).symm
 have w1:IntKind.i64.wrap ((k / 9:Nat):Int)=((k / 9:Nat):Int):=wrap_i64 (by omega)
 simp only [tS_NatTen,T.wp,e1,e2,w1]
 refine(cS_l01In V _ 0 449).mono ?_
 rintro V1 r ⟨rfl,rfl⟩
 refine⟨nofun,_,rfl,fun h=>?_,fun _=>?_⟩
 ·have:¬ ((0:Int)≤(k:Int)∧(k:Int)≤449):=by simpa using h
  omega
 refine⟨by decide,⟨by omega,by omega,by omega,by omega⟩,?_⟩
 refine⟨fun y V'=>V'=V1∧∃ i:Nat,y.2.1=(i:Int)∧i≤k % 9∧y.1=ten i,fun y=>(((k % 9:Nat):Int)-(y.2.1:Int)).toNat,⟨((1:Int),(0:Int),()),rfl,rfl,0,rfl,by omega,rfl⟩,?_⟩
 rintro⟨(t:Int),(i:Int),u⟩ V' ⟨rfl,j,hj,hjl,ht⟩
 replace hj:i=(j:Int):=hj
 replace ht:t=ten j:=ht
 subst hj ht
 refine⟨by decide,fun hlt=>?_,fun hge=>?_⟩
 ·have hl:j<k % 9:=by
   have:(j:Int)<((k % 9:Nat):Int):=of_decide_eq_true hlt
   omega
  have hb:=ten_lt9 (show j<9 by omega)
  refine⟨_,rfl,(ten (j+1),((j+1:Nat):Int),()),?_,⟨rfl,j+1,rfl,by omega,rfl⟩,?_⟩
  ·show [LV.v (.int .i64 (IntKind.i64.wrap (ten j*10))),LV.v (.int .i64 (IntKind.i64.wrap ((j:Int)+1)))]=_
   rw [wrap_i64 (by omega:-9223372036854775808≤ten j*10∧ten j*10≤9223372036854775807),nxt hl (by omega),← ten_succ]
   rfl
  ·show(((k % 9:Nat):Int)-((j+1:Nat):Int)).toNat<(((k % 9:Nat):Int)-(j:Int)).toNat
   omega
 ·have hl:j=k % 9:=by
   have:¬ (j:Int)<((k % 9:Nat):Int):=of_decide_eq_false hge
   omega
  subst hl
  have e3:(((k / 9:Nat):Int)).toNat=k / 9:=by omega
  refine⟨rfl,⟨rfl,by omega,by omega⟩,fun b cap spare hb hcap _=>?_⟩
  have hc:(tenL k).length≤cap:=by rw [tenL_len]; omega
  have hx:(madeCells ⟨[.int .i64 (0:Int)]⟩ ((((k / 9:Nat):Int)).toNat*1)).toList++[(Sh1.o (Sc.i IntKind.i64)).val (ten (k % 9))]=(tenL k).map cellI:=by
   rw [show(((k / 9:Nat):Int)).toNat*1=k / 9 by omega,made_zer,tenL,List.map_append]
   rfl
  have hN:=newI (V:=V') (b:=b) (cap:=cap) (o:=tenL k) (spare:=spare) (t:=3) hb hc (by rw [tenL_len]; omega)
  refine⟨kset_le hb,⟨some ⟨b,0,none⟩,(tenL k).length,cap⟩,[b],?_,?_,?_⟩
  ·rw [tenL_len,show k / 9+1=(((k / 9:Nat):Int)).toNat+1 by omega]
   rfl
  ·have h1:=hN.1
   rw [← hx] at h1
   exact h1
  ·have h1:=hN.2
   rw [← hx] at h1
   exact h1
abbrev decV (n:Bool) (s:SlV) (x:Int):Value:=qv0 (n,s,x,())
def OfD (V:Know) (n:Bool) (s:SlV) (x:Int) (o:List Lim):Know→Value→Prop:=fun V' r=>V'=V∧((o.length≤6∧r=.tuple #[decV n s x,.bool true])∨(¬ o.length≤6∧r=.tuple #[decV false ⟨none,0,0⟩ 0,.bool false]))
theorem dec_len {n:Bool} {o:List Lim} {x:Int} (hc:Can o) (hn:n=true→0<o.length) (hl:o.length≤50) (h0:0≤x) (h1:x≤30):DecOkP n o x↔o.length≤6:=⟨fun h=>h.2.1,fun h=>⟨⟨⟨hc,hl⟩,hn⟩,h,h0,h1⟩⟩
theorem cI_decOf (V:Know) (n:Bool) (s:SlV) (x:Int) (o:List Lim) (f:List Nat) (h:LR rI V s o f) (hc:Can o) (hn:n=true→0<o.length) (hl:o.length≤50) (h0:0≤x) (h1:x≤30) :
  CallX Tryz.prog V 181 [qv1 (n,s,()),.int .i64 x] (OfD V n s x o):=by
 refine CallX.of_fits Tryz.mix (fI_decOf _ _) fun _=>?_
 simp only [tI_decOf,T.wp]
 refine(cI_DecOk V n s x o f h).mono ?_
 rintro V1 r ⟨rfl,e,rfl,he⟩
 rw [dec_len hc hn hl h0 h1] at he
 exact⟨nofun,e,rfl,fun h=>⟨rfl,.inl ⟨he.1 h,rfl⟩⟩,fun h=>⟨rfl,.inr ⟨(fun k=>by rw [he.2 k] at h; cases h),rfl⟩⟩⟩
theorem cS_l07Dec (V:Know) (n:Bool) (s:SlV) (x:Int) (o:List Lim) (f:List Nat) (h:LR rI V s o f) (hc:Can o) (hn:n=true→0<o.length) (hl:o.length≤50) (h0:0≤x) (h1:x≤30) :
  CallX Tryz.prog V 79 [qv1 (n,s,()),.int .i64 x] (OfD V n s x o):=by
 refine CallX.of_fits Tryz.mix (fS_l07Dec _ _) fun _=>?_
 simp only [tS_l07Dec,T.wp]
 refine(cS_DecOk V n s x o f h).mono ?_
 rintro V1 r ⟨rfl,e,rfl,he⟩
 rw [dec_len hc hn hl h0 h1] at he
 refine⟨nofun,e,rfl,fun h=>⟨rfl,.inr ⟨fun k=>?_,rfl⟩⟩,fun h=>⟨rfl,.inl ⟨he.1 ?_,rfl⟩⟩⟩
 ·rw [he.2 k] at h; cases h
 ·cases e
  ·cases h
  ·rfl
def UpP (V:Know) (n:Bool) (m:List Lim) (k:Nat):Know→Value→Prop:=fun V' r=>V.le V'∧∃ s o f,r=qv1 (n,s,())∧LR rI V' s o f∧Own V V' f∧Can o∧valN o=valN m*ten k∧o.length≤11∧(n=true→0<o.length)
theorem up_len {m o:List Lim} {k:Nat} (hm:Can m) (hm6:m.length≤6) (ho:Can o) (hk:k≤30) (hv:valN o=valN m*ten k):o.length≤11:=by
 have h:=mul_len (b:=tenL k) (tenL_can k) ho hm.1 (by rw [tenL_val]; exact hv)
 rw [tenL_len] at h
 omega
theorem up_pos {n:Bool} {m o:List Lim} {k:Nat} (hm:IntOkP n m) (ho:Can o) (hv:valN o=valN m*ten k) (h:n=true):0<o.length:=by
 have h1:=(can_pos hm.1.1).1 (hm.2 h)
 rw [can_pos ho,hv]
 exact Int.mul_pos h1 (ten_pos _)
theorem cI_scaled (V:Know) (n:Int):CallX Tryz.prog V 178 [.int .i64 n] (fun V' r=>V.le V'∧∃ a,r=Sc.val .c (198,a)∧loadV V' a 1=some [.int .i64 n]):=by
 refine CallX.of_fits Tryz.mix (fI_scaled _) fun _=>?_
 simp only [tI_scaled,T.wp]
 intro b hb
 refine⟨kset_le hb,⟨b,0,none⟩,rfl,?_⟩
 show loadV (kset V b ([.int .i64 n],_)) ⟨b,0,none⟩ 1=_
 simp [loadV,kset,cutv]
theorem cI_scaled_1 (V:Know) (n:Bool) (s:SlV) (sc x:Int) (m:List Lim) (f:List Nat) (a:Addr) (h:LR rI V s m f) (hd:DecOkP n m sc) (hx:sc≤x) (hx3:x≤30) (ha:loadV V a 1=some [.int .i64 x]) :
  CallX Tryz.prog V 198 [decV n s sc,.pointer (some a)] (UpP V n m (x-sc).toNat):=by
 refine CallX.of_fits Tryz.mix (fI_scaled_1 _ _) fun _=>?_
 simp only [tI_scaled_1,T.wp]
 have h0:=hd.2.2.1
 have e:IntKind.i64.wrap (x-sc)=(((x-sc).toNat:Nat):Int):=by rw [wrap_i64 (by omega)]; omega
 refine⟨V,Know.le.refl _,x,ha,?_⟩
 rw [e]
 refine(cI_natTen V _ (by omega)).mono ?_
 rintro V1 _ ⟨le1,s1,f1,rfl,L1,_⟩
 refine⟨fun _=>le1,s1,rfl,(cI_natMul V1 s s1 m (tenL (x-sc).toNat) f f1 (h.le le1) L1 hd.1.1.1.1 (tenL_can _).1 (by have:=hd.2.1; omega) (by rw [tenL_len]; omega)).mono ?_⟩
 rintro V2 _ ⟨le2,s2,o,bk,rfl,N2,hb2,ho,hv,_⟩
 rw [tenL_val] at hv
 refine⟨fun _=>le2,s2,rfl,(cI_signed V2 n s2).mono ?_⟩
 rintro V3 _ ⟨rfl,rfl⟩
 refine⟨fun _=>Know.le.refl _,_,rfl,le1.trans le2,s2,o,[bk],?_,N2.lr,(N2.own hb2).pre le1,ho,hv,up_len hd.1.1.1 hd.2.1 ho (by omega) hv,up_pos hd.1 ho hv⟩
 have hn:(n && decide ((s2.n:Int) > 0))=n:=by
  cases n with
  | false=>rfl
  | true =>
   have:=up_pos hd.1 ho hv rfl
   rw [N2.lr.1]
   simp [this]
 rw [hn]
 rfl
theorem cS_l07Ten (V:Know) (k:Nat) (hk:k≤440):CallX Tryz.prog V 120 [.int .i64 (k:Int)] (fun V' r=>V.le V'∧∃ s f,r=qv1 (false,s,())∧LR rI V' s (tenL k) f∧Own V V' f):=by
 refine CallX.of_fits Tryz.mix (fS_l07Ten _) fun _=>?_
 simp only [tS_l07Ten,T.wp]
 refine(cS_NatTen V k hk).mono ?_
 rintro V1 _ ⟨le1,s1,f1,rfl,L1,O1⟩
 exact⟨nofun,s1,rfl,le1,s1,f1,rfl,L1,O1⟩
theorem cS_IntMul (V:Know) (c0:Bool) (c1:SlV) (d0:Bool) (d1:SlV) (a b:List Lim) (f g:List Nat) (h:LR rI V c1 a f) (h':LR rI V d1 b g) (ha:IntOkP c0 a) (hb:IntOkP d0 b) (hl:a.length+b.length≤50) :
  CallX Tryz.prog V 119 [qv1 (c0,c1,()),qv1 (d0,d1,())] (fun V' r=>V.le V'∧∃ s o f,r=qv1 ((c0 != d0) && decide (0<o.length),s,())∧LR rI V' s o f∧Own V V' f∧Can o∧valN o=valN a*valN b):=by
 refine CallX.of_fits Tryz.mix (fS_IntMul _ _) fun _=>?_
 simp only [tS_IntMul,T.wp]
 refine(cS_IntOk V c0 c1 a f h).mono ?_
 rintro V1 r ⟨rfl,e,rfl,he⟩
 obtain rfl:e=true:=he.2 ha
 refine⟨nofun,true,rfl,(fun h=>by cases h),fun _=>(cS_IntOk V1 d0 d1 b g h').mono ?_⟩
 rintro V2 r ⟨rfl,e,rfl,he⟩
 obtain rfl:e=true:=he.2 hb
 refine⟨nofun,true,rfl,(fun h=>by cases h),fun _=>(cS_l02Mul V2 c1 d1 a b f g h h' ha.1.1.1 hb.1.1.1 (by omega) (by omega)).mono ?_⟩
 rintro V3 _ ⟨le3,s3,o,f3,rfl,L3,O3,ho,hv⟩
 have hol:=mul_len hb.1.1 ho ha.1.1.1 hv
 refine⟨fun _=>le3,s3,rfl,(cS_l04Make V3 _ s3 o f3 L3 ho (by omega)).mono ?_⟩
 rintro V4 _ ⟨le4,s4,f4,rfl,L4,O4⟩
 exact⟨fun _=>le4,_,rfl,le3.trans le4,s4,o,f4,rfl,L4,O4.pre le3,ho,hv⟩
theorem cS_up (V:Know) (n:Bool) (s t:SlV) (m:List Lim) (f g:List Nat) (k:Nat) (h:LR rI V s m f) (h':LR rI V t (tenL k) g) (hm:IntOkP n m) (h6:m.length≤6) (hk:k≤30) :
  CallX Tryz.prog V 119 [qv1 (n,s,()),qv1 (false,t,())] (UpP V n m k):=by
 refine(cS_IntMul V n s false t m (tenL k) f g h h' hm ⟨⟨tenL_can k,by rw [tenL_len]; omega⟩,(fun h=>by cases h)⟩ (by rw [tenL_len]; omega)).mono ?_
 rintro V1 _ ⟨le1,s1,o,f1,rfl,L1,O1,ho,hv⟩
 rw [tenL_val] at hv
 refine⟨le1,s1,o,f1,?_,L1,O1,ho,hv,up_len hm.1.1 h6 ho hk hv,up_pos hm ho hv⟩
 have hn:((n != false) && decide (0<o.length))=n:=by
  cases n with
  | false=>rfl
  | true=>simp [up_pos hm ho hv rfl]
 rw [hn]
def AtPost (V:Know) (n:Bool) (m:List Lim) (sc s:Int):Know→Value→Prop:=fun V' r=>V.le V'∧∃ (x:DecD) (t:SlV) (e:Bool) (f:List Nat),r=.tuple #[decV x.1 t x.2.2.1,.bool e]∧LR rI V' t x.2.1 f∧Own V V' f∧At n m sc s x e
theorem at_no {V V':Know} {n:Bool} {m:List Lim} {sc s:Int} (h:V.le V') (k:∀ y,¬ Goes n m sc s y):AtPost V n m sc s V' (.tuple #[decV false ⟨none,0,0⟩ 0,.bool false]) :=
 ⟨h,(false,[],0,()),⟨none,0,0⟩,false,[],rfl,lr_nil0,Own.nil,.inr ⟨rfl,rfl,k⟩⟩
theorem at_yes {V V':Know} {n:Bool} {m o:List Lim} {sc s:Int} {t:SlV} {f:List Nat} (h:V.le V') (L:LR rI V' t o f) (O:Own V V' f) (k:Goes n m sc s o):AtPost V n m sc s V' (.tuple #[decV n t s,.bool true]) :=
 ⟨h,(n,o,s,()),t,true,f,rfl,L,O,.inl ⟨rfl,o,rfl,k⟩⟩
theorem at_of {V V' V'':Know} {n:Bool} {m o:List Lim} {sc s:Int} {t:SlV} {f:List Nat} {r:Value} (h:V.le V') (L:LR rI V' t o f) (O:Own V V' f) (hy:o.length≤6→Goes n m sc s o) (hn:¬ o.length≤6→∀ y,¬ Goes n m sc s y) (hr:OfD V' n t s o V'' r) :
  AtPost V n m sc s V'' r:=by
 obtain⟨rfl,⟨h6,rfl⟩ | ⟨h6,rfl⟩⟩:=hr
 ·exact at_yes h L O (hy h6)
 ·exact at_no h (hn h6)
theorem AtPost.split {V V':Know} {n:Bool} {m:List Lim} {sc s:Int} {r:Value} (h:AtPost V n m sc s V' r):∃ y,r=Sh.val (.t [.g [.b,.l,.i .i64],.o .b]) y:=by
 obtain⟨_,x,t,e,_,rfl,_⟩:=h
 exact⟨((x.1,t,x.2.2.1,()),e,()),rfl⟩
theorem cI_DecAt (V:Know) (n:Bool) (t:SlV) (m:List Lim) (f:List Nat) (sc s:Int) (h:LR rI V t m f):CallX Tryz.prog V 146 [decV n t sc,.int .i64 s] (AtPost V n m sc s):=by
 refine CallX.of_fits Tryz.mix (fI_DecAt _ _) fun _=>?_
 simp only [tI_DecAt,T.wp]
 refine(cI_DecOk V n t sc m f h).mono ?_
 rintro V1 r ⟨rfl,e,rfl,he⟩
 refine⟨nofun,e,rfl,(fun hf=>at_no (Know.le.refl _) fun y hy=>by rw [he.2 hy.1] at hf; cases hf),fun ht=>?_⟩
 have hd:=he.1 (by simpa using ht)
 refine(cI_isScale V1 s).mono ?_
 rintro V2 r ⟨rfl,rfl⟩
 refine⟨nofun,_,rfl,fun hf=>at_no (Know.le.refl _) fun y hy=>?_,fun ht=>?_⟩
 ·have:=hy.2.1.2.2
  simp [this.1,this.2] at hf
 have hs:0≤s∧s≤30:=by simpa using ht
 have h6:=hd.2.1
 have hsc:=hd.2.2
 refine⟨fun hge=>?_,fun hlt=>?_⟩
 ·have q:sc≤s:=of_decide_eq_true hge
  refine(cI_scaled V2 s).mono ?_
  rintro V3 _ ⟨le3,a,rfl,ha⟩
  refine⟨fun _=>le3,(198,a),rfl,(cI_scaled_1 V3 n t sc s m f a (h.le le3) hd q hs.2 ha).mono ?_⟩
  rintro V4 _ ⟨le4,t4,o,f4,rfl,L4,O4,ho,hv,hl,hp⟩
  refine⟨fun _=>le4,(n,t4,()),rfl,(cI_decOf V4 n t4 s o f4 L4 ho hp (by omega) hs.1 hs.2).mono ?_⟩
  intro V5 r hr
  have hg:=goes_up hd q hs.2 ho hv
  have hA:=at_of (m:=m) (sc:=sc) (le3.trans le4) L4 (O4.pre le3) hg.1 hg.2 hr
  obtain⟨y,rfl⟩:=hA.split
  exact⟨fun _=>by obtain⟨e5,_⟩:=hr; rw [e5]; exact Know.le.refl _,y,rfl,hA⟩
 ·have q:¬ sc≤s:=of_decide_eq_false hlt
  have e:IntKind.i64.wrap (sc-s)=(((sc-s).toNat:Nat):Int):=by rw [wrap_i64 (by omega)]; omega
  rw [e]
  refine(cI_natTen V2 _ (by omega)).mono ?_
  rintro V3 _ ⟨le3,t3,f3,rfl,L3,_⟩
  refine⟨fun _=>le3,t3,rfl,(cI_natDiv V3 t t3 m (tenL (sc-s).toNat) f f3 (h.le le3) L3 hd.1.1.1 (tenL_can _) (by omega) (by rw [tenL_len]; omega)).mono ?_⟩
  rintro V4 _ ⟨le4,s1,s2,q4,r4,f1,f2,rfl,L41,L42,O41,_,hq,hr,hv,hlt4⟩
  rw [tenL_val] at hv hlt4
  have hg:=goes_down hd hs.1 (by omega) hq hv ⟨valN_nonneg hr.1,hlt4⟩
  have hz:=can_empty hr
  have l4:=le3.trans le4
  refine⟨fun _=>le4,(s1,s2,()),rfl,fun hpos=>at_no l4 (hg.2 fun h0=>?_),fun hz0=>?_⟩
  ·have hn2:=L42.1
   have:(s2.n:Int) > 0:=of_decide_eq_true hpos
   have:=hz.2 h0
   omega
  have hr0:valN r4=0:=by
   have hn2:=L42.1
   have:¬ (s2.n:Int) > 0:=of_decide_eq_false hz0
   exact hz.1 (by omega)
  obtain⟨hgo,hq6⟩:=hg.1 hr0
  refine(cI_signed V4 n s1).mono ?_
  rintro V5 _ ⟨rfl,rfl⟩
  have hp:n=true→0<q4.length:=hgo.2.1.1.2
  have hn:(n && decide ((s1.n:Int) > 0))=n:=by
   cases n with
   | false=>rfl
   | true =>
    have:=hp rfl
    rw [L41.1]
    simp [this]
  rw [hn]
  refine⟨nofun,(n,s1,()),rfl,(cI_decOf V5 n s1 s q4 f1 L41 hq hp (by omega) hs.1 hs.2).mono ?_⟩
  intro V6 r hr
  have hA:=at_of (m:=m) (sc:=sc) l4 L41 (O41.pre le3) (fun _=>hgo) (fun h=>absurd hq6 h) hr
  obtain⟨y,rfl⟩:=hA.split
  exact⟨nofun,y,rfl,hA⟩
theorem cS_NatCut (V:Know) (t:SlV) (m:List Lim) (f:List Nat) (k:Nat) (h:LR rI V t m f) (hm:NatOkP m) (hk:k≤30):CallX Tryz.prog V 121 [Sc.val .l t,.int .i64 (k:Int)] (DivPost V m (tenL k)):=by
 refine CallX.of_fits Tryz.mix (fS_NatCut _ _) fun _=>?_
 simp only [tS_NatCut,T.wp]
 refine(cS_l01In V _ 0 440).mono ?_
 rintro V1 r ⟨rfl,rfl⟩
 refine⟨nofun,_,rfl,fun h=>?_,fun _=>?_⟩
 ·have:¬ ((0:Int)≤(k:Int)∧(k:Int)≤440):=by simpa using h
  omega
 refine(cS_NatTen V1 k (by omega)).mono ?_
 rintro V2 _ ⟨le2,t2,f2,rfl,L2,_⟩
 refine⟨nofun,t2,rfl,?_⟩
 have hN:CallX Tryz.prog V2 153 [Sc.val .l t,Sc.val .l t2] (DivPost V2 m (tenL k)):=by
  refine CallX.of_fits Tryz.mix (fS_NatDiv _ _) fun _=>?_
  simp only [tS_NatDiv,T.wp]
  refine(cS_NatOk V2 t m f (h.le le2)).mono ?_
  rintro V3 r ⟨rfl,e,rfl,he⟩
  obtain rfl:e=true:=he.2 hm
  refine⟨nofun,true,rfl,(fun h=>by cases h),fun _=>(cS_NatOk V3 t2 (tenL k) f2 L2).mono ?_⟩
  rintro V4 r ⟨rfl,e,rfl,he⟩
  obtain rfl:e=true:=he.2 ⟨tenL_can k,by rw [tenL_len]; omega⟩
  have hn2:=L2.1
  rw [tenL_len] at hn2
  refine⟨nofun,true,rfl,(fun h=>by cases h),fun _=>⟨fun h0=>?_,fun _=>?_⟩⟩
  ·have:(t2.n:Int)=0:=by simpa using h0
   omega
  have:=hm.2
  refine(cS_l03Div V4 t t2 m (tenL k) f f2 (h.le le2) L2 hm.1 (tenL_can k) (by omega) (by rw [tenL_len]; omega) (by rw [tenL_len]; omega)).mono ?_
  rintro V5 _ ⟨le5,s1,s2,q5,r5,f1,f3,rfl,rest⟩
  exact⟨nofun,(s1,s2,()),rfl,le5,s1,s2,q5,r5,f1,f3,rfl,rest⟩
 refine hN.mono ?_
 rintro V3 _ ⟨le3,s1,s2,q3,r3,f1,f3,rfl,L1,L3,O1,O3,rest⟩
 exact⟨nofun,(s1,s2,()),rfl,le2.trans le3,s1,s2,q3,r3,f1,f3,rfl,L1,L3,O1.pre le2,O3.pre le2,rest⟩
theorem cS_DecAt (V:Know) (n:Bool) (t:SlV) (m:List Lim) (f:List Nat) (sc s:Int) (h:LR rI V t m f):CallX Tryz.prog V 86 [decV n t sc,.int .i64 s] (AtPost V n m sc s):=by
 refine CallX.of_fits Tryz.mix (fS_DecAt _ _) fun _=>?_
 simp only [tS_DecAt,T.wp]
 refine(cS_DecOk V n t sc m f h).mono ?_
 rintro V1 r ⟨rfl,e,rfl,he⟩
 refine⟨nofun,e,rfl,(fun hf=>at_no (Know.le.refl _) fun y hy=>by rw [he.2 hy.1] at hf; cases hf),fun ht=>?_⟩
 have hd:=he.1 (by simpa using ht)
 refine(cS_l01In V1 s 0 30).mono ?_
 rintro V2 r ⟨rfl,rfl⟩
 refine⟨nofun,_,rfl,fun hf=>at_no (Know.le.refl _) fun y hy=>?_,fun ht=>?_⟩
 ·have:=hy.2.1.2.2
  simp [this.1,this.2] at hf
 have hs:0≤s∧s≤30:=by simpa using ht
 have h6:=hd.2.1
 have hsc:=hd.2.2
 refine⟨fun hge=>?_,fun hlt=>?_⟩
 ·have q:sc≤s:=of_decide_eq_true hge
  have e:IntKind.i64.wrap (s-sc)=(((s-sc).toNat:Nat):Int):=by rw [wrap_i64 (by omega)]; omega
  rw [e]
  refine(cS_l07Ten V2 _ (by omega)).mono ?_
  rintro V3 _ ⟨le3,t3,f3,rfl,L3,_⟩
  refine⟨fun _=>le3,(false,t3,()),rfl,(cS_up V3 n t t3 m f f3 _ (h.le le3) L3 hd.1 h6 (by omega)).mono ?_⟩
  rintro V4 _ ⟨le4,t4,o,f4,rfl,L4,O4,ho,hv,hl,hp⟩
  refine⟨fun _=>le4,(n,t4,()),rfl,(cS_l07Dec V4 n t4 s o f4 L4 ho hp (by omega) hs.1 hs.2).mono ?_⟩
  intro V5 r hr
  have hg:=goes_up hd q hs.2 ho hv
  have hA:=at_of (m:=m) (sc:=sc) (le3.trans le4) L4 (O4.pre le3) hg.1 hg.2 hr
  obtain⟨y,rfl⟩:=hA.split
  exact⟨fun _=>by obtain⟨e5,_⟩:=hr; rw [e5]; exact Know.le.refl _,y,rfl,hA⟩
 ·have q:¬ sc≤s:=of_decide_eq_false hlt
  have e:IntKind.i64.wrap (sc-s)=(((sc-s).toNat:Nat):Int):=by rw [wrap_i64 (by omega)]; omega
  rw [e]
  refine(cS_NatCut V2 t m f _ h hd.1.1 (by omega)).mono ?_
  rintro V4 _ ⟨l4,s1,s2,q4,r4,f1,f2,rfl,L41,L42,O41,_,hq,hr,hv,hlt4⟩
  rw [tenL_val] at hv hlt4
  have hg:=goes_down hd hs.1 (by omega) hq hv ⟨valN_nonneg hr.1,hlt4⟩
  have hz:=can_empty hr
  refine⟨nofun,(s1,s2,()),rfl,fun hpos=>at_no l4 (hg.2 fun h0=>?_),fun hz0=>?_⟩
  ·have hn2:=L42.1
   have:(s2.n:Int) > 0:=of_decide_eq_true hpos
   have:=hz.2 h0
   omega
  have hr0:valN r4=0:=by
   have hn2:=L42.1
   have:¬ (s2.n:Int) > 0:=of_decide_eq_false hz0
   exact hz.1 (by omega)
  obtain⟨hgo,hq6⟩:=hg.1 hr0
  have hp:n=true→0<q4.length:=hgo.2.1.1.2
  refine(cS_l07Dec V4 n s1 s q4 f1 L41 hq hp (by omega) hs.1 hs.2).mono ?_
  intro V6 r hr
  have hA:=at_of (m:=m) (sc:=sc) l4 L41 O41 (fun _=>hgo) (fun h=>absurd hq6 h) hr
  obtain⟨y,rfl⟩:=hA.split
  exact⟨nofun,y,rfl,hA⟩
end Go.Proofs.YtpkmhkbkohppiaaGreatDoor
namespace Go.Proofs.YtpkmhkbkohppiaaGreatDoor
open Sx
set_option maxRecDepth 100000
theorem loadV_le {V V':Know} {a:Addr} {k:Nat} {x:List Value} (h:V.le V') (hl:loadV V a k=some x):loadV V' a k=some x:=by
 unfold loadV at hl ⊢
 split at hl
 ·rename_i cs u h1 h2
  rw [h1,h _ _ h2]
  exact hl
 ·cases hl
def LowPost (V:Know) (n:Bool) (m:List Lim) (sc:Int):Know→Value→Prop:=fun V' r=>V.le V'∧∃ (x:DecD) (t:SlV) (f:List Nat),r=decV x.1 t x.2.2.1∧LR rI V' t x.2.1 f∧Own V V' f∧LowD n m sc x
theorem low_of {n:Bool} {m:List Lim} {sc:Int} {j:Nat} {x:DecD} (hj:(j:Int)≤sc) (h:At n m sc j x true) (hb:∀ (u:Int) z,0≤u→u<j→¬ Goes n m sc u z):LowD n m sc x:=by
 rcases h with ⟨_,y,rfl,h⟩ | ⟨h,_⟩
 ·exact⟨j,y,by omega,hj,rfl,h,hb⟩
 ·cases h
theorem low_next {n:Bool} {m:List Lim} {sc:Int} {j:Nat} {x:DecD} (hd:DecOkP n m sc) (hj:(j:Int)≤sc) (h:At n m sc j x false) (hb:∀ (u:Int) z,0≤u→u<j→¬ Goes n m sc u z) :
  ((j+1:Nat):Int)≤sc∧∀ (u:Int) z,0≤u→u<((j+1:Nat):Int)→¬ Goes n m sc u z:=by
 have hn:∀ y,¬ Goes n m sc j y:=by
  rcases h with ⟨h,_⟩ | ⟨_,_,h⟩
  ·cases h
  ·exact h
 refine⟨?_,fun u z h0 h1=>?_⟩
 ·by_cases e:(j:Int)=sc
  ·have:=hn m
   rw [e] at this
   exact absurd (goes_self hd) this
  ·omega
 ·by_cases e:u=j
  ·subst e; exact hn z
  ·exact hb u z h0 (by omega)
theorem cI_DecLow (V:Know) (n:Bool) (t:SlV) (m:List Lim) (f:List Nat) (sc:Int) (h:LR rI V t m f) (hd:DecOkP n m sc):CallX Tryz.prog V 112 [decV n t sc] (LowPost V n m sc):=by
 refine CallX.of_fits Tryz.mix (fI_DecLow _) fun _=>?_
 simp only [tI_DecLow,T.wp]
 have hsc:=hd.2.2
 refine⟨fun y V'=>V.le V'∧∃ j:Nat,y.1=(j:Int)∧(j:Int)≤sc∧∀ (u:Int) z,0≤u→u<j→¬ Goes n m sc u z,fun y=>(31-(y.1:Int)).toNat,⟨((0:Int),false,⟨none,0,0⟩,(0:Int),()),rfl,Know.le.refl _,0,rfl,by omega,fun u z h0 h1=>by omega⟩,?_⟩
 rintro⟨(i:Int),(y2:Bool),(y3:SlV),(y4:Int),u⟩ V' ⟨hle,j,hj,hjs,hb⟩
 replace hj:i=(j:Int):=hj
 subst hj
 refine⟨fun _=>⟨fun _=>?_,fun hf=>?_⟩,fun hf=>?_⟩
 ·refine(cI_DecAt V' n t m f sc j (h.le hle)).mono ?_
  rintro V2 _ ⟨le2,x,t2,e,f2,rfl,L2,O2,hA⟩
  refine⟨nofun,((x.1,t2,x.2.2.1,()),e,()),rfl,fun he=>?_,fun he=>?_⟩
  ·obtain rfl:e=true:=he
   exact⟨hle.trans le2,x,t2,f2,rfl,L2,O2.pre hle,low_of hjs hA hb⟩
  ·obtain rfl:e=false:=he
   obtain⟨h1,h2⟩:=low_next hd hjs hA hb
   refine⟨_,rfl,(((j+1:Nat):Int),y2,y3,y4,()),?_,⟨hle.trans le2,j+1,rfl,h1,h2⟩,?_⟩
   ·show [LV.v (.int .i64 (IntKind.i64.wrap ((j:Int)+1))),_,_,_]=_
    rw [wrap_i64 (by omega)]
    rfl
   ·show(31-((j+1:Nat):Int)).toNat<(31-(j:Int)).toNat
    omega
 ·have:¬ (j:Int)≤30:=of_decide_eq_false hf
  omega
 ·have:¬ (j:Int)≤sc:=of_decide_eq_false hf
  omega
theorem cS_DecLow (V:Know) (n:Bool) (t:SlV) (m:List Lim) (f:List Nat) (sc:Int) (h:LR rI V t m f) (hd:DecOkP n m sc):CallX Tryz.prog V 53 [decV n t sc] (LowPost V n m sc):=by
 refine CallX.of_fits Tryz.mix (fS_DecLow _) fun _=>?_
 simp only [tS_DecLow,T.wp]
 have hsc:=hd.2.2
 refine⟨fun y V'=>V.le V'∧∃ j:Nat,y.1=(j:Int)∧(j:Int)≤sc∧∀ (u:Int) z,0≤u→u<j→¬ Goes n m sc u z,fun y=>(31-(y.1:Int)).toNat,⟨((0:Int),false,⟨none,0,0⟩,(0:Int),()),rfl,Know.le.refl _,0,rfl,by omega,fun u z h0 h1=>by omega⟩,?_⟩
 rintro⟨(i:Int),(y2:Bool),(y3:SlV),(y4:Int),u⟩ V' ⟨hle,j,hj,hjs,hb⟩
 replace hj:i=(j:Int):=hj
 subst hj
 refine⟨fun _=>?_,fun hf=>?_⟩
 ·refine(cS_DecAt V' n t m f sc j (h.le hle)).mono ?_
  rintro V2 _ ⟨le2,x,t2,e,f2,rfl,L2,O2,hA⟩
  refine⟨nofun,((x.1,t2,x.2.2.1,()),e,()),rfl,fun he=>?_,fun he=>?_⟩
  ·obtain rfl:e=true:=he
   exact⟨hle.trans le2,x,t2,f2,rfl,L2,O2.pre hle,low_of hjs hA hb⟩
  ·obtain rfl:e=false:=he
   obtain⟨h1,h2⟩:=low_next hd hjs hA hb
   refine⟨_,rfl,(((j+1:Nat):Int),y2,y3,y4,()),?_,⟨hle.trans le2,j+1,rfl,h1,h2⟩,?_⟩
   ·show [LV.v (.int .i64 (IntKind.i64.wrap ((j:Int)+1))),_,_,_]=_
    rw [wrap_i64 (by omega)]
    rfl
   ·show(31-((j+1:Nat):Int)).toNat<(31-(j:Int)).toNat
    omega
 ·have:¬ (j:Int)≤30:=of_decide_eq_false hf
  omega
def topS (a b:Int):Int:=if b > a then b else a
def cmpD (n:Bool) (m:List Lim) (sc:Int) (n':Bool) (m':List Lim) (sc':Int):Int :=
 sgn (sval n m*ten (topS sc sc'-sc).toNat-sval n' m'*ten (topS sc sc'-sc').toNat)
theorem topS_le (a b:Int):a≤topS a b∧b≤topS a b:=by unfold topS; split <;> omega
theorem topS_max {a b c:Int} (h:a≤c) (k:b≤c):topS a b≤c:=by unfold topS; split <;> omega
theorem sval_up {n:Bool} {m o:List Lim} {k:Nat} (h:valN o=valN m*ten k):sval n o=sval n m*ten k:=by
 unfold sval
 split
 ·rw [h,Int.neg_mul]
 ·exact h
theorem cI_DecCmp (V:Know) (n:Bool) (t:SlV) (m:List Lim) (f:List Nat) (sc:Int) (n':Bool) (t':SlV) (m':List Lim) (f':List Nat) (sc':Int) (h:LR rI V t m f) (h':LR rI V t' m' f') (hd:DecOkP n m sc) (hd':DecOkP n' m' sc') :
  CallX Tryz.prog V 144 [decV n t sc,decV n' t' sc'] (fun V' r=>V.le V'∧r=.int .i64 (cmpD n m sc n' m' sc')):=by
 refine CallX.of_fits Tryz.mix (fI_DecCmp _ _) fun _=>?_
 simp only [tI_DecCmp,T.wp]
 have t1:=topS_le sc sc'
 have t2:=topS_max hd.2.2.2 hd'.2.2.2
 refine(cI_DecOk V n t sc m f h).mono ?_
 rintro V1 r ⟨rfl,e,rfl,he⟩
 obtain rfl:e=true:=he.2 hd
 refine⟨nofun,true,rfl,(fun h=>by cases h),fun _=>(cI_DecOk V1 n' t' sc' m' f' h').mono ?_⟩
 rintro V2 r ⟨rfl,e,rfl,he⟩
 obtain rfl:e=true:=he.2 hd'
 refine⟨nofun,true,rfl,(fun h=>by cases h),fun _=>(cI_scaled V2 (topS sc sc')).mono ?_⟩
 rintro V3 _ ⟨le3,a,rfl,ha⟩
 refine⟨nofun,(198,a),rfl,(cI_scaled_1 V3 n t sc _ m f a (h.le le3) hd t1.1 t2 ha).mono ?_⟩
 rintro V4 _ ⟨le4,s4,o4,f4,rfl,L4,_,ho4,hv4,hl4,_⟩
 refine⟨fun _=>le4,(n,s4,()),rfl,(cI_scaled_1 V4 n' t' sc' _ m' f' a (h'.le (le3.trans le4)) hd' t1.2 t2 (loadV_le le4 ha)).mono ?_⟩
 rintro V5 _ ⟨le5,s5,o5,f5,rfl,L5,_,ho5,hv5,hl5,_⟩
 refine⟨fun _=>le5,(n',s5,()),rfl,(cI_intCmp V5 n s4 n' s5 o4 o5 f4 f5 (L4.le le5) L5 ho4 ho5 (by omega) (by omega)).mono ?_⟩
 rintro V6 _ ⟨le6,rfl⟩
 refine⟨fun _=>le6,_,rfl,((le3.trans le4).trans le5).trans le6,?_⟩
 rw [sval_up hv4,sval_up hv5]
 rfl
def BothPost (V:Know) (n:Bool) (m:List Lim) (sc:Int) (n':Bool) (m':List Lim) (sc':Int):Know→Value→Prop:=fun V' r=>V.le V'∧∃ s1 s2 o1 o2 f1 f2,r=.tuple #[qv1 (n,s1,()),qv1 (n',s2,()),.int .i64 (topS sc sc')] ∧
 LR rI V' s1 o1 f1∧LR rI V' s2 o2 f2∧IntOkP n o1∧IntOkP n' o2∧valN o1=valN m*ten (topS sc sc'-sc).toNat∧valN o2=valN m'*ten (topS sc sc'-sc').toNat
theorem cS_l07Both (V:Know) (n:Bool) (t:SlV) (m:List Lim) (f:List Nat) (sc:Int) (n':Bool) (t':SlV) (m':List Lim) (f':List Nat) (sc':Int) (h:LR rI V t m f) (h':LR rI V t' m' f') (hd:DecOkP n m sc) (hd':DecOkP n' m' sc') :
  CallX Tryz.prog V 124 [decV n t sc,decV n' t' sc'] (BothPost V n m sc n' m' sc'):=by
 refine CallX.of_fits Tryz.mix (fS_l07Both _ _) fun _=>?_
 simp only [tS_l07Both,T.wp]
 have t1:=topS_le sc sc'
 have t2:=topS_max hd.2.2.2 hd'.2.2.2
 have s0:=hd.2.2.1
 have s0':=hd'.2.2.1
 have w1:IntKind.i64.wrap (topS sc sc'-sc)=(((topS sc sc'-sc).toNat:Nat):Int):=by rw [wrap_i64 (by omega)]; omega
 have w2:IntKind.i64.wrap (topS sc sc'-sc')=(((topS sc sc'-sc').toNat:Nat):Int):=by rw [wrap_i64 (by omega)]; omega
 refine⟨fun hg=>?_,fun hl=>?_⟩
 ·have e:sc'=topS sc sc':=by
   have:sc' > sc:=of_decide_eq_true hg
   unfold topS
   rw [if_pos this]
  have w1':IntKind.i64.wrap (sc'-sc)=(((topS sc sc'-sc).toNat:Nat):Int):=by rw [← w1,← e]
  have w2':IntKind.i64.wrap (sc'-sc')=(((topS sc sc'-sc').toNat:Nat):Int):=by rw [← w2,← e]
  rw [w1',w2']
  refine(cS_l07Ten V _ (by omega)).mono ?_
  rintro V1 _ ⟨le1,u1,g1,rfl,M1,_⟩
  refine⟨fun _=>le1,(false,u1,()),rfl,(cS_up V1 n t u1 m f g1 _ (h.le le1) M1 hd.1 hd.2.1 (by omega)).mono ?_⟩
  rintro V2 _ ⟨le2,s2,o2,f2,rfl,L2,_,ho2,hv2,hl2,hp2⟩
  refine⟨fun _=>le2,(n,s2,()),rfl,(cS_l07Ten V2 _ (by omega)).mono ?_⟩
  rintro V3 _ ⟨le3,u3,g3,rfl,M3,_⟩
  have l3:=(le1.trans le2).trans le3
  refine⟨fun _=>le3,(false,u3,()),rfl,(cS_up V3 n' t' u3 m' f' g3 _ (h'.le l3) M3 hd'.1 hd'.2.1 (by omega)).mono ?_⟩
  rintro V4 _ ⟨le4,s4,o4,f4,rfl,L4,_,ho4,hv4,hl4,hp4⟩
  refine⟨fun _=>le4,(n',s4,()),rfl,l3.trans le4,s2,s4,o2,o4,f2,f4,?_,L2.le (le3.trans le4),L4,⟨⟨ho2,by omega⟩,hp2⟩,⟨⟨ho4,by omega⟩,hp4⟩,hv2,hv4⟩
  rw [← e]
  rfl
 ·have e:sc=topS sc sc':=by
   have:¬ sc' > sc:=of_decide_eq_false hl
   unfold topS
   rw [if_neg this]
  have w1':IntKind.i64.wrap (sc-sc)=(((topS sc sc'-sc).toNat:Nat):Int):=by rw [← w1,← e]
  have w2':IntKind.i64.wrap (sc-sc')=(((topS sc sc'-sc').toNat:Nat):Int):=by rw [← w2,← e]
  rw [w1',w2']
  refine(cS_l07Ten V _ (by omega)).mono ?_
  rintro V1 _ ⟨le1,u1,g1,rfl,M1,_⟩
  refine⟨fun _=>le1,(false,u1,()),rfl,(cS_up V1 n t u1 m f g1 _ (h.le le1) M1 hd.1 hd.2.1 (by omega)).mono ?_⟩
  rintro V2 _ ⟨le2,s2,o2,f2,rfl,L2,_,ho2,hv2,hl2,hp2⟩
  refine⟨fun _=>le2,(n,s2,()),rfl,(cS_l07Ten V2 _ (by omega)).mono ?_⟩
  rintro V3 _ ⟨le3,u3,g3,rfl,M3,_⟩
  have l3:=(le1.trans le2).trans le3
  refine⟨fun _=>le3,(false,u3,()),rfl,(cS_up V3 n' t' u3 m' f' g3 _ (h'.le l3) M3 hd'.1 hd'.2.1 (by omega)).mono ?_⟩
  rintro V4 _ ⟨le4,s4,o4,f4,rfl,L4,_,ho4,hv4,hl4,hp4⟩
  refine⟨fun _=>le4,(n',s4,()),rfl,l3.trans le4,s2,s4,o2,o4,f2,f4,?_,L2.le (le3.trans le4),L4,⟨⟨ho2,by omega⟩,hp2⟩,⟨⟨ho4,by omega⟩,hp4⟩,hv2,hv4⟩
  rw [← e]
  rfl
theorem cS_DecCmp (V:Know) (n:Bool) (t:SlV) (m:List Lim) (f:List Nat) (sc:Int) (n':Bool) (t':SlV) (m':List Lim) (f':List Nat) (sc':Int) (h:LR rI V t m f) (h':LR rI V t' m' f') (hd:DecOkP n m sc) (hd':DecOkP n' m' sc') :
  CallX Tryz.prog V 90 [decV n t sc,decV n' t' sc'] (fun V' r=>V.le V'∧r=.int .i64 (cmpD n m sc n' m' sc')):=by
 refine CallX.of_fits Tryz.mix (fS_DecCmp _ _) fun _=>?_
 simp only [tS_DecCmp,T.wp]
 refine(cS_DecOk V n t sc m f h).mono ?_
 rintro V1 r ⟨rfl,e,rfl,he⟩
 obtain rfl:e=true:=he.2 hd
 refine⟨nofun,true,rfl,(fun h=>by cases h),fun _=>(cS_DecOk V1 n' t' sc' m' f' h').mono ?_⟩
 rintro V2 r ⟨rfl,e,rfl,he⟩
 obtain rfl:e=true:=he.2 hd'
 refine⟨nofun,true,rfl,(fun h=>by cases h),fun _=>(cS_l07Both V2 n t m f sc n' t' m' f' sc' h h' hd hd').mono ?_⟩
 rintro V3 _ ⟨le3,s1,s2,o1,o2,f1,f2,rfl,L1,L2,i1,i2,v1,v2⟩
 refine⟨nofun,((n,s1,()),(n',s2,()),topS sc sc',()),rfl,(cS_IntCmp V3 n s1 n' s2 o1 o2 f1 f2 L1 L2 i1 i2).mono ?_⟩
 rintro V4 _ ⟨rfl,rfl⟩
 refine⟨nofun,_,rfl,le3,?_⟩
 rw [sval_up v1,sval_up v2]
 rfl
theorem cI_IntOne (V:Know):CallX Tryz.prog V 145 [.int .i64 1] (fun V' r=>V.le V'∧∃ s f,r=qv1 (false,s,())∧LR rI V' s [(1,())] f):=by
 refine CallX.of_fits Tryz.mix (fI_IntOf _) fun _=>?_
 simp only [tI_IntOf,T.wp]
 refine⟨fun h=>?_,fun _=>?_⟩
 ·have:(1:Int)<0:=of_decide_eq_true h
  omega
 rw [show IntKind.u64.wrap 1=1 from wrap_u64 (by omega)]
 refine(cI_natOf V 1 (by omega)).mono ?_
 rintro V1 _ ⟨le1,s,o,f,rfl,L,_,C,v,_⟩
 have e:o=[(1,())]:=can_inj C ⟨lims_one (by decide),.inr (by decide)⟩ (by rw [v,valN_one])
 subst e
 exact⟨nofun,s,rfl,le1,s,f,rfl,L⟩
theorem cS_IntOne (V:Know):CallX Tryz.prog V 88 [.int .i64 1] (fun V' r=>V.le V'∧∃ s f,r=qv1 (false,s,())∧LR rI V' s [(1,())] f):=by
 refine CallX.of_fits Tryz.mix (fS_IntOf _) fun _=>?_
 simp only [tS_IntOf,T.wp]
 refine⟨fun h=>?_,fun _=>⟨fun h=>?_,fun _=>?_⟩⟩
 ·have:(1:Int)=-9223372036854775808:=by simp at h
  omega
 ·have:(1:Int)<0:=of_decide_eq_true h
  omega
 refine(cS_NatOf V 1 (by omega)).mono ?_
 rintro V1 _ ⟨le1,s,o,f,rfl,L,_,C,v,_⟩
 have e:o=[(1,())]:=can_inj C ⟨lims_one (by decide),.inr (by decide)⟩ (by rw [v,valN_one])
 subst e
 refine⟨nofun,s,rfl,(cS_l04Make V1 false s _ f L C (by simp)).mono ?_⟩
 rintro V2 _ ⟨le2,s2,f2,rfl,L2,_⟩
 exact⟨nofun,(false,s2,()),rfl,le1.trans le2,s2,f2,rfl,L2⟩
def TaxP (n:Bool) (m:List Lim) (sc:Int):Prop:=DecOkP n m sc∧m.length≤1∧n=false∧cmpD n m sc false [(1,())] 0≤0
theorem one_ok:DecOkP false [(1,())] 0:=⟨⟨⟨⟨lims_one (by decide),.inr (by decide)⟩,by simp⟩,(fun h=>by cases h)⟩,by simp,by omega,by omega⟩
theorem cI_TaxRateOk (V:Know) (n:Bool) (t:SlV) (m:List Lim) (f:List Nat) (sc:Int) (h:LR rI V t m f):CallX Tryz.prog V 110 [decV n t sc] (OkPost V (TaxP n m sc)):=by
 refine CallX.of_fits Tryz.mix (fI_TaxRateOk _) fun _=>?_
 simp only [tI_TaxRateOk,T.wp]
 have hn:=h.1
 refine(cI_DecOk V n t sc m f h).mono ?_
 rintro V1 r ⟨rfl,e,rfl,he⟩
 refine⟨fun _=>Know.le.refl _,e,rfl,fun ht=>⟨fun h1=>⟨fun hb=>?_,fun hb=>?_⟩,fun h1=>?_⟩,fun hf=>not_ok (Know.le.refl _) fun k=>?_⟩
 ·have q:(t.n:Int)≤1:=of_decide_eq_true h1
  have hb':n=false:=by simpa using hb
  refine(cI_IntOne V1).mono ?_
  rintro V2 _ ⟨le2,s2,f2,rfl,L2⟩
  refine⟨fun _=>le2,(false,s2,()),rfl,(cI_DecCmp V2 n t m f sc false s2 _ f2 0 (h.le le2) L2 (he.1 ht) one_ok).mono ?_⟩
  rintro V3 _ ⟨le3,rfl⟩
  exact⟨fun _=>le3,_,rfl,le2.trans le3,_,rfl,⟨fun hd=>⟨he.1 ht,by omega,hb',of_decide_eq_true hd⟩,fun k=>decide_eq_true k.2.2.2⟩⟩
 ·exact not_ok (Know.le.refl _) fun k=>by rw [k.2.2.1] at hb; cases hb
 ·have q:¬ (t.n:Int)≤1:=of_decide_eq_false h1
  exact not_ok (Know.le.refl _) fun k=>by have:=k.2.1; omega
 ·rw [he.2 k.1] at hf; cases hf
theorem cS_TaxRateOk (V:Know) (n:Bool) (t:SlV) (m:List Lim) (f:List Nat) (sc:Int) (h:LR rI V t m f):CallX Tryz.prog V 62 [decV n t sc] (OkPost V (TaxP n m sc)):=by
 refine CallX.of_fits Tryz.mix (fS_TaxRateOk _) fun _=>?_
 simp only [tS_TaxRateOk,T.wp]
 have hn:=h.1
 refine(cS_DecOk V n t sc m f h).mono ?_
 rintro V1 r ⟨rfl,e,rfl,he⟩
 refine⟨fun _=>Know.le.refl _,e,rfl,fun ht=>⟨fun hb=>⟨fun h1=>?_,fun h1=>?_⟩,fun hb=>?_⟩,fun hf=>not_ok (Know.le.refl _) fun k=>?_⟩
 ·have q:(t.n:Int)≤1:=of_decide_eq_true h1
  have hb':n=false:=by simpa using hb
  refine(cS_IntOne V1).mono ?_
  rintro V2 _ ⟨le2,s2,f2,rfl,L2⟩
  refine⟨fun _=>le2,(false,s2,()),rfl,(cS_DecCmp V2 n t m f sc false s2 _ f2 0 (h.le le2) L2 (he.1 ht) one_ok).mono ?_⟩
  rintro V3 _ ⟨le3,rfl⟩
  exact⟨fun _=>le3,_,rfl,le2.trans le3,_,rfl,⟨fun hd=>⟨he.1 ht,by omega,hb',of_decide_eq_true hd⟩,fun k=>decide_eq_true k.2.2.2⟩⟩
 ·have q:¬ (t.n:Int)≤1:=of_decide_eq_false h1
  exact not_ok (Know.le.refl _) fun k=>by have:=k.2.1; omega
 ·exact not_ok (Know.le.refl _) fun k=>by rw [k.2.2.1] at hb; cases hb
 ·rw [he.2 k.1] at hf; cases hf
end Go.Proofs.YtpkmhkbkohppiaaGreatDoor
