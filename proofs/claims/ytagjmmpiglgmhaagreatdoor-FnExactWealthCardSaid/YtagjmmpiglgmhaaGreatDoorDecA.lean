/-
  Decimals: another scale, the least scale, comparison, tax rates, in the program and in the reference.
-/
import Derived.Test.YtagjmmpiglgmhaaGreatDoorLedA
import Derived.Test.YtagjmmpiglgmhaaGreatDoorDecM
namespace Go.Proofs.YtagjmmpiglgmhaaGreatDoor
open Sx
set_option maxRecDepth 100000
def Goes (n:Bool) (m:List Lim) (sc s:Int) (y:List Lim):Prop:=DecOkP n m sc∧DecOkP n y s∧Same10 m sc y s
def At (n:Bool) (m:List Lim) (sc s:Int) (x:DecD) (e:Bool):Prop:=(e=true∧∃ y,x=(n,y,s,())∧Goes n m sc s y)∨(e=false∧x=(false,[],0,())∧∀ y,¬ Goes n m sc s y)
theorem cI_natTen (V:Know) (k:Nat) (hk:k≤440):CallX Tryz.prog V gI_natTen [.int .i64 (k:Int)] (fun V' r=>V.le V'∧∃ s f,r=Sc.val .l s∧LR rI V' s (tenL k) f∧Own V V' f):=by
 refine CallX.of_fits Tryz.mix (fI_natTen _) fun _=>?_
 have e1:(k:Int).tdiv 9=((k / 9:Nat):Int):=(Int.ofNat_tdiv k 9).symm
 have e2:(k:Int).tmod 9=((k % 9:Nat):Int):=(Int.ofNat_tmod k 9).symm
 have w1:IntKind.i64.wrap ((k / 9:Nat):Int)=((k / 9:Nat):Int):=wrap_i64 (by omega)
 have w2:IntKind.i64.wrap (((k / 9:Nat):Int)+1)=((k / 9:Nat):Int)+1:=wrap_i64 (by omega)
 simp only [tI_natTen,T.wp,e1,e2,w1,w2]
 refine⟨by decide,by decide,⟨by omega,by omega,by omega,by omega⟩,by decide,?_⟩
 refine⟨fun y V'=>V'=V∧∃ i:Nat,y.2.1=(i:Int)∧i≤k % 9∧y.1=ten i,fun y=>(((k % 9:Nat):Int)-(y.2.1:Int)).toNat,⟨((1:Int),(0:Int),()),rfl,rfl,0,rfl,by omega,rfl⟩,?_⟩
 rintro⟨(t:Int),(i:Int),u⟩ V' ⟨rfl,j,hj,hjl,ht⟩
 replace hj:i=(j:Int):=hj
 replace ht:t=ten j:=ht
 subst hj ht
 refine⟨fun hlt=>?_,fun hge=>?_⟩
 ·have hl:j<k % 9:=by
   have:(j:Int)<((k % 9:Nat):Int):=of_decide_eq_true hlt
   omega
  have hb:=ten_lt9 (show j<9 by omega)
  refine⟨_,rfl,(ten (j+1),((j+1:Nat):Int),()),?_,⟨rfl,j+1,rfl,by omega,rfl⟩,?_⟩
  ·show [LV.v (.int .i64 (IntKind.i64.wrap (ten j*10))),LV.v (.int .i64 (IntKind.i64.wrap ((j:Int)+1)))]=_
   rw [wrap_i64 (by omega:-9223372036854775808≤ten j*10∧ten j*10≤9223372036854775807),nxt hl (by omega),← ten_succ]
   rfl
  ·show(((k % 9:Nat):Int)-((j+1:Nat):Int)).toNat<(((k % 9:Nat):Int)-(j:Int)).toNat
   omega
 ·have hl:j=k % 9:=by
   have:¬ (j:Int)<((k % 9:Nat):Int):=of_decide_eq_false hge
   omega
  subst hl
  have e3:(((k / 9:Nat):Int)).toNat=k / 9:=by omega
  refine⟨rfl,⟨rfl,by omega,by omega⟩,fun b cap spare hb hcap _=>?_⟩
  have hc:(tenL k).length≤cap:=by rw [tenL_len]; omega
  have hx:(madeCells ⟨[.int .i64 (0:Int)]⟩ ((((k / 9:Nat):Int)).toNat*1)).toList++[(Sh1.o (Sc.i IntKind.i64)).val (ten (k % 9))]=(tenL k).map cellI:=by
   rw [show(((k / 9:Nat):Int)).toNat*1=k / 9 by omega,made_zer,tenL,List.map_append]
   rfl
  have hN:=newI (V:=V') (b:=b) (cap:=cap) (o:=tenL k) (spare:=spare) (t:=3) hb hc (by rw [tenL_len]; omega)
  refine⟨kset_le hb,⟨some ⟨b,0,none⟩,(tenL k).length,cap⟩,[b],?_,?_,?_⟩
  ·rw [tenL_len,show k / 9+1=(((k / 9:Nat):Int)).toNat+1 by omega]
   rfl
  ·have h1:=hN.1
   rw [← hx] at h1
   exact h1
  ·have h1:=hN.2
   rw [← hx] at h1
   exact h1
theorem cS_NatTen (V:Know) (k:Nat) (hk:k≤440):CallX Tryz.prog V gS_NatTen [.int .i64 (k:Int)] (fun V' r=>V.le V'∧∃ s f,r=Sc.val .l s∧LR rI V' s (tenL k) f∧Own V V' f):=by
 refine CallX.of_fits Tryz.mix (fS_NatTen _) fun _=>?_
 have e1:(k:Int).tdiv 9=((k / 9:Nat):Int):=(Int.ofNat_tdiv k 9).symm
 have e2:(k:Int).tmod 9=((k % 9:Nat):Int):=(Int.ofNat_tmod k 9).symm
 have w1:IntKind.i64.wrap ((k / 9:Nat):Int)=((k / 9:Nat):Int):=wrap_i64 (by omega)
 simp only [tS_NatTen,T.wp,e1,e2,w1]
 refine(cS_l01In V _ 0 449).mono ?_
 rintro V1 r ⟨rfl,rfl⟩
 refine⟨nofun,_,rfl,fun h=>?_,fun _=>?_⟩
 ·have:¬ ((0:Int)≤(k:Int)∧(k:Int)≤449):=by simpa using h
  omega
 refine⟨by decide,⟨by omega,by omega,by omega,by omega⟩,?_⟩
 refine⟨fun y V'=>V'=V1∧∃ i:Nat,y.2.1=(i:Int)∧i≤k % 9∧y.1=ten i,fun y=>(((k % 9:Nat):Int)-(y.2.1:Int)).toNat,⟨((1:Int),(0:Int),()),rfl,rfl,0,rfl,by omega,rfl⟩,?_⟩
 rintro⟨(t:Int),(i:Int),u⟩ V' ⟨rfl,j,hj,hjl,ht⟩
 replace hj:i=(j:Int):=hj
 replace ht:t=ten j:=ht
 subst hj ht
 refine⟨by decide,fun hlt=>?_,fun hge=>?_⟩
 ·have hl:j<k % 9:=by
   have:(j:Int)<((k % 9:Nat):Int):=of_decide_eq_true hlt
   omega
  have hb:=ten_lt9 (show j<9 by omega)
  refine⟨_,rfl,(ten (j+1),((j+1:Nat):Int),()),?_,⟨rfl,j+1,rfl,by omega,rfl⟩,?_⟩
  ·show [LV.v (.int .i64 (IntKind.i64.wrap (ten j*10))),LV.v (.int .i64 (IntKind.i64.wrap ((j:Int)+1)))]=_
   rw [wrap_i64 (by omega:-9223372036854775808≤ten j*10∧ten j*10≤9223372036854775807),nxt hl (by omega),← ten_succ]
   rfl
  ·show(((k % 9:Nat):Int)-((j+1:Nat):Int)).toNat<(((k % 9:Nat):Int)-(j:Int)).toNat
   omega
 ·have hl:j=k % 9:=by
   have:¬ (j:Int)<((k % 9:Nat):Int):=of_decide_eq_false hge
   omega
  subst hl
  have e3:(((k / 9:Nat):Int)).toNat=k / 9:=by omega
  refine⟨rfl,⟨rfl,by omega,by omega⟩,fun b cap spare hb hcap _=>?_⟩
  have hc:(tenL k).length≤cap:=by rw [tenL_len]; omega
  have hx:(madeCells ⟨[.int .i64 (0:Int)]⟩ ((((k / 9:Nat):Int)).toNat*1)).toList++[(Sh1.o (Sc.i IntKind.i64)).val (ten (k % 9))]=(tenL k).map cellI:=by
   rw [show(((k / 9:Nat):Int)).toNat*1=k / 9 by omega,made_zer,tenL,List.map_append]
   rfl
  have hN:=newI (V:=V') (b:=b) (cap:=cap) (o:=tenL k) (spare:=spare) (t:=3) hb hc (by rw [tenL_len]; omega)
  refine⟨kset_le hb,⟨some ⟨b,0,none⟩,(tenL k).length,cap⟩,[b],?_,?_,?_⟩
  ·rw [tenL_len,show k / 9+1=(((k / 9:Nat):Int)).toNat+1 by omega]
   rfl
  ·have h1:=hN.1
   rw [← hx] at h1
   exact h1
  ·have h1:=hN.2
   rw [← hx] at h1
   exact h1
abbrev decV (n:Bool) (s:SlV) (x:Int):Value:=Sh1.val (.g [.b,.l,.i .i64]) (n,s,x,())
theorem cS_l07Ten (V:Know) (k:Nat) (hk:k≤440):CallX Tryz.prog V gS_l07Ten [.int .i64 (k:Int)] (fun V' r=>V.le V'∧∃ s f,r=Sh1.val (.g [.b,.l]) (false,s,())∧LR rI V' s (tenL k) f∧Own V V' f):=by
 refine CallX.of_fits Tryz.mix (fS_l07Ten _) fun _=>?_
 simp only [tS_l07Ten,T.wp]
 refine(cS_NatTen V k hk).mono ?_
 rintro V1 _ ⟨le1,s1,f1,rfl,L1,O1⟩
 exact⟨nofun,s1,rfl,le1,s1,f1,rfl,L1,O1⟩
def AtPost (V:Know) (n:Bool) (m:List Lim) (sc s:Int):Know→Value→Prop:=fun V' r=>V.le V'∧∃ (x:DecD) (t:SlV) (e:Bool) (f:List Nat),r=.tuple #[decV x.1 t x.2.2.1,.bool e]∧LR rI V' t x.2.1 f∧Own V V' f∧At n m sc s x e
theorem AtPost.split {V V':Know} {n:Bool} {m:List Lim} {sc s:Int} {r:Value} (h:AtPost V n m sc s V' r):∃ y,r=Sh.val (.t [.g [.b,.l,.i .i64],.o .b]) y:=by
 obtain⟨_,x,t,e,_,rfl,_⟩:=h
 exact⟨((x.1,t,x.2.2.1,()),e,()),rfl⟩
end Go.Proofs.YtagjmmpiglgmhaaGreatDoor
