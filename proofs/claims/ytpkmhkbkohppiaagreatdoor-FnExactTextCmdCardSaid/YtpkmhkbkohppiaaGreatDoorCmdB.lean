/-
  Fields of commands: which a command has, when they are right, when they are zero; the program's CmdOk.
-/
import Derived.Test.YtpkmhkbkohppiaaGreatDoorDecB
namespace Go.Proofs.YtpkmhkbkohppiaaGreatDoor
open Sx
set_option maxRecDepth 100000
abbrev OkE (V:Know) (p:Prop):Know→Value→Prop:=fun V' r=>V'=V∧∃ e,r=.bool e∧(e=true↔p)
theorem okE_no {V:Know} {p:Prop} (k:¬ p):OkE V p V (.bool false):=⟨rfl,false,rfl,⟨(fun e=>by cases e),fun e=>absurd e k⟩⟩
theorem okE_yes {V:Know} {p:Prop} (k:p):OkE V p V (.bool true):=⟨rfl,true,rfl,⟨fun _=>k,fun _=>rfl⟩⟩
theorem okE_dec {V:Know} {p q:Prop} [Decidable q] (h:q↔p):OkE V p V (.bool (decide q)):=⟨rfl,decide q,rfl,by rw [decide_eq_true_eq]; exact h⟩
theorem okE_b {V:Know} {p:Prop} {e:Bool} (h:e=true↔p):OkE V p V (.bool e):=⟨rfl,e,rfl,h⟩
theorem mem_limb {l:List Lim} {x:Int}:(x,())∈l↔∃ i,i<l.length∧limb l i=x:=by
 constructor
 ·intro h
  obtain⟨i,hi,e⟩:=List.getElem_of_mem h
  exact⟨i,hi,by rw [limb_lt hi,e]⟩
 ·rintro⟨i,hi,e⟩
  rw [limb_lt hi] at e
  have:l[i]=(x,()):=Prod.ext e rfl
  rw [← this]
  exact List.getElem_mem hi
theorem find_wp {P:Program} {K:Know→List Value→Prop} {V V0:Know} {s:SlV} {l:List Lim} {f:List Nat} {p:Int→Prop} {body:LShs [.o (.o (.i .i64))]→T} (h:LR rI V s l f)
  (hbody:∀ (i:Nat) (_:i<l.length) (N:List LV→Know→Prop),(p (limb l i)→K V [.int .i64 (i:Int)])→(¬ p (limb l i)→N [.v (.int .i64 (IntKind.i64.wrap ((i:Int)+1)))] V)→(body ((i:Int),())).wp P K V V [N])
  (hyes:∀ i:Nat,i<l.length→p (limb l i)→K V [.int .i64 (i:Int)]) (hno:(∀ i,i<l.length→¬ p (limb l i))→K V [.int .i64 (-1:Int)]) :
  (T.lp [.o (.o (.i .i64))] [.v (.int .i64 (0:Int))] fun y=>.br (decide (y.fst<(s.n:Int))) (body y) (.ret [.int .i64 (-1:Int)])).wp P K V V0 []:=by
 simp only [T.wp]
 have hn:=h.1
 have hb:=h.2.2.1
 refine⟨fun y V'=>V'=V∧∃ i:Nat,y.1=(i:Int)∧i≤l.length∧∀ j,j<i→¬ p (limb l j),fun y=>((l.length:Int)-(y.1:Int)).toNat,⟨((0:Int),()),rfl,rfl,0,rfl,by omega,fun j hj=>by omega⟩,?_⟩
 rintro⟨(i:Int),u⟩ V' ⟨rfl,k,hk,hle,hall⟩
 replace hk:i=(k:Int):=hk
 subst hk
 refine⟨fun hlt=>?_,fun hge=>?_⟩
 ·have h1:k<l.length:=by
   have:(k:Int)<(s.n:Int):=of_decide_eq_true hlt
   omega
  refine hbody k h1 _ (hyes k h1) fun he=>?_
  refine⟨(((k+1:Nat):Int),()),by rw [nxt h1 (by omega)]; rfl,⟨rfl,k+1,rfl,h1,fun j hj=>?_⟩,?_⟩
  ·by_cases e:j=k
   ·subst e; exact he
   ·exact hall j (by omega)
  ·show((l.length:Int)-((k+1:Nat):Int)).toNat<((l.length:Int)-(k:Int)).toNat
   omega
 ·have h1:k=l.length:=by
   have:¬ (k:Int)<(s.n:Int):=of_decide_eq_false hge
   omega
  subst h1
  exact hno hall
def AtOf (l:List Lim) (p:Int→Prop) (n:Int):Prop:=(0≤n∧∃ i,i<l.length∧p (limb l i))∨(n=-1∧∀ i,i<l.length→¬ p (limb l i))
theorem atOf_iff {l:List Lim} {p:Int→Prop} {n:Int} (h:AtOf l p n):n≥0↔∃ i,i<l.length∧p (limb l i):=by
 rcases h with ⟨h1,h2⟩ | ⟨h1,h2⟩
 ·exact⟨fun _=>h2,fun _=>h1⟩
 ·subst h1
  exact⟨fun h=>by omega,fun⟨i,hi,hp⟩=>absurd hp (h2 i hi)⟩
theorem cI_Index (V:Know) (s:SlV) (l:List Lim) (f:List Nat) (x:Int) (h:LR rI V s l f):CallX Tryz.prog V 105 [Sc.val .l s,.int .i64 x] (fun V' r=>V'=V∧∃ n,r=.int .i64 n∧AtOf l (fun y=>x=y) n):=by
 refine CallX.of_fits Tryz.mix (fX_Index_int _ _) fun _=>?_
 rw [tX_Index_int]
 refine find_wp (p:=fun y=>x=y) h (fun i hi N hy hN=>?_) (fun i hi he=>⟨rfl,_,rfl,.inl ⟨by omega,i,hi,he⟩⟩) (fun hno=>⟨rfl,_,rfl,.inr ⟨rfl,hno⟩⟩)
 obtain⟨b,o,a1,l1⟩:=h.int hi
 have hn:=h.1
 have e1:l[i].1=limb l i:=(limb_lt hi).symm
 rw [e1] at l1
 refine⟨_,a1,(by omega:(0:Int)≤(i:Int)),(by omega:(i:Int)<(s.n:Int)),limb l i,l1,fun he=>hy (by simpa using he),fun he=>⟨_,rfl,hN (by simpa using he)⟩⟩
theorem cI_Contains (V:Know) (s:SlV) (l:List Lim) (f:List Nat) (x:Int) (h:LR rI V s l f):CallX Tryz.prog V 72 [Sc.val .l s,.int .i64 x] (OkE V ((x,())∈l)):=by
 refine CallX.of_fits Tryz.mix (fX_Contains_int _ _) fun _=>?_
 simp only [tX_Contains_int,T.wp]
 refine(cI_Index V s l f x h).mono ?_
 rintro V1 r ⟨rfl,n,rfl,hn⟩
 refine⟨nofun,n,rfl,okE_dec ?_⟩
 rw [atOf_iff hn,mem_limb]
 exact⟨fun⟨i,hi,e⟩=>⟨i,hi,e.symm⟩,fun⟨i,hi,e⟩=>⟨i,hi,e.symm⟩⟩
def WeightP (x:Int):Prop:=0≤x∧x≤1000000000
theorem cI_dealOk_1 (V:Know) (x:Int):CallX Tryz.prog V 142 [.int .i64 x] (OkE V (¬ WeightP x)):=by
 refine CallX.of_fits Tryz.mix (fI_dealOk_1 _) fun _=>?_
 simp only [tI_dealOk_1,T.wp]
 refine⟨fun h=>okE_yes fun k=>?_,fun h=>okE_dec ?_⟩
 ·have:=of_decide_eq_true h
  have:=k.1
  omega
 ·have:=of_decide_eq_false h
  unfold WeightP
  omega
theorem cI_ContainsFunc (V:Know) (s:SlV) (l:List Lim) (f:List Nat) (h:LR rI V s l f):CallX Tryz.prog V 141 [Sc.val .l s,Sc.val .f 142] (OkE V (∃ i,i<l.length∧¬ WeightP (limb l i))):=by
 refine CallX.of_fits Tryz.mix (fX_ContainsFunc_int _ _) fun _=>?_
 simp only [tX_ContainsFunc_int,T.wp]
 have hI:CallX Tryz.prog V 176 [Sc.val .l s,Sc.val .f 142] (fun V' r=>V'=V∧∃ n,r=.int .i64 n∧AtOf l (fun y=>¬ WeightP y) n):=by
  refine CallX.of_fits Tryz.mix (fX_IndexFunc_int _ _) fun _=>?_
  rw [tX_IndexFunc_int]
  refine find_wp (p:=fun y=>¬ WeightP y) h (fun i hi N hy hN=>?_) (fun i hi he=>⟨rfl,_,rfl,.inl ⟨by omega,i,hi,he⟩⟩) (fun hno=>⟨rfl,_,rfl,.inr ⟨rfl,hno⟩⟩)
  obtain⟨b,o,a1,l1⟩:=h.int hi
  have hn:=h.1
  have e1:l[i].1=limb l i:=(limb_lt hi).symm
  rw [e1] at l1
  refine⟨_,a1,(by omega:(0:Int)≤(i:Int)),(by omega:(i:Int)<(s.n:Int)),limb l i,l1,(cI_dealOk_1 V _).mono ?_⟩
  rintro V1 r ⟨rfl,e,rfl,he⟩
  exact⟨nofun,e,rfl,fun ht=>hy (he.1 ht),fun hf=>⟨_,rfl,hN fun k=>by rw [he.2 k] at hf; cases hf⟩⟩
 refine hI.mono ?_
 rintro V1 r ⟨rfl,n,rfl,hn⟩
 exact⟨nofun,n,rfl,okE_dec (atOf_iff hn)⟩
def NamesP (l:List (ByteArray × Unit)):Prop:=∀ i (h:i<l.length),WordP l[i].1
theorem names_wp {V V0:Know} {s:SlV} {l:List (ByteArray × Unit)} {f:List Nat} {g:Nat} (h:LR rString V s l f) (hg:∀ x:ByteArray,x.size≤9223372036854775807→CallX Tryz.prog V g [.string x] (OkE V (WordP x))) :
  (T.lp [.o (.o (.i .i64))] [.v (.int .i64 (0:Int))] fun y1=>.br (decide (y1.fst<(s.n:Int))) (
   .el s.a s.n y1.fst fun y2=>.ld false (y2.add (Int.toNat y1.fst*(1:Nat))) (.o .s) fun y3=>.call false g [.string y3] (.v (.o .b)) fun y4 =>
   .br (!y4) (.ret [.bool false]) <| .nx 0 [.v (.int .i64 (IntKind.i64.wrap (y1.fst+(1:Int))))]) <| .ret [.bool true]).wp Tryz.prog (fun V' vs=>OkE V (NamesP l) V' (packed vs)) V V0 []:=by
 simp only [T.wp]
 have hn:=h.1
 have hb:=h.2.2.1
 refine⟨fun y V'=>V'=V∧∃ i:Nat,y.1=(i:Int)∧i≤l.length∧∀ j (hj:j<l.length),j<i→WordP l[j].1,fun y=>((l.length:Int)-(y.1:Int)).toNat,⟨((0:Int),()),rfl,rfl,0,rfl,by omega,fun j _ hj=>by omega⟩,?_⟩
 rintro⟨(i:Int),u⟩ V' ⟨rfl,k,hk,hle,hall⟩
 replace hk:i=(k:Int):=hk
 subst hk
 refine⟨fun hlt=>?_,fun hge=>?_⟩
 ·have h1:k<l.length:=by
   have:(k:Int)<(s.n:Int):=of_decide_eq_true hlt
   omega
  obtain⟨⟨b,o,a1,l1⟩,z1⟩:=h.txt h1
  refine⟨_,a1,(by omega:(0:Int)≤(k:Int)),(by omega:(k:Int)<(s.n:Int)),l[k].1,l1,(hg _ z1).mono ?_⟩
  rintro V2 r ⟨rfl,e,rfl,he⟩
  refine⟨nofun,e,rfl,fun hf=>okE_no fun hN=>?_,fun ht=>?_⟩
  ·rw [he.2 (hN k h1)] at hf; cases hf
  refine⟨_,rfl,(((k+1:Nat):Int),()),by rw [nxt h1 (by omega)]; rfl,⟨rfl,k+1,rfl,h1,fun j hj hj2=>?_⟩,?_⟩
  ·by_cases e2:j=k
   ·subst e2; exact he.1 (by simpa using ht)
   ·exact hall j hj (by omega)
  ·show((l.length:Int)-((k+1:Nat):Int)).toNat<((l.length:Int)-(k:Int)).toNat
   omega
 ·have h1:k=l.length:=by
   have:¬ (k:Int)<(s.n:Int):=of_decide_eq_false hge
   omega
  subst h1
  exact okE_yes fun j hj=>hall j hj hj
theorem cI_areNames (V:Know) (s:SlV) (l:List (ByteArray × Unit)) (f:List Nat) (h:LR rString V s l f):CallX Tryz.prog V 140 [Sc.val .l s] (OkE V (NamesP l)) :=
 CallX.of_fits Tryz.mix (fI_areNames _) fun _=>names_wp h fun x hx=>cI_IsWord V x hx
theorem cS_l21Names (V:Know) (s:SlV) (l:List (ByteArray × Unit)) (f:List Nat) (h:LR rString V s l f):CallX Tryz.prog V 89 [Sc.val .l s] (OkE V (NamesP l)) :=
 CallX.of_fits Tryz.mix (fS_l21Names _) fun _=>names_wp h fun x hx=>cS_IsWord V x hx
def DealP (nm:List (ByteArray × Unit)) (w:List Lim):Prop:=nm.length=w.length∧1≤w.length∧w.length≤30∧NamesP nm∧∀ i,i<w.length→WeightP (limb w i)
theorem cI_dealOk (V:Know) (s t:SlV) (nm:List (ByteArray × Unit)) (w:List Lim) (f g:List Nat) (h:LR rString V s nm f) (h':LR rI V t w g):CallX Tryz.prog V 109 [Sc.val .l s,Sc.val .l t] (OkE V (DealP nm w)):=by
 refine CallX.of_fits Tryz.mix (fI_dealOk _ _) fun _=>?_
 simp only [tI_dealOk,T.wp]
 have hn:=h.1
 have hn':=h'.1
 refine⟨fun h1=>okE_no fun k=>?_,fun h1=>⟨fun h2=>okE_no fun k=>?_,fun h2=>⟨fun h3=>okE_no fun k=>?_,fun h3=>?_⟩⟩⟩
 ·have:¬ (s.n:Int)=(t.n:Int):=by simpa using h1
  have:=k.1
  omega
 ·have:=of_decide_eq_true h2
  have:=k.2.1
  omega
 ·have:=of_decide_eq_true h3
  have:=k.2.2.1
  omega
 have q1:(s.n:Int)=(t.n:Int):=by simpa using h1
 have q2:=of_decide_eq_false h2
 have q3:=of_decide_eq_false h3
 refine(cI_areNames V s nm f h).mono ?_
 rintro V1 r ⟨rfl,e1,rfl,he1⟩
 refine⟨nofun,e1,rfl,fun hf=>okE_no fun k=>?_,fun ht=>(cI_ContainsFunc V1 t w g h').mono ?_⟩
 ·rw [he1.2 k.2.2.2.1] at hf; cases hf
 rintro V2 r ⟨rfl,e2,rfl,he2⟩
 refine⟨nofun,e2,rfl,okE_b ⟨fun hh=>⟨by omega,by omega,by omega,he1.1 (by simpa using ht),fun i hi=>Classical.byContradiction fun hw=>?_⟩,fun k=>?_⟩⟩
 ·rw [he2.2 ⟨i,hi,hw⟩] at hh; cases hh
 ·cases e2 with
  | false=>rfl
  | true =>
   obtain⟨i,hi,hw⟩:=he2.1 rfl
   exact absurd (k.2.2.2.2 i hi) hw
theorem cS_l22Weights (V:Know) (s t:SlV) (nm:List (ByteArray × Unit)) (w:List Lim) (f g:List Nat) (h:LR rString V s nm f) (h':LR rI V t w g):CallX Tryz.prog V 61 [Sc.val .l s,Sc.val .l t] (OkE V (DealP nm w)):=by
 refine CallX.of_fits Tryz.mix (fS_l22Weights _ _) fun _=>?_
 rw [tS_l22Weights]
 have hn:=h.1
 have hn':=h'.1
 refine all_wp (p:=WeightP) h' (fun i hi N hK hN=>?_) (fun hall N=>?_) (fun⟨i,hi,hw⟩=>okE_no fun k=>hw (k.2.2.2.2 i hi))
 ·obtain⟨b,o,a1,l1⟩:=h'.int hi
  have e1:w[i].1=limb w i:=(limb_lt hi).symm
  rw [e1] at l1
  refine⟨_,a1,(by omega:(0:Int)≤(i:Int)),(by omega:(i:Int)<(t.n:Int)),limb w i,l1,(cS_l01In V _ 0 1000000000).mono ?_⟩
  rintro V1 r ⟨rfl,rfl⟩
  exact⟨nofun,_,rfl,fun hf=>hK fun k=>by simp [k.1,k.2] at hf,fun ht=>⟨_,rfl,hN (by simpa [WeightP] using ht)⟩⟩
 simp only [T.wp]
 refine⟨fun h1=>(cS_l01In V _ 1 30).mono ?_,fun h1=>okE_no fun k=>?_⟩
 ·have q1:(s.n:Int)=(t.n:Int):=by simpa using h1
  rintro V1 r ⟨rfl,rfl⟩
  refine⟨nofun,_,rfl,fun ht=>(cS_l21Names V1 s nm f h).mono ?_,fun hf=>okE_no fun k=>?_⟩
  ·have q2:(1:Int)≤(t.n:Int)∧(t.n:Int)≤30:=of_decide_eq_true ht
   rintro V2 r ⟨rfl,e,rfl,he⟩
   exact⟨nofun,e,rfl,okE_b ⟨fun hh=>⟨by omega,by omega,by omega,he.1 hh,hall⟩,fun k=>he.2 k.2.2.2.1⟩⟩
  ·have q2:¬ ((1:Int)≤(t.n:Int)∧(t.n:Int)≤30):=of_decide_eq_false hf
   have:=k.2
   omega
 ·have q1:¬ (s.n:Int)=(t.n:Int):=by simpa using h1
  have:=k.1
  omega
def CodeP (s:ByteArray):Prop:=s.size=3∧∀ i,i<3→65≤at0 s i∧at0 s i≤90
theorem cI_IsCode (V:Know) (s:ByteArray):CallX Tryz.prog V 107 [.string s] (OkE V (CodeP s)):=by
 refine CallX.of_fits Tryz.mix (fI_IsCode _) fun _=>?_
 simp only [tI_IsCode,T.wp]
 refine⟨fun h=>okE_no fun k=>?_,fun h=>?_⟩
 ·have:¬ (s.size:Int)=3:=by simpa using h
  have:=k.1
  omega
 have q:(s.size:Int)=3:=by simpa using h
 refine⟨fun y V'=>V'=V∧∃ i:Nat,y.1=(i:Int)∧i≤3∧∀ j,j<i→65≤at0 s j∧at0 s j≤90,fun y=>(3-(y.1:Int)).toNat,⟨((0:Int),()),rfl,rfl,0,rfl,by omega,fun j hj=>by omega⟩,?_⟩
 rintro⟨(i:Int),u⟩ V' ⟨rfl,k,hk,hle,hall⟩
 replace hk:i=(k:Int):=hk
 subst hk
 refine⟨fun hlt=>?_,fun hge=>?_⟩
 ·have h3:(k:Int)<3:=of_decide_eq_true hlt
  have e0:(k:Int).toNat=k:=by omega
  dsimp only
  rw [e0]
  have hin:(0:Int)≤(k:Int)∧(k:Int)<(s.size:Int):=⟨by omega,by omega⟩
  refine⟨hin,fun h1=>okE_no fun kk=>?_,fun h1=>⟨hin,fun h2=>okE_no fun kk=>?_,fun h2=>?_⟩⟩
  ·have:=of_decide_eq_true h1
   have:=(kk.2 k (by omega)).1
   omega
  ·have:=of_decide_eq_true h2
   have:=(kk.2 k (by omega)).2
   omega
  ·refine⟨_,rfl,(((k+1:Nat):Int),()),by rw [wrap_i64 (by omega)]; rfl,⟨rfl,k+1,rfl,by omega,fun j hj=>?_⟩,?_⟩
   ·by_cases e:j=k
    ·subst e
     have:=of_decide_eq_false h1
     have:=of_decide_eq_false h2
     omega
    ·exact hall j (by omega)
   ·show(3-((k+1:Nat):Int)).toNat<(3-(k:Int)).toNat
    omega
 ·have h3:¬ (k:Int)<3:=of_decide_eq_false hge
  exact okE_yes ⟨by omega,fun i hi=>hall i (by omega)⟩
theorem cS_IsCode (V:Know) (s:ByteArray) (hs:s.size≤9223372036854775807):CallX Tryz.prog V 58 [.string s] (OkE V (CodeP s)):=by
 refine CallX.of_fits Tryz.mix (fS_IsCode _) fun _=>?_
 simp only [tS_IsCode,T.wp]
 refine(cS_l01All V s 65 90 65 90 hs).mono ?_
 rintro V1 r ⟨rfl,e,rfl,he⟩
 refine⟨nofun,e,rfl,fun ht=>?_,fun hf=>okE_no fun k=>?_⟩
 ·obtain⟨g1,g2⟩:=he.1 ht
  refine okE_b ⟨fun h3=>?_,fun k=>?_⟩
  ·have q:(s.size:Int)=3:=by simpa using h3
   exact⟨by omega,fun i hi=>(g1 i (by omega)).elim id id⟩
  ·have:=k.1
   simp [this]
 ·have k1:=k.1
  rw [he.2 ⟨fun i hi=>.inl (k.2 i (by omega)),by omega⟩] at hf
  cases hf
def PayP (c0:ByteArray) (c1:Bool) (l:List Lim):Prop:=MoneyOkP c0 c1 l∧c1=false
theorem cI_payable {V:Know} (hV:HcI V) (c0:ByteArray) (c1:Bool) (c2:SlV) (l:List Lim) (f:List Nat) (h:LR rI V c2 l f):CallX Tryz.prog V 108 [qv2 (c0,c1,c2,())] (OkPost V (PayP c0 c1 l)):=by
 refine CallX.of_fits Tryz.mix (fI_payable _) fun _=>?_
 simp only [tI_payable,T.wp]
 refine(kI_MoneyOk hV c0 c1 c2 l f h).mono ?_
 rintro V1 r ⟨le1,e,rfl,he⟩
 refine⟨nofun,e,rfl,fun ht=>⟨le1,_,rfl,⟨fun hh=>⟨he.1 ht,by simpa using hh⟩,fun k=>by simp [k.2]⟩⟩,fun hf=>not_ok le1 fun k=>?_⟩
 rw [he.2 k.1] at hf; cases hf
theorem cS_l21Money {V:Know} (hV:HcS V) (c0:ByteArray) (c1:Bool) (c2:SlV) (l:List Lim) (f:List Nat) (h:LR rI V c2 l f):CallX Tryz.prog V 59 [qv2 (c0,c1,c2,())] (OkPost V (PayP c0 c1 l)):=by
 refine CallX.of_fits Tryz.mix (fS_l21Money _) fun _=>?_
 simp only [tS_l21Money,T.wp]
 refine(kS_MoneyOk hV c0 c1 c2 l f h).mono ?_
 rintro V1 r ⟨le1,e,rfl,he⟩
 refine⟨nofun,e,rfl,fun ht=>⟨le1,_,rfl,⟨fun hh=>⟨he.1 ht,by simpa using hh⟩,fun k=>by simp [k.2]⟩⟩,fun hf=>not_ok le1 fun k=>?_⟩
 rw [he.2 k.1] at hf; cases hf
def ModeP (x:Int):Prop:=0≤x∧x≤6
theorem cI_isMode (V:Know) (x:Int):CallX Tryz.prog V 113 [.int .i64 x] (OkE V (ModeP x)):=by
 refine CallX.of_fits Tryz.mix (fI_isMode _) fun _=>?_
 simp only [tI_isMode,T.wp]
 refine⟨fun h=>okE_dec ?_,fun h=>okE_no fun k=>?_⟩
 ·have:=of_decide_eq_true h
  unfold ModeP
  omega
 ·have:=of_decide_eq_false h
  have:=k.1
  omega
theorem cS_l06Mode (V:Know) (x:Int):CallX Tryz.prog V 60 [.int .i64 x] (OkE V (ModeP x)):=by
 refine CallX.of_fits Tryz.mix (fS_l06Mode _) fun _=>?_
 simp only [tS_l06Mode,T.wp]
 refine(cS_l01In V x 0 6).mono ?_
 rintro V1 r ⟨rfl,rfl⟩
 exact⟨nofun,_,rfl,okE_dec Iff.rfl⟩
theorem cI_sameInts (V:Know) (s s':SlV) (l l':List Lim) (f f':List Nat) (h:LR rI V s l f) (h':LR rI V s' l' f'):CallX Tryz.prog V 174 [Sc.val .l s,Sc.val .l s'] (OkE V (l=l')):=CallX.of_fits Tryz.mix (fI_sameInts s s') fun _=>tEqI_wp h h'
theorem cI_intSame (V:Know) (n n':Bool) (s s':SlV) (l l':List Lim) (f f':List Nat) (h:LR rI V s l f) (h':LR rI V s' l' f'):CallX Tryz.prog V 136 [qv1 (n,s,()),qv1 (n',s',())] (OkE V (n=n'∧l=l')):=by
 refine CallX.of_fits Tryz.mix (fI_intSame _ _) fun _=>?_
 simp only [tI_intSame,T.wp]
 refine⟨fun h1=>(cI_sameInts V s s' l l' f f' h h').mono ?_,fun h1=>okE_no fun k=>?_⟩
 ·have q:n=n':=by simpa using h1
  rintro V1 r ⟨rfl,e,rfl,he⟩
  exact⟨nofun,e,rfl,okE_b ⟨fun hh=>⟨q,he.1 hh⟩,fun k=>he.2 k.2⟩⟩
 ·have q:¬ n=n':=by simpa using h1
  exact q k.1
theorem cI_MoneySame (V:Know) (c c':ByteArray) (n n':Bool) (s s':SlV) (l l':List Lim) (f f':List Nat) (h:LR rI V s l f) (h':LR rI V s' l' f'):CallX Tryz.prog V 103 [qv2 (c,n,s,()),qv2 (c',n',s',())] (OkE V (c=c'∧n=n'∧l=l')):=by
 refine CallX.of_fits Tryz.mix (fI_MoneySame _ _) fun _=>?_
 simp only [tI_MoneySame,T.wp]
 refine⟨fun h1=>(cI_intSame V n n' s s' l l' f f' h h').mono ?_,fun h1=>okE_no fun k=>?_⟩
 ·have q:c=c':=text_eq.1 h1
  rintro V1 r ⟨rfl,e,rfl,he⟩
  exact⟨nofun,e,rfl,okE_b ⟨fun hh=>⟨q,he.1 hh⟩,fun k=>he.2 k.2⟩⟩
 ·exact(text_ne.1 h1) k.1
theorem cI_decSame (V:Know) (n n':Bool) (s s':SlV) (x x':Int) (l l':List Lim) (f f':List Nat) (h:LR rI V s l f) (h':LR rI V s' l' f'):CallX Tryz.prog V 111 [decV n s x,decV n' s' x'] (OkE V ((n=n'∧l=l')∧x=x')):=by
 refine CallX.of_fits Tryz.mix (fI_decSame _ _) fun _=>?_
 simp only [tI_decSame,T.wp]
 refine(cI_intSame V n n' s s' l l' f f' h h').mono ?_
 rintro V1 r ⟨rfl,e,rfl,he⟩
 refine⟨nofun,e,rfl,fun ht=>okE_b ⟨fun hh=>⟨he.1 ht,by simpa using hh⟩,fun k=>by simp [k.2]⟩,fun hf=>okE_no fun k=>?_⟩
 rw [he.2 k.1] at hf; cases hf
def ZeroD (n:Bool) (l:List Lim) (x:Int):Prop:=(n=false∧l=[])∧x=0
theorem cI_decIsZero (V:Know) (n:Bool) (s:SlV) (x:Int) (l:List Lim) (f:List Nat) (h:LR rI V s l f):CallX Tryz.prog V 104 [decV n s x] (OkE V (ZeroD n l x)):=by
 refine CallX.of_fits Tryz.mix (fI_decIsZero _) fun _=>?_
 simp only [tI_decIsZero,T.wp]
 refine(cI_decSame V n false s ⟨none,0,0⟩ x 0 l [] f [] h lr_nil0).mono ?_
 rintro V1 r ⟨rfl,e,rfl,he⟩
 exact⟨nofun,e,rfl,okE_b he⟩
theorem len_nil {s:SlV} {V:Know} {l:List Lim} {f:List Nat} (h:LR rI V s l f):(s.n:Int)=0↔l=[]:=by
 have:=h.1
 constructor
 ·intro k
  exact List.eq_nil_of_length_eq_zero (by omega)
 ·rintro rfl
  simp at this
  omega
theorem cS_l22Zero (V:Know) (n:Bool) (s:SlV) (x:Int) (l:List Lim) (f:List Nat) (h:LR rI V s l f):CallX Tryz.prog V 64 [decV n s x] (OkE V (ZeroD n l x)):=by
 refine CallX.of_fits Tryz.mix (fS_l22Zero _) fun _=>?_
 simp only [tS_l22Zero,T.wp]
 refine⟨fun h1=>⟨fun h2=>okE_b ?_,fun h2=>okE_no fun k=>?_⟩,fun h1=>okE_no fun k=>?_⟩
 ·have q1:x=0:=by simpa using h1
  have q2:n=false:=by simpa using h2
  rw [beq_iff_eq,len_nil h]
  exact⟨fun k=>⟨⟨q2,k⟩,q1⟩,fun k=>k.1.2⟩
 ·rw [k.1.1] at h2; cases h2
 ·have q1:¬ x=0:=by simpa using h1
  exact q1 k.2
theorem cS_l22Op (V:Know) (x:Int):CallX Tryz.prog V 56 [.int .i64 x] (OkE V (1≤x∧x≤9)):=by
 refine CallX.of_fits Tryz.mix (fS_l22Op _) fun _=>?_
 simp only [tS_l22Op,T.wp]
 refine(cS_l01In V x 1 9).mono ?_
 rintro V1 r ⟨rfl,rfl⟩
 exact⟨nofun,_,rfl,okE_dec Iff.rfl⟩
theorem cS_l22Has (V:Know) (x:Int):CallX Tryz.prog V 12 [.int .i64 x] (fun V' r=>V'=V ∧
  r=.tuple #[.bool (decide (x=4∨x=5∨x=7)),.bool (decide (x=7)),.bool (decide (2≤x∧x≤7)),.bool (decide (x=5∨x=7∨x=8))]):=by
 refine CallX.of_fits Tryz.mix (fS_l22Has _) fun _=>?_
 simp only [tS_l22Has,T.wp]
 have key:∀ {a b c d:Bool},(a=true↔(x=4∨x=5∨x=7))→(b=true↔x=7)→(c=true↔(2≤x∧x≤7))→(d=true↔(x=5∨x=7∨x=8)) →
   Value.tuple #[.bool a,.bool b,.bool c,.bool d]=.tuple #[.bool (decide (x=4∨x=5∨x=7)),.bool (decide (x=7)),.bool (decide (2≤x∧x≤7)),.bool (decide (x=5∨x=7∨x=8))]:=by
  intro a b c d ha hb hc hd
  rw [show a=decide (x=4∨x=5∨x=7) from Bool.eq_iff_iff.2 (by rw [decide_eq_true_eq]; exact ha),show b=decide (x=7) from Bool.eq_iff_iff.2 (by rw [decide_eq_true_eq]; exact hb),
   show c=decide (2≤x∧x≤7) from Bool.eq_iff_iff.2 (by rw [decide_eq_true_eq]; exact hc),show d=decide (x=5∨x=7∨x=8) from Bool.eq_iff_iff.2 (by rw [decide_eq_true_eq]; exact hd)]
 refine⟨fun h4=>?_,fun h4=>⟨fun h5=>?_,fun h5=>?_⟩⟩
 all_goals
  refine(cS_l01In V x 2 7).mono ?_
  rintro V1 r ⟨rfl,rfl⟩
  refine⟨nofun,_,rfl,?_⟩
  simp only [beq_iff_eq,beq_eq_false_iff_ne,ne_eq] at *
  refine⟨fun h5=>⟨by trivial,?_⟩,fun h5=>⟨fun h7=>⟨by trivial,?_⟩,fun h7=>⟨by trivial,?_⟩⟩⟩
  all_goals (refine key ?_ ?_ ?_ ?_ <;> simp only [beq_iff_eq,decide_eq_true_eq,true_iff] <;> omega)
end Go.Proofs.YtpkmhkbkohppiaaGreatDoor
namespace Go.Proofs.YtpkmhkbkohppiaaGreatDoor
open Sx
set_option maxRecDepth 100000
def fieldsL (op:Int):List Lim :=
 if op=1 then [(0,()),(3,())] else if op=2 then [(0,()),(4,())] else if op=3 then [(0,()),(4,())] else if op=4 then [(0,()),(1,()),(4,())] else
 if op=5 then [(0,()),(1,()),(4,()),(7,())] else if op=6 then [(0,()),(4,()),(5,())] else if op=7 then [(0,()),(1,()),(2,()),(4,()),(6,()),(7,())] else
 if op=8 then [(0,()),(7,())] else if op=9 then [(8,())] else []
theorem cI_fieldsOf (V:Know) (op:Int):CallX Tryz.prog V 24 [.int .i64 op] (fun V' r=>V.le V'∧∃ s f,r=Sc.val .l s∧LR rI V' s (fieldsL op) f∧Own V V' f):=by
 refine CallX.of_fits Tryz.mix (fI_fieldsOf _) fun _=>?_
 have go:∀ (o:List Lim),fieldsL op=o→o.length≤6→∀ b cap spare,V b=none→o.length≤cap →
   V.le (kset V b (o.map cellI++spare,(3,(0,0))))∧∃ s f,Value.slice (some ⟨b,0,none⟩) o.length cap=Sc.val .l s∧LR rI (kset V b (o.map cellI++spare,(3,(0,0)))) s (fieldsL op) f∧Own V (kset V b (o.map cellI++spare,(3,(0,0)))) f:=by
  intro o ho hl b cap spare hb hc
  have k:=newI (V:=V) (b:=b) (cap:=cap) (o:=o) (spare:=spare) (t:=3) hb hc (by omega)
  exact⟨kset_le hb,⟨some ⟨b,0,none⟩,o.length,cap⟩,[b],rfl,by rw [ho]; exact k.1,k.2⟩
 simp only [tI_fieldsOf,T.wp]
 refine⟨fun h1=>?_,fun h1=>⟨fun h2=>?_,fun h2=>⟨fun h3=>?_,fun h3=>⟨fun h4=>?_,fun h4=>⟨fun h5=>?_,fun h5=>⟨fun h6=>?_,fun h6=>⟨fun h7=>?_,fun h7=>⟨fun h8=>?_,fun h8=>⟨fun h9=>?_,fun h9=>?_⟩⟩⟩⟩⟩⟩⟩⟩⟩
 ·obtain rfl:op=1:=by simpa using h1
  exact fun b cap spare hb hc _=>go [(0,()),(3,())] rfl (by decide) b cap spare hb hc
 ·obtain rfl:op=2:=by simpa using h2
  exact fun b cap spare hb hc _=>go [(0,()),(4,())] rfl (by decide) b cap spare hb hc
 ·obtain rfl:op=3:=by simpa using h3
  exact fun b cap spare hb hc _=>go [(0,()),(4,())] rfl (by decide) b cap spare hb hc
 ·obtain rfl:op=4:=by simpa using h4
  exact fun b cap spare hb hc _=>go [(0,()),(1,()),(4,())] rfl (by decide) b cap spare hb hc
 ·obtain rfl:op=5:=by simpa using h5
  exact fun b cap spare hb hc _=>go [(0,()),(1,()),(4,()),(7,())] rfl (by decide) b cap spare hb hc
 ·obtain rfl:op=6:=by simpa using h6
  exact fun b cap spare hb hc _=>go [(0,()),(4,()),(5,())] rfl (by decide) b cap spare hb hc
 ·obtain rfl:op=7:=by simpa using h7
  exact fun b cap spare hb hc _=>go [(0,()),(1,()),(2,()),(4,()),(6,()),(7,())] rfl (by decide) b cap spare hb hc
 ·obtain rfl:op=8:=by simpa using h8
  exact fun b cap spare hb hc _=>go [(0,()),(7,())] rfl (by decide) b cap spare hb hc
 ·obtain rfl:op=9:=by simpa using h9
  exact fun b cap spare hb hc _=>go [(8,())] rfl (by decide) b cap spare hb hc
 ·refine⟨Know.le.refl _,⟨none,0,0⟩,[],rfl,?_,Own.nil⟩
  have e:fieldsL op=[]:=by
   simp only [beq_eq_false_iff_ne,ne_eq] at h1 h2 h3 h4 h5 h6 h7 h8 h9
   unfold fieldsL
   rw [if_neg h1,if_neg h2,if_neg h3,if_neg h4,if_neg h5,if_neg h6,if_neg h7,if_neg h8,if_neg h9]
  rw [e]
  exact lr_nil0
def TaxLowP (n:Bool) (m:List Lim) (sc:Int):Prop:=TaxP n m sc∧LowD n m sc (n,m,sc,())
abbrev noT:ByteArray:=⟨⟨[]⟩⟩
def FOk:DCmd→Int→Prop
 | (_,a,b,c,u,mc,mn,mm,mo,nm,w,rn,rm,rs,pf,pt,pn,pm,ps,_),f=>if f=0 then WordP a else if f=1 then WordP b else if f=2 then WordP c else if f=3 then CodeP u else if f=4 then PayP mc mn mm else if f=5 then DealP nm w else if f=6 then TaxLowP rn rm rs else if f=7 then ModeP mo else RateOkP (pf,pt,pn,pm,ps,())
def FZero:DCmd→Int→Prop
 | (_,a,b,c,u,mc,mn,mm,mo,nm,w,rn,rm,rs,pf,pt,pn,pm,ps,_),f=>if f=0 then a=noT else if f=1 then b=noT else if f=2 then c=noT else if f=3 then u=noT else if f=4 then (mc=noT∧mn=false∧mm=[]) else if f=5 then (nm=[]∧w=[]) else if f=6 then ZeroD rn rm rs else if f=7 then mo=0 else (pf=noT∧pt=noT∧ZeroD pn pm ps)
def Chk (x:DCmd) (f:Int):Prop:=((f,())∈fieldsL x.1→FOk x f)∧((f,()) ∉ fieldsL x.1→FZero x f)
def CmdP (x:DCmd):Prop:=0<(fieldsL x.1).length∧∀ j:Nat,j<9→Chk x j
theorem ld_at {V:Know} {b:Nat} {cs l:List Value} {t:KTy} (hV:V b=some (cs,t)) {k n:Nat} (h:cutv cs k n=some l):loadV V ((⟨b,0,none⟩:Addr).add k) n=some l:=by
 simp only [loadV,addr_add_eq,hV,Nat.zero_add]
 exact h
theorem ld_at2 {V:Know} {b:Nat} {cs l:List Value} {t:KTy} (hV:V b=some (cs,t)) {j k n:Nat} (h:cutv cs (j+k) n=some l):loadV V (((⟨b,0,none⟩:Addr).add j).add k) n=some l:=by
 simp only [loadV,addr_add_eq,hV,Nat.zero_add]
 exact h
theorem ok_txt {V:Know} {a:ByteArray}:OkPost V (a=noT) V (.bool (a.toList == noT.toList)):=⟨Know.le.refl _,_,rfl,text_eq⟩
theorem ok_e {V:Know} {p:Prop} {e:Bool} (h:e=true↔p):OkPost V p V (.bool e):=⟨Know.le.refl _,e,rfl,h⟩
theorem not_ok0 {V:Know} {p:Prop} (k:¬ p):OkPost V p V (.bool false):=not_ok (Know.le.refl _) k
theorem slen_nil {α:Type} {sh:List Sc} {r:Rp sh α} {s:SlV} {V:Know} {l:List α} {f:List Nat} (h:LR r V s l f):(s.n:Int)=0↔l=[]:=by
 have:=h.1
 constructor
 ·intro k
  exact List.eq_nil_of_length_eq_zero (by omega)
 ·rintro rfl
  simp at this
  omega
theorem cI_fieldZero {V:Know}:∀ (c:Scs [.i .i64,.s,.s,.s,.s,.s,.b,.l,.i .i64,.l,.l,.b,.l,.i .i64,.s,.s,.b,.l,.i .i64]) (x:DCmd) (fp:List Nat) (_:rCmd.R V c x fp) (b:Nat) (t:KTy) (_:V b=some (Scs.vals [.i .i64,.s,.s,.s,.s,.s,.b,.l,.i .i64,.l,.l,.b,.l,.i .i64,.s,.s,.b,.l,.i .i64] c,t)) (f:Int),
  CallX Tryz.prog V 71 [.pointer (some ⟨b,0,none⟩),.int .i64 f] (OkPost V (FZero x f)):=by
 rintro⟨c0,c1,c2,c3,c4,c5,c6,c7,c8,c9,c10,c11,c12,c13,c14,c15,c16,c17,c18,cu⟩ ⟨x0,x1,x2,x3,x4,x5,x6,x7,x8,x9,x10,x11,x12,x13,x14,x15,x16,x17,x18,xu⟩ fp hx b t hb f
 obtain⟨ec0,hx⟩:=hx
 replace ec0:c0=x0:=ec0
 subst ec0
 obtain⟨⟨ec1,zc1⟩,hx⟩:=hx
 replace ec1:c1=x1:=ec1
 subst ec1
 replace zc1:c1.size≤9223372036854775807:=zc1
 obtain⟨⟨ec2,zc2⟩,hx⟩:=hx
 replace ec2:c2=x2:=ec2
 subst ec2
 replace zc2:c2.size≤9223372036854775807:=zc2
 obtain⟨⟨ec3,zc3⟩,hx⟩:=hx
 replace ec3:c3=x3:=ec3
 subst ec3
 replace zc3:c3.size≤9223372036854775807:=zc3
 obtain⟨⟨ec4,zc4⟩,hx⟩:=hx
 replace ec4:c4=x4:=ec4
 subst ec4
 replace zc4:c4.size≤9223372036854775807:=zc4
 obtain⟨⟨ec5,zc5⟩,hx⟩:=hx
 replace ec5:c5=x5:=ec5
 subst ec5
 replace zc5:c5.size≤9223372036854775807:=zc5
 obtain⟨ec6,hx⟩:=hx
 replace ec6:c6=x6:=ec6
 subst ec6
 obtain⟨f7,fr7,ec7,sc7,hx⟩:=hx
 subst ec7
 replace sc7:LR rI _ c7 x7 f7:=sc7
 obtain⟨ec8,hx⟩:=hx
 replace ec8:c8=x8:=ec8
 subst ec8
 obtain⟨f9,fr9,ec9,sc9,hx⟩:=hx
 subst ec9
 replace sc9:LR rString _ c9 x9 f9:=sc9
 obtain⟨f10,fr10,ec10,sc10,hx⟩:=hx
 subst ec10
 replace sc10:LR rI _ c10 x10 f10:=sc10
 obtain⟨ec11,hx⟩:=hx
 replace ec11:c11=x11:=ec11
 subst ec11
 obtain⟨f12,fr12,ec12,sc12,hx⟩:=hx
 subst ec12
 replace sc12:LR rI _ c12 x12 f12:=sc12
 obtain⟨ec13,hx⟩:=hx
 replace ec13:c13=x13:=ec13
 subst ec13
 obtain⟨⟨ec14,zc14⟩,hx⟩:=hx
 replace ec14:c14=x14:=ec14
 subst ec14
 replace zc14:c14.size≤9223372036854775807:=zc14
 obtain⟨⟨ec15,zc15⟩,hx⟩:=hx
 replace ec15:c15=x15:=ec15
 subst ec15
 replace zc15:c15.size≤9223372036854775807:=zc15
 obtain⟨ec16,hx⟩:=hx
 replace ec16:c16=x16:=ec16
 subst ec16
 obtain⟨f17,fr17,ec17,sc17,hx⟩:=hx
 subst ec17
 replace sc17:LR rI _ c17 x17 f17:=sc17
 obtain⟨ec18,hx⟩:=hx
 replace ec18:c18=x18:=ec18
 subst ec18
 replace hx:_=[]:=hx
 subst hx
 refine CallX.of_fits Tryz.mix (fI_fieldZero _ _) fun _=>?_
 simp only [tI_fieldZero,T.wp]
 refine⟨fun h0=>?_,fun h0=>⟨fun h1=>?_,fun h1=>⟨fun h2=>?_,fun h2=>⟨fun h3=>?_,fun h3=>⟨fun h4=>?_,fun h4=>⟨fun h5=>?_,fun h5=>⟨fun h6=>?_,fun h6=>⟨fun h7=>?_,fun h7=>?_⟩⟩⟩⟩⟩⟩⟩⟩
 ·obtain rfl:f=0:=by simpa using h0
  exact⟨c1,ld_at hb rfl,ok_txt⟩
 ·obtain rfl:f=1:=by simpa using h1
  exact⟨c2,ld_at hb rfl,ok_txt⟩
 ·obtain rfl:f=2:=by simpa using h2
  exact⟨c3,ld_at hb rfl,ok_txt⟩
 ·obtain rfl:f=3:=by simpa using h3
  exact⟨c4,ld_at hb rfl,ok_txt⟩
 ·obtain rfl:f=4:=by simpa using h4
  refine⟨(c5,c6,c7,()),ld_at hb rfl,(cI_MoneySame V c5 noT c6 false c7 ⟨none,0,0⟩ x7 [] f7 [] sc7 lr_nil0).mono ?_⟩
  rintro V1 r ⟨rfl,e,rfl,he⟩
  exact⟨nofun,e,rfl,ok_e he⟩
 ·obtain rfl:f=5:=by simpa using h5
  refine⟨c9,ld_at hb rfl,fun hz=>⟨c10,ld_at hb rfl,ok_e ?_⟩,fun hz=>not_ok0 ?_⟩
  ·have q:x9=[]:=(slen_nil sc9).1 (by simpa using hz)
   rw [beq_iff_eq,slen_nil sc10]
   exact⟨fun k=>⟨q,k⟩,fun k=>k.2⟩
  ·intro k
   have q:=(slen_nil sc9).2 k.1
   simp [q] at hz
 ·obtain rfl:f=6:=by simpa using h6
  refine⟨(c11,c12,c13,()),ld_at hb rfl,(cI_decIsZero V c11 c12 c13 x12 f12 sc12).mono ?_⟩
  rintro V1 r ⟨rfl,e,rfl,he⟩
  exact⟨nofun,e,rfl,ok_e he⟩
 ·obtain rfl:f=7:=by simpa using h7
  exact⟨c8,ld_at hb rfl,ok_e beq_iff_eq⟩
 ·have e:FZero (c0,c1,c2,c3,c4,c5,c6,x7,c8,x9,x10,c11,x12,c13,c14,c15,c16,x17,c18,xu) f=FZero (c0,c1,c2,c3,c4,c5,c6,x7,c8,x9,x10,c11,x12,c13,c14,c15,c16,x17,c18,xu) 8:=by
   simp only [beq_eq_false_iff_ne,ne_eq] at h0 h1 h2 h3 h4 h5 h6 h7
   show(if f=0 then _ else if f=1 then _ else if f=2 then _ else if f=3 then _ else if f=4 then _ else if f=5 then _ else if f=6 then _ else if f=7 then _ else _)=_
   rw [if_neg h0,if_neg h1,if_neg h2,if_neg h3,if_neg h4,if_neg h5,if_neg h6,if_neg h7]
   rfl
  rw [e]
  refine⟨c14,ld_at2 hb rfl,fun h8=>⟨c15,ld_at2 hb rfl,fun h9=>⟨(c16,c17,c18,()),ld_at2 hb rfl,(cI_decIsZero V c16 c17 c18 x17 f17 sc17).mono ?_⟩,fun h9=>not_ok0 fun k=>text_ne.1 h9 k.2.1⟩,fun h8=>not_ok0 fun k=>text_ne.1 h8 k.1⟩
  rintro V1 r ⟨rfl,e,rfl,he⟩
  exact⟨nofun,e,rfl,ok_e ⟨fun k=>⟨text_eq.1 h8,text_eq.1 h9,he.1 k⟩,fun k=>he.2 k.2.2⟩⟩
theorem cI_fieldOk {V:Know} (hV:HcI V):∀ (c:Scs [.i .i64,.s,.s,.s,.s,.s,.b,.l,.i .i64,.l,.l,.b,.l,.i .i64,.s,.s,.b,.l,.i .i64]) (x:DCmd) (fp:List Nat) (_:rCmd.R V c x fp) (b:Nat) (t:KTy) (_:V b=some (Scs.vals [.i .i64,.s,.s,.s,.s,.s,.b,.l,.i .i64,.l,.l,.b,.l,.i .i64,.s,.s,.b,.l,.i .i64] c,t)) (f:Int),
  CallX Tryz.prog V 73 [.pointer (some ⟨b,0,none⟩),.int .i64 f] (OkPost V (FOk x f)):=by
 rintro⟨c0,c1,c2,c3,c4,c5,c6,c7,c8,c9,c10,c11,c12,c13,c14,c15,c16,c17,c18,cu⟩ ⟨x0,x1,x2,x3,x4,x5,x6,x7,x8,x9,x10,x11,x12,x13,x14,x15,x16,x17,x18,xu⟩ fp hx b t hb f
 obtain⟨ec0,hx⟩:=hx
 replace ec0:c0=x0:=ec0
 subst ec0
 obtain⟨⟨ec1,zc1⟩,hx⟩:=hx
 replace ec1:c1=x1:=ec1
 subst ec1
 replace zc1:c1.size≤9223372036854775807:=zc1
 obtain⟨⟨ec2,zc2⟩,hx⟩:=hx
 replace ec2:c2=x2:=ec2
 subst ec2
 replace zc2:c2.size≤9223372036854775807:=zc2
 obtain⟨⟨ec3,zc3⟩,hx⟩:=hx
 replace ec3:c3=x3:=ec3
 subst ec3
 replace zc3:c3.size≤9223372036854775807:=zc3
 obtain⟨⟨ec4,zc4⟩,hx⟩:=hx
 replace ec4:c4=x4:=ec4
 subst ec4
 replace zc4:c4.size≤9223372036854775807:=zc4
 obtain⟨⟨ec5,zc5⟩,hx⟩:=hx
 replace ec5:c5=x5:=ec5
 subst ec5
 replace zc5:c5.size≤9223372036854775807:=zc5
 obtain⟨ec6,hx⟩:=hx
 replace ec6:c6=x6:=ec6
 subst ec6
 obtain⟨f7,fr7,ec7,sc7,hx⟩:=hx
 subst ec7
 replace sc7:LR rI _ c7 x7 f7:=sc7
 obtain⟨ec8,hx⟩:=hx
 replace ec8:c8=x8:=ec8
 subst ec8
 obtain⟨f9,fr9,ec9,sc9,hx⟩:=hx
 subst ec9
 replace sc9:LR rString _ c9 x9 f9:=sc9
 obtain⟨f10,fr10,ec10,sc10,hx⟩:=hx
 subst ec10
 replace sc10:LR rI _ c10 x10 f10:=sc10
 obtain⟨ec11,hx⟩:=hx
 replace ec11:c11=x11:=ec11
 subst ec11
 obtain⟨f12,fr12,ec12,sc12,hx⟩:=hx
 subst ec12
 replace sc12:LR rI _ c12 x12 f12:=sc12
 obtain⟨ec13,hx⟩:=hx
 replace ec13:c13=x13:=ec13
 subst ec13
 obtain⟨⟨ec14,zc14⟩,hx⟩:=hx
 replace ec14:c14=x14:=ec14
 subst ec14
 replace zc14:c14.size≤9223372036854775807:=zc14
 obtain⟨⟨ec15,zc15⟩,hx⟩:=hx
 replace ec15:c15=x15:=ec15
 subst ec15
 replace zc15:c15.size≤9223372036854775807:=zc15
 obtain⟨ec16,hx⟩:=hx
 replace ec16:c16=x16:=ec16
 subst ec16
 obtain⟨f17,fr17,ec17,sc17,hx⟩:=hx
 subst ec17
 replace sc17:LR rI _ c17 x17 f17:=sc17
 obtain⟨ec18,hx⟩:=hx
 replace ec18:c18=x18:=ec18
 subst ec18
 replace hx:_=[]:=hx
 subst hx
 refine CallX.of_fits Tryz.mix (fI_fieldOk _ _) fun _=>?_
 simp only [tI_fieldOk,T.wp]
 refine⟨fun h0=>?_,fun h0=>⟨fun h1=>?_,fun h1=>⟨fun h2=>?_,fun h2=>⟨fun h3=>?_,fun h3=>⟨fun h4=>?_,fun h4=>⟨fun h5=>?_,fun h5=>⟨fun h6=>?_,fun h6=>⟨fun h7=>?_,fun h7=>?_⟩⟩⟩⟩⟩⟩⟩⟩
 ·obtain rfl:f=0:=by simpa using h0
  refine⟨c1,ld_at hb rfl,(cI_IsWord V c1 zc1).mono ?_⟩
  rintro V1 r ⟨rfl,e,rfl,he⟩
  exact⟨nofun,e,rfl,ok_e he⟩
 ·obtain rfl:f=1:=by simpa using h1
  refine⟨c2,ld_at hb rfl,(cI_IsWord V c2 zc2).mono ?_⟩
  rintro V1 r ⟨rfl,e,rfl,he⟩
  exact⟨nofun,e,rfl,ok_e he⟩
 ·obtain rfl:f=2:=by simpa using h2
  refine⟨c3,ld_at hb rfl,(cI_IsWord V c3 zc3).mono ?_⟩
  rintro V1 r ⟨rfl,e,rfl,he⟩
  exact⟨nofun,e,rfl,ok_e he⟩
 ·obtain rfl:f=3:=by simpa using h3
  refine⟨c4,ld_at hb rfl,(cI_IsCode V c4).mono ?_⟩
  rintro V1 r ⟨rfl,e,rfl,he⟩
  exact⟨nofun,e,rfl,ok_e he⟩
 ·obtain rfl:f=4:=by simpa using h4
  refine⟨(c5,c6,c7,()),ld_at hb rfl,(cI_payable hV c5 c6 c7 x7 f7 sc7).mono ?_⟩
  rintro V1 r ⟨le1,e,rfl,he⟩
  exact⟨nofun,e,rfl,le1,e,rfl,he⟩
 ·obtain rfl:f=5:=by simpa using h5
  refine⟨V,Know.le.refl _,c9,ld_at hb rfl,c10,ld_at hb rfl,(cI_dealOk V c9 c10 x9 x10 f9 f10 sc9 sc10).mono ?_⟩
  rintro V1 r ⟨rfl,e,rfl,he⟩
  exact⟨fun _=>Know.le.refl _,e,rfl,ok_e he⟩
 ·obtain rfl:f=6:=by simpa using h6
  refine⟨V,Know.le.refl _,(c11,c12,c13,()),ld_at hb rfl,(cI_TaxRateOk V c11 c12 x12 f12 c13 sc12).mono ?_⟩
  rintro V1 r ⟨le1,e,rfl,he⟩
  refine⟨fun _=>le1,e,rfl,fun ht=>⟨(c11,c12,c13,()),ld_at hb rfl,(c11,c12,c13,()),ld_at hb rfl,?_⟩,fun hf=>not_ok le1 fun k=>?_⟩
  ·have hT:=he.1 ht
   refine(cI_DecLow V1 c11 c12 x12 f12 c13 (sc12.le le1) hT.1).mono ?_
   rintro V2 _ ⟨le2,y,t2,f2,rfl,L2,_,hL⟩
   have l2:=le1.trans le2
   refine⟨fun _=>le2,(y.1,t2,y.2.2.1,()),rfl,(cI_decSame V2 c11 y.1 c12 t2 c13 y.2.2.1 x12 y.2.1 f12 f2 (sc12.le l2) L2).mono ?_⟩
   rintro V3 r ⟨rfl,e3,rfl,he3⟩
   refine⟨fun _=>Know.le.refl _,e3,rfl,l2,e3,rfl,he3.trans ⟨fun k=>⟨hT,?_⟩,fun k=>?_⟩⟩
   ·rw [← low_self hL k.2.symm]
    exact hL
   ·have:=low_inj hL k.2
    rw [this]
    exact⟨⟨rfl,rfl⟩,rfl⟩
  ·rw [he.2 k.1] at hf; cases hf
 ·obtain rfl:f=7:=by simpa using h7
  refine⟨c8,ld_at hb rfl,(cI_isMode V c8).mono ?_⟩
  rintro V1 r ⟨rfl,e,rfl,he⟩
  exact⟨nofun,e,rfl,ok_e he⟩
 ·have e:FOk (c0,c1,c2,c3,c4,c5,c6,x7,c8,x9,x10,c11,x12,c13,c14,c15,c16,x17,c18,xu) f=FOk (c0,c1,c2,c3,c4,c5,c6,x7,c8,x9,x10,c11,x12,c13,c14,c15,c16,x17,c18,xu) 8:=by
   simp only [beq_eq_false_iff_ne,ne_eq] at h0 h1 h2 h3 h4 h5 h6 h7
   show(if f=0 then _ else if f=1 then _ else if f=2 then _ else if f=3 then _ else if f=4 then _ else if f=5 then _ else if f=6 then _ else if f=7 then _ else _)=_
   rw [if_neg h0,if_neg h1,if_neg h2,if_neg h3,if_neg h4,if_neg h5,if_neg h6,if_neg h7]
   rfl
  rw [e]
  refine⟨(c14,c15,c16,c17,c18,()),ld_at hb rfl,(cI_RateOk hV (c14,c15,c16,x17,c18,()) c17 f17 sc17).mono ?_⟩
  rintro V1 r ⟨le1,e,rfl,he⟩
  exact⟨nofun,e,rfl,le1,e,rfl,he⟩
theorem cI_CmdOk {V:Know} (hV:HcI V):∀ (c:Scs [.i .i64,.s,.s,.s,.s,.s,.b,.l,.i .i64,.l,.l,.b,.l,.i .i64,.s,.s,.b,.l,.i .i64]) (x:DCmd) (fp:List Nat) (_:rCmd.R V c x fp),CallX Tryz.prog V 28 [qv3 c] (OkPost V (CmdP x)):=by
 intro c x fp hx
 have hc0:c.1=x.1:=hx.1
 refine CallX.of_fits Tryz.mix (fI_CmdOk _) fun _=>?_
 simp only [tI_CmdOk,T.wp]
 refine(cI_fieldsOf V c.1).mono ?_
 rintro V1 _ ⟨le1,s1,f1,rfl,L1,_⟩
 rw [hc0] at L1
 refine⟨nofun,s1,rfl,fun b hb=>?_⟩
 have lb:=le1.trans (kset_le (x:=(Scs.vals [.i .i64,.s,.s,.s,.s,.s,.b,.l,.i .i64,.l,.l,.b,.l,.i .i64,.s,.s,.b,.l,.i .i64] c,(33,(0,0)))) hb)
 have hbb:kset V1 b (Scs.vals [.i .i64,.s,.s,.s,.s,.s,.b,.l,.i .i64,.l,.l,.b,.l,.i .i64,.s,.s,.b,.l,.i .i64] c,(33,(0,0))) b=some (Scs.vals [.i .i64,.s,.s,.s,.s,.s,.b,.l,.i .i64,.l,.l,.b,.l,.i .i64,.s,.s,.b,.l,.i .i64] c,(33,(0,0))):=kset_same
 have L1b:=L1.le (kset_le (x:=(Scs.vals [.i .i64,.s,.s,.s,.s,.s,.b,.l,.i .i64,.l,.l,.b,.l,.i .i64,.s,.s,.b,.l,.i .i64] c,(33,(0,0)))) hb)
 refine⟨fun y V'=>(kset V1 b (Scs.vals [.i .i64,.s,.s,.s,.s,.s,.b,.l,.i .i64,.l,.l,.b,.l,.i .i64,.s,.s,.b,.l,.i .i64] c,(33,(0,0)))).le V'∧∃ j:Nat,y.1=(j:Int)∧j≤9∧∀ i:Nat,i<j→Chk x i,fun y=>(9-(y.1:Int)).toNat,⟨((0:Int),()),rfl,Know.le.refl _,0,rfl,by omega,fun i h=>by omega⟩,?_⟩
 rintro⟨(i:Int),u⟩ V' ⟨hle,k,hk,hk9,hall⟩
 replace hk:i=(k:Int):=hk
 subst hk
 have hle':=lb.trans hle
 refine⟨fun hlt=>?_,fun hge=>?_⟩
 ·have h8:(k:Int)≤8:=of_decide_eq_true hlt
  have next:∀ {V2:Know},V'.le V2→Chk x k→∃ N,([fun vs V'=>∃ y',vs=LShs.lvs [.o (.o (.i .i64))] y'∧((kset V1 b (Scs.vals [.i .i64,.s,.s,.s,.s,.s,.b,.l,.i .i64,.l,.l,.b,.l,.i .i64,.s,.s,.b,.l,.i .i64] c,(33,(0,0)))).le V'∧∃ j:Nat,y'.1=(j:Int)∧j≤9∧∀ i:Nat,i<j→Chk x i)∧(9-(y'.1:Int)).toNat<(9-(k:Int)).toNat]:List (List LV→Know→Prop))[0]?=some N∧N [.v (.int .i64 (IntKind.i64.wrap ((k:Int)+1)))] V2:=by
   intro V2 h2 hc
   refine⟨_,rfl,(((k+1:Nat):Int),()),by rw [wrap_i64 (by omega)]; rfl,⟨hle.trans h2,k+1,rfl,by omega,fun i hi=>?_⟩,?_⟩
   ·by_cases e:i=k
    ·subst e; exact hc
    ·exact hall i (by omega)
   ·show(9-((k+1:Nat):Int)).toNat<(9-(k:Int)).toNat
    omega
  refine(cI_Contains V' s1 _ f1 k (L1b.le hle)).mono ?_
  rintro V2 r ⟨rfl,e,rfl,he⟩
  refine⟨nofun,e,rfl,fun ht=>?_,fun hf=>?_⟩
  ·have hm:=he.1 ht
   refine(cI_fieldOk (HcI.le hV hle') c x fp (rCmd.le hx hle') b _ (hle _ _ hbb) k).mono ?_
   rintro V3 r ⟨le3,e3,rfl,he3⟩
   refine⟨nofun,e3,rfl,fun hf3=>not_ok (hle'.trans le3) fun q=>?_,fun ht3=>next le3 ⟨fun _=>he3.1 (by simpa using ht3),fun q=>absurd hm q⟩⟩
   rw [he3.2 ((q.2 k (by omega)).1 hm)] at hf3
   cases hf3
  ·have hm:((k:Int),()) ∉ fieldsL x.1:=fun q=>by rw [he.2 q] at hf; cases hf
   refine(cI_fieldZero c x fp (rCmd.le hx hle') b _ (hle _ _ hbb) k).mono ?_
   rintro V3 r ⟨le3,e3,rfl,he3⟩
   refine⟨nofun,e3,rfl,fun hf3=>not_ok (hle'.trans le3) fun q=>?_,fun ht3=>next le3 ⟨fun q=>absurd q hm,fun _=>he3.1 (by simpa using ht3)⟩⟩
   rw [he3.2 ((q.2 k (by omega)).2 hm)] at hf3
   cases hf3
 ·have h8:¬ (k:Int)≤8:=of_decide_eq_false hge
  have hn:=L1.1
  refine⟨hle',_,rfl,⟨fun hd=>⟨?_,fun j hj=>hall j (by omega)⟩,fun q=>decide_eq_true ?_⟩⟩
  ·have:(s1.n:Int) > 0:=of_decide_eq_true hd
   omega
  ·have:=q.1
   omega
end Go.Proofs.YtpkmhkbkohppiaaGreatDoor
