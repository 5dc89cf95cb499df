/-
  Amounts of one currency, and their comparison, in the program and in the reference.
-/
import Derived.Test.YtccnjccabllcaaaGreatDoorOk
import Derived.Test.YtccnjccabllcaaaGreatDoorStr
namespace Go.Proofs.YtccnjccabllcaaaGreatDoor
open Sx
set_option maxRecDepth 100000
def AlikeP (x y:DMoney):Prop:=MoneyOkP x.1 x.2.1 x.2.2.1∧MoneyOkP y.1 y.2.1 y.2.2.1∧x.1=y.1
theorem cS_l09Both {V:Know} (c d:Scs [.s,.b,.l]) (x y:DMoney) (f g:List Nat) (hx:rMoney.R V c x f) (hy:rMoney.R V d y g):CallX Tryz.prog V gS_l09Both [Sh1.val (.g [.s,.b,.l]) c,Sh1.val (.g [.s,.b,.l]) d] (fun V' r=>V.le V'∧∃ e,r=.bool e∧(e=true↔AlikeP x y)):=by
 obtain⟨c0,c1,c2,cu⟩:=c
 obtain⟨d0,d1,d2,du⟩:=d
 obtain⟨x0,x1,x2,xu⟩:=x
 obtain⟨y0,y1,y2,yu⟩:=y
 obtain⟨⟨ec0,zc0⟩,hx⟩:=hx
 replace ec0:c0=x0:=ec0
 subst ec0
 replace zc0:c0.size≤9223372036854775807:=zc0
 obtain⟨ec1,hx⟩:=hx
 replace ec1:c1=x1:=ec1
 subst ec1
 obtain⟨ff2,ffr2,ec2,sc2,hx⟩:=hx
 subst ec2
 replace sc2:LR rI _ c2 x2 ff2:=sc2
 replace hx:_=[]:=hx
 subst hx
 obtain⟨⟨ed0,zd0⟩,hy⟩:=hy
 replace ed0:d0=y0:=ed0
 subst ed0
 replace zd0:d0.size≤9223372036854775807:=zd0
 obtain⟨ed1,hy⟩:=hy
 replace ed1:d1=y1:=ed1
 subst ed1
 obtain⟨gg2,ggr2,ed2,sd2,hy⟩:=hy
 subst ed2
 replace sd2:LR rI _ d2 y2 gg2:=sd2
 replace hy:_=[]:=hy
 subst hy
 refine CallX.of_fits Tryz.mix (fS_l09Both _ _) fun _=>?_
 simp only [tS_l09Both,T.wp]
 refine(cS_MoneyOk c0 c1 c2 x2 _ sc2).mono ?_
 rintro V1 r ⟨hle,e,rfl,he⟩
 refine⟨nofun,e,rfl,fun ht=>?_,fun hf=>⟨hle,false,rfl,⟨(fun h=>by cases h),(fun k=>by rw [he.2 k.1] at hf; cases hf)⟩⟩⟩
 refine(cS_MoneyOk d0 d1 d2 y2 _ (sd2.le hle)).mono ?_
 rintro V2 r ⟨hle2,e2,rfl,he2⟩
 refine⟨nofun,e2,rfl,fun ht2=>⟨hle.trans hle2,_,rfl,⟨fun hd=>⟨he.1 ht,he2.1 ht2,text_eq.1 hd⟩,fun k=>text_eq.2 k.2.2⟩⟩,fun hf=>⟨hle.trans hle2,false,rfl,⟨(fun h=>by cases h),(fun k=>by rw [he2.2 k.2.1] at hf; cases hf)⟩⟩⟩
theorem cI_alike {V:Know} (hV:hasCur V) (c d:Scs [.s,.b,.l]) (x y:DMoney) (f g:List Nat) (hx:rMoney.R V c x f) (hy:rMoney.R V d y g):CallX Tryz.prog V gI_alike [Sh1.val (.g [.s,.b,.l]) c,Sh1.val (.g [.s,.b,.l]) d] (fun V' r=>V.le V'∧∃ e,r=.bool e∧(e=true↔AlikeP x y)):=by
 obtain⟨c0,c1,c2,cu⟩:=c
 obtain⟨d0,d1,d2,du⟩:=d
 obtain⟨x0,x1,x2,xu⟩:=x
 obtain⟨y0,y1,y2,yu⟩:=y
 obtain⟨⟨ec0,zc0⟩,hx⟩:=hx
 replace ec0:c0=x0:=ec0
 subst ec0
 replace zc0:c0.size≤9223372036854775807:=zc0
 obtain⟨ec1,hx⟩:=hx
 replace ec1:c1=x1:=ec1
 subst ec1
 obtain⟨ff2,ffr2,ec2,sc2,hx⟩:=hx
 subst ec2
 replace sc2:LR rI _ c2 x2 ff2:=sc2
 replace hx:_=[]:=hx
 subst hx
 obtain⟨⟨ed0,zd0⟩,hy⟩:=hy
 replace ed0:d0=y0:=ed0
 subst ed0
 replace zd0:d0.size≤9223372036854775807:=zd0
 obtain⟨ed1,hy⟩:=hy
 replace ed1:d1=y1:=ed1
 subst ed1
 obtain⟨gg2,ggr2,ed2,sd2,hy⟩:=hy
 subst ed2
 replace sd2:LR rI _ d2 y2 gg2:=sd2
 replace hy:_=[]:=hy
 subst hy
 refine CallX.of_fits Tryz.mix (fI_alike _ _) fun _=>?_
 simp only [tI_alike,T.wp]
 refine(cI_MoneyOk hV c0 c1 c2 x2 _ sc2).mono ?_
 rintro V1 r ⟨hle,e,rfl,he⟩
 refine⟨nofun,e,rfl,fun ht=>?_,fun hf=>⟨hle,false,rfl,⟨(fun h=>by cases h),(fun k=>by rw [he.2 k.1] at hf; cases hf)⟩⟩⟩
 refine(cI_MoneyOk (hV.le hle) d0 d1 d2 y2 _ (sd2.le hle)).mono ?_
 rintro V2 r ⟨hle2,e2,rfl,he2⟩
 refine⟨nofun,e2,rfl,fun ht2=>⟨hle.trans hle2,_,rfl,⟨fun hd=>⟨he.1 ht,he2.1 ht2,text_eq.1 hd⟩,fun k=>text_eq.2 k.2.2⟩⟩,fun hf=>⟨hle.trans hle2,false,rfl,⟨(fun h=>by cases h),(fun k=>by rw [he2.2 k.2.1] at hf; cases hf)⟩⟩⟩
end Go.Proofs.YtccnjccabllcaaaGreatDoor
