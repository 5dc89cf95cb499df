/-
  Books and remainders in the reference: an account found and opened, an amount posted, a remainder added.
-/
import Derived.Test.YtfiakghfncempaaGreatDoorBkM
import Derived.Test.YtfiakghfncempaaGreatDoorTotB
import Derived.Test.YtfiakghfncempaaGreatDoorWr
import Derived.Test.YtfiakghfncempaaGreatDoorPut
import Derived.Test.YtfiakghfncempaaGreatDoorTxt
namespace Go.Proofs.YtfiakghfncempaaGreatDoor
open Sx
set_option maxRecDepth 100000
theorem lrNil {sh:List Sc} {α:Type} {r:Rp sh α} {V:Know}:LR r V ⟨none,0,0⟩ [] []:=⟨rfl,Nat.le_refl _,by decide,.inl ⟨rfl,fun _=>rfl,rfl⟩⟩
theorem cS_l09Both {V:Know} (c d:Scs [.s,.b,.l]) (x y:DMoney) (f g:List Nat) (hx:rMoney.R V c x f) (hy:rMoney.R V d y g):CallX Tryz.prog V 224 [qv2 c,qv2 d] (fun V' r=>V.le V'∧∃ e,r=.bool e∧(e=true↔AlikeP x y)):=by
 obtain⟨c0,c1,c2,cu⟩:=c
 obtain⟨d0,d1,d2,du⟩:=d
 obtain⟨x0,x1,x2,xu⟩:=x
 obtain⟨y0,y1,y2,yu⟩:=y
 obtain⟨⟨ec0,zc0⟩,hx⟩:=hx
 replace ec0:c0=x0:=ec0
 subst ec0
 replace zc0:c0.size≤9223372036854775807:=zc0
 obtain⟨ec1,hx⟩:=hx
 replace ec1:c1=x1:=ec1
 subst ec1
 obtain⟨ff2,ffr2,ec2,sc2,hx⟩:=hx
 subst ec2
 replace sc2:LR rI _ c2 x2 ff2:=sc2
 replace hx:_=[]:=hx
 subst hx
 obtain⟨⟨ed0,zd0⟩,hy⟩:=hy
 replace ed0:d0=y0:=ed0
 subst ed0
 replace zd0:d0.size≤9223372036854775807:=zd0
 obtain⟨ed1,hy⟩:=hy
 replace ed1:d1=y1:=ed1
 subst ed1
 obtain⟨gg2,ggr2,ed2,sd2,hy⟩:=hy
 subst ed2
 replace sd2:LR rI _ d2 y2 gg2:=sd2
 replace hy:_=[]:=hy
 subst hy
 refine CallX.of_fits Tryz.mix (fS_l09Both _ _) fun _=>?_
 simp only [tS_l09Both,T.wp]
 refine(cS_MoneyOk c0 c1 c2 x2 _ sc2).mono ?_
 rintro V1 r ⟨hle,e,rfl,he⟩
 refine⟨nofun,e,rfl,fun ht=>?_,fun hf=>⟨hle,false,rfl,⟨(fun h=>by cases h),(fun k=>by rw [he.2 k.1] at hf; cases hf)⟩⟩⟩
 refine(cS_MoneyOk d0 d1 d2 y2 _ (sd2.le hle)).mono ?_
 rintro V2 r ⟨hle2,e2,rfl,he2⟩
 refine⟨nofun,e2,rfl,fun ht2=>⟨hle.trans hle2,_,rfl,⟨fun hd=>⟨he.1 ht,he2.1 ht2,text_eq.1 hd⟩,fun k=>text_eq.2 k.2.2⟩⟩,fun hf=>⟨hle.trans hle2,false,rfl,⟨(fun h=>by cases h),(fun k=>by rw [he2.2 k.2.1] at hf; cases hf)⟩⟩⟩
abbrev BkPost (V:Know) (y:List DAcct × Bool):Know→Value→Prop:=fun V' v=>V.le V'∧∃ s f,v=.tuple #[qv3 (s,()),.bool y.2]∧LR rAcct V' s y.1 f∧Own V V' f
theorem kset_le2 {V V':Know} {b:Nat} {y:List Value × KTy} (h:V.le V') (hb:V b=none):V.le (kset V' b y):=fun k z hk=>by
 rw [kset_other (fun e=>by rw [e,hb] at hk; cases hk)]
 exact h k z hk
abbrev MonSh:List Sc:=[.s,.b,.l]
theorem mon_elim {V:Know} {c:Scs MonSh} {x:DMoney} {f:List Nat} (h:rMoney.R V c x f):∃ s,c=(x.1,x.2.1,s,())∧LR rI V s x.2.2.1 f∧x.1.size≤9223372036854775807:=by
 obtain⟨c0,c1,c2,cu⟩:=c
 obtain⟨⟨e0,z0⟩,e1,g,g',rfl,hs,hN⟩:=h
 replace e0:c0=x.1:=e0
 replace e1:c1=x.2.1:=e1
 replace hN:g'=[]:=hN
 subst e0 e1 hN
 rw [List.append_nil]
 exact⟨c2,rfl,hs,z0⟩
theorem mon_mk {V:Know} {e:Bool} {s:SlV} {o:List Lim} {f:List Nat} {n:ByteArray} (z:n.size≤9223372036854775807) (h:LR rI V s o f):rMoney.R V (n,e,s,()) (n,e,o,()) f:=⟨⟨rfl,z⟩,rfl,f,[],by simp,h,rfl⟩
theorem nilM_R (V:Know):rMoney.R V (ByteArray.empty,false,⟨none,0,0⟩,()) nilM []:=mon_mk (by decide) ⟨rfl,Nat.le_refl _,by decide,.inl ⟨rfl,fun _=>rfl,rfl⟩⟩
abbrev AddPost (V:Know) (x y:DMoney):Know→Value→Prop:=fun V' v=>V.le V'∧∃ c z ok f,v=.tuple #[qv2 c,.bool ok]∧rMoney.R V' c z f∧Own V V' f∧addM x y=(z,ok)
theorem add_no {V V':Know} {x y:DMoney} (le:V.le V') (h:¬ (AlikeP x y∧∃ z:DMoney,MonP z∧z.1=x.1∧svM z=svM x+svM y)):AddPost V x y V' (packed [qv2 (ByteArray.empty,false,⟨none,0,0⟩,()),.bool false]) :=
 ⟨le,(ByteArray.empty,false,⟨none,0,0⟩,()),nilM,false,[],rfl,nilM_R V',Own.nil,addM_eq (.inr ⟨rfl,rfl,h⟩)⟩
theorem mon_of {x y:DMoney} {e:Bool} {o:List Lim} (q:known x.1=true∧∃ z:DMoney,MonP z∧z.1=x.1∧svM z=svM x+svM y) (C2:Can o) (p2:e=true→0<o.length) (v2:sval e o=svM x+svM y):MoneyOkP x.1 e o:=by
 obtain⟨kx,z,mz,z1,sz⟩:=q
 have hl:o.length≤4:=by
  have:valN o=valN z.2.2.1:=by
   have a1:=valN_nonneg C2.1
   have a2:=valN_nonneg mz.2.1.1.1.1
   have b1:e=true→0<valN o:=fun h=>(can_pos C2).1 (p2 h)
   have b2:z.2.1=true→0<valN z.2.2.1:=fun h=>(can_pos mz.2.1.1.1).1 (mz.2.1.2 h)
   have key:sval e o=sval z.2.1 z.2.2.1:=v2.trans sz.symm
   unfold sval at key
   revert b1 b2 key
   cases e <;> cases z.2.1 <;> simp <;> omega
  have:=can_inj C2 mz.2.1.1.1 this
  rw [this]; exact mz.2.2
 exact⟨kx,⟨⟨C2,by omega⟩,p2⟩,hl⟩
theorem cS_MoneyAdd {V:Know} (c d:Scs MonSh) (x y:DMoney) (f g:List Nat) (hx:rMoney.R V c x f) (hy:rMoney.R V d y g) :
  CallX Tryz.prog V 190 [qv2 c,qv2 d] (AddPost V x y):=by
 refine CallX.of_fits Tryz.mix (fS_MoneyAdd _ _) fun _=>?_
 simp only [tS_MoneyAdd,T.wp]
 refine(cS_l09Both c d x y f g hx hy).mono ?_
 rintro V1 _ ⟨le1,e1,rfl,he1⟩
 refine⟨nofun,e1,rfl,fun hf=>add_no le1 fun k=>?_,fun h1=>?_⟩
 ·rw [he1.2 k.1] at hf; cases hf
 have al:=he1.1 (by simpa using h1)
 obtain⟨s,rfl,hl,z0⟩:=mon_elim hx
 obtain⟨s',rfl,hl',z0'⟩:=mon_elim hy
 have al2:=al
 obtain⟨ax,ay,_⟩:=al2
 have nx:=ax.2.2
 have ny:=ay.2.2
 refine(cS_IntAdd V1 x.2.1 s y.2.1 s' x.2.2.1 y.2.2.1 f g (hl.le le1) (hl'.le le1) ax.2.1 ay.2.1 (by omega) (by omega)).mono ?_
 rintro V2 _ ⟨le2,e,t,o,k,rfl,L2,O2,ok2,v2,n2⟩
 have l2:=le1.trans le2
 refine⟨fun _=>le2,(e,t,()),rfl,?_⟩
 have hm:CallX Tryz.prog V2 225 [.string x.1,qv0 (e,t,())] (fun V' v=>V2.le V'∧AddPost V x y V' v):=by
  refine CallX.of_fits Tryz.mix (fS_l09Make _ _) fun _=>?_
  simp only [tS_l09Make,T.wp]
  refine(cS_MoneyOk x.1 e t o k L2).mono ?_
  rintro V3 _ ⟨le3,e3,rfl,he3⟩
  refine⟨nofun,e3,rfl,fun hf=>⟨le3,add_no (l2.trans le3) fun q=>?_⟩,fun ht=>?_⟩
  ·rw [he3.2 (mon_of ⟨ax.1,q.2⟩ ok2.1.1 ok2.2 v2)] at hf; cases hf
  ·have ok:MoneyOkP x.1 e o:=he3.1 (by simpa using ht)
   exact⟨le3,l2.trans le3,(x.1,e,t,()),(x.1,e,o,()),true,k,rfl,mon_mk z0 (L2.le le3),(O2.post le3).pre le1,addM_eq (.inl ⟨rfl,al,ok,rfl,v2⟩)⟩
 refine hm.mono ?_
 rintro V3 _ ⟨le3,le03,c3,z3,ok3,f3,rfl,R3,O3,h3⟩
 exact⟨fun _=>le3,(c3,ok3,()),rfl,le03,c3,z3,ok3,f3,rfl,R3,O3,h3⟩
theorem findR_wp {sh:List Sc} {α:Type} {P:Program} {r:Rp sh α} {K:Know→List Value→Prop} {V V0:Know} {s:SlV} {l:List α} {f:List Nat} {p:α→Prop} {body:LShs [.o (.o (.i .i64))]→T} (h:LR r V s l f)
  (hbody:∀ (i:Nat) (hi:i<l.length) (N:List LV→Know→Prop),(p l[i]→K V [.int .i64 i])→(¬ p l[i]→N [.v (.int .i64 (IntKind.i64.wrap ((i:Int)+1)))] V)→(body ((i:Int),())).wp P K V V [N])
  (hK:∀ (i:Nat) (hi:i<l.length),p l[i]→(∀ (j:Nat) (hj:j<l.length),j<i→¬ p l[j])→K V [.int .i64 i]) (hno:(∀ (j:Nat) (hj:j<l.length),¬ p l[j])→K V [.int .i64 (-1)]) :
  (T.lp [.o (.o (.i .i64))] [.v (.int .i64 (0:Int))] fun y=>.br (decide (y.1<(s.n:Int))) (body y) (.ret [.int .i64 (-1:Int)])).wp P K V V0 []:=by
 have hn:=h.1
 have h63:=h.2.2.1
 simp only [T.wp]
 refine⟨fun y V'=>V'=V∧∃ i:Nat,y.1=(i:Int)∧i≤l.length∧∀ (j:Nat) (hj:j<l.length),j<i→¬ p l[j],fun y _=>((l.length:Int)-(y.1:Int)).toNat,⟨((0:Int),()),rfl,rfl,0,rfl,Nat.zero_le _,fun j _ h=>by omega⟩,?_⟩
 rintro⟨(i:Int),u⟩ V' ⟨rfl,k,hk,hle,hall⟩
 replace hk:i=(k:Int):=hk
 subst hk
 refine⟨fun hlt=>?_,fun hge=>?_⟩
 ·have hi:k<l.length:=by
   have:(k:Int)<(s.n:Int):=of_decide_eq_true hlt
   omega
  refine hbody k hi _ (fun hp=>hK k hi hp hall) fun hp=>?_
  ·refine⟨(((k+1:Nat):Int),()),by rw [nxt hi (by omega)]; rfl,⟨rfl,k+1,rfl,hi,fun j hj h2=>?_⟩,?_⟩
   ·by_cases e:j=k
    ·subst e; exact hp
    ·exact hall j hj (by omega)
   ·show((l.length:Int)-((k+1:Nat):Int)).toNat<((l.length:Int)-(k:Int)).toNat
    omega
 ·have hi:k=l.length:=by
   have:¬ (k:Int)<(s.n:Int):=of_decide_eq_false hge
   omega
  subst hi
  exact hno fun j hj=>hall j hj hj
abbrev AxPost (V:Know) (n:ByteArray) (l:List DAcct):Know→Value→Prop:=fun V' r=>V.le V'∧r=.int .i64 (atN n l)
theorem ax_yes {n:ByteArray} {l:List DAcct} {k:Nat} (h:k<l.length) (e:l[k].1=n) (hj:∀ (j:Nat) (hj:j<l.length),j<k→¬ l[j].1=n):atN n l=k:=atN_some (fnd_some h e hj)
theorem ax_no {n:ByteArray} {l:List DAcct} (h:∀ (j:Nat) (hj:j<l.length),¬ l[j].1=n):atN n l=-1:=atN_none (fnd_none h)
theorem acct_name {V:Know} {c:Scs [.s,.s,.b,.l]} {x:DAcct} {f:List Nat} (h:rAcct.R V c x f):c.1=x.1:=h.1.1
theorem cS_AcctAt (V:Know) (s:SlV) (l:List DAcct) (f:List Nat) (h:LR rAcct V s l f) (n:ByteArray):CallX Tryz.prog V 133 [qv3 (s,()),.string n] (AxPost V n l):=by
 refine CallX.of_fits Tryz.mix (fS_AcctAt _ _) fun _=>?_
 have hn:=h.1
 rw [tS_AcctAt]
 refine findR_wp (p:=fun a=>a.1=n) h (fun i hi N hy hN=>?_) (fun i hi e hj=>⟨Know.le.refl _,by rw [ax_yes hi e hj]; rfl⟩) (fun hno=>⟨Know.le.refl _,by rw [ax_no hno]; rfl⟩)
 obtain⟨b1,o1,c1,fc,a1,l1,hR,_⟩:=h.at hi
 have e0:(i:Int).toNat=i:=by omega
 simp only [T.wp]
 rw [e0]
 refine⟨_,a1,by omega,by omega,c1,l1,fun he=>?_,fun he=>⟨_,rfl,hN fun e=>?_⟩⟩
 ·exact hy ((acct_name hR).symm.trans (text_eq.1 he))
 ·have:=text_eq.2 ((acct_name hR).trans e)
  rw [this] at he; cases he
theorem load_part {V:Know} {a:Addr} {m o n:Nat} {L l':List Value} (h:loadV V a m=some L) (hc:cutv L o n=some l'):loadV V (a.add o) n=some l':=by
 obtain⟨b,off,sp⟩:=a
 cases sp with
 | some _=>simp [loadV] at h
 | none =>
  simp only [addr_add_eq,loadV] at h ⊢
  cases hb:V b with
  | none=>rw [hb] at h; cases h
  | some y =>
   rw [hb] at h
   simp only at h ⊢
   unfold cutv at h hc ⊢
   split at h
   ·rename_i hle
    simp only [Option.some.injEq] at h
    subst h
    split at hc
    ·rename_i hle2
     simp only [Option.some.injEq] at hc
     simp only [List.length_take,List.length_drop] at hle2
     rw [if_pos (by omega)]
     simp only [Option.some.injEq]
     rw [← hc,List.drop_take,List.take_take,List.drop_drop]
     congr 1
     omega
    ·cases hc
   ·cases h
theorem setl_mon (c:Scs [.s,.s,.b,.l]) (z:Scs MonSh):Scs.vals [.s,.s,.b,.l] (c.1,z)=setl (Scs.vals [.s,.s,.b,.l] c) 1 (Scs.vals MonSh z):=rfl
theorem bk_no {V V':Know} (le:V.le V'):BkPost V ([],false) V' (packed [qv3 (⟨none,0,0⟩,()),.bool false]):=⟨le,⟨none,0,0⟩,[],rfl,⟨rfl,Nat.le_refl _,by decide,.inl ⟨rfl,fun _=>rfl,rfl⟩⟩,Own.nil⟩
theorem at_neg {n:ByteArray} {l:List DAcct}:(atN n l<0↔fnd n l=none):=by
 cases h:fnd n l with
 | none=>rw [atN_none h]; simp
 | some i=>rw [atN_some h]; simp
theorem at_some {n:ByteArray} {l:List DAcct} (h:¬ atN n l<0):∃ (i:Nat) (hi:i<l.length),fnd n l=some i∧atN n l=i∧l[i].1=n:=by
 cases hf:fnd n l with
 | none=>exact absurd (at_neg.2 hf) h
 | some i =>
  obtain⟨h1,h2⟩:=fnd_at hf
  exact⟨i,h1,rfl,atN_some hf,h2⟩
theorem cS_BookPost {V:Know} (hV:HcS V) (s:SlV) (l:List DAcct) (f:List Nat) (h:LR rAcct V s l f) (n:ByteArray) (cm:Scs MonSh) (x:DMoney) (g:List Nat) (hx:rMoney.R V cm x g) :
  CallX Tryz.prog V 135 [qv3 (s,()),.string n,qv2 cm] (BkPost V (postB l n x)):=by
 refine CallX.of_fits Tryz.mix (fS_BookPost _ _ _) fun _=>?_
 simp only [tS_BookPost,T.wp]
 refine(cS_AcctAt V s l f h n).mono ?_
 rintro V1 _ ⟨le1,rfl⟩
 refine⟨nofun,_,rfl,(cS_BookOk (hV.le le1) s l f (h.le le1)).mono ?_⟩
 rintro V2 _ ⟨le2,e2,rfl,he2⟩
 have l2:=le1.trans le2
 refine⟨nofun,e2,rfl,fun hf=>?_,fun h2=>⟨fun hlt=>?_,fun hge=>?_⟩⟩
 ·rw [postB_no (fun k=>by rw [he2.2 k] at hf; cases hf)]
  exact bk_no l2
 ·rw [postB_none (at_neg.1 (of_decide_eq_true hlt))]
  exact bk_no l2
 have ok2:=he2.1 (by simpa using h2)
 obtain⟨i,hi,hfi,hat,hin⟩:=at_some (of_decide_eq_false hge)
 have e0:(i:Int).toNat=i:=by omega
 rw [hat,e0]
 have hL:=h.le l2
 have hn:=hL.1
 obtain⟨b1,o1,c1,fc,a1,l1,hR,_⟩:=hL.at hi
 refine⟨_,a1,by omega,by omega,c1.2,load_part l1 rfl,(cS_MoneyAdd c1.2 cm l[i].2 x fc g hR.2 (rMoney.le hx l2)).mono ?_⟩
 rintro V3 _ ⟨le3,cz,z,ok,fz,rfl,Rz,Oz,ha⟩
 have l3:=l2.trans le3
 rw [postB_some ok2 hfi hi ha]
 refine⟨fun _=>le3,(cz,ok,()),rfl,fun hf=>?_,fun ht=>?_⟩
 ·have:ok=false:=by simpa using hf
  subst this
  exact bk_no l3
 have:ok=true:=by simpa using ht
 subst this
 refine(kS_l17Copy V3 (s,()) (l,()) _ (rSl.mk (h.le l3) rNil.mk) (by show l.length+totE rAcct l+0≤1048576; have:=book_tot ok2; omega)).mono ?_
 rintro V4 _ ⟨le4,⟨s4,su⟩,f4,rfl,⟨g4,g5,e4,L4,hN⟩,O4⟩
 replace L4:LR rAcct V4 s4 l g4:=L4
 replace hN:g5=[]:=hN
 subst hN
 rw [List.append_nil] at e4
 subst e4
 have hn4:=L4.1
 obtain⟨bb,o,cs,u,c,fc4,hsa,hbb,hlen,hld,hR4,hfc,hset⟩:=L4.putRow (O4.pre le3) hi
 obtain⟨f',Lf,Of,lef,_⟩:=hset (c':=(c.1,cz)) (x':=(l[i].1,z)) (k:=1) (vs:=Scs.vals MonSh cz) (Know.le.refl _) (le3.trans le4) ⟨hR4.1,rMoney.le Rz le4⟩ ((Oz.append O4 le3 le4).perm List.perm_append_comm) (by simp [vals_len]) (setl_mon c cz)
 refine⟨nofun,(s4,()),rfl,_,hsa,by omega,(by show(i:Int)<(s4.n:Int); omega),cs,u,?_⟩
 simp only [addr_add_eq]
 exact⟨trivial,hbb,(by show o+i*4+1+3≤cs.length; have h4:o+i*4+4≤cs.length:=hlen; omega),l2.trans lef,s4,f',rfl,Lf,Of.pre l2⟩
theorem vals_one1:∀ (sh:List Sc) (c:Scs sh),∀ v∈Scs.vals sh c,v.oneCell'=true
 | [],_,v,h=>by cases h
 | k :: r,c,v,h=>by
  rcases List.mem_cons.1 h with rfl | h
  ·cases k <;> first | rfl | (rename_i x; cases x <;> rfl) | skip
   all_goals first | rfl | (show(Value.oneCell' _)=true; cases c.1 <;> rfl) | (have h1:=c.1.2; show(c.1.1).oneCell'=true; simpa [one] using h1)
  ·exact vals_one1 r c.2 v h
theorem lr_new2 {sh:List Sc} {α:Type} {r:Rp sh α} {V:Know} {b n cap:Nat} {cs:List (Scs sh)} {l:List α} {fps:List Nat} {post:List Value} {t:KTy} (h:Els r V cs l fps) (hb:V b=some (cs.flatMap (Scs.vals sh)++post,t)) (hn:n=l.length) (hc:l.length≤cap) (hl:l.length≤9223372036854775807) :
  LR r V ⟨some ⟨b,0,none⟩,n,cap⟩ l (b :: fps):=by
 subst hn
 exact⟨rfl,hc,hl,.inr ⟨b,[],post,t,fps,cs,rfl,by simpa using hb,h,rfl⟩⟩
abbrev AcSh:List Sc:=[.s,.s,.b,.l]
theorem flat_one (cs:List (Scs AcSh)):∀ v∈cs.flatMap (Scs.vals AcSh),v.oneCell'=true:=fun v hv=>by
 obtain⟨c,_,h⟩:=List.mem_flatMap.1 hv
 exact vals_one1 _ c v h
def insL {α:Type} (i:Nat) (x:α) (l:List α):List α:=l.take i++x :: l.drop i
theorem insL_len {α:Type} {x:α} {l:List α} {i:Nat} (h:i≤l.length):(insL i x l).length=l.length+1:=by
 simp only [insL,List.length_append,List.length_take,List.length_cons,List.length_drop]
 omega
theorem els_ins {V:Know} {cv:Scs AcSh} {xv:DAcct} {fv:List Nat} (hx:rAcct.R V cv xv fv):∀ {i:Nat} {cs:List (Scs AcSh)} {l:List DAcct} {fps:List Nat},Els rAcct V cs l fps→i≤l.length→∃ fps',Els rAcct V (insL i cv cs) (insL i xv l) fps'∧fps'.Perm (fps++fv)
 | 0,cs,l,fps,h,_=>⟨fv++fps,⟨fv,fps,rfl,hx,h⟩,List.perm_append_comm⟩
 | i+1,c :: cs,x :: l,_,⟨f,g,rfl,h1,h2⟩,hi=>by
  obtain⟨g',k1,k2⟩:=els_ins hx (i:=i) h2 (by simpa using hi)
  refine⟨f++g',⟨f,g',rfl,h1,k1⟩,?_⟩
  rw [List.append_assoc]
  exact List.Perm.append_left f k2
 | _+1,[],[],_,_,h=>by simp at h
 | _+1,[],_ :: _,_,h,_=>h.elim
 | _+1,_ :: _,[],_,h,_=>h.elim
def lessB (n:ByteArray) (a:DAcct):Bool:=Op.bytesLess a.1.toList n.toList
def posA (n:ByteArray):List DAcct→Nat
 | []=>0
 | a :: l=>if lessB n a=true then posA n l+1 else 0
theorem posA_eq {n:ByteArray}:∀ {l:List DAcct} {k:Nat},k≤l.length→(∀ (j:Nat) (hj:j<l.length),j<k→lessB n l[j]=true)→(∀ h:k<l.length,lessB n l[k]=false)→posA n l=k
 | [],k,hk,_,_=>by
  have:k=0:=by simpa using hk
  subst this; rfl
 | a :: l,0,_,_,h=>by
  have h0:lessB n a=false:=h (by simp)
  rw [posA,h0]; rfl
 | a :: l,k+1,hk,hj,h=>by
  have h0:lessB n a=true:=hj 0 (by simp) (by omega)
  rw [posA,if_pos h0,posA_eq (l:=l) (k:=k) (by simpa using hk) (fun j hj' hjk=>by
   have:=hj (j+1) (by simpa using hj') (by omega)
   simpa using this) (fun h'=>by
   have:=h (by simpa using h')
   simpa using this)]
abbrev newA (n c:ByteArray):DAcct:=(n,c,false,[],())
def openL (l:List DAcct) (n c:ByteArray):List DAcct:=insL (posA n l) (newA n c) l
open Classical in
noncomputable def openB (l:List DAcct) (n c:ByteArray):List DAcct × Bool:=if (BookOkP l∧fnd n l=none)∧BookOkP (openL l n c) then (openL l n c,true) else ([],false)
theorem openB_ok {l:List DAcct} {n c:ByteArray} (h:(BookOkP l∧fnd n l=none)∧BookOkP (openL l n c)):openB l n c=(openL l n c,true):=if_pos h
theorem openB_no {l:List DAcct} {n c:ByteArray} (h:¬ ((BookOkP l∧fnd n l=none)∧BookOkP (openL l n c))):openB l n c=([],false):=if_neg h
theorem newA_R (V:Know) {n c:ByteArray} (zn:n.size≤9223372036854775807) (zc:c.size≤9223372036854775807):rAcct.R V (n,c,false,⟨none,0,0⟩,()) (newA n c) []:=⟨⟨rfl,zn⟩,⟨rfl,zc⟩,rfl,[],[],rfl,⟨rfl,Nat.le_refl _,(by show(0:Nat)≤9223372036854775807; decide),.inl ⟨rfl,fun _=>rfl,rfl⟩⟩,rfl⟩
theorem cut_rows {cs:List (Scs AcSh)} {i m:Nat} (h:i+m≤cs.length) {pre post:List Value}:cutv (pre++(cs.flatMap (Scs.vals AcSh)++post)) (pre.length+i*4) (m*4)=some (((cs.drop i).take m).flatMap (Scs.vals AcSh)):=by
 have e1:cs=cs.take i++((cs.drop i).take m++(cs.drop i).drop m):=by rw [List.take_append_drop,List.take_append_drop]
 have e2:cs.flatMap (Scs.vals AcSh)++post=(cs.take i).flatMap (Scs.vals AcSh)++(((cs.drop i).take m).flatMap (Scs.vals AcSh)++(((cs.drop i).drop m).flatMap (Scs.vals AcSh)++post)):=by
  conv=>lhs; rw [e1]
  simp only [List.flatMap_append,List.append_assoc]
 have l1:((cs.take i).flatMap (Scs.vals AcSh)).length=i*4:=by rw [flat_len,List.length_take,Nat.min_eq_left (by omega)]; rfl
 have l2:(((cs.drop i).take m).flatMap (Scs.vals AcSh)).length=m*4:=by rw [flat_len,List.length_take,List.length_drop,Nat.min_eq_left (by omega)]; rfl
 rw [cutv_skip,e2,← l1,← Nat.add_zero ((cs.take i).flatMap (Scs.vals AcSh)).length,cutv_skip,← l2]
 exact cutv_head
theorem rd_part {V:Know} {s:SlV} {l:List DAcct} {f:List Nat} (h:LR rAcct V s l f):∃ cs fps,(∀ y∈fps,y∈f)∧Els rAcct V cs l fps∧∀ (i m c':Nat) (C:Prop) [Decidable C],i+m≤l.length→(C→s.c=i)→c'≤s.c →
  (((m=0∧((if C then s.a else Option.map (fun x:Addr=>x.add (i*4)) s.a)=none→c'=0)∧((cs.drop i).take m).flatMap (Scs.vals AcSh)=[])∨∃ ad,(if C then s.a else Option.map (fun x:Addr=>x.add (i*4)) s.a)=some ad∧loadV V ad (m*4)=some (((cs.drop i).take m).flatMap (Scs.vals AcSh)))∧one (((cs.drop i).take m).flatMap (Scs.vals AcSh))=true):=by
 obtain⟨hn,hnc,h63,hd⟩:=h
 have h1:∀ cs:List (Scs AcSh),one (cs.flatMap (Scs.vals AcSh))=true:=fun cs=>List.all_eq_true.2 fun v hv=>flat_one cs v hv
 rcases hd with ⟨h0,ha,rfl⟩ | ⟨b,pre,post,t,fps,cs,ha,hb,he,rfl⟩
 ·have hl:l=[]:=List.eq_nil_of_length_eq_zero (by omega)
  subst hl
  refine⟨[],[],(fun _ h=>by cases h),rfl,fun i m c' C _ him hC hc=>⟨.inl ⟨by simpa using (by simp at him; omega:m=0),fun hx=>?_,by simp⟩,by simp [one]⟩⟩
  have hs:s.a=none:=by
   split at hx
   ·exact hx
   ·cases hsa:s.a with
    | none=>rfl
    | some a=>rw [hsa] at hx; cases hx
  have:=ha hs
  omega
 ·refine⟨cs,fps,fun y hy=>List.mem_cons_of_mem _ hy,he,fun i m c' C _ him hC hc=>⟨?_,h1 _⟩⟩
  have hcl:=he.len
  by_cases hm:m=0
  ·subst hm
   refine .inl ⟨rfl,fun hx=>?_,by simp⟩
   rw [ha] at hx
   split at hx <;> cases hx
  ·have hnC:¬ C:=fun k=>by have:=hC k; omega
   refine .inr ⟨_,by rw [if_neg hnC,ha]; rfl,?_⟩
   simp only [addr_add_eq,loadV,hb]
   exact cut_rows (by omega)
noncomputable def tailOpen (x1 x2:ByteArray) (s:SlV) (i:Int):T :=
 .rq ((0:Int)≤(0:Int)∧(0:Int)≤i∧i≤(s.c:Int)∧(s.c:Int)≤(s.c:Int)) <|
 .rd ({ a:=if (s.c:Int).toNat=Int.toNat (0:Int) then s.a else Option.map (fun x=>x.add (Int.toNat (0:Int)*Tryz.prog.types[(100:Nat)].size)) s.a,n:=Int.toNat i-Int.toNat (0:Int),c:=(s.c:Int).toNat-Int.toNat (0:Int):SlV }) ((4:Nat)) fun y7 =>
 .rq (one y7=true∧((0:Nat)+(Int.toNat i-Int.toNat (0:Int)))*(64:Nat)≤(140737488355328:Nat)∧(0:Nat)+(Int.toNat i-Int.toNat (0:Int))≤(9223372036854775807:Nat)) <|
 .rq ([Go.Value.string x1,Go.Value.string x2,Go.Value.bool false,Go.Value.slice none (0:Nat) (0:Nat)].length=(1:Nat)*(4:Nat)) <|
 .rq (one [Go.Value.string x1,Go.Value.string x2,Go.Value.bool false,Go.Value.slice none (0:Nat) (0:Nat)]=true∧((0:Nat)+(Int.toNat i-Int.toNat (0:Int))+(1:Nat))*(64:Nat)≤(140737488355328:Nat)∧(0:Nat)+(Int.toNat i-Int.toNat (0:Int))+(1:Nat)≤(9223372036854775807:Nat)) <|
 .rq ((0:Int)≤i∧i≤(s.n:Int)∧(s.n:Int)≤(s.c:Int)∧(s.c:Int)≤(s.c:Int)) <|
 .rd ({ a:=if (s.c:Int).toNat=Int.toNat i then s.a else Option.map (fun x=>x.add (Int.toNat i*Tryz.prog.types[(100:Nat)].size)) s.a,n:=(s.n:Int).toNat-Int.toNat i,c:=(s.c:Int).toNat-Int.toNat i:SlV }) ((4:Nat)) fun y8 =>
 .rq (one y8=true∧((0:Nat)+(Int.toNat i-Int.toNat (0:Int))+(1:Nat)+((s.n:Int).toNat-Int.toNat i))*(64:Nat)≤(140737488355328:Nat)∧(0:Nat)+(Int.toNat i-Int.toNat (0:Int))+(1:Nat)+((s.n:Int).toNat-Int.toNat i)≤(9223372036854775807:Nat)) <|
 .fz ((0:Nat)+(Int.toNat i-Int.toNat (0:Int))+(1:Nat)+((s.n:Int).toNat-Int.toNat i)) ([]++y7++[Go.Value.string x1,Go.Value.string x2,Go.Value.bool false,Go.Value.slice none (0:Nat) (0:Nat)]++y8) 100 fun b9 c9 =>
 .call false 124 [qv3 ((⟨(some { block:=b9,off:=(0:Nat):Go.Addr }),((0:Nat)+(Int.toNat i-Int.toNat (0:Int))+(1:Nat)+((s.n:Int).toNat-Int.toNat i)),(c9)⟩:SlV),())] (.v (.o (.b))) fun y10 =>
 .br (!y10) (
  .ret [qv3 ((⟨(none),((0:Nat)),((0:Nat))⟩:SlV),()),.bool (false)]) <|
 .ret [qv3 ((⟨(some { block:=b9,off:=(0:Nat):Go.Addr }),((0:Nat)+(Int.toNat i-Int.toNat (0:Int))+(1:Nat)+((s.n:Int).toNat-Int.toNat i)),(c9)⟩:SlV),()),.bool (true)]
theorem cS_BookOpen {V:Know} (hV:HcS V) (s:SlV) (l:List DAcct) (f:List Nat) (h:LR rAcct V s l f) (n c:ByteArray) (zn:n.size≤9223372036854775807) (zc:c.size≤9223372036854775807) :
  CallX Tryz.prog V 148 [qv3 (s,()),.string n,.string c] (fun V' v=>V.le V'∧∃ s f,v=.tuple #[qv3 (s,()),.bool (openB l n c).2]∧LR rAcct V' s (openB l n c).1 f∧∀ y∈f,V y=none):=by
 have no:∀ {V':Know},V.le V'→¬ ((BookOkP l∧fnd n l=none)∧BookOkP (openL l n c))→(V.le V'∧∃ s f,packed [qv3 (⟨none,0,0⟩,()),.bool false]=.tuple #[qv3 (s,()),.bool (openB l n c).2]∧LR rAcct V' s (openB l n c).1 f∧∀ y∈f,V y=none):=fun le k=>by
  rw [openB_no k]
  exact⟨le,⟨none,0,0⟩,[],rfl,lrNil,fun _ h=>by cases h⟩
 refine CallX.of_fits Tryz.mix (fS_BookOpen _ _ _) fun _=>?_
 simp only [tS_BookOpen,T.wp]
 refine(cS_BookOk hV s l f h).mono ?_
 rintro V1 _ ⟨le1,e1,rfl,he1⟩
 refine⟨nofun,e1,rfl,fun hf=>no le1 fun k=>?_,fun h1=>?_⟩
 ·rw [he1.2 k.1.1] at hf; cases hf
 have ok1:=he1.1 (by simpa using h1)
 refine(cS_AcctAt V1 s l f (h.le le1) n).mono ?_
 rintro V2 _ ⟨le2,rfl⟩
 have l2:=le1.trans le2
 refine⟨nofun,_,rfl,fun hge=>no l2 fun k=>?_,fun hlt=>?_⟩
 ·have hge':atN n l≥0:=of_decide_eq_true hge
  rw [atN_none k.1.2] at hge'
  omega
 have hlt':¬ atN n l≥0:=of_decide_eq_false hlt
 have hf:fnd n l=none:=at_neg.1 (by omega)
 refine(kS_l17Copy V2 (s,()) (l,()) _ (rSl.mk (h.le l2) rNil.mk) (by show l.length+totE rAcct l+0≤1048576; have:=book_tot ok1; omega)).mono ?_
 rintro V3 _ ⟨le3,⟨s4,su⟩,f4,rfl,⟨g4,g5,e4,L4,hN⟩,O4⟩
 replace L4:LR rAcct V3 s4 l g4:=L4
 have l3:=l2.trans le3
 have hn4:=L4.1
 have hnc:=L4.2.1
 have h12:=ok1.1
 obtain⟨cs,fps,hsub,he,rd⟩:=rd_part L4
 have hcl:=he.len
 refine⟨nofun,(s4,()),rfl,?_⟩
 have hsz:Tryz.prog.types[(100:Nat)].size=4:=by kernel_rfl
 have fin:∀ {k:Nat},k≤l.length→posA n l=k→∀ b9 c9 sp,V3 b9=none→l.length+1≤c9 →
   CallX Tryz.prog (kset V3 b9 (((insL k (n,c,false,⟨none,0,0⟩,()) cs).flatMap (Scs.vals AcSh))++sp,(acT,(0,0)))) 124 [qv3 ((⟨some ⟨b9,0,none⟩,l.length+1,c9⟩:SlV),())] (fun V5 r=>∃ e,r=.bool e∧(e=true→openB l n c=(openL l n c,true)∧V.le V5∧∃ f',LR rAcct V5 ⟨some ⟨b9,0,none⟩,l.length+1,c9⟩ (openL l n c) f'∧∀ y∈f',V y=none)∧(e=false→V.le V5∧¬ ((BookOkP l∧fnd n l=none)∧BookOkP (openL l n c)))):=by
  intro k hk hpos b9 c9 sp hb9 hc9
  have q:=kset_le (x:=(((insL k (n,c,false,⟨none,0,0⟩,()) cs).flatMap (Scs.vals AcSh))++sp,((acT,(0,0)):KTy))) hb9
  obtain⟨fps',k1,hperm⟩:=els_ins (newA_R _ zn zc) (he.le q) hk
  have hfr:∀ y∈b9 :: fps',V y=none:=fun y hy=>by
   rcases List.mem_cons.1 hy with rfl | hy
   ·exact none_of_le l3 hb9
   ·have h4:=hsub y (by simpa using hperm.subset hy)
    exact none_of_le l2 (O4.2.1 y (by rw [e4]; exact List.mem_append_left _ h4))
  have hln:LR rAcct _ ⟨some ⟨b9,0,none⟩,l.length+1,c9⟩ (insL k (newA n c) l) (b9 :: fps'):=lr_new2 k1 kset_same (by rw [insL_len hk]) (by rw [insL_len hk]; omega) (by rw [insL_len hk]; omega)
  rw [hpos.symm] at hln
  have l5:=l3.trans q
  rw [← hpos]
  rw [← hpos] at q l5
  refine(cS_BookOk (hV.le l5) _ (openL l n c) _ hln).mono ?_
  rintro V5 _ ⟨le5,e,rfl,he5⟩
  exact⟨e,rfl,fun ht=>⟨openB_ok ⟨⟨ok1,hf⟩,he5.1 ht⟩,l5.trans le5,_,hln.le le5,hfr⟩,fun hfl=>⟨l5.trans le5,fun k=>by rw [he5.2 k.2] at hfl; cases hfl⟩⟩
 refine⟨fun y V'=>V'=V3∧∃ k:Nat,y.1=(k:Int)∧k≤l.length∧∀ (j:Nat) (hj:j<l.length),j<k→lessB n l[j]=true,fun y _=>((l.length:Int)-(y.1:Int)).toNat,⟨((0:Int),()),rfl,rfl,0,rfl,Nat.zero_le _,fun j _ h=>by omega⟩,?_⟩
 rintro⟨(i:Int),u⟩ V' ⟨rfl,k,hk,hkl,hall⟩
 replace hk:i=(k:Int):=hk
 subst hk
 have e0:(k:Int).toNat=k:=by omega
 have ec:(s4.c:Int).toNat=s4.c:=by omega
 have en4:(s4.n:Int).toNat=s4.n:=by omega
 have ez:Int.toNat (0:Int)=0:=rfl
 -- what follows the search
 have rest:posA n l=k→∀ Ns,(tailOpen n c s4 (k:Int)).wp Tryz.prog (fun V' vs=>V.le V'∧∃ s f,packed vs=.tuple #[qv3 (s,()),.bool (openB l n c).2]∧LR rAcct V' s (openB l n c).1 f∧∀ y∈f,V y=none) V' V' Ns:=by
  intro hpos Ns
  obtain⟨r1,o1⟩:=rd 0 k s4.c (s4.c=0) (by omega) (fun h=>h) (Nat.le_refl _)
  obtain⟨r2,o2⟩:=rd k (s4.n-k) (s4.c-k) (s4.c=k) (by omega) (fun h=>h) (by omega)
  simp only [Nat.zero_mul,List.drop_zero] at r1 o1
  have hnn:k+1+(s4.n-k)=l.length+1:=by omega
  have hrow:(cs.take k).flatMap (Scs.vals AcSh)++[Value.string n,.string c,.bool false,.slice none 0 0]++((cs.drop k).take (s4.n-k)).flatMap (Scs.vals AcSh)=(insL k (n,c,false,⟨none,0,0⟩,()) cs).flatMap (Scs.vals AcSh):=by
   rw [List.take_of_length_le (l:=cs.drop k) (by rw [List.length_drop]; omega)]
   simp only [insL,List.flatMap_append,List.flatMap_cons,List.append_assoc]
   rfl
  simp only [tailOpen,T.wp,Int.toNat_natCast,Int.toNat_zero,Nat.sub_zero,Nat.zero_add,Nat.zero_mul,hsz,List.nil_append]
  refine⟨⟨by omega,by omega,by omega,by omega⟩,_,r1,o1,⟨o1,by omega,by omega⟩,rfl,⟨rfl,by omega,by omega⟩,⟨by omega,by omega,by omega,by omega⟩,_,r2,o2,⟨o2,by omega,by omega⟩,?_⟩
  rw [hnn,hrow]
  intro b9 c9 sp hb9 hc9 _
  refine(fin hkl hpos b9 c9 sp hb9 hc9).mono ?_
  rintro V5 _ ⟨e,rfl,ht,hf'⟩
  refine⟨nofun,e,rfl,fun hfl=>?_,fun htl=>?_⟩
  ·obtain⟨l5,k5⟩:=hf' (by simpa using hfl)
   exact no l5 k5
  ·obtain⟨q1,l5,f',L5,hf5⟩:=ht (by simpa using htl)
   rw [q1]
   exact⟨l5,_,f',rfl,L5,hf5⟩
 refine⟨fun hlt=>?_,fun hge=>?_⟩
 ·have hi:k<l.length:=by
   have:(k:Int)<(s4.n:Int):=of_decide_eq_true hlt
   omega
  obtain⟨b1,o1,c1,fc,a1,l1,hR,_⟩:=L4.at hi
  have en:=acct_name hR
  dsimp only
  refine⟨_,a1,by omega,by omega,c1.1,?_,fun hless=>?_,fun hless=>?_⟩
  ·rw [e0]
   exact load_part l1 (o:=0) (n:=1) rfl
  ·refine⟨_,rfl,(((k+1:Nat):Int),()),by rw [nxt hi (by omega)]; rfl,⟨rfl,k+1,rfl,hi,fun j hj h2=>?_⟩,?_⟩
   ·by_cases e:j=k
    ·subst e
     unfold lessB
     rw [← en]; exact hless
    ·exact hall j hj (by omega)
   ·show((l.length:Int)-((k+1:Nat):Int)).toNat<((l.length:Int)-(k:Int)).toNat
    omega
  ·have h9:=rest (posA_eq hkl hall fun _=>by
    unfold lessB
    rw [← en]; exact hless) []
   simp only [tailOpen,T.wp] at h9
   exact h9
 ·have hi:k=l.length:=by
   have:¬ (k:Int)<(s4.n:Int):=of_decide_eq_false hge
   omega
  have h9:=rest (posA_eq hkl hall fun h=>absurd h (by omega)) []
  simp only [tailOpen,T.wp] at h9
  exact h9
section
variable {sh:List Sc} {α:Type}
def GV (r:Rp sh α) (t:TypeId) (V0 V:Know) (s:SlV) (cs:List (Scs sh)) (l:List α) (fps:List Nat):Prop :=
 s.n=l.length∧s.n≤s.c∧V0.le V∧Els r V0 cs l fps∧∃ b post,s.a=some ⟨b,0,none⟩∧V0 b=none∧V b=some (cs.flatMap (Scs.vals sh)++post,(t,(0,0)))∧post.length=(s.c-s.n)*sh.length
theorem GV.start {r:Rp sh α} {t:TypeId} {V:Know} {b cap:Nat} {spare:List Value} (hb:V b=none) (hs:spare.length=cap*sh.length) :
  GV r t V (kset V b ([]++spare,(t,(0,0)))) ⟨some ⟨b,0,none⟩,0,cap⟩ [] [] [] :=
 ⟨rfl,Nat.zero_le _,kset_le hb,rfl,b,spare,rfl,hb,by rw [kset_same]; rfl,by simpa using hs⟩
theorem GV.lr {r:Rp sh α} {t:TypeId} {V0 V:Know} {s:SlV} {cs:List (Scs sh)} {l:List α} {fps:List Nat} (h:GV r t V0 V s cs l fps) (hl:l.length≤9223372036854775807):∃ b,V0 b=none∧(∃ c u,V b=some (c,(u,(0,0))))∧LR r V s l (b :: fps):=by
 obtain⟨h1,h2,h3,h4,b,post,ha,hb,hv,hp⟩:=h
 exact⟨b,hb,⟨_,_,hv⟩,h1,h2,by omega,.inr ⟨b,[],post,_,fps,cs,ha,hv,h4.le h3,rfl⟩⟩
theorem ap_rowV {P:Program} {r:Rp sh α} {t:TypeId} {V0 V Vd:Know} {s:SlV} {cs:List (Scs sh)} {l:List α} {fps fx:List Nat} {c:Scs sh} {x:α} {bytes:Nat} {k:SlV→T} {K:Know→List Value→Prop} {Ns:List (List LV→Know→Prop)}
  (h:GV r t V0 V s cs l fps) (hx:r.R V0 c x fx) (hP:P.cellsOf t=sh.length) (hb:(l.length+1)*bytes≤140737488355328) (hl:l.length+1≤9223372036854775807)
  (hk:∀ s' V',GV r t V0 V' s' (cs++[c]) (l++[x]) (fps++fx)→(k s').wp P K V' Vd Ns) :
  (T.ap s sh.length bytes (Scs.vals sh c) 1 t k).wp P K V Vd Ns:=by
 obtain⟨h1,h2,h3,he,b,post,ha,hb0,hbk,hp⟩:=h
 have hcl:cs.length=l.length:=he.len
 have hfl:(cs.flatMap (Scs.vals sh)).length=s.n*sh.length:=by rw [flat_len,hcl,h1]
 have hE:=he.snoc hx
 simp only [T.wp]
 refine⟨h2,(fun hn=>by rw [ha] at hn; cases hn),fun h=>absurd h (by decide),fun _ hroom=>?_,fun _ hroom=>⟨by rw [h1]; exact hb,by rw [h1]; exact hl,?_⟩⟩
 ·have hpl:sh.length≤post.length:=by
   rw [hp]; exact Nat.le_mul_of_pos_left _ (by omega)
  have hset:setl (cs.flatMap (Scs.vals sh)++post) (s.n*sh.length) (Scs.vals sh c)=(cs++[c]).flatMap (Scs.vals sh)++post.drop sh.length:=by
   rw [setl_mid hfl.symm (by rw [vals_len]; exact hpl),vals_len]
   simp
  refine⟨b,_,ha,hbk,?_,?_⟩
  ·rw [List.length_append,hfl,hp,← Nat.add_mul]
   exact Nat.mul_le_mul_right _ (by omega)
  ·rw [hset]
   refine hk _ _ ⟨by simp [h1],by show s.n+1≤s.c; omega,kset_le2 h3 hb0,hE,b,post.drop sh.length,ha,hb0,kset_same,?_⟩
   rw [List.length_drop,hp,← Nat.sub_one_mul]
   congr 1
 ·have hnt:∀ cs:List (Scs sh),noTup (cs.flatMap (Scs.vals sh))=true:=fun cs=>by
   induction cs with
   | nil=>rfl
   | cons c cs ih =>
    have hv:=vals_noTup sh c
    unfold noTup at ih hv ⊢
    rw [List.flatMap_cons,List.all_append,hv,ih]; rfl
  refine⟨_,.inr ⟨⟨b,0,none⟩,ha,?_⟩,hnt cs,fun b' cap spare hbn hcap hsp=>?_⟩
  ·simp only [loadV,hbk]
   rw [← hfl]; exact cutv_head
  ·refine hk _ _ ⟨by simp [h1],hcap,h3.trans (kset_le hbn),hE,b',spare,rfl,none_of_le h3 hbn,?_,by rw [hsp,hP]⟩
   rw [kset_same]; simp
end
theorem GV.le {sh:List Sc} {α:Type} {r:Rp sh α} {t:TypeId} {V0 V V':Know} {s:SlV} {cs:List (Scs sh)} {l:List α} {fps:List Nat} (h:GV r t V0 V s cs l fps) (le:V.le V'):GV r t V0 V' s cs l fps:=by
 obtain⟨h1,h2,h3,h4,b,post,ha,hb,hv,hp⟩:=h
 exact⟨h1,h2,h3.trans le,h4,b,post,ha,hb,le _ _ hv,hp⟩
theorem restOf_at {c:ByteArray}:∀ {l:List DRest},restOf l c=atR l c
 | []=>rfl
 | r :: l=>by
  unfold restOf atR
  by_cases e:r.1=c
  ·rw [if_pos e,List.find?_cons_of_pos (by simp [keyB,e])]; rfl
  ·rw [if_neg e,List.find?_cons_of_neg (by simp [keyB,e]),restOf_at]; rfl
def KeepQ (l:List DRest) (c:ByteArray) (r:DRat) (l':List DRest) (e:Bool):Prop :=
 (e=true∧∃ y,AddRP (atR l c) r (y,true)∧l'=addR c y l)∨(e=false∧l'=[]∧∃ y,AddRP (atR l c) r (y,false))
abbrev ReSh:List Sc:=[.s,.b,.l,.l]
abbrev reT:TypeId:=116
theorem fr_app {V:Know} {a b:List Nat} (h:∀ y∈a,V y=none) (k:∀ y∈b,V y=none):∀ y∈a++b,V y=none:=fun y hy=>(List.mem_append.1 hy).elim (h y) (k y)
abbrev RaF (V:Know) (l:List DRest) (c:ByteArray) (r:DRat):Know→Value→Prop:=fun V' v=>V.le V'∧∃ t l' f e,v=.tuple #[Sc.val .l t,.bool e]∧LR rRest V' t l' f∧(∀ y∈f,V y=none)∧KeepQ l c r l' e
theorem cS_RestAdd {V:Know} (hV:HcS V) (s:SlV) (l:List DRest) (f:List Nat) (h:LR rRest V s l f) (hl:RestsOkP l) (c:ByteArray) (kc:known c=true) (d:Scs [.b,.l,.l]) (r:DRat) (g:List Nat) (hr:rRat.R V d r g) (ok:RatP r) :
  CallX Tryz.prog V 97 [Sc.val .l s,.string c,qv1 d] (RaF V l c r):=by
 refine CallX.of_fits Tryz.mix (fS_RestAdd _ _ _) fun _=>?_
 have h20:=rests_len hl
 simp only [tS_RestAdd,ap_d,T.wp]
 refine(cS_RestOf V s l f h (rests_rat hl) c).mono ?_
 rintro V1 _ ⟨le1,c1,f1,rfl,R1⟩
 rw [restOf_at] at R1
 refine⟨fun _=>le1,c1,rfl,?_⟩
 obtain⟨s1,s1',g1,g1',rfl,A1,B1,_⟩:=rat_elim R1
 obtain⟨s2,s2',g2,g2',rfl,A2,B2,_⟩:=rat_elim hr
 refine(cS_RatAdd V1 _ s1 s1' _ s2 s2' _ _ _ _ _ _ _ _ A1 B1 (A2.le le1) (B2.le le1) (atR_ok hl c) ok).mono ?_
 rintro V2 _ ⟨le2,c2,y,e,f2,rfl,R2,O2,hy⟩
 have l2:=le1.trans le2
 refine⟨nofun,(c2,e,()),rfl,(cS_RestsOk (hV.le l2) s l f (h.le l2)).mono ?_⟩
 rintro V3 _ ⟨le3,e3,rfl,he3⟩
 obtain rfl:e3=true:=he3.2 hl
 have l3:=l2.trans le3
 refine⟨nofun,true,rfl,nofun,fun _=>(kS_CurKnown (hV.le l3) c).mono ?_⟩
 rintro V4 _ ⟨le4,rfl⟩
 have l4:=l3.trans le4
 refine⟨nofun,_,rfl,fun hf=>?_,fun _=>⟨fun hf=>?_,fun ht=>?_⟩⟩
 ·rw [kc] at hf; cases hf
 ·obtain rfl:e=false:=by simpa using hf
  exact⟨l4,⟨none,0,0⟩,[],[],false,rfl,lrNil,(fun _ h=>by cases h),.inr ⟨rfl,rfl,y,hy⟩⟩
 obtain rfl:e=true:=by simpa using ht
 have yok:=redS_ok (Int.mul_pos (ratP_pos (atR_ok hl c)) (ratP_pos ok)) hy rfl
 refine(kS_l19Copy V4 s l f (h.le l4) (by have:=rests_tot hl; omega)).mono ?_
 rintro V5 _ ⟨le5,s5,f5,rfl,L5,O5⟩
 have l5:=l4.trans le5
 have R5:=rRat.le R2 ((le3.trans le4).trans le5)
 have n5:=L5.1
 have fr2:∀ y∈f2,V y=none:=fun y hy=>none_of_le le1 (O2.2.1 y hy)
 have fr5:∀ y∈f5,V y=none:=fun y hy=>none_of_le l4 (O5.2.1 y hy)
 have rowC:rRest.R V5 ((c,c2):Scs ReSh) (c,y) f2:=⟨⟨rfl,known_len kc⟩,R5⟩
 obtain⟨sy,sy',gy,gy',rfl,Ay,By,_⟩:=rat_elim R5
 refine⟨nofun,s5,rfl,fun b6 c6 sp hb6 _ hsp=>?_⟩
 refine⟨fun z V'=>∃ (k:Nat) (cs:List (Scs ReSh)) (out:List DRest) (fps:List Nat),z.2.2.1=(k:Int)∧k≤l.length∧GV rRest reT V5 V' z.1 cs out fps∧(∀ y∈fps,V y=none)∧out.length≤2*k∧endR c y out z.2.1 (l.drop k)=addR c y l,fun z _=>((l.length:Int)-(z.2.2.1:Int)).toNat,
  ⟨(⟨some ⟨b6,0,none⟩,0,c6⟩,false,(0:Int),()),rfl,0,[],[],[],rfl,Nat.zero_le _,GV.start hb6 (by rw [hsp]; rfl),(fun _ h=>by cases h),Nat.zero_le _,by rw [List.drop_zero,endR_eq (up_rests hl)]; rfl⟩,?_⟩
 rintro⟨s7,(dn:Bool),(i:Int),u⟩ V6 ⟨k,cs,out,fps,hk,hkl,G,hfr,ho,hE⟩
 replace hk:i=(k:Int):=hk
 subst hk
 replace G:GV rRest reT V5 V6 s7 cs out fps:=G
 replace hE:endR c y out dn (l.drop k)=addR c y l:=hE
 have le6:=G.2.2.1
 have sgC:∀ V',V5.le V'→CallX Tryz.prog V' 156 [qv1 (y.1,sy,sy',())] (fun V'' v=>V'.le V''∧v=.int .i64 (sgn (rS y))):=fun V' le'=>cS_RatSign V' _ sy sy' _ _ _ _ (Ay.le le') (By.le le') yok
 refine⟨fun hlt=>?_,fun hge=>?_⟩
 ·have hi:k<l.length:=by
   have:(k:Int)<(s5.n:Int):=of_decide_eq_true hlt
   omega
  obtain⟨b1,o1,c1,fc,a1,l1,hR,hfc⟩:=L5.at hi
  have e0:(k:Int).toNat=k:=by omega
  have ename:c1.1=l[k].1:=hR.1.1
  rw [List.drop_eq_getElem_cons hi] at hE
  have hm:((l.length:Int)-((k+1:Nat):Int)).toNat<((l.length:Int)-(k:Int)).toNat:=by omega
  dsimp only
  rw [e0]
  refine⟨_,a1,by omega,by omega,c1,loadV_le le6 l1,fun he=>?_,fun he=>?_⟩
  ·have ec:l[k].1=c:=ename.symm.trans (text_eq.1 he)
   rw [endR,if_pos ec] at hE
   exact⟨_,rfl,(s7,dn,((k+1:Nat):Int),()),by rw [nxt hi (by omega)]; rfl,⟨k+1,cs,out,fps,rfl,hi,G,hfr,by omega,hE⟩,hm⟩
  have nc:l[k].1≠c:=fun e=>by
   have:=text_eq.2 (ename.trans e)
   rw [this] at he; cases he
  rw [endR,if_neg nc] at hE
  refine⟨fun z V'=>∃ cs out fps,GV rRest reT V5 V' z.1 cs out fps∧(∀ y∈fps,V y=none)∧out.length≤2*k+1∧endR c y (out++[l[k]]) z.2.1 (l.drop (k+1))=addR c y l,?_,?_⟩
  ·have stay:∀ V',V6.le V'→(!dn && lesB c l[k].1 && !zeroQ y)≠true→∃ z:LShs [.o (.o .l),.o (.o .b)],[LV.v (Sc.val .l s7),.v (.bool dn)]=LShs.lvs _ z∧∃ cs out fps,GV rRest reT V5 V' z.1 cs out fps∧(∀ y∈fps,V y=none)∧out.length≤2*k+1∧endR c y (out++[l[k]]) z.2.1 (l.drop (k+1))=addR c y l:=fun V' le' hn=>by
    rw [if_neg hn] at hE
    exact⟨(s7,dn,()),rfl,cs,out,fps,G.le le',hfr,by omega,hE⟩
   refine⟨fun hd=>⟨fun hb=>(sgC V6 le6).mono ?_,fun hb=>⟨_,rfl,stay V6 (Know.le.refl _) fun k2=>?_⟩⟩,fun hd=>⟨_,rfl,stay V6 (Know.le.refl _) fun k2=>?_⟩⟩
   ·rintro V7 _ ⟨le7,rfl⟩
    refine⟨nofun,_,rfl,fun hz=>?_,fun hz=>⟨_,rfl,stay V7 le7 fun k2=>?_⟩⟩
    ·have hd':dn=false:=by simpa using hd
     have hb':lesB c l[k].1=true:=by
      rw [ename] at hb
      have h2:lesB l[k].1 c=false∧(l[k].1.toList == c.toList)=false:=by simpa [lesB] using hb
      exact LessP.tot (fun q=>by rw [show lesB l[k].1 c=true from q] at h2; cases h2.1) fun q=>by rw [text_eq.2 q] at h2; cases h2.2
     have hz':zeroQ y=false:=by simpa [zeroQ,bne] using hz
     subst hd'
     rw [if_pos (by rw [hb',hz']; rfl)] at hE
     refine⟨rfl,rfl,ap_rowV (sh:=ReSh) (c:=(c,(y.1,sy,sy',()))) (G.le le7) rowC (by kernel_rfl) (by omega) (by omega) fun s9 V9 G9=>⟨_,rfl,(s9,true,()),rfl,_,_,_,G9,fr_app hfr fr2,by rw [List.length_append,List.length_singleton]; omega,hE⟩⟩
    ·have hz':zeroQ y=true:=by simpa [zeroQ,bne] using hz
     rw [hz'] at k2; simp at k2
   ·rw [ename] at hb
    have k3:lesB c l[k].1=true:=by
     simp only [Bool.and_eq_true] at k2
     exact k2.1.2
    have h2:lesB l[k].1 c=false:=les_no k3
    have h3:(l[k].1.toList == c.toList)=false:=text_ne.2 nc
    rw [show Op.bytesLess l[k].1.toList c.toList=false from h2,h3] at hb
    cases hb
   ·have hd':dn=true:=by simpa using hd
    rw [hd'] at k2; simp at k2
  ·rintro⟨s8,(d8:Bool),u⟩ V7 ⟨cs8,out8,fps8,G8,hfr8,ho8,hE8⟩
   refine⟨rfl,rfl,ap_rowV (sh:=ReSh) (c:=c1) G8 hR (by kernel_rfl) (by omega) (by omega) fun s9 V9 G9=>?_⟩
   exact⟨_,rfl,(s9,d8,((k+1:Nat):Int),()),by rw [nxt hi (by omega)]; rfl,⟨k+1,_,_,_,rfl,hi,G9,fr_app hfr8 (fun y hy=>fr5 y (hfc y hy)),by rw [List.length_append,List.length_singleton]; omega,hE8⟩,hm⟩
 ·have hi:k=l.length:=by
   have:¬ (k:Int)<(s5.n:Int):=of_decide_eq_false hge
   omega
  subst hi
  rw [List.drop_length,endR] at hE
  refine⟨fun z V'=>∃ cs fps,GV rRest reT V5 V' z.1 cs (addR c y l) fps∧∀ y∈fps,V y=none,?_,?_⟩
  ·have stay:∀ V',V6.le V'→(!dn && !zeroQ y)≠true→∃ z:LShs [.o (.o .l)],[LV.v (Sc.val .l s7)]=LShs.lvs _ z∧∃ cs fps,GV rRest reT V5 V' z.1 cs (addR c y l) fps∧∀ y∈fps,V y=none:=fun V' le' hn=>by
    rw [if_neg hn] at hE
    subst hE
    exact⟨(s7,()),rfl,cs,fps,G.le le',hfr⟩
   refine⟨fun hd=>(sgC V6 le6).mono ?_,fun hd=>⟨_,rfl,stay V6 (Know.le.refl _) fun k2=>?_⟩⟩
   ·rintro V7 _ ⟨le7,rfl⟩
    refine⟨nofun,_,rfl,fun hz=>?_,fun hz=>⟨_,rfl,stay V7 le7 fun k2=>?_⟩⟩
    ·have hd':dn=false:=by simpa using hd
     have hz':zeroQ y=false:=by simpa [zeroQ,bne] using hz
     subst hd'
     rw [if_pos (by rw [hz']; rfl)] at hE
     rw [← hE]
     exact⟨rfl,rfl,ap_rowV (sh:=ReSh) (c:=(c,(y.1,sy,sy',()))) (G.le le7) rowC (by kernel_rfl) (by omega) (by omega) fun s9 V9 G9=>⟨_,rfl,(s9,()),rfl,_,_,G9,fr_app hfr fr2⟩⟩
    ·have hz':zeroQ y=true:=by simpa [zeroQ,bne] using hz
     rw [hz'] at k2; simp at k2
   ·have hd':dn=true:=by simpa using hd
    rw [hd'] at k2; simp at k2
  ·rintro⟨s8,u⟩ V7 ⟨cs8,fps8,G8,hfr8⟩
   have hlen:(addR c y l).length≤9223372036854775807:=by
    have:=rests_len (addR_ok (y:=y) hl kc yok)
    omega
   obtain⟨b,hb0,_,hL⟩:=GV.lr G8 hlen
   exact⟨l5.trans G8.2.2.1,s8,_,_,true,rfl,hL,(fun y hy=>by
    rcases List.mem_cons.1 hy with rfl | hy
    ·exact none_of_le l5 hb0
    ·exact hfr8 y hy),.inl ⟨rfl,y,hy,rfl⟩⟩
end Go.Proofs.YtfiakghfncempaaGreatDoor
