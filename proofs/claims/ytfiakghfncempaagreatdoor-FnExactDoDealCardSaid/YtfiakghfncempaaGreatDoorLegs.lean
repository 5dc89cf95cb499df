/-
  Amounts posted to several accounts of a ledger, in the program and in the reference.
-/
import Derived.Test.YtfiakghfncempaaGreatDoorTotC
import Derived.Test.YtfiakghfncempaaGreatDoorDecM
import Derived.Test.YtfiakghfncempaaGreatDoorChg
import Derived.Test.YtfiakghfncempaaGreatDoorCopy
import Derived.Test.YtfiakghfncempaaGreatDoorCuB
import Derived.Test.YtfiakghfncempaaGreatDoorValid
namespace Go.Proofs.YtfiakghfncempaaGreatDoor
open Sx
set_option maxRecDepth 100000
abbrev MonSh:List Sc:=[.s,.b,.l]
theorem mon_elim {V:Know} {c:Scs MonSh} {x:DMoney} {f:List Nat} (h:rMoney.R V c x f):∃ s,c=(x.1,x.2.1,s,())∧LR rI V s x.2.2.1 f∧x.1.size≤9223372036854775807:=by
 obtain⟨c0,c1,c2,cu⟩:=c
 obtain⟨⟨e0,z0⟩,e1,g,g',rfl,hs,hN⟩:=h
 replace e0:c0=x.1:=e0
 replace e1:c1=x.2.1:=e1
 replace hN:g'=[]:=hN
 subst e0 e1 hN
 rw [List.append_nil]
 exact⟨c2,rfl,hs,z0⟩
theorem mon_mk {V:Know} {e:Bool} {s:SlV} {o:List Lim} {f:List Nat} {n:ByteArray} (z:n.size≤9223372036854775807) (h:LR rI V s o f):rMoney.R V (n,e,s,()) (n,e,o,()) f:=⟨⟨rfl,z⟩,rfl,f,[],by simp,h,rfl⟩
theorem nilM_R (V:Know):rMoney.R V (ByteArray.empty,false,⟨none,0,0⟩,()) nilM []:=mon_mk (by decide) ⟨rfl,Nat.le_refl _,by decide,.inl ⟨rfl,fun _=>rfl,rfl⟩⟩
abbrev AddPost (V:Know) (x y:DMoney):Know→Value→Prop:=fun V' v=>V.le V'∧∃ c z ok f,v=.tuple #[qv2 c,.bool ok]∧rMoney.R V' c z f∧Own V V' f∧addM x y=(z,ok)
theorem add_no {V V':Know} {x y:DMoney} (le:V.le V') (h:¬ (AlikeP x y∧∃ z:DMoney,MonP z∧z.1=x.1∧svM z=svM x+svM y)):AddPost V x y V' (packed [qv2 (ByteArray.empty,false,⟨none,0,0⟩,()),.bool false]) :=
 ⟨le,(ByteArray.empty,false,⟨none,0,0⟩,()),nilM,false,[],rfl,nilM_R V',Own.nil,addM_eq (.inr ⟨rfl,rfl,h⟩)⟩
theorem mon_of {x y:DMoney} {e:Bool} {o:List Lim} (q:known x.1=true∧∃ z:DMoney,MonP z∧z.1=x.1∧svM z=svM x+svM y) (C2:Can o) (p2:e=true→0<o.length) (v2:sval e o=svM x+svM y):MoneyOkP x.1 e o:=by
 obtain⟨kx,z,mz,z1,sz⟩:=q
 have hl:o.length≤4:=by
  have:valN o=valN z.2.2.1:=by
   have a1:=valN_nonneg C2.1
   have a2:=valN_nonneg mz.2.1.1.1.1
   have b1:e=true→0<valN o:=fun h=>(can_pos C2).1 (p2 h)
   have b2:z.2.1=true→0<valN z.2.2.1:=fun h=>(can_pos mz.2.1.1.1).1 (mz.2.1.2 h)
   have key:sval e o=sval z.2.1 z.2.2.1:=v2.trans sz.symm
   unfold sval at key
   revert b1 b2 key
   cases e <;> cases z.2.1 <;> simp <;> omega
  have:=can_inj C2 mz.2.1.1.1 this
  rw [this]; exact mz.2.2
 exact⟨kx,⟨⟨C2,by omega⟩,p2⟩,hl⟩
theorem cI_MoneyAdd {V:Know} (hV:hasCur V) (c d:Scs MonSh) (x y:DMoney) (f g:List Nat) (hx:rMoney.R V c x f) (hy:rMoney.R V d y g) :
  CallX Tryz.prog V 321 [qv2 c,qv2 d] (AddPost V x y):=by
 refine CallX.of_fits Tryz.mix (fI_MoneyAdd _ _) fun _=>?_
 simp only [tI_MoneyAdd,T.wp]
 refine(cI_alike hV c d x y f g hx hy).mono ?_
 rintro V1 _ ⟨le1,e1,rfl,he1⟩
 refine⟨nofun,e1,rfl,fun hf=>add_no le1 fun k=>?_,fun h1=>?_⟩
 ·rw [he1.2 k.1] at hf; cases hf
 have al:=he1.1 (by simpa using h1)
 obtain⟨s,rfl,hl,z0⟩:=mon_elim hx
 obtain⟨s',rfl,hl',z0'⟩:=mon_elim hy
 have al2:=al
 obtain⟨ax,ay,_⟩:=al2
 have nx:=ax.2.2
 have ny:=ay.2.2
 refine(cI_intAdd V1 x.2.1 s y.2.1 s' x.2.2.1 y.2.2.1 f g (hl.le le1) (hl'.le le1) ax.2.1.1.1 ay.2.1.1.1 (by omega) (by omega)).mono ?_
 rintro V2 _ ⟨le2,e,t,o,k,rfl,L2,O2,C2,v2,p2,n2⟩
 have l2:=le1.trans le2
 refine⟨fun _=>le2,(e,t,()),rfl,?_⟩
 have hm:CallX Tryz.prog V2 52 [.string x.1,qv0 (e,t,())] (fun V' v=>V2.le V'∧AddPost V x y V' v):=by
  refine CallX.of_fits Tryz.mix (fI_moneyOf _ _) fun _=>?_
  simp only [tI_moneyOf,T.wp]
  refine(cI_MoneyOk (hasCur.le hV l2) x.1 e t o k L2).mono ?_
  rintro V3 _ ⟨le3,e3,rfl,he3⟩
  refine⟨nofun,e3,rfl,fun ht=>?_,fun hf=>⟨le3,add_no (l2.trans le3) fun q=>?_⟩⟩
  ·have ok:MoneyOkP x.1 e o:=he3.1 ht
   exact⟨le3,l2.trans le3,(x.1,e,t,()),(x.1,e,o,()),true,k,rfl,mon_mk z0 (L2.le le3),(O2.post le3).pre le1,addM_eq (.inl ⟨rfl,al,ok,rfl,v2⟩)⟩
  ·rw [he3.2 (mon_of ⟨ax.1,q.2⟩ C2 p2 v2)] at hf; cases hf
 refine hm.mono ?_
 rintro V3 _ ⟨le3,le03,c3,z3,ok3,f3,rfl,R3,O3,h3⟩
 exact⟨fun _=>le3,(c3,ok3,()),rfl,le03,c3,z3,ok3,f3,rfl,R3,O3,h3⟩
theorem cS_MoneyAdd {V:Know} (c d:Scs MonSh) (x y:DMoney) (f g:List Nat) (hx:rMoney.R V c x f) (hy:rMoney.R V d y g) :
  CallX Tryz.prog V 190 [qv2 c,qv2 d] (AddPost V x y):=by
 refine CallX.of_fits Tryz.mix (fS_MoneyAdd _ _) fun _=>?_
 simp only [tS_MoneyAdd,T.wp]
 refine(cS_l09Both c d x y f g hx hy).mono ?_
 rintro V1 _ ⟨le1,e1,rfl,he1⟩
 refine⟨nofun,e1,rfl,fun hf=>add_no le1 fun k=>?_,fun h1=>?_⟩
 ·rw [he1.2 k.1] at hf; cases hf
 have al:=he1.1 (by simpa using h1)
 obtain⟨s,rfl,hl,z0⟩:=mon_elim hx
 obtain⟨s',rfl,hl',z0'⟩:=mon_elim hy
 have al2:=al
 obtain⟨ax,ay,_⟩:=al2
 have nx:=ax.2.2
 have ny:=ay.2.2
 refine(cS_IntAdd V1 x.2.1 s y.2.1 s' x.2.2.1 y.2.2.1 f g (hl.le le1) (hl'.le le1) ax.2.1 ay.2.1 (by omega) (by omega)).mono ?_
 rintro V2 _ ⟨le2,e,t,o,k,rfl,L2,O2,ok2,v2,n2⟩
 have l2:=le1.trans le2
 refine⟨fun _=>le2,(e,t,()),rfl,?_⟩
 have hm:CallX Tryz.prog V2 225 [.string x.1,qv0 (e,t,())] (fun V' v=>V2.le V'∧AddPost V x y V' v):=by
  refine CallX.of_fits Tryz.mix (fS_l09Make _ _) fun _=>?_
  simp only [tS_l09Make,T.wp]
  refine(cS_MoneyOk x.1 e t o k L2).mono ?_
  rintro V3 _ ⟨le3,e3,rfl,he3⟩
  refine⟨nofun,e3,rfl,fun hf=>⟨le3,add_no (l2.trans le3) fun q=>?_⟩,fun ht=>?_⟩
  ·rw [he3.2 (mon_of ⟨ax.1,q.2⟩ ok2.1.1 ok2.2 v2)] at hf; cases hf
  ·have ok:MoneyOkP x.1 e o:=he3.1 (by simpa using ht)
   exact⟨le3,l2.trans le3,(x.1,e,t,()),(x.1,e,o,()),true,k,rfl,mon_mk z0 (L2.le le3),(O2.post le3).pre le1,addM_eq (.inl ⟨rfl,al,ok,rfl,v2⟩)⟩
 refine hm.mono ?_
 rintro V3 _ ⟨le3,le03,c3,z3,ok3,f3,rfl,R3,O3,h3⟩
 exact⟨fun _=>le3,(c3,ok3,()),rfl,le03,c3,z3,ok3,f3,rfl,R3,O3,h3⟩
theorem findR_wp {sh:List Sc} {α:Type} {P:Program} {r:Rp sh α} {K:Know→List Value→Prop} {V V0:Know} {s:SlV} {l:List α} {f:List Nat} {p:α→Prop} {body:LShs [.o (.o (.i .i64))]→T} (h:LR r V s l f)
  (hbody:∀ (i:Nat) (hi:i<l.length) (N:List LV→Know→Prop),(p l[i]→K V [.int .i64 i])→(¬ p l[i]→N [.v (.int .i64 (IntKind.i64.wrap ((i:Int)+1)))] V)→(body ((i:Int),())).wp P K V V [N])
  (hK:∀ (i:Nat) (hi:i<l.length),p l[i]→(∀ (j:Nat) (hj:j<l.length),j<i→¬ p l[j])→K V [.int .i64 i]) (hno:(∀ (j:Nat) (hj:j<l.length),¬ p l[j])→K V [.int .i64 (-1)]) :
  (T.lp [.o (.o (.i .i64))] [.v (.int .i64 (0:Int))] fun y=>.br (decide (y.1<(s.n:Int))) (body y) (.ret [.int .i64 (-1:Int)])).wp P K V V0 []:=by
 have hn:=h.1
 have h63:=h.2.2.1
 simp only [T.wp]
 refine⟨fun y V'=>V'=V∧∃ i:Nat,y.1=(i:Int)∧i≤l.length∧∀ (j:Nat) (hj:j<l.length),j<i→¬ p l[j],fun y _=>((l.length:Int)-(y.1:Int)).toNat,⟨((0:Int),()),rfl,rfl,0,rfl,Nat.zero_le _,fun j _ h=>by omega⟩,?_⟩
 rintro⟨(i:Int),u⟩ V' ⟨rfl,k,hk,hle,hall⟩
 replace hk:i=(k:Int):=hk
 subst hk
 refine⟨fun hlt=>?_,fun hge=>?_⟩
 ·have hi:k<l.length:=by
   have:(k:Int)<(s.n:Int):=of_decide_eq_true hlt
   omega
  refine hbody k hi _ (fun hp=>hK k hi hp hall) fun hp=>?_
  ·refine⟨(((k+1:Nat):Int),()),by rw [nxt hi (by omega)]; rfl,⟨rfl,k+1,rfl,hi,fun j hj h2=>?_⟩,?_⟩
   ·by_cases e:j=k
    ·subst e; exact hp
    ·exact hall j hj (by omega)
   ·show((l.length:Int)-((k+1:Nat):Int)).toNat<((l.length:Int)-(k:Int)).toNat
    omega
 ·have hi:k=l.length:=by
   have:¬ (k:Int)<(s.n:Int):=of_decide_eq_false hge
   omega
  subst hi
  exact hno fun j hj=>hall j hj hj
abbrev AxPost (V:Know) (n:ByteArray) (l:List DAcct):Know→Value→Prop:=fun V' r=>V.le V'∧r=.int .i64 (atN n l)
theorem ax_yes {n:ByteArray} {l:List DAcct} {k:Nat} (h:k<l.length) (e:l[k].1=n) (hj:∀ (j:Nat) (hj:j<l.length),j<k→¬ l[j].1=n):atN n l=k:=atN_some (fnd_some h e hj)
theorem ax_no {n:ByteArray} {l:List DAcct} (h:∀ (j:Nat) (hj:j<l.length),¬ l[j].1=n):atN n l=-1:=atN_none (fnd_none h)
theorem acct_name {V:Know} {c:Scs [.s,.s,.b,.l]} {x:DAcct} {f:List Nat} (h:rAcct.R V c x f):c.1=x.1:=h.1.1
theorem cS_AcctAt (V:Know) (s:SlV) (l:List DAcct) (f:List Nat) (h:LR rAcct V s l f) (n:ByteArray):CallX Tryz.prog V 133 [qv4 (s,()),.string n] (AxPost V n l):=by
 refine CallX.of_fits Tryz.mix (fS_AcctAt _ _) fun _=>?_
 have hn:=h.1
 rw [tS_AcctAt]
 refine findR_wp (p:=fun a=>a.1=n) h (fun i hi N hy hN=>?_) (fun i hi e hj=>⟨Know.le.refl _,by rw [ax_yes hi e hj]; rfl⟩) (fun hno=>⟨Know.le.refl _,by rw [ax_no hno]; rfl⟩)
 obtain⟨b1,o1,c1,fc,a1,l1,hR,_⟩:=h.at hi
 have e0:(i:Int).toNat=i:=by omega
 simp only [T.wp]
 rw [e0]
 refine⟨_,a1,by omega,by omega,c1,l1,fun he=>?_,fun he=>⟨_,rfl,hN fun e=>?_⟩⟩
 ·exact hy ((acct_name hR).symm.trans (text_eq.1 he))
 ·have:=text_eq.2 ((acct_name hR).trans e)
  rw [this] at he; cases he
theorem cI_AcctAt (V:Know) (s:SlV) (l:List DAcct) (f:List Nat) (h:LR rAcct V s l f) (n:ByteArray):CallX Tryz.prog V 43 [qv4 (s,()),.string n] (AxPost V n l):=by
 refine CallX.of_fits Tryz.mix (fI_AcctAt _ _) fun _=>?_
 simp only [tI_AcctAt,T.wp]
 intro b hb
 have leb:=kset_le (x:=([Value.string n],((9:TypeId),((0,0):Nat × Nat)))) hb
 have hv:kset V b ([Value.string n],((9:TypeId),((0,0):Nat × Nat))) b=some _:=kset_same
 revert leb hv
 generalize kset V b ([Value.string n],((9:TypeId),((0,0):Nat × Nat)))=V1
 intro leb hv
 have h1:=h.le leb
 have hn:=h.1
 have key:CallX Tryz.prog V1 102 [Sc.val .l s,.func (.func 103) #[] #[.pointer (some ⟨b,0,none⟩)]] (fun V' r=>V'=V1∧r=.int .i64 (atN n l)):=by
  refine CallX.of_fits Tryz.mix (fX_IndexFunc_Acct s (103,⟨b,0,none⟩)) fun _=>?_
  rw [tX_IndexFunc_Acct]
  refine findR_wp (p:=fun a=>a.1=n) h1 (fun i hi N hy hN=>?_) (fun i hi e hj=>⟨rfl,by rw [ax_yes hi e hj]; rfl⟩) (fun hno=>⟨rfl,by rw [ax_no hno]; rfl⟩)
  obtain⟨b1,o1,c1,fc,a1,l1,hR,_⟩:=h1.at hi
  have e0:(i:Int).toNat=i:=by omega
  simp only [T.wp]
  rw [e0]
  refine⟨_,a1,by omega,by omega,c1,l1,?_⟩
  have hc:CallX Tryz.prog V1 103 [qv8 c1,.pointer (some ⟨b,0,none⟩)] (fun V' r=>V'=V1∧r=.bool (l[i].1.toList == n.toList)):=by
   refine CallX.of_fits Tryz.mix (fI_AcctAt_1 c1 ⟨b,0,none⟩) fun _=>?_
   simp only [tI_AcctAt_1,T.wp]
   refine⟨n,?_,trivial,?_⟩
   ·simp only [loadV,Bool.false_eq_true,if_false,hv]
    rfl
   ·rw [acct_name hR]; rfl
  refine hc.mono ?_
  rintro V2 _ ⟨rfl,rfl⟩
  refine⟨nofun,_,rfl,fun he=>hy (text_eq.1 he),fun he=>⟨_,rfl,hN fun e=>?_⟩⟩
  have:=text_eq.2 e
  rw [this] at he; cases he
 refine key.mono ?_
 rintro V2 _ ⟨rfl,rfl⟩
 exact⟨nofun,_,rfl,leb,rfl⟩
theorem load_part {V:Know} {a:Addr} {m o n:Nat} {L l':List Value} (h:loadV V a m=some L) (hc:cutv L o n=some l'):loadV V (a.add o) n=some l':=by
 obtain⟨b,off,sp⟩:=a
 cases sp with
 | some _=>simp [loadV] at h
 | none =>
  simp only [addr_add_eq,loadV] at h ⊢
  cases hb:V b with
  | none=>rw [hb] at h; cases h
  | some y =>
   rw [hb] at h
   simp only at h ⊢
   unfold cutv at h hc ⊢
   split at h
   ·rename_i hle
    simp only [Option.some.injEq] at h
    subst h
    split at hc
    ·rename_i hle2
     simp only [Option.some.injEq] at hc
     simp only [List.length_take,List.length_drop] at hle2
     rw [if_pos (by omega)]
     simp only [Option.some.injEq]
     rw [← hc,List.drop_take,List.take_take,List.drop_drop]
     congr 1
     omega
    ·cases hc
   ·cases h
theorem setl_mon (c:Scs [.s,.s,.b,.l]) (z:Scs MonSh):Scs.vals [.s,.s,.b,.l] (c.1,z)=setl (Scs.vals [.s,.s,.b,.l] c) 1 (Scs.vals MonSh z):=rfl
theorem bk_no {V V':Know} (le:V.le V'):BkPost V ([],false) V' (packed [qv4 (⟨none,0,0⟩,()),.bool false]):=⟨le,⟨none,0,0⟩,[],rfl,⟨rfl,Nat.le_refl _,by decide,.inl ⟨rfl,fun _=>rfl,rfl⟩⟩,Own.nil⟩
theorem at_neg {n:ByteArray} {l:List DAcct}:(atN n l<0↔fnd n l=none):=by
 cases h:fnd n l with
 | none=>rw [atN_none h]; simp
 | some i=>rw [atN_some h]; simp
theorem at_some {n:ByteArray} {l:List DAcct} (h:¬ atN n l<0):∃ (i:Nat) (hi:i<l.length),fnd n l=some i∧atN n l=i∧l[i].1=n:=by
 cases hf:fnd n l with
 | none=>exact absurd (at_neg.2 hf) h
 | some i =>
  obtain⟨h1,h2⟩:=fnd_at hf
  exact⟨i,h1,rfl,atN_some hf,h2⟩
theorem post_change {V:Know} (hV:HcI V) {b3 b4:Nat} {t3 t4:TypeId} {l:List DAcct} {i:Nat} (hi:i<l.length) {cm:Scs MonSh} {x z:DMoney} {g:List Nat} {ok:Bool} (hx:rMoney.R V cm x g) (ha:addM l[i].2 x=(z,ok))
  (h3:V b3=some ([.int .i64 (i:Int)],(t3,(0,0)))) (h4:V b4=some (Scs.vals MonSh cm,(t4,(0,0)))):Change V 320 [.pointer (some ⟨b3,0,none⟩),.pointer (some ⟨b4,0,none⟩)] l (l.set i (l[i].1,z)) ok:=by
 intro V1 b q s f le hbV G O hl1 hbf hbk
 have L:=G.lr (show l.length≤9223372036854775807 by omega)
 refine CallX.of_fits Tryz.mix (fI_BookPost_1 ⟨b,2,none⟩ ⟨b3,0,none⟩ ⟨b4,0,none⟩) fun _=>?_
 simp only [tI_BookPost_1,T.wp]
 obtain⟨bb,o,cs,u,c,fc,hsa,hbb,hlen,hld,hR,hfc,hset⟩:=L.putRow O hi
 have hn:=L.1
 have e0:(i:Int).toNat=i:=by omega
 refine⟨V1,Know.le.refl _,s,?_,(i:Int),?_,?_⟩
 ·simp only [addr_add_eq,loadV,if_true,hbk]; rfl
 ·simp only [loadV,if_true,le _ _ h3]; rfl
 rw [e0]
 refine⟨_,hsa,by omega,by omega,c.2,load_part hld rfl,cm,?_,(cI_MoneyAdd (hasCur.le hV le) c.2 cm l[i].2 x fc g hR.2 (rMoney.le hx le)).mono ?_⟩
 ·simp only [loadV,if_true,le _ _ h4]; rfl
 rintro V2 _ ⟨le2,cz,z',ok',fz,rfl,Rz,Oz,ha'⟩
 obtain⟨rfl,rfl⟩:z'=z∧ok'=ok:=by
  have:=ha'.symm.trans ha
  simpa using this
 have l2:=le.trans le2
 obtain⟨f',Lf,Of,lef,hbf',hsub⟩:=hset (c':=(c.1,cz)) (x':=(l[i].1,z')) (k:=1) (vs:=Scs.vals MonSh cz) le2 l2 ⟨hR.1,Rz⟩ (O.append Oz le le2) (by simp [vals_len]) (setl_mon c cz)
 refine⟨fun _=>le2,(cz,ok',()),rfl,s,?_,(i:Int),?_,?_⟩
 ·simp only [addr_add_eq,loadV,if_true,le2 _ _ hbk]; rfl
 ·simp only [loadV,if_true,l2 _ _ h3]; rfl
 rw [e0]
 refine⟨_,hsa,by omega,by omega,cs,u,?_⟩
 simp only [addr_add_eq]
 have hne:b≠bb:=fun e=>hbf (by rw [e]; exact hbf')
 refine⟨trivial,le2 _ _ hbb,by omega,rfl,lef,s,?_,fun _=>⟨f',Lf,Of,fun hm=>?_⟩⟩
 ·rw [kset_other hne]; exact le2 _ _ hbk
 ·rcases hsub b hm with h | h
  ·exact hbf h
  ·rw [Oz.2.1 b h] at hbk; cases hbk
theorem cI_BookPost {V:Know} (hV:HcI V) (s:SlV) (l:List DAcct) (f:List Nat) (h:LR rAcct V s l f) (n:ByteArray) (cm:Scs MonSh) (x:DMoney) (g:List Nat) (hx:rMoney.R V cm x g) :
  CallX Tryz.prog V 311 [qv4 (s,()),.string n,qv2 cm] (BkPost V (postB l n x)):=by
 refine CallX.of_fits Tryz.mix (fI_BookPost _ _ _) fun _=>?_
 simp only [tI_BookPost,T.wp]
 refine(cI_AcctAt V s l f h n).mono ?_
 rintro V1 _ ⟨le1,rfl⟩
 refine⟨nofun,_,rfl,(cI_BookOk (hV.le le1) s l f (h.le le1)).mono ?_⟩
 rintro V2 _ ⟨le2,e2,rfl,he2⟩
 have l2:=le1.trans le2
 refine⟨nofun,e2,rfl,fun hf=>?_,fun h2=>⟨fun hlt=>?_,fun hge=>?_⟩⟩
 ·rw [postB_no (fun k=>by rw [he2.2 k] at hf; cases hf)]
  exact bk_no l2
 ·rw [postB_none (at_neg.1 (of_decide_eq_true hlt))]
  exact bk_no l2
 have ok2:=he2.1 (by simpa using h2)
 obtain⟨i,hi,hfi,hat,hin⟩:=at_some (of_decide_eq_false hge)
 rw [hat]
 obtain⟨⟨z,ok⟩,ha⟩:∃ r,addM l[i].2 x=r:=⟨_,rfl⟩
 rw [postB_some ok2 hfi hi ha]
 intro b3 hb3 b4 hb4
 have q3:=kset_le (x:=([Value.int .i64 (i:Int)],((3:TypeId),((0,0):Nat × Nat)))) hb3
 have q4:=kset_le (x:=(Scs.vals MonSh cm,((38:TypeId),((0,0):Nat × Nat)))) hb4
 have v3:kset (kset V2 b3 ([Value.int .i64 (i:Int)],((3:TypeId),((0,0):Nat × Nat)))) b4 (Scs.vals MonSh cm,((38:TypeId),((0,0):Nat × Nat))) b3=some _:=q4 _ _ kset_same
 have l4:=l2.trans (q3.trans q4)
 refine(cI_changed s l f (h.le l4) (by have:=book_tot ok2; omega) 320 [.pointer (some ⟨b3,0,none⟩),.pointer (some ⟨b4,0,none⟩)] (l.set i (l[i].1,z)) ok rfl (post_change (hV.le l4) hi (rMoney.le hx l4) ha v3 kset_same)).mono ?_
 rintro V5 _ ⟨le5,s5,f5,rfl,L5,O5⟩
 exact⟨nofun,((s5,()),ok,()),rfl,l4.trans le5,s5,f5,rfl,L5,O5.pre l4⟩
theorem cS_BookPost {V:Know} (hV:HcS V) (s:SlV) (l:List DAcct) (f:List Nat) (h:LR rAcct V s l f) (n:ByteArray) (cm:Scs MonSh) (x:DMoney) (g:List Nat) (hx:rMoney.R V cm x g) :
  CallX Tryz.prog V 135 [qv4 (s,()),.string n,qv2 cm] (BkPost V (postB l n x)):=by
 refine CallX.of_fits Tryz.mix (fS_BookPost _ _ _) fun _=>?_
 simp only [tS_BookPost,T.wp]
 refine(cS_AcctAt V s l f h n).mono ?_
 rintro V1 _ ⟨le1,rfl⟩
 refine⟨nofun,_,rfl,(cS_BookOk (hV.le le1) s l f (h.le le1)).mono ?_⟩
 rintro V2 _ ⟨le2,e2,rfl,he2⟩
 have l2:=le1.trans le2
 refine⟨nofun,e2,rfl,fun hf=>?_,fun h2=>⟨fun hlt=>?_,fun hge=>?_⟩⟩
 ·rw [postB_no (fun k=>by rw [he2.2 k] at hf; cases hf)]
  exact bk_no l2
 ·rw [postB_none (at_neg.1 (of_decide_eq_true hlt))]
  exact bk_no l2
 have ok2:=he2.1 (by simpa using h2)
 obtain⟨i,hi,hfi,hat,hin⟩:=at_some (of_decide_eq_false hge)
 have e0:(i:Int).toNat=i:=by omega
 rw [hat,e0]
 have hL:=h.le l2
 have hn:=hL.1
 obtain⟨b1,o1,c1,fc,a1,l1,hR,_⟩:=hL.at hi
 refine⟨_,a1,by omega,by omega,c1.2,load_part l1 rfl,(cS_MoneyAdd c1.2 cm l[i].2 x fc g hR.2 (rMoney.le hx l2)).mono ?_⟩
 rintro V3 _ ⟨le3,cz,z,ok,fz,rfl,Rz,Oz,ha⟩
 have l3:=l2.trans le3
 rw [postB_some ok2 hfi hi ha]
 refine⟨fun _=>le3,(cz,ok,()),rfl,fun hf=>?_,fun ht=>?_⟩
 ·have:ok=false:=by simpa using hf
  subst this
  exact bk_no l3
 have:ok=true:=by simpa using ht
 subst this
 refine(kS_l17Copy V3 (s,()) (l,()) _ (rSl.mk (h.le l3) rNil.mk) (by show l.length+totE rAcct l+0≤1048576; have:=book_tot ok2; omega)).mono ?_
 rintro V4 _ ⟨le4,⟨s4,su⟩,f4,rfl,⟨g4,g5,e4,L4,hN⟩,O4⟩
 replace L4:LR rAcct V4 s4 l g4:=L4
 replace hN:g5=[]:=hN
 subst hN
 rw [List.append_nil] at e4
 subst e4
 have hn4:=L4.1
 obtain⟨bb,o,cs,u,c,fc4,hsa,hbb,hlen,hld,hR4,hfc,hset⟩:=L4.putRow (O4.pre le3) hi
 obtain⟨f',Lf,Of,lef,_⟩:=hset (c':=(c.1,cz)) (x':=(l[i].1,z)) (k:=1) (vs:=Scs.vals MonSh cz) (Know.le.refl _) (le3.trans le4) ⟨hR4.1,rMoney.le Rz le4⟩ ((Oz.append O4 le3 le4).perm List.perm_append_comm) (by simp [vals_len]) (setl_mon c cz)
 refine⟨nofun,(s4,()),rfl,_,hsa,by omega,(by show(i:Int)<(s4.n:Int); omega),cs,u,?_⟩
 simp only [addr_add_eq]
 exact⟨trivial,hbb,(by show o+i*4+1+3≤cs.length; have h4:o+i*4+4≤cs.length:=hlen; omega),l2.trans lef,s4,f',rfl,Lf,Of.pre l2⟩
end Go.Proofs.YtfiakghfncempaaGreatDoor
namespace Go.Proofs.YtfiakghfncempaaGreatDoor
open Sx
set_option maxRecDepth 100000
abbrev LedSh:List Sc:=[.l,.l,.s,.l]
abbrev zeroL:DLedger:=([],[],ByteArray.empty,[],())
abbrev zeroLC:Scs LedSh:=(⟨none,0,0⟩,⟨none,0,0⟩,ByteArray.empty,⟨none,0,0⟩,())
theorem lrNil {sh:List Sc} {α:Type} {r:Rp sh α} {V:Know}:LR r V ⟨none,0,0⟩ [] []:=⟨rfl,Nat.le_refl _,by decide,.inl ⟨rfl,fun _=>rfl,rfl⟩⟩
theorem zeroL_R (V:Know):rLedger.R V zeroLC zeroL []:=rSl.mk (f:=[]) lrNil (rSl.mk (f:=[]) lrNil (rStr.mk (by decide) (rSl.mk (f:=[]) lrNil rNil.mk)))
abbrev DoPost (V:Know) (y:DLedger × Int):Know→Value→Prop:=fun V' v=>V.le V'∧∃ c f,v=.tuple #[qv3 c,.int .i64 y.2]∧rLedger.R V' c y.1 f∧Own V V' f
theorem do_zero {V V':Know} (le:V.le V') (n:Int):DoPost V (zeroL,n) V' (packed [qv3 zeroLC,.int .i64 n]):=⟨le,zeroLC,[],rfl,zeroL_R V',Own.nil⟩
open Classical in
noncomputable def perfP (x:DLedger) (y:DLedger × Int):DLedger × Int:=if LedgerOkP x then y else (zeroL,1)
theorem perfP_ok {x:DLedger} {y:DLedger × Int} (h:LedgerOkP x):perfP x y=y:=if_pos h
theorem perfP_no {x:DLedger} {y:DLedger × Int} (h:¬ LedgerOkP x):perfP x y=(zeroL,1):=if_neg h
def tPerf (g:Nat) (o:Value) (x0:Scs LedSh):T :=
 .call false 104 [qv3 x0] (.v (.o .b)) fun y1 =>
 .br (!y1) (.ret [qv3 zeroLC,.int .i64 (1:Int)]) <|
 .rg <|
 .call false 105 [qv3 x0] (.v (.g [.l,.l,.s,.l])) fun y2 =>
 .call false g [o,qv3 y2] (.t [(.g [.l,.l,.s,.l]),(.o (.i .i64))]) fun y3 =>
 .br (y3.2.1 != (0:Int)) (.ret [qv3 zeroLC,.int .i64 y3.2.1]) <|
 .ret [qv3 y3.1,.int .i64 (0:Int)]
theorem perf_wp0 {V V0:Know} (hV:HcI V) {c:Scs LedSh} {x:DLedger} {f:List Nat} (h:rLedger.R V c x f) (ht:rLedger.tot x≤1048576) {g:Nat} {o:Value} {y:DLedger × Int}
  (hrun:LedgerOkP x→∀ V1 c1 f1,V.le V1→rLedger.R V1 c1 x f1→Own V V1 f1→CallX Tryz.prog V1 g [o,qv3 c1] (fun V2 v=>DoPost V y V2 v)) (hy:y.2≠0→y.1=zeroL) :
  (tPerf g o c).wp Tryz.prog (fun V' vs=>DoPost V (perfP x y) V' (packed vs)) V V0 []:=by
 simp only [tPerf,T.wp]
 refine(cI_LedgerOk hV c x f h).mono ?_
 rintro V1 _ ⟨le1,e1,rfl,he1⟩
 refine⟨nofun,e1,rfl,fun hf=>?_,fun h1=>?_⟩
 ·rw [perfP_no (fun k=>by rw [he1.2 k] at hf; cases hf)]
  exact do_zero le1 1
 have ok:=he1.1 (by simpa using h1)
 rw [perfP_ok ok]
 refine(kI_ledgerCopy V1 c x f (rLedger.le h le1) ht).mono ?_
 rintro V2 _ ⟨le2,c2,f2,rfl,R2,O2⟩
 have l2:=le1.trans le2
 refine⟨fun _=>le2,c2,rfl,(hrun ok V2 c2 f2 l2 R2 (O2.pre le1)).mono ?_⟩
 rintro V3 _ ⟨le3,c3,f3,rfl,R3,O3⟩
 refine⟨nofun,(c3,y.2,()),rfl,fun hne=>?_,fun he=>?_⟩
 ·have e:=hy (by simpa using hne)
  obtain⟨y1,y2⟩:=y
  replace e:y1=zeroL:=e
  subst e
  exact do_zero le3 y2
 ·have e:y.2=0:=by simpa using he
  obtain⟨y1,y2⟩:=y
  replace e:y2=0:=e
  subst e
  exact⟨le3,c3,f3,rfl,R3,O3⟩
theorem kS_l20CopyO (V:Know) (c:Scs LedSh) (x:DLedger) (f:List Nat) (h:rLedger.R V c x f) (ht:rLedger.tot x≤1048576) :
  CallX Tryz.prog V 134 [qv3 c] (fun V' v=>V.le V'∧∃ c' f',v=qv3 c'∧rLedger.R V' c' x f'∧∃ q0 q3,LR rAcct V' c'.1 x.1 q0∧Own V V' q0∧LR rRate V' c'.2.2.2.1 x.2.2.2.1 q3∧∀ b∈q0,b ∉ q3):=by
 obtain⟨c0,c1,c2,c3,cu⟩:=c
 obtain⟨x0,x1,x2,x3,xu⟩:=x
 obtain⟨f0,g0,_,h0,h⟩:=h
 obtain⟨f1,g1,_,h1,h⟩:=h
 obtain⟨⟨e2,z2⟩,h⟩:=h
 replace e2:c2=x2:=e2
 subst e2
 obtain⟨f3,g3,_,h3,_⟩:=h
 replace h0:LR rAcct V c0 x0 f0:=h0
 replace h1:LR rRest V c1 x1 f1:=h1
 replace h3:LR rRate V c3 x3 f3:=h3
 replace ht:(x0.length+totE rAcct x0+(x1.length+totE rRest x1+(c2.size+(x3.length+totE rRate x3+0))))≤1048576:=ht
 refine CallX.of_fits Tryz.mix (fS_l20Copy _) fun _=>?_
 simp only [tS_l20Copy,T.wp]
 refine(kS_l17Copy V (c0,()) (x0,()) _ (rSl.mk h0 rNil.mk) (by show(x0.length+totE rAcct x0+0)≤1048576; omega)).mono ?_
 rintro V1 _ ⟨le1,⟨d0,du⟩,k0,rfl,⟨a0,b0,ek,r0,hN⟩,O0⟩
 refine⟨fun _=>le1,(d0,()),rfl,?_⟩
 refine(kS_l19Copy V1 c1 x1 f1 (h1.le le1) (by omega)).mono ?_
 rintro V2 _ ⟨le2,d1,k1,rfl,r1,_⟩
 refine⟨fun _=>le2,d1,rfl,?_⟩
 refine(kS_l20Rates V2 (c2,c3,()) (c2,x3,()) _ (rStr.mk z2 (rSl.mk (h3.le (le1.trans le2)) rNil.mk)) (by show(c2.size+(x3.length+totE rRate x3+0))≤1048576; omega)).mono ?_
 rintro V3 _ ⟨le3,⟨d2,d3,dv⟩,k3,rfl,R3,O3⟩
 refine⟨fun _=>le3,(d2,d3,()),rfl,(le1.trans le2).trans le3,(d0,d1,d2,d3,()),a0++(k1++k3),rfl,?_,?_⟩
 ·exact rSl.mk (r:=rSl rRest (rStr (rSl rRate rNil))) (LR.le (show LR rAcct V1 d0 x0 a0 from r0) (le2.trans le3)) (rSl.mk (r:=rStr (rSl rRate rNil)) (r1.le le3) R3)
 ·replace hN:b0=[]:=hN
  subst hN
  rw [List.append_nil] at ek
  subst ek
  obtain⟨_,q3,q4,eq,r3,hN3⟩:=R3
  replace hN3:q4=[]:=hN3
  subst hN3
  rw [List.append_nil] at eq
  subst eq
  exact⟨k0,k3,LR.le (show LR rAcct V1 d0 x0 k0 from r0) (le2.trans le3),O0.post (le2.trans le3),r3,fun b hb hb3=>by
   obtain⟨u,t,k⟩:=O0.2.2 b hb
   have:=O3.2.1 b hb3
   rw [le2 _ _ k] at this; cases this⟩
theorem kS_l20Copy (V:Know) (c:Scs LedSh) (x:DLedger) (f:List Nat) (h:rLedger.R V c x f) (ht:rLedger.tot x≤1048576) :
  CallX Tryz.prog V 134 [qv3 c] (fun V' v=>V.le V'∧∃ c' f',v=qv3 c'∧rLedger.R V' c' x f') :=
 (kS_l20CopyO V c x f h ht).mono (by
  rintro V' v ⟨le,c',f',e,R,_⟩
  exact⟨le,c',f',e,R⟩)
abbrev DoS (V:Know) (y:DLedger × Int):Know→Value→Prop:=fun V' v=>V.le V'∧∃ c f,v=.tuple #[qv3 c,.int .i64 y.2]∧rLedger.R V' c y.1 f
theorem doS_zero {V V':Know} (le:V.le V') (n:Int):DoS V (zeroL,n) V' (packed [qv3 zeroLC,.int .i64 n]):=⟨le,zeroLC,[],rfl,zeroL_R V'⟩
end Go.Proofs.YtfiakghfncempaaGreatDoor
namespace Go.Proofs.YtfiakghfncempaaGreatDoor
open Sx
set_option maxRecDepth 100000
theorem each_wp {P:Program} {K:Know→List Value→Prop} {V V0:Know} {n:Nat} {rest:List LSh} (z:LShs rest) (p:Nat→Prop) (bad:List Value) {body tail:LShs (.o (.o (.i .i64)) :: rest)→T} {Ns:List (List LV→Know→Prop)} (hn:n≤9223372036854775807)
  (hbody:∀ (V':Know) (i:Nat) (N:List LV→Know→Prop),V.le V'→i<n→(∀ V2,V'.le V2→¬ p i→K V2 bad)→(∀ V2,V'.le V2→p i→N (.v (.int .i64 (IntKind.i64.wrap ((i:Int)+1))) :: LShs.lvs rest z) V2)→(body ((i:Int),z)).wp P K V' V' (Ns++[N]))
  (htail:∀ V',V.le V'→(∀ i,i<n→p i)→∀ N,(tail ((n:Int),z)).wp P K V' V' (Ns++[N])) (hbad:∀ V' i,V.le V'→i<n→¬ p i→K V' bad) :
  (T.lp (.o (.o (.i .i64)) :: rest) (.v (.int .i64 (0:Int)) :: LShs.lvs rest z) fun y=>.br (decide ((y.1:Int)<(n:Int))) (body y) (tail y)).wp P K V V0 Ns:=by
 simp only [T.wp]
 refine⟨fun y V'=>V.le V'∧y.2=z∧∃ i:Nat,(y.1:Int)=(i:Int)∧i≤n∧∀ j,j<i→p j,fun y _=>((n:Int)-(y.1:Int)).toNat,⟨((0:Int),z),rfl,Know.le.refl _,rfl,0,rfl,by omega,fun j hj=>by omega⟩,?_⟩
 rintro⟨(i:Int),z'⟩ V' ⟨hV,hz,k,hk,hle,hall⟩
 replace hk:i=(k:Int):=hk
 replace hz:z'=z:=hz
 subst hk hz
 refine⟨fun hlt=>?_,fun hge=>?_⟩
 ·have h1:k<n:=by
   have:(k:Int)<(n:Int):=of_decide_eq_true hlt
   omega
  refine hbody V' k _ hV h1 (fun V2 h2 hne=>hbad V2 k (hV.trans h2) h1 hne) fun V2 h2 he=>?_
  refine⟨(((k+1:Nat):Int),z'),by rw [nxt h1 (by omega)]; rfl,⟨hV.trans h2,rfl,k+1,rfl,h1,fun j hj=>?_⟩,?_⟩
  ·by_cases e:j=k
   ·subst e; exact he
   ·exact hall j (by omega)
  ·show((n:Int)-((k+1:Nat):Int)).toNat<((n:Int)-(k:Int)).toNat
   omega
 ·have h1:k=n:=by
   have:¬ (k:Int)<(n:Int):=of_decide_eq_false hge
   omega
  subst h1
  exact htail V' hV hall _
def balP (l:List DAcct) (n:ByteArray):DMoney:=match fnd n l with
 | none=>nilM
 | some i=>(l.getD i (n,nilM)).2
theorem balP_some {l:List DAcct} {n:ByteArray} {i:Nat} (h:fnd n l=some i) (hi:i<l.length):balP l n=l[i].2:=by
 rw [balP,h]
 show(l.getD i (n,nilM)).2=_
 rw [getD_at hi]
theorem balP_none {l:List DAcct} {n:ByteArray} (h:fnd n l=none):balP l n=nilM:=by rw [balP,h]
abbrev rNm:Rp [.s] (ByteArray × Unit):=rStr rNil
open Classical in
noncomputable def fitsP (l:List DAcct) (c:ByteArray) (ns:List ByteArray):Int:=if ∃ n∈ns,fnd n l=none then 3 else if ∃ n∈ns,(balP l n).1≠c then 5 else 0
noncomputable def postP (x:DLedger) (legs:List DAcct):DLedger × Int:=match postL x.1 legs with
 | none=>(zeroL,8)
 | some l=>((l,x.2),0)
open Classical in
noncomputable def legsP (x:DLedger) (legs:List DAcct):DLedger × Int:=if ∃ g∈legs,fnd g.1 x.1=none then (zeroL,3) else if ∃ g∈legs,(balP x.1 g.1).1≠g.2.1 then (zeroL,5) else postP x legs
theorem postL_cons {l:List DAcct} {g:DAcct} {gs:List DAcct} {y:List DAcct} {ok:Bool} (h:postB l g.1 g.2=(y,ok)):postL l (g :: gs)=if ok=true then postL y gs else none:=by
 rw [postL,h]
 cases ok <;> rfl
theorem nm_at {V:Know} {t:SlV} {ns:List (ByteArray × Unit)} {g:List Nat} (h:LR rNm V t ns g) {i:Nat} (hi:i<ns.length):∃ b o,t.a=some ⟨b,o,none⟩∧loadV V ((⟨b,o,none⟩:Addr).add (i*1)) 1=some [.string ns[i].1]:=by
 obtain⟨b1,o1,c1,fc,a1,l1,hR,_⟩:=h.at hi
 refine⟨b1,o1,a1,?_⟩
 have e:c1.1=ns[i].1:=hR.1.1
 rw [← e]; exact l1
theorem names_ex {α:Type} {f:α→ByteArray} {p:ByteArray→Prop} {ns:List α}:(∃ n∈ns.map f,p n)↔∃ (i:Nat) (h:i<ns.length),p (f ns[i]):=by
 constructor
 ·rintro⟨n,hn,hp⟩
  obtain⟨x,hx,rfl⟩:=List.mem_map.1 hn
  obtain⟨i,hi,rfl⟩:=List.mem_iff_getElem.1 hx
  exact⟨i,hi,hp⟩
 ·rintro⟨i,hi,hp⟩
  exact⟨_,List.mem_map_of_mem (List.getElem_mem hi),hp⟩
theorem cI_BalanceOf (V:Know) (s:SlV) (l:List DAcct) (f:List Nat) (h:LR rAcct V s l f) (ht:totE rAcct l≤1048576) (n:ByteArray):CallX Tryz.prog V 7 [qv4 (s,()),.string n]
  (fun V' v=>V.le V'∧∃ c f,v=.tuple #[qv2 c,.bool (decide (fnd n l≠none))]∧rMoney.R V' c (balP l n) f∧Own V V' f):=by
 refine CallX.of_fits Tryz.mix (fI_BalanceOf _ _) fun _=>?_
 simp only [tI_BalanceOf,T.wp]
 refine(cI_AcctAt V s l f h n).mono ?_
 rintro V1 _ ⟨le1,rfl⟩
 refine⟨nofun,_,rfl,fun hlt=>?_,fun hge=>?_⟩
 ·have hf:=at_neg.1 (of_decide_eq_true hlt)
  rw [balP_none hf,hf]
  exact⟨le1,(ByteArray.empty,false,⟨none,0,0⟩,()),[],rfl,nilM_R V1,Own.nil⟩
 obtain⟨i,hi,hfi,hat,_⟩:=at_some (of_decide_eq_false hge)
 have e0:(i:Int).toNat=i:=by omega
 rw [hat,e0,balP_some hfi hi,hfi]
 have hn:=h.1
 obtain⟨b1,o1,c1,fc,a1,l1,hR,_⟩:=(h.le le1).at hi
 have htx:=totE_mem rAcct hi
 have et:rAcct.tot l[i]=l[i].1.size+rMoney.tot l[i].2:=rfl
 refine⟨_,a1,by omega,(by show(i:Int)<(s.n:Int); omega),c1.2,load_part l1 rfl,(kI_moneyCopy V1 c1.2 l[i].2 fc hR.2 (by omega)).mono ?_⟩
 rintro V2 _ ⟨le2,c2,f2,rfl,R2,O2⟩
 exact⟨nofun,c2,rfl,le1.trans le2,c2,f2,rfl,R2,O2.pre le1⟩
theorem cI_haveAccts (V:Know) (c:Scs LedSh) (x:DLedger) (f:List Nat) (h:rLedger.R V c x f) (t:SlV) (ns:List (ByteArray × Unit)) (g:List Nat) (hs:LR rNm V t ns g) :
  CallX Tryz.prog V 308 [qv3 c,Sc.val .l t] (fun V' r=>V.le V'∧∃ k:Int,r=.int .i64 k∧((k=3∧∃ n∈ns.map (·.1),fnd n x.1=none)∨(k=0∧¬ ∃ n∈ns.map (·.1),fnd n x.1=none))):=by
 refine CallX.of_fits Tryz.mix (fI_haveAccts _ _) fun _=>?_
 obtain⟨s0,s1,s3,f0,f1,f3,rfl,L0,_,_⟩:=ledger_elim h
 have hn:=hs.1
 have h63:=hs.2.2.1
 rw [tI_haveAccts]
 refine each_wp () (fun i=>∀ (h:i<ns.length),fnd ns[i].1 x.1≠none) [.int .i64 3] (n:=t.n) h63 (fun V1 i N le1 hi hbad hgo=>?_) (fun V1 le1 hall N=>?_) (fun V1 i le1 hi hne=>?_)
 ·have hi2:i<ns.length:=by omega
  obtain⟨b,o,a1,l1⟩:=nm_at (hs.le le1) hi2
  have e0:(i:Int).toNat=i:=by omega
  simp only [T.wp]
  rw [e0]
  refine⟨_,a1,by omega,by omega,ns[i].1,l1,(cI_AcctAt V1 s0 x.1 f0 (L0.le le1) ns[i].1).mono ?_⟩
  rintro V2 _ ⟨le2,rfl⟩
  refine⟨nofun,_,rfl,fun hlt=>hbad V2 le2 fun k=>k hi2 (at_neg.1 (of_decide_eq_true hlt)),fun hge=>⟨_,rfl,hgo V2 le2 fun _ k=>(of_decide_eq_false hge) (at_neg.2 k)⟩⟩
 ·refine⟨le1,0,rfl,.inr ⟨rfl,fun k=>?_⟩⟩
  obtain⟨i,hi,e⟩:=names_ex.1 k
  exact hall i (by omega) hi e
 ·refine⟨le1,3,rfl,.inl ⟨rfl,names_ex.2 ⟨i,by omega,?_⟩⟩⟩
  exact Decidable.not_not.1 fun k=>hne fun _=>k
theorem cI_match (V:Know) (c:Scs LedSh) (x:DLedger) (f:List Nat) (h:rLedger.R V c x f) (ht:rLedger.tot x≤1048576) (cur:ByteArray) (t:SlV) (ns:List (ByteArray × Unit)) (g:List Nat) (hs:LR rNm V t ns g) :
  CallX Tryz.prog V 309 [qv3 c,.string cur,Sc.val .l t] (fun V' r=>V.le V'∧∃ k:Int,r=.int .i64 k∧((k=5∧∃ n∈ns.map (·.1),(balP x.1 n).1≠cur)∨(k=0∧¬ ∃ n∈ns.map (·.1),(balP x.1 n).1≠cur))):=by
 refine CallX.of_fits Tryz.mix (fI_match _ _ _) fun _=>?_
 obtain⟨s0,s1,s3,f0,f1,f3,rfl,L0,_,_⟩:=ledger_elim h
 have hn:=hs.1
 have h63:=hs.2.2.1
 have tt:totE rAcct x.1≤1048576:=by
  have e:rLedger.tot x=x.1.length+totE rAcct x.1+(x.2.1.length+totE rRest x.2.1+rRates.tot x.2.2):=rfl
  omega
 rw [tI_match]
 refine each_wp () (fun i=>∀ (h:i<ns.length),(balP x.1 ns[i].1).1=cur) [.int .i64 5] (n:=t.n) h63 (fun V1 i N le1 hi hbad hgo=>?_) (fun V1 le1 hall N=>?_) (fun V1 i le1 hi hne=>?_)
 ·have hi2:i<ns.length:=by omega
  obtain⟨b,o,a1,l1⟩:=nm_at (hs.le le1) hi2
  have e0:(i:Int).toNat=i:=by omega
  simp only [T.wp]
  rw [e0]
  refine⟨_,a1,by omega,by omega,ns[i].1,l1,(cI_BalanceOf V1 s0 x.1 f0 (L0.le le1) tt ns[i].1).mono ?_⟩
  rintro V2 _ ⟨le2,c2,f2,rfl,R2,_⟩
  have e2:c2.1=(balP x.1 ns[i].1).1:=R2.1.1
  refine⟨nofun,(c2,_,()),rfl,fun hne=>hbad V2 le2 fun k=>?_,fun he=>⟨_,rfl,hgo V2 le2 fun _=>?_⟩⟩
  ·have:=text_eq.2 (e2.trans (k hi2))
   rw [this] at hne; cases hne
  ·exact e2.symm.trans (text_eq.1 (by simpa using he))
 ·refine⟨le1,0,rfl,.inr ⟨rfl,fun k=>?_⟩⟩
  obtain⟨i,hi,e⟩:=names_ex.1 k
  exact e (hall i (by omega) hi)
 ·refine⟨le1,5,rfl,.inl ⟨rfl,names_ex.2 ⟨i,by omega,fun k=>hne fun _=>k⟩⟩⟩
theorem cI_fits (V:Know) (c:Scs LedSh) (x:DLedger) (f:List Nat) (h:rLedger.R V c x f) (ht:rLedger.tot x≤1048576) (cur:ByteArray) (t:SlV) (ns:List (ByteArray × Unit)) (g:List Nat) (hs:LR rNm V t ns g) :
  CallX Tryz.prog V 304 [qv3 c,.string cur,Sc.val .l t] (fun V' r=>V.le V'∧r=.int .i64 (fitsP x.1 cur (ns.map (·.1)))):=by
 refine CallX.of_fits Tryz.mix (fI_fits _ _ _) fun _=>?_
 simp only [tI_fits,T.wp]
 refine(cI_haveAccts V c x f h t ns g hs).mono ?_
 rintro V1 _ ⟨le1,k,rfl,hk⟩
 refine⟨nofun,k,rfl,fun hne=>?_,fun he=>?_⟩
 ·rcases hk with ⟨rfl,hk⟩ | ⟨rfl,_⟩
  ·exact⟨le1,by rw [fitsP,if_pos hk]; rfl⟩
  ·simp at hne
 ·rcases hk with ⟨rfl,_⟩ | ⟨rfl,hk⟩
  ·simp at he
  ·refine(cI_match V1 c x f (rLedger.le h le1) ht cur t ns g (hs.le le1)).mono ?_
   rintro V2 _ ⟨le2,k2,rfl,hk2⟩
   refine⟨nofun,k2,rfl,le1.trans le2,?_⟩
   rw [fitsP,if_neg hk]
   rcases hk2 with ⟨rfl,hk2⟩ | ⟨rfl,hk2⟩
   ·rw [if_pos hk2]; rfl
   ·rw [if_neg hk2]; rfl
theorem ledger_mk {V:Know} {s0 s1 s3:SlV} {c2:ByteArray} {x:DLedger} {f0 f1 f3:List Nat} (h0:LR rAcct V s0 x.1 f0) (h1:LR rRest V s1 x.2.1 f1) (hc:c2=x.2.2.1) (z:c2.size≤9223372036854775807) (h3:LR rRate V s3 x.2.2.2.1 f3) :
  rLedger.R V (s0,s1,c2,s3,()) x (f0++(f1++f3)):=by
 refine rSl.mk (r:=rSl rRest (rStr (rSl rRate rNil))) h0 (rSl.mk (r:=rStr (rSl rRate rNil)) h1 ⟨⟨hc,hc ▸ z⟩,f3,[],by simp,h3,rfl⟩)
theorem cI_post {V0 V:Know} (hV:HcI V) (c:Scs LedSh) (x:DLedger) (f:List Nat) (h:rLedger.R V c x f) (O:Own V0 V f) (le0:V0.le V) (t:SlV) (legs:List DAcct) (g:List Nat) (hs:LR rAcct V t legs g) :
  CallX Tryz.prog V 307 [qv3 c,Sc.val .l t] (fun V' v=>V.le V'∧DoPost V0 (postP x legs) V' v):=by
 refine CallX.of_fits Tryz.mix (fI_post _ _) fun _=>?_
 obtain⟨c0,c1,c2,c3,cu⟩:=c
 obtain⟨x0,x1,x2,x3,xu⟩:=x
 obtain⟨f0,g0,rfl,h0,h⟩:=h
 obtain⟨f1,g1,rfl,h1,h⟩:=h
 obtain⟨⟨e2,z2⟩,h⟩:=h
 replace e2:c2=x2:=e2
 subst e2
 obtain⟨f3,g3,rfl,h3,hN⟩:=h
 replace hN:g3=[]:=hN
 subst hN
 rw [List.append_nil] at O
 replace h0:LR rAcct V c0 x0 f0:=h0
 replace h1:LR rRest V c1 x1 f1:=h1
 replace h3:LR rRate V c3 x3 f3:=h3
 have hn:=hs.1
 have h63:=hs.2.2.1
 simp only [tI_post,T.wp]
 refine⟨fun y V'=>V.le V'∧y.2.2=(c1,c2,c3,⟨none,0,0⟩,⟨none,0,0⟩,ByteArray.empty,⟨none,0,0⟩,())∧∃ (k:Nat) (lk:List DAcct) (fk:List Nat),y.1=(k:Int)∧k≤legs.length∧LR rAcct V' y.2.1 lk fk∧Own V0 V' (fk++(f1++f3))∧postL x0 legs=postL lk (legs.drop k),
  fun y _=>((legs.length:Int)-(y.1:Int)).toNat,⟨((0:Int),c0,c1,c2,c3,⟨none,0,0⟩,⟨none,0,0⟩,ByteArray.empty,⟨none,0,0⟩,()),rfl,Know.le.refl _,rfl,0,x0,f0,rfl,Nat.zero_le _,h0,O,by simp⟩,?_⟩
 rintro⟨(i:Int),sk,y1,y2,y3,y4,y5,y6,y7,yu⟩ V1 ⟨le1,hy,k,lk,fk,hk,hkl,Lk,Ok,hp⟩
 replace hk:i=(k:Int):=hk
 subst hk
 replace hy:(y1,y2,y3,y4,y5,y6,y7,yu)=(c1,c2,c3,(⟨none,0,0⟩:SlV),(⟨none,0,0⟩:SlV),ByteArray.empty,(⟨none,0,0⟩:SlV),()):=hy
 simp only [Prod.mk.injEq,and_true] at hy
 obtain⟨rfl,rfl,rfl,rfl,rfl,rfl,rfl⟩:=hy
 replace Lk:LR rAcct V1 sk lk fk:=Lk
 have e0:(k:Int).toNat=k:=by omega
 refine⟨fun hlt=>?_,fun hge=>?_⟩
 ·have hi:k<legs.length:=by
   have:(k:Int)<(t.n:Int):=of_decide_eq_true hlt
   omega
  obtain⟨b,o,cl,fc,a1,l1,hR,_⟩:=(hs.le le1).at hi
  dsimp only
  rw [e0]
  have en:cl.1=legs[k].1:=hR.1.1
  refine⟨_,a1,by omega,(by show(k:Int)<(t.n:Int); omega),cl,l1,(cI_BookPost (hV.le le1) sk lk fk Lk cl.1 cl.2 legs[k].2 fc hR.2).mono ?_⟩
  rintro V2 _ ⟨le2,s2,f2,rfl,L2,O2⟩
  rw [en] at L2 ⊢
  have l2:=le1.trans le2
  obtain⟨⟨l',ok⟩,hpb⟩:∃ r,postB lk legs[k].1 legs[k].2=r:=⟨_,rfl⟩
  rw [hpb] at L2 ⊢
  rw [List.drop_eq_getElem_cons hi,postL_cons hpb] at hp
  refine⟨nofun,((s2,()),ok,()),rfl,fun hf=>?_,fun hT=>?_⟩
  ·have:ok=false:=by simpa using hf
   subst this
   refine⟨l2,?_⟩
   rw [postP,hp]
   exact do_zero (le0.trans l2) 8
  ·have:ok=true:=by simpa using hT
   subst this
   refine⟨_,rfl,(((k+1:Nat):Int),s2,y1,y2,y3,⟨none,0,0⟩,⟨none,0,0⟩,ByteArray.empty,⟨none,0,0⟩,()),by rw [nxt hi (by omega)]; rfl,⟨l2,rfl,k+1,l',f2,rfl,hi,L2,?_,hp⟩,?_⟩
   ·exact(((Ok.sub (List.sublist_append_right fk (f1++f3))).append O2 (le0.trans le1) le2).perm List.perm_append_comm)
   ·show((legs.length:Int)-((k+1:Nat):Int)).toNat<((legs.length:Int)-(k:Int)).toNat
    omega
 ·have hi:k=legs.length:=by
   have:¬ (k:Int)<(t.n:Int):=of_decide_eq_false hge
   omega
  subst hi
  rw [List.drop_length,postL] at hp
  refine⟨le1,?_⟩
  rw [postP,hp]
  exact⟨le0.trans le1,(sk,y1,y2,y3,()),fk++(f1++f3),rfl,ledger_mk (x:=(lk,x1,y2,x3,())) Lk (h1.le le1) rfl z2 (h3.le le1),Ok⟩
end Go.Proofs.YtfiakghfncempaaGreatDoor
