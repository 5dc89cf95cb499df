/-
  Copies that share no memory: of whole numbers, fractions, amounts, rates, and of lists of these.
-/
import Derived.Test.YtfiakghfncempaaGreatDoorShO
import Derived.Test.YtfiakghfncempaaGreatDoorGrow
import Derived.Test.YtfiakghfncempaaGreatDoorStr
import Derived.Test.YtfiakghfncempaaGreatDoorSrtZ
namespace Go.Proofs.YtfiakghfncempaaGreatDoor
open Sx
set_option maxRecDepth 100000
theorem maxi_can:Can [((854775807:Int),()),((223372036:Int),()),((9:Int),())]:=by
 refine⟨lims_iff.2 fun i hi=>?_,.inr (by decide)⟩
 have:i=0∨i=1∨i=2:=by simp at hi; omega
 rcases this with rfl | rfl | rfl <;> decide
theorem maxi_val:valN [((854775807:Int),()),((223372036:Int),()),((9:Int),())]=9223372036854775807:=by decide
theorem cS_NatIntA (V:Know) (s:SlV) (l:List Lim) (f:List Nat) (h:LR rI V s l f) (hc:Can l) (hl:l.length≤1):CallX Tryz.prog V 220 [Sc.val .l s] (fun V' r=>V.le V'∧r=.tuple #[.int .i64 (valN l),.bool true]):=by
 refine CallX.of_fits Tryz.mix (fS_NatInt _) fun _=>?_
 simp only [tS_NatInt,T.wp]
 have hn:=h.1
 refine(cS_NatOk V s l f h).mono ?_
 rintro V1 _ ⟨rfl,e,rfl,he⟩
 have e1:e=true:=he.2 ⟨hc,by omega⟩
 subst e1
 refine⟨nofun,true,rfl,(fun h=>by cases h),fun _=>fun b2 c2 sp hb2 hc2 _=>?_⟩
 have n2:=newI (V:=V1) (b:=b2) (cap:=c2) (o:=[((854775807:Int),()),((223372036:Int),()),((9:Int),())]) (spare:=sp) (t:=3) hb2 hc2 (by decide)
 have le2:=kset_le (x:=([Value.int .i64 854775807,.int .i64 223372036,.int .i64 9]++sp,((3:TypeId),((0,0):Nat × Nat)))) hb2
 have L:=h.le le2
 refine(cS_l02Cmp _ s (⟨some ⟨b2,0,none⟩,3,c2⟩:SlV) l _ f _ L n2.1).mono ?_
 rintro V3 _ ⟨rfl,rfl⟩
 have hcmp:=cmpL_val hc maxi_can
 rw [maxi_val] at hcmp
 have hv:valN l=if l.length=0 then 0 else limb l 0:=by
  have h0:=hc.1 0
  cases l with
  | nil=>rfl
  | cons x r =>
   cases r with
   | nil=>rw [if_neg (by simp)]; show valTo [x] 1=_; simp [valTo]
   | cons y r=>simp at hl
 have hsm:valN l≤9223372036854775807:=by
  rw [hv]
  have:=hc.1 0
  split <;> omega
 refine⟨nofun,_,rfl,fun hgt=>?_,fun _=>?_⟩
 ·have:cmpL l [((854775807:Int),()),((223372036:Int),()),((9:Int),())] > 0:=of_decide_eq_true hgt
  unfold Cmps at hcmp
  omega
 obtain⟨W,hW⟩:∃ W,W=kset V1 b2 ([Value.int .i64 854775807,.int .i64 223372036,.int .i64 9]++sp,((3:TypeId),((0,0):Nat × Nat))):=⟨_,rfl⟩
 rw [← hW] at L le2
 refine⟨fun q V'=>V'=W∧((q.2.1=(l.length:Int)-1∧q.1=(0:Int))∨(q.2.1=(-1:Int)∧q.1=valN l)),fun q _=>((q.2.1:Int)+1).toNat,⟨((0:Int),(l.length:Int)-1,()),by rw [wrap_i64 (by omega),hn]; rfl,hW.symm,.inl ⟨rfl,rfl⟩⟩,?_⟩
 rintro⟨(t:Int),(i:Int),u⟩ V' ⟨rfl,hst⟩
 refine⟨fun hge=>?_,fun hlt=>?_⟩
 ·have hi:i≥0:=of_decide_eq_true hge
  rcases hst with ⟨e1,e2⟩ | ⟨e1,e2⟩
  ·replace e1:i=(l.length:Int)-1:=e1
   replace e2:t=0:=e2
   have hl1:l.length=1:=by omega
   have ei:i=0:=by omega
   subst e2 ei
   obtain⟨b,o,ha,hld⟩:=L.int (i:=0) (by omega)
   refine⟨_,ha,(by show(0:Int)≤0; decide),(by show(0:Int)<(s.n:Int); omega),(l[0]'(by omega)).1,hld,_,rfl,(valN l,(-1:Int),()),?_,⟨rfl,.inr ⟨rfl,rfl⟩⟩,by show((-1:Int)+1).toNat<((0:Int)+1).toNat; decide⟩
   have h0:=hc.1 0
   have ew:IntKind.i64.wrap (IntKind.i64.wrap ((0:Int)*1000000000)+(l[0]'(by omega)).1)=valN l:=by
    rw [limb_at (by omega:0<l.length),wrap_i64 (n:=(0:Int)*1000000000) (by decide),wrap_i64 (by omega),hv,if_neg (by omega)]
    omega
   have ew2:IntKind.i64.wrap ((0:Int)-1)=-1:=by decide
   dsimp only
   rw [ew,ew2]; rfl
  ·replace e1:i=-1:=e1
   omega
 ·have hi:¬ i≥0:=of_decide_eq_false hlt
  rcases hst with ⟨e1,e2⟩ | ⟨e1,e2⟩
  ·replace e1:i=(l.length:Int)-1:=e1
   replace e2:t=0:=e2
   have:valN l=0:=by rw [hv,if_pos (by omega)]
   rw [this]
   subst e2
   exact⟨le2,rfl⟩
  ·replace e2:t=valN l:=e2
   subst e2
   exact⟨le2,rfl⟩
theorem cS_IntNumA (V:Know) (c0:Bool) (c1:SlV) (a:List Lim) (f:List Nat) (h:LR rI V c1 a f) (ha:IntOkP c0 a) (hl:a.length≤1):CallX Tryz.prog V 181 [qv0 (c0,c1,())] (fun V' r=>V.le V'∧r=.tuple #[.int .i64 (sval c0 a),.bool true]):=by
 refine CallX.of_fits Tryz.mix (fS_IntNum (c0,c1,())) fun _=>?_
 simp only [tS_IntNum,T.wp]
 refine(cS_NatIntA V c1 a f h ha.1.1 hl).mono ?_
 rintro V1 _ ⟨le1,rfl⟩
 refine⟨nofun,(valN a,true,()),rfl,(fun h=>by cases h),fun _=>(cS_IntOk V1 c0 c1 a f (h.le le1)).mono ?_⟩
 rintro V2 _ ⟨rfl,e,rfl,he⟩
 have e1:e=true:=he.2 ha
 subst e1
 have hb:=valN_nonneg ha.1.1.1
 have hb2:valN a<1000000000:=by
  have h0:=ha.1.1.1 0
  cases a with
  | nil=>decide
  | cons x r =>
   cases r with
   | nil=>show valTo [x] 1<_; simp only [valTo]; omega
   | cons y r=>simp at hl
 refine⟨nofun,true,rfl,(fun h=>by cases h),fun _=>⟨fun hn=>?_,fun hn=>?_⟩⟩
 ·have hn':c0=true:=hn
  subst hn'
  refine⟨le1,?_⟩
  show packed [.int .i64 (IntKind.i64.wrap ((0:Int)-valN a)),.bool true]=_
  rw [wrap_i64 (by omega)]
  show Value.tuple #[.int .i64 ((0:Int)-valN a),.bool true]=Value.tuple #[.int .i64 (-valN a),.bool true]
  rw [Int.zero_sub]
 ·have hn':c0=false:=hn
  subst hn'
  exact⟨le1,rfl⟩
def PtsP (c0:Bool) (A:Int) (qf:Nat→Int) (l:List DSigned):Prop:=(∀ i,(h:i<l.length)→IntOkP l[i].1 l[i].2.1∧sval l[i].1 l[i].2.1=sg c0 (qf i)∧l[i].2.1.length≤40)∧∀ k,k≤l.length→0≤sm qf k∧sm qf k≤A
theorem sg_add {c0:Bool} {x y:Int}:sg c0 x+sg c0 y=sg c0 (x+y):=by unfold sg; split <;> omega
theorem sg_abs {c0 e:Bool} {o:List Lim} {z:Int} (h:Lims o) (hz:0≤z) (k:sval e o=sg c0 z):valN o=z:=by
 have:=sval_abs (c0:=e) h
 rw [k] at this
 unfold sg at this
 split at this <;> omega
theorem cS_IntSumA (V:Know) (s:SlV) (l:List DSigned) (f:List Nat) (h:LR rSigned V s l f) {c0:Bool} {a:List Lim} {qf:Nat→Int} (hca:Can a) (la:a.length≤4) (hp:PtsP c0 (valN a) qf l):CallX Tryz.prog V 184 [Sc.val .l s] (IntQ V (sg c0 (sm qf l.length)) 4):=by
 refine CallX.of_fits Tryz.mix (fS_IntSum _) fun _=>?_
 simp only [tS_IntSum,T.wp]
 have hn:=h.1
 have h63:=h.2.2.1
 have ok0:IntOkP false []:=⟨⟨⟨lims_nil,.inl rfl⟩,by simp⟩,(fun h=>by cases h)⟩
 refine⟨fun q V'=>V.le V'∧∃ (k:Nat) (o:List Lim) (f':List Nat),q.1=(k:Int)∧k≤l.length∧LR rI V' q.2.2.2.2.1 o f'∧IntOkP q.2.2.2.1 o∧sval q.2.2.2.1 o=sg c0 (sm qf k)∧o.length≤4,fun q _=>((l.length:Int)-(q.1:Int)).toNat,
  ⟨((0:Int),false,⟨none,0,0⟩,false,⟨none,0,0⟩,()),rfl,Know.le.refl _,0,[],[],rfl,Nat.zero_le _,⟨rfl,Nat.le_refl _,by decide,.inl ⟨rfl,fun _=>rfl,rfl⟩⟩,ok0,by unfold sg; show(0:Int)=_; simp [sm],by simp⟩,?_⟩
 rintro⟨(i:Int),(b0:Bool),(t0:SlV),(b1:Bool),(t1:SlV),u⟩ V' ⟨le,k,o,f',e1,hk,L,ok,hv,hl⟩
 replace e1:i=(k:Int):=e1
 replace L:LR rI V' t1 o f':=L
 replace ok:IntOkP b1 o:=ok
 replace hv:sval b1 o=sg c0 (sm qf k):=hv
 subst e1
 refine⟨fun hlt=>?_,fun hge=>?_⟩
 ·have h3:k<l.length:=by
   have:(k:Int)<(s.n:Int):=of_decide_eq_true hlt
   omega
  obtain⟨b,ob,c,fc,ha,hld,hR,_⟩:=(h.le le).at h3
  obtain⟨c0',c1',uc⟩:=c
  obtain⟨p1,p2,p3⟩:=hp.1 k h3
  obtain⟨e5,fx,fy,_,Lx,_⟩:=hR
  replace e5:c0'=l[k].1:=e5
  replace Lx:LR rI V' c1' l[k].2.1 fx:=Lx
  refine⟨_,ha,(by omega:(0:Int)≤(k:Int)),(by omega:(k:Int)<(s.n:Int)),(c0',c1',uc),hld,?_⟩
  subst e5
  refine(cS_IntOk V' l[k].1 c1' l[k].2.1 fx Lx).mono ?_
  rintro V1 _ ⟨rfl,e,rfl,he⟩
  have e1:e=true:=he.2 p1
  subst e1
  refine⟨nofun,true,rfl,(fun h=>by cases h),fun _=>(cS_IntAdd V1 b1 t1 l[k].1 c1' o l[k].2.1 f' fx L Lx ok p1 (by omega) (by omega)).mono ?_⟩
  rintro V2 _ ⟨le2,e2,s2,o2,f2,rfl,L2,_,ok2,hv2,_⟩
  have hs2:sval e2 o2=sg c0 (sm qf (k+1)):=by rw [hv2,hv,p2,sg_add]; rfl
  have hb:=hp.2 (k+1) h3
  have hl2:o2.length≤4:=Nat.le_trans (can_len hca ok2.1.1 (by rw [sg_abs ok2.1.1.1 hb.1 hs2]; exact hb.2)) la
  refine⟨nofun,(e2,s2,()),rfl,_,rfl,(((k+1:Nat):Int),b0,t0,e2,s2,()),by dsimp only; rw [nxt h3 (by omega)]; rfl,⟨le.trans le2,k+1,o2,f2,rfl,h3,L2,ok2,hs2,hl2⟩,?_⟩
  show((l.length:Int)-((k+1:Nat):Int)).toNat<((l.length:Int)-(k:Int)).toNat
  omega
 ·have h3:k=l.length:=by
   have:¬ (k:Int)<(s.n:Int):=of_decide_eq_false hge
   omega
  subst h3
  exact⟨le,b1,t1,o,f',rfl,L,ok,hv,hl⟩
end Go.Proofs.YtfiakghfncempaaGreatDoor
namespace Go.Proofs.YtfiakghfncempaaGreatDoor
open Sx
theorem setl_skip {x y vs:List Value} {n:Nat}:setl (x++y) (x.length+n) vs=x++setl y n vs:=by
 simp only [setl,Nat.add_assoc]
 rw [List.take_length_add_append,List.drop_length_add_append,List.append_assoc,List.append_assoc,List.append_assoc]
theorem setl_head {x y vs:List Value} {n:Nat} (h:n+vs.length≤x.length):setl (x++y) n vs=setl x n vs++y:=by
 simp only [setl]
 rw [List.take_append_of_le_length (by omega),List.drop_append_of_le_length h,List.append_assoc,List.append_assoc,List.append_assoc]
section
variable {sh:List Sc} {α:Type}
theorem flat_set {c':Scs sh} {vs:List Value} {k:Nat}:∀ {cs:List (Scs sh)} {i:Nat} (hi:i<cs.length) (post:List Value),k+vs.length≤sh.length→Scs.vals sh c'=setl (Scs.vals sh cs[i]) k vs →
  setl (cs.flatMap (Scs.vals sh)++post) (i*sh.length+k) vs=(cs.set i c').flatMap (Scs.vals sh)++post
 | c :: cs,0,_,post,hk,e=>by
  have e:Scs.vals sh c'=setl (Scs.vals sh c) k vs:=e
  rw [List.flatMap_cons,List.set_cons_zero,List.flatMap_cons,Nat.zero_mul,Nat.zero_add,List.append_assoc,setl_head (by rw [vals_len]; exact hk),← e,List.append_assoc]
 | c :: cs,i+1,hi,post,hk,e=>by
  have e2:(i+1)*sh.length+k=(Scs.vals sh c).length+(i*sh.length+k):=by rw [vals_len,Nat.add_mul]; omega
  rw [List.flatMap_cons,List.append_assoc,e2,setl_skip,flat_set (cs:=cs) (by simpa using hi) post hk e,List.set_cons_succ,List.flatMap_cons,List.append_assoc]
theorem Els.set {r:Rp sh α} {V:Know} {c':Scs sh} {x':α} {fx:List Nat} (hx:r.R V c' x' fx) (nx:fx.Nodup):∀ {cs:List (Scs sh)} {l:List α} {fp:List Nat} {i:Nat},Els r V cs l fp→fp.Nodup→(∀ b∈fx,b ∉ fp)→i<l.length →
  ∃ fp',Els r V (cs.set i c') (l.set i x') fp'∧fp'.Nodup∧∀ b∈fp',b∈fp∨b∈fx
 | c :: cs,x :: l,_,0,⟨f,g,rfl,h1,h2⟩,nd,dj,_=>by
  have n2:=(List.nodup_append.1 nd).2.1
  refine⟨fx++g,⟨fx,g,rfl,hx,h2⟩,List.nodup_append.2 ⟨nx,n2,fun a ha b hb e=>dj a ha (by subst e; simp [hb])⟩,fun b hb=>?_⟩
  rcases List.mem_append.1 hb with h | h
  ·exact .inr h
  ·exact .inl (by simp [h])
 | c :: cs,x :: l,_,i+1,⟨f,g,rfl,h1,h2⟩,nd,dj,hi=>by
  obtain⟨n1,n2,n3⟩:=List.nodup_append.1 nd
  obtain⟨g',k1,k2,k3⟩:=Els.set hx nx (i:=i) h2 n2 (fun b hb hg=>dj b hb (by simp [hg])) (by simpa using hi)
  refine⟨f++g',⟨f,g',rfl,h1,k1⟩,List.nodup_append.2 ⟨n1,k2,fun a ha b hb e=>?_⟩,fun b hb=>?_⟩
  ·subst e
   rcases k3 a hb with h | h
   ·exact n3 a ha a h rfl
   ·exact dj a h (by simp [ha])
  ·rcases List.mem_append.1 hb with h | h
   ·exact .inl (by simp [h])
   ·rcases k3 b h with h | h
    ·exact .inl (by simp [h])
    ·exact .inr h
 | [],[],_,_,_,_,_,h=>by simp at h
 | [],_ :: _,_,_,h,_,_,_=>h.elim
 | _ :: _,[],_,_,h,_,_,_=>h.elim
theorem Own.perm {V V':Know} {f g:List Nat} (h:Own V V' f) (p:g.Perm f):Own V V' g:=⟨p.nodup_iff.2 h.1,fun b hb=>h.2.1 b (p.mem_iff.1 hb),fun b hb=>h.2.2 b (p.mem_iff.1 hb)⟩
theorem Own.sub {V V':Know} {f g:List Nat} (h:Own V V' f) (s:g.Sublist f):Own V V' g:=⟨h.1.sublist s,fun b hb=>h.2.1 b (s.subset hb),fun b hb=>h.2.2 b (s.subset hb)⟩
theorem LR.putRow {r:Rp sh α} {V0 V:Know} {s:SlV} {l:List α} {f:List Nat} (h:LR r V s l f) (hO:Own V0 V f) {i:Nat} (hi:i<l.length) :
  ∃ b o cs u c fc,s.a=some ⟨b,o,none⟩∧V b=some (cs,(u,(0,0)))∧o+i*sh.length+sh.length≤cs.length∧loadV V ((⟨b,o,none⟩:Addr).add (i*sh.length)) sh.length=some (Scs.vals sh c)∧r.R V c l[i] fc∧(∀ y∈fc,y∈f) ∧
   ∀ {V2:Know} {c':Scs sh} {x':α} {fx:List Nat} {k:Nat} {vs:List Value},V.le V2→V0.le V2→r.R V2 c' x' fx→Own V0 V2 (f++fx)→k+vs.length≤sh.length→Scs.vals sh c'=setl (Scs.vals sh c) k vs →
    ∃ f',LR r (kset V2 b (setl cs (o+i*sh.length+k) vs,(u,(0,0)))) s (l.set i x') f'∧Own V0 (kset V2 b (setl cs (o+i*sh.length+k) vs,(u,(0,0)))) f'∧V0.le (kset V2 b (setl cs (o+i*sh.length+k) vs,(u,(0,0))))∧b∈f∧∀ y∈f',y∈f∨y∈fx:=by
 have h0:=h
 obtain⟨h1,h2,h3,h4⟩:=h
 rcases h4 with ⟨z,_,_⟩ | ⟨b,pre,post,t,fps,cs,ha,hb,he,rfl⟩
 ·omega
 obtain⟨cw,tw,hw⟩:=hO.2.2 b (by simp)
 obtain rfl:t=(tw,(0,0)):=by
  rw [hb] at hw
  simp only [Option.some.injEq,Prod.mk.injEq] at hw
  exact hw.2
 have hcl:=he.len
 have hi2:i<cs.length:=by omega
 obtain⟨hi3,fc,g1,g2⟩:=he.at hi
 have hfl:(cs.flatMap (Scs.vals sh)).length=cs.length*sh.length:=flat_len cs
 have hmul:i*sh.length+sh.length≤cs.length*sh.length:=by
  have:=Nat.mul_le_mul_right sh.length (show i+1≤cs.length by omega)
  rw [Nat.add_mul,Nat.one_mul] at this
  exact this
 refine⟨b,pre.length,_,tw,cs[i],fc,ha,hb,?_,?_,g1,fun y hy=>by simp [g2 y hy],?_⟩
 ·simp only [List.length_append]; omega
 ·simp only [addr_add_eq,loadV,hb]
  rw [cutv_skip]
  exact cutv_flat (vals_len sh) hi2 post
 intro V2 c' x' fx k vs hle hle0 hx hO2 hk hc
 have e1:setl (pre++(cs.flatMap (Scs.vals sh)++post)) (pre.length+i*sh.length+k) vs=pre++((cs.set i c').flatMap (Scs.vals sh)++post):=by
  rw [Nat.add_assoc,setl_skip,flat_set hi2 post hk hc]
 rw [e1]
 obtain⟨n1,n2,n3⟩:=List.nodup_append.1 hO2.1
 have nb:b ∉ fps:=(List.nodup_cons.1 n1).1
 have nbx:b ∉ fx:=fun hm=>n3 b (by simp) b hm rfl
 have hoff:∀ (y:List Value × KTy) (g:List Nat),b ∉ g→∀ b'∈g,kset V2 b y b'=V2 b':=fun y g hg b' hb'=>by
  simp only [kset]; rw [if_neg (fun e:b'=b=>hg (by rw [← e]; exact hb'))]
 obtain⟨fp',k1,k2,k3⟩:=Els.set ((r.loc hx (hoff (pre++((cs.set i c').flatMap (Scs.vals sh)++post),(tw,(0,0))) fx nbx))) n2 (i:=i) ((he.le hle).loc (hoff _ fps nb)) (List.nodup_cons.1 n1).2 (fun y hy hm=>n3 y (by simp [hm]) y hy rfl) hi
 have nb':b ∉ fp':=fun hm=>by
  rcases k3 b hm with h | h
  ·exact nb h
  ·exact nbx h
 have hin:∀ y∈fp',y∈(b :: fps)++fx:=fun y hy=>by
  rcases k3 y hy with h | h
  ·simp [h]
  ·simp [h]
 refine⟨b :: fp',⟨by rw [List.length_set]; exact h1,h2,h3,.inr ⟨b,pre,post,_,fp',cs.set i c',ha,kset_same,k1,rfl⟩⟩,⟨List.nodup_cons.2 ⟨nb',k2⟩,fun y hy=>?_,fun y hy=>?_⟩,fun y z hy=>?_,by simp,fun y hy=>?_⟩
 ·rcases List.mem_cons.1 hy with rfl | hy
  ·exact hO2.2.1 y (by simp)
  ·exact hO2.2.1 y (hin y hy)
 ·rcases List.mem_cons.1 hy with rfl | hy
  ·exact⟨_,_,kset_same⟩
  ·obtain⟨u,v,huv⟩:=hO2.2.2 y (hin y hy)
   exact⟨u,v,by rw [kset_other (fun e=>nb' (by rw [← e]; exact hy))]; exact huv⟩
 ·have hne:y≠b:=fun e=>by
   subst e
   rw [hO2.2.1 y (by simp)] at hy; cases hy
  rw [kset_other hne]; exact hle0 y z hy
 ·rcases List.mem_cons.1 hy with rfl | hy
  ·exact .inl (by simp)
  ·rcases k3 y hy with h | h
   ·exact .inl (by simp [h])
   ·exact .inr h
end
end Go.Proofs.YtfiakghfncempaaGreatDoor
namespace Go.Proofs.YtfiakghfncempaaGreatDoor
open Sx
set_option maxRecDepth 100000
theorem setl_all {xs ys:List Value} (h:ys.length=xs.length):setl xs 0 ys=ys:=by
 simp only [setl,List.take_zero,List.nil_append,Nat.zero_add]
 rw [List.drop_of_length_le (by omega),List.append_nil]
theorem cI_moneyCopy (V:Know) (c0:ByteArray) (c1:Bool) (c2:SlV) (l:List Lim) (f:List Nat) (h:LR rI V c2 l f) (hl:l.length≤1048576) :
  CallX Tryz.prog V 44 [qv2 (c0,c1,c2,())] (fun V' r=>V.le V'∧∃ s f',r=qv2 (c0,c1,s,())∧LR rI V' s l f'∧Own V V' f'):=by
 refine CallX.of_fits Tryz.mix (fI_moneyCopy _) fun _=>?_
 simp only [tI_moneyCopy,T.wp]
 obtain⟨h1,h2⟩:=h.rdI
 have hn:=h.1
 refine⟨⟨by omega,by omega,by omega,by omega⟩,_,h1,h2,h2,?_⟩
 intro b cap spare hb hc _
 have htk:List.take (Nat.min c2.n (c2.n:Int).toNat) (l.map cellI)=l.map cellI:=by
  apply List.take_of_length_le
  have:Nat.min c2.n (c2.n:Int).toNat=c2.n:=by
   have e:(c2.n:Int).toNat=c2.n:=by omega
   rw [e]; exact Nat.min_self _
  rw [this]; simp; omega
 have hset:setl (madeCells ⟨[.int .i64 (0:Int)]⟩ ((c2.n:Int).toNat*1)).toList 0 (List.take (Nat.min c2.n (c2.n:Int).toNat) (l.map cellI))=l.map cellI:=by
  rw [htk]
  exact setl_all (by rw [made_len]; simp; omega)
 have hc':l.length≤cap:=by omega
 have hk:=newI (V:=V) (b:=b) (cap:=l.length) (o:=l) (spare:=spare) (t:=3) hb (Nat.le_refl _) (by omega)
 refine⟨⟨by omega,by omega,by omega,by omega⟩,?_⟩
 have hV:=kset_le (x:=(l.map cellI++spare,((3:TypeId),((0,0):Nat × Nat)))) hb
 have e1:((((c2.n:Int).toNat:Nat):Int).toNat-Int.toNat (0:Int))=l.length:=by omega
 have e2:(if (((c2.n:Int).toNat:Nat):Int).toNat=Int.toNat (0:Int) then (some ⟨b,0,none⟩:Option Addr) else Option.map (fun(x:Addr)=>x.add (Int.toNat (0:Int)*Tryz.prog.types[(3:Nat)].size)) (some (⟨b,0,none⟩:Addr)))=some ⟨b,0,none⟩:=by
  split
  ·rfl
  ·simp [Addr.add]
 show V.le (kset V b (setl (madeCells ⟨[.int .i64 (0:Int)]⟩ ((c2.n:Int).toNat*1)).toList 0 (List.take (Nat.min c2.n (c2.n:Int).toNat) (l.map cellI))++spare,((3:TypeId),((0,0):Nat × Nat))))∧_
 rw [hset]
 refine⟨hV,⟨some ⟨b,0,none⟩,l.length,l.length⟩,[b],?_,hk.1,hk.2⟩
 show qv2 (c0,c1,⟨(if (((c2.n:Int).toNat:Nat):Int).toNat=Int.toNat (0:Int) then (some ⟨b,0,none⟩:Option Addr) else Option.map (fun(x:Addr)=>x.add (Int.toNat (0:Int)*Tryz.prog.types[(3:Nat)].size)) (some (⟨b,0,none⟩:Addr))),
  ((((c2.n:Int).toNat:Nat):Int).toNat-Int.toNat (0:Int)),((((c2.n:Int).toNat:Nat):Int).toNat-Int.toNat (0:Int))⟩,())=_
 rw [e1,e2]
theorem cS_l17Money (V:Know) (c0:ByteArray) (c1:Bool) (c2:SlV) (l:List Lim) (f:List Nat) (h:LR rI V c2 l f) (hl:l.length≤1048576) :
  CallX Tryz.prog V 223 [qv2 (c0,c1,c2,())] (fun V' r=>V.le V'∧∃ s f',r=qv2 (c0,c1,s,())∧LR rI V' s l f'∧Own V V' f'):=by
 refine CallX.of_fits Tryz.mix (fS_l17Money _) fun _=>?_
 simp only [tS_l17Money,T.wp]
 obtain⟨h1,h2⟩:=h.rdI
 have hn:=h.1
 intro b1 hb1
 have hV1:=kset_le (x:=(([]:List Value),((3:TypeId),((0,0):Nat × Nat)))) hb1
 refine⟨l.map cellI,?_,⟨h2,(by omega:c2.n*8≤140737488355328),(by omega:c2.n≤9223372036854775807)⟩,fun hz=>?_,fun hz b3 cap spare hb3 hc _=>?_⟩
 ·rcases h1 with ⟨q1,_,q3⟩ | q
  ·exact .inl ⟨q1,q3⟩
  ·exact .inr q
 ·have hz':c2.n=0:=of_decide_eq_true hz
  have:l=[]:=List.eq_nil_of_length_eq_zero (by omega)
  subst this
  have hk:=newI (V:=V) (b:=b1) (cap:=0) (o:=[]) (spare:=[]) (t:=3) hb1 (Nat.le_refl _) (by simp)
  exact⟨hV1,_,_,rfl,hk.1,hk.2⟩
 ·have hc':l.length≤cap:=by rw [← hn]; exact hc
  have hk:=newI (V:=kset V b1 (([]:List Value),((3:TypeId),((0,0):Nat × Nat)))) (b:=b3) (cap:=cap) (o:=l) (spare:=spare) (t:=3) hb3 hc' (by omega)
  have hV3:=kset_le (x:=(l.map cellI++spare,((3:TypeId),((0,0):Nat × Nat)))) hb3
  refine⟨hV1.trans hV3,⟨some ⟨b3,0,none⟩,c2.n,cap⟩,[b3],rfl,?_,hk.2.pre hV1⟩
  rw [hn]; exact hk.1
theorem kI_natCopy:ToSC Tryz.prog 63 rI:=fun _ _ _ _ h ht=>cI_natCopy _ _ _ _ h (by omega)
theorem kI_intCopy:ToC Tryz.prog 66 rSigned:=by
 rintro V ⟨c1,c2,cu⟩ ⟨x1,x2,xu⟩ f hx ht
 obtain⟨ec1,hx⟩:=hx
 replace ec1:c1=x1:=ec1
 subst ec1
 obtain⟨f2,fr2,ec2,sc2,hx⟩:=hx
 subst ec2
 replace sc2:LR rI _ c2 x2 f2:=sc2
 replace hx:_=[]:=hx
 subst hx
 replace ht:(x2.length+totE rI x2+0)≤1048576:=ht
 refine CallX.of_fits Tryz.mix (fI_intCopy _) fun _=>?_
 simp only [tI_intCopy,T.wp]
 refine(cI_natCopy _ _ x2 _ sc2 (by omega)).mono ?_
 rintro V1 r ⟨hle1,s,k,rfl,hr,ho⟩
 exact⟨fun _=>hle1,s,rfl,hle1,(c1,s,()),_,rfl,rBool.mk (rSl.mk hr rNil.mk),by simpa using ho⟩
theorem kI_moneyCopy:ToC Tryz.prog 44 rMoney:=by
 rintro V ⟨c0,c1,c2,cu⟩ ⟨x0,x1,x2,xu⟩ f hx ht
 obtain⟨⟨ec0,zc0⟩,hx⟩:=hx
 replace ec0:c0=x0:=ec0
 subst ec0
 obtain⟨ec1,hx⟩:=hx
 replace ec1:c1=x1:=ec1
 subst ec1
 obtain⟨f2,fr2,ec2,sc2,hx⟩:=hx
 subst ec2
 replace sc2:LR rI _ c2 x2 f2:=sc2
 replace hx:_=[]:=hx
 subst hx
 replace ht:(c0.size+(x2.length+totE rI x2+0))≤1048576:=ht
 refine(cI_moneyCopy _ _ _ _ x2 _ sc2 (by omega)).mono ?_
 rintro V1 r ⟨hle1,s,k,rfl,hr,ho⟩
 exact⟨hle1,(c0,c1,s,()),_,rfl,rStr.mk zc0 (rBool.mk (rSl.mk hr rNil.mk)),by simpa using ho⟩
theorem kS_l17Money:ToC Tryz.prog 223 rMoney:=by
 rintro V ⟨c0,c1,c2,cu⟩ ⟨x0,x1,x2,xu⟩ f hx ht
 obtain⟨⟨ec0,zc0⟩,hx⟩:=hx
 replace ec0:c0=x0:=ec0
 subst ec0
 obtain⟨ec1,hx⟩:=hx
 replace ec1:c1=x1:=ec1
 subst ec1
 obtain⟨f2,fr2,ec2,sc2,hx⟩:=hx
 subst ec2
 replace sc2:LR rI _ c2 x2 f2:=sc2
 replace hx:_=[]:=hx
 subst hx
 replace ht:(c0.size+(x2.length+totE rI x2+0))≤1048576:=ht
 refine(cS_l17Money _ _ _ _ x2 _ sc2 (by omega)).mono ?_
 rintro V1 r ⟨hle1,s,k,rfl,hr,ho⟩
 exact⟨hle1,(c0,c1,s,()),_,rfl,rStr.mk zc0 (rBool.mk (rSl.mk hr rNil.mk)),by simpa using ho⟩
abbrev acT:TypeId:=100
abbrev rateTy:TypeId:=204
theorem growI_book (V:Know) (c:Scs [.l]) (x:DBook) (f:List Nat) (hx:rBook.R V c x f) (ht:rBook.tot x≤1048576):CallX Tryz.prog V 165 [qv4 c] (fun V' r=>V.le V'∧∃ s f,r=qv4 (s,())∧GR rAcct acT V' s x.1 f∧Own V V' f):=by
 obtain⟨s,cu⟩:=c
 obtain⟨l,xu⟩:=x
 obtain⟨f1,fr1,ef,sc,hx⟩:=hx
 subst ef
 replace sc:LR rAcct _ s l f1:=sc
 replace hx:_=[]:=hx
 subst hx
 replace ht:(l.length+totE rAcct l+0)≤1048576:=ht
 have hn:=sc.1
 refine CallX.of_fits Tryz.mix (fI_bookCopy _) fun _=>?_
 simp only [tI_bookCopy,ap_d,T.wp]
 have ew:IntKind.i64.wrap ((s.n:Int)+1)=((s.n+1:Nat):Int):=by rw [wrap_i64 (by omega)]; omega
 rw [ew]
 refine⟨⟨by omega,by omega,by omega,by omega⟩,fun b cap spare hb hc hsp=>?_⟩
 refine⟨fun y V'=>CopyI rAcct 100 V l y.1 y.2.1 V',fun y _=>((l.length:Int)-(y.1:Int)).toNat,⟨((0:Int),⟨some ⟨b,0,none⟩,0,cap⟩,()),rfl,CopyI.start_made (Know.le.refl _) hb (by rw [hsp]; rfl)⟩,?_⟩
 rintro⟨(i:Int),s1,u⟩ V' hI
 have hI':CopyI rAcct 100 V l i s1 V':=hI
 refine⟨fun hlt=>?_,fun hge=>?_⟩
 ·have hI0:=hI'
  obtain⟨hle,k,f0,rfl,hk,_,_⟩:=hI'
  have h1:k<l.length:=by
   have:(k:Int)<(s.n:Int):=by simpa using hlt
   omega
  obtain⟨b1,o1,c1,fc,a1,l1,r1,_⟩:=(sc.le hle).at h1
  have htx:=totE_mem rAcct h1
  refine⟨_,a1,(by omega:(0:Int)≤(k:Int)),(by omega:(k:Int)<(s.n:Int)),c1,l1,?_⟩
  obtain⟨n1,m1⟩:=c1
  obtain⟨en,zn⟩:=r1.1
  refine(kI_moneyCopy V' m1 l[k].2 fc r1.2 (by have:l[k].1.size+rMoney.tot l[k].2=rAcct.tot l[k]:=rfl; omega)).mono ?_
  rintro V2 r ⟨hle2,⟨c2,c3,c4,cv⟩,f2,rfl,hR,hO⟩
  refine⟨fun _=>hle2,(c2,c3,c4,()),rfl,rfl,rfl,?_⟩
  refine copy_end (sh:=[.s,.s,.b,.l]) (c:=(n1,c2,c3,c4,())) hI0 h1 hle2 (e:=rAcct) (bytes:=64) (fx:=f2) ⟨⟨en,zn⟩,hR⟩ hO (by kernel_rfl) (by omega) (by omega) fun s' V3 h3=>?_
  refine⟨_,rfl,(((k+1:Nat):Int),s',()),by rw [nxt h1 (by omega)]; rfl,h3,?_⟩
  show((l.length:Int)-((k+1:Nat):Int)).toNat<((l.length:Int)-(k:Int)).toNat
  omega
 ·have hi:¬ i<(l.length:Int):=by
   have:¬ i<(s.n:Int):=by simpa using hge
   omega
  obtain⟨hle,f3,hL,hO⟩:=hI'.finG hi
  exact⟨hle,s1,f3,rfl,hL,hO⟩
theorem kI_bookCopy:ToC Tryz.prog 165 rBook:=fun V c x f hx ht=>(growI_book V c x f hx ht).mono (by
 rintro V' _ ⟨le,s,g,rfl,G,O⟩
 have e:rBook.tot x=x.1.length+totE rAcct x.1+0:=rfl
 exact⟨le,(s,()),g++[],rfl,rSl.mk (G.lr (by omega)) rNil.mk,by simpa using O⟩)
theorem kS_l17Copy:ToC Tryz.prog 188 rBook:=by
 rintro V ⟨s,cu⟩ ⟨l,xu⟩ f hx ht
 obtain⟨f1,fr1,ef,sc,hx⟩:=hx
 subst ef
 replace sc:LR rAcct _ s l f1:=sc
 replace hx:_=[]:=hx
 subst hx
 replace ht:(l.length+totE rAcct l+0)≤1048576:=ht
 have hn:=sc.1
 refine CallX.of_fits Tryz.mix (fS_l17Copy _) fun _=>?_
 simp only [tS_l17Copy,ap_d,T.wp]
 refine⟨fun y V'=>CopyI rAcct 100 V l y.1 y.2.1 V',fun y _=>((l.length:Int)-(y.1:Int)).toNat,⟨((0:Int),⟨none,0,0⟩,()),rfl,CopyI.start⟩,?_⟩
 rintro⟨(i:Int),s1,u⟩ V' hI
 have hI':CopyI rAcct 100 V l i s1 V':=hI
 refine⟨fun hlt=>?_,fun hge=>?_⟩
 ·have hI0:=hI'
  obtain⟨hle,k,f0,rfl,hk,_,_⟩:=hI'
  have h1:k<l.length:=by
   have:(k:Int)<(s.n:Int):=by simpa using hlt
   omega
  obtain⟨b1,o1,c1,fc,a1,l1,r1,_⟩:=(sc.le hle).at h1
  have htx:=totE_mem rAcct h1
  refine⟨_,a1,(by omega:(0:Int)≤(k:Int)),(by omega:(k:Int)<(s.n:Int)),c1,l1,?_⟩
  obtain⟨n1,m1⟩:=c1
  obtain⟨en,zn⟩:=r1.1
  refine(kS_l17Money V' m1 l[k].2 fc r1.2 (by have:l[k].1.size+rMoney.tot l[k].2=rAcct.tot l[k]:=rfl; omega)).mono ?_
  rintro V2 r ⟨hle2,⟨c2,c3,c4,cv⟩,f2,rfl,hR,hO⟩
  refine⟨fun _=>hle2,(c2,c3,c4,()),rfl,rfl,rfl,?_⟩
  refine copy_end (sh:=[.s,.s,.b,.l]) (c:=(n1,c2,c3,c4,())) hI0 h1 hle2 (e:=rAcct) (bytes:=64) (fx:=f2) ⟨⟨en,zn⟩,hR⟩ hO (by kernel_rfl) (by omega) (by omega) fun s' V3 h3=>?_
  refine⟨_,rfl,(((k+1:Nat):Int),s',()),by rw [nxt h1 (by omega)]; rfl,h3,?_⟩
  show((l.length:Int)-((k+1:Nat):Int)).toNat<((l.length:Int)-(k:Int)).toNat
  omega
 ·have hi:¬ i<(l.length:Int):=by
   have:¬ i<(s.n:Int):=by simpa using hge
   omega
  obtain⟨hle,f3,hL,hO⟩:=hI'.fin (by omega) hi
  exact⟨hle,(s1,()),f3++[],rfl,rSl.mk hL rNil.mk,by simpa using hO⟩
theorem kI_decCopy:ToC Tryz.prog 236 rDec:=by
 rintro V ⟨c0,c1,c2,cu⟩ ⟨x0,x1,x2,xu⟩ f hx ht
 obtain⟨ec0,hx⟩:=hx
 replace ec0:c0=x0:=ec0
 subst ec0
 obtain⟨f1,fr1,ec1,sc1,hx⟩:=hx
 subst ec1
 replace sc1:LR rI _ c1 x1 f1:=sc1
 obtain⟨ec2,hx⟩:=hx
 replace ec2:c2=x2:=ec2
 subst ec2
 replace hx:_=[]:=hx
 subst hx
 replace ht:(x1.length+totE rI x1+0)≤1048576:=ht
 refine CallX.of_fits Tryz.mix (fI_decCopy _) fun _=>?_
 simp only [tI_decCopy,T.wp]
 refine(kI_intCopy _ _ (c0,x1,()) _ (rBool.mk (rSl.mk sc1 rNil.mk)) (by show(x1.length+totE rI x1+0)≤1048576; omega)).mono ?_
 rintro V0 r ⟨hle0,⟨d0,d1,du0⟩,k0,rfl,hr0,ho0⟩
 obtain⟨ed0,hr0⟩:=hr0
 replace ed0:d0=c0:=ed0
 subst ed0
 obtain⟨k0f1,k0r1,ed1,sd1,hr0⟩:=hr0
 subst ed1
 replace sd1:LR rI _ d1 x1 k0f1:=sd1
 replace hr0:_=[]:=hr0
 subst hr0
 refine⟨fun _=>hle0,(d0,d1,()),rfl,?_⟩
 exact⟨hle0,(d0,d1,c2,()),_,rfl,(rBool.mk (rSl.mk sd1 (rInt.mk rNil.mk))),by simpa using ho0⟩
theorem kI_rateCopy:ToC Tryz.prog 209 rRate:=by
 rintro V ⟨c0,c1,c2,c3,c4,cu⟩ ⟨x0,x1,x2,x3,x4,xu⟩ f hx ht
 obtain⟨⟨ec0,zc0⟩,hx⟩:=hx
 replace ec0:c0=x0:=ec0
 subst ec0
 replace zc0:c0.size≤9223372036854775807:=zc0
 obtain⟨⟨ec1,zc1⟩,hx⟩:=hx
 replace ec1:c1=x1:=ec1
 subst ec1
 replace zc1:c1.size≤9223372036854775807:=zc1
 obtain⟨ec2,hx⟩:=hx
 replace ec2:c2=x2:=ec2
 subst ec2
 obtain⟨f3,fr3,ec3,sc3,hx⟩:=hx
 subst ec3
 replace sc3:LR rI _ c3 x3 f3:=sc3
 obtain⟨ec4,hx⟩:=hx
 replace ec4:c4=x4:=ec4
 subst ec4
 replace hx:_=[]:=hx
 subst hx
 replace ht:(c0.size+(c1.size+(x3.length+totE rI x3+0)))≤1048576:=ht
 refine CallX.of_fits Tryz.mix (fI_rateCopy _) fun _=>?_
 simp only [tI_rateCopy,T.wp]
 refine(kI_decCopy _ _ (c2,x3,c4,()) _ (rBool.mk (rSl.mk sc3 (rInt.mk rNil.mk))) (by show(x3.length+totE rI x3+0)≤1048576; omega)).mono ?_
 rintro V2 r ⟨hle2,⟨d2,d3,d4,du2⟩,k2,rfl,hr2,ho2⟩
 obtain⟨ed2,hr2⟩:=hr2
 replace ed2:d2=c2:=ed2
 subst ed2
 obtain⟨k2f3,k2r3,ed3,sd3,hr2⟩:=hr2
 subst ed3
 replace sd3:LR rI _ d3 x3 k2f3:=sd3
 obtain⟨ed4,hr2⟩:=hr2
 replace ed4:d4=c4:=ed4
 subst ed4
 replace hr2:_=[]:=hr2
 subst hr2
 refine⟨fun _=>hle2,(d2,d3,d4,()),rfl,?_⟩
 exact⟨hle2,(c0,c1,d2,d3,d4,()),_,rfl,(rStr.mk zc0 (rStr.mk zc1 (rBool.mk (rSl.mk sd3 (rInt.mk rNil.mk))))),by simpa using ho2⟩
theorem kI_ratCopy:ToC Tryz.prog 58 rRat:=by
 rintro V ⟨c0,c1,c2,cu⟩ ⟨x0,x1,x2,xu⟩ f hx ht
 obtain⟨ec0,hx⟩:=hx
 replace ec0:c0=x0:=ec0
 subst ec0
 obtain⟨f1,fr1,ec1,sc1,hx⟩:=hx
 subst ec1
 replace sc1:LR rI _ c1 x1 f1:=sc1
 obtain⟨f2,fr2,ec2,sc2,hx⟩:=hx
 subst ec2
 replace sc2:LR rI _ c2 x2 f2:=sc2
 replace hx:_=[]:=hx
 subst hx
 replace ht:(x1.length+totE rI x1+(x2.length+totE rI x2+0))≤1048576:=ht
 refine CallX.of_fits Tryz.mix (fI_ratCopy _) fun _=>?_
 simp only [tI_ratCopy,T.wp]
 refine(kI_intCopy _ _ (c0,x1,()) _ (rBool.mk (rSl.mk sc1 rNil.mk)) (by show(x1.length+totE rI x1+0)≤1048576; omega)).mono ?_
 rintro V0 r ⟨hle0,⟨d0,d1,du0⟩,k0,rfl,hr0,ho0⟩
 obtain⟨ed0,hr0⟩:=hr0
 replace ed0:d0=c0:=ed0
 subst ed0
 obtain⟨k0f1,k0r1,ed1,sd1,hr0⟩:=hr0
 subst ed1
 replace sd1:LR rI _ d1 x1 k0f1:=sd1
 replace hr0:_=[]:=hr0
 subst hr0
 refine⟨fun _=>hle0,(d0,d1,()),rfl,?_⟩
 refine(kI_natCopy _ _ x2 _ (sc2.le hle0) (by omega)).mono ?_
 rintro V2 r ⟨hle2,d2,k2,rfl,sd2,ho2⟩
 refine⟨fun _=>hle2,d2,rfl,?_⟩
 have hA2:=ho0.append ho2 hle0 hle2
 have hL2:=hle0.trans hle2
 replace sd1:=sd1.le hle2
 exact⟨hL2,(d0,d1,d2,()),_,rfl,(rBool.mk (rSl.mk sd1 (rSl.mk sd2 rNil.mk))),by simpa using hA2⟩
abbrev GrowPost (V:Know) (x:DRates):Know→Value→Prop:=fun V' r=>V.le V'∧∃ s f,r=qv5 (x.1,s,())∧GR rRate rateTy V' s x.2.1 f∧Own V V' f
theorem growI_rates (V:Know) (c:Scs [.s,.l]) (x:DRates) (f:List Nat) (hx:rRates.R V c x f) (ht:rRates.tot x≤1048576):CallX Tryz.prog V 167 [qv5 c] (GrowPost V x):=by
 obtain⟨p0,s,cu⟩:=c
 obtain⟨q0,l,xu⟩:=x
 obtain⟨⟨ep,zp⟩,hx⟩:=hx
 replace ep:p0=q0:=ep
 subst ep
 obtain⟨f1,fr1,ef,sc,hx⟩:=hx
 subst ef
 replace sc:LR rRate _ s l f1:=sc
 replace hx:_=[]:=hx
 subst hx
 replace ht:(p0.size+(l.length+totE rRate l+0))≤1048576:=ht
 have hn:=sc.1
 refine CallX.of_fits Tryz.mix (fI_ratesCopy _) fun _=>?_
 simp only [tI_ratesCopy,ap_d,T.wp]
 refine⟨fun y V'=>y.2.1=p0∧CopyI rRate rateTy V l y.1 y.2.2.1 V',fun y _=>((l.length:Int)-(y.1:Int)).toNat,⟨((0:Int),p0,⟨none,0,0⟩,()),rfl,rfl,CopyI.start⟩,?_⟩
 rintro⟨(i:Int),p1,s1,u⟩ V' ⟨hp,hI⟩
 replace hp:p1=p0:=hp
 subst hp
 have hI':CopyI rRate rateTy V l i s1 V':=hI
 refine⟨fun hlt=>?_,fun hge=>?_⟩
 ·have hI0:=hI'
  obtain⟨hle,k,f0,rfl,hk,_,_⟩:=hI'
  have h1:k<l.length:=by
   have:(k:Int)<(s.n:Int):=by simpa using hlt
   omega
  obtain⟨b1,o1,c1,fc,a1,l1,r1,_⟩:=(sc.le hle).at h1
  have htx:=totE_mem rRate h1
  refine⟨_,a1,(by omega:(0:Int)≤(k:Int)),(by omega:(k:Int)<(s.n:Int)),c1,l1,?_⟩
  refine(kI_rateCopy V' c1 l[k] fc r1 (by omega)).mono ?_
  rintro V2 r ⟨hle2,⟨c2,c3,c4,c5,c6,cv⟩,f2,rfl,hR,hO⟩
  refine⟨fun _=>hle2,(c2,c3,c4,c5,c6,()),rfl,rfl,rfl,?_⟩
  refine copy_end (sh:=[.s,.s,.b,.l,.i .i64]) (c:=(c2,c3,c4,c5,c6,())) hI0 h1 hle2 (e:=rRate) (bytes:=72) (fx:=f2) hR hO (by kernel_rfl) (by omega) (by omega) fun s' V3 h3=>?_
  refine⟨_,rfl,(((k+1:Nat):Int),p1,s',()),by rw [nxt h1 (by omega)]; rfl,⟨rfl,h3⟩,?_⟩
  show((l.length:Int)-((k+1:Nat):Int)).toNat<((l.length:Int)-(k:Int)).toNat
  omega
 ·have hi:¬ i<(l.length:Int):=by
   have:¬ i<(s.n:Int):=by simpa using hge
   omega
  obtain⟨hle,f3,hL,hO⟩:=hI'.finG hi
  exact⟨hle,s1,f3,rfl,hL,hO⟩
theorem kI_ratesCopy:ToC Tryz.prog 167 rRates:=fun V c x f hx ht=>(growI_rates V c x f hx ht).mono (by
 rintro V' _ ⟨le,s,g,rfl,G,O⟩
 have e:rRates.tot x=x.1.size+(x.2.1.length+totE rRate x.2.1+0):=rfl
 exact⟨le,(x.1,s,()),g++[],rfl,rStr.mk hx.1.2 (rSl.mk (G.lr (by omega)) rNil.mk),by simpa using O⟩)
theorem kI_restsCopy:ToSC Tryz.prog 166 rRest:=by
 intro V s l f sc ht
 have hn:=sc.1
 refine CallX.of_fits Tryz.mix (fI_restsCopy _) fun _=>?_
 simp only [tI_restsCopy,ap_d,T.wp]
 intro b cap spare hb hc hsp
 refine⟨fun y V'=>CopyI rRest 116 V l y.2.1 y.1 V',fun y _=>((l.length:Int)-(y.2.1:Int)).toNat,⟨(⟨some ⟨b,0,none⟩,0,cap⟩,(0:Int),()),rfl,CopyI.start_made (Know.le.refl _) hb (by rw [hsp]; rfl)⟩,?_⟩
 rintro⟨s1,(i:Int),u⟩ V' hI
 have hI':CopyI rRest 116 V l i s1 V':=hI
 refine⟨fun hlt=>?_,fun hge=>?_⟩
 ·have hI0:=hI'
  obtain⟨hle,k,f0,rfl,hk,_,_⟩:=hI'
  have h1:k<l.length:=by
   have:(k:Int)<(s.n:Int):=by simpa using hlt
   omega
  obtain⟨b1,o1,c1,fc,a1,l1,r1,_⟩:=(sc.le hle).at h1
  have htx:=totE_mem rRest h1
  refine⟨_,a1,(by omega:(0:Int)≤(k:Int)),(by omega:(k:Int)<(s.n:Int)),c1,l1,?_⟩
  obtain⟨n1,m1⟩:=c1
  obtain⟨en,zn⟩:=r1.1
  refine(kI_ratCopy V' m1 l[k].2 fc r1.2 (by have:l[k].1.size+rRat.tot l[k].2=rRest.tot l[k]:=rfl; omega)).mono ?_
  rintro V2 r ⟨hle2,⟨c2,c3,c4,cv⟩,f2,rfl,hR,hO⟩
  refine⟨fun _=>hle2,(c2,c3,c4,()),rfl,rfl,rfl,?_⟩
  refine copy_end (sh:=[.s,.b,.l,.l]) (c:=(n1,c2,c3,c4,())) hI0 h1 hle2 (e:=rRest) (bytes:=72) (fx:=f2) ⟨⟨en,zn⟩,hR⟩ hO (by kernel_rfl) (by omega) (by omega) fun s' V3 h3=>?_
  refine⟨_,rfl,(s',((k+1:Nat):Int),()),by rw [nxt h1 (by omega)]; rfl,h3,?_⟩
  show((l.length:Int)-((k+1:Nat):Int)).toNat<((l.length:Int)-(k:Int)).toNat
  omega
 ·have hi:¬ i<(l.length:Int):=by
   have:¬ i<(s.n:Int):=by simpa using hge
   omega
  obtain⟨hle,f3,hL,hO⟩:=hI'.fin (by omega) hi
  exact⟨hle,s1,f3,rfl,hL,hO⟩
theorem kI_ledgerCopy:ToC Tryz.prog 105 rLedger:=by
 rintro V ⟨c0,c1,c2,c3,cu⟩ ⟨x0,x1,x2,x3,xu⟩ f hx ht
 obtain⟨f0,fr0,ec0,sc0,hx⟩:=hx
 subst ec0
 replace sc0:LR rAcct _ c0 x0 f0:=sc0
 obtain⟨f1,fr1,ec1,sc1,hx⟩:=hx
 subst ec1
 replace sc1:LR rRest _ c1 x1 f1:=sc1
 obtain⟨⟨ec2,zc2⟩,hx⟩:=hx
 replace ec2:c2=x2:=ec2
 subst ec2
 replace zc2:c2.size≤9223372036854775807:=zc2
 obtain⟨f3,fr3,ec3,sc3,hx⟩:=hx
 subst ec3
 replace sc3:LR rRate _ c3 x3 f3:=sc3
 replace hx:_=[]:=hx
 subst hx
 replace ht:(x0.length+totE rAcct x0+(x1.length+totE rRest x1+(c2.size+(x3.length+totE rRate x3+0))))≤1048576:=ht
 refine CallX.of_fits Tryz.mix (fI_ledgerCopy _) fun _=>?_
 simp only [tI_ledgerCopy,T.wp]
 refine(kI_bookCopy _ _ (x0,()) _ (rSl.mk sc0 rNil.mk) (by show(x0.length+totE rAcct x0+0)≤1048576; omega)).mono ?_
 rintro V0 r ⟨hle0,⟨d0,du0⟩,k0,rfl,hr0,ho0⟩
 obtain⟨k0f0,k0r0,ed0,sd0,hr0⟩:=hr0
 subst ed0
 replace sd0:LR rAcct _ d0 x0 k0f0:=sd0
 replace hr0:_=[]:=hr0
 subst hr0
 refine⟨fun _=>hle0,(d0,()),rfl,?_⟩
 refine(kI_restsCopy _ _ x1 _ (sc1.le hle0) (by omega)).mono ?_
 rintro V1 r ⟨hle1,d1,k1,rfl,sd1,ho1⟩
 refine⟨fun _=>hle1,d1,rfl,?_⟩
 have hA1:=ho0.append ho1 hle0 hle1
 have hL1:=hle0.trans hle1
 replace sd0:=sd0.le hle1
 refine(kI_ratesCopy _ _ (c2,x3,()) _ (rStr.mk zc2 (rSl.mk (sc3.le hL1) rNil.mk)) (by show(c2.size+(x3.length+totE rRate x3+0))≤1048576; omega)).mono ?_
 rintro V2 r ⟨hle2,⟨d2,d3,du2⟩,k2,rfl,hr2,ho2⟩
 obtain⟨⟨ed2,zd2⟩,hr2⟩:=hr2
 replace ed2:d2=c2:=ed2
 subst ed2
 replace zd2:d2.size≤9223372036854775807:=zd2
 obtain⟨k2f3,k2r3,ed3,sd3,hr2⟩:=hr2
 subst ed3
 replace sd3:LR rRate _ d3 x3 k2f3:=sd3
 replace hr2:_=[]:=hr2
 subst hr2
 refine⟨fun _=>hle2,(d2,d3,()),rfl,?_⟩
 have hA2:=hA1.append ho2 hL1 hle2
 have hL2:=hL1.trans hle2
 replace sd0:=sd0.le hle2
 replace sd1:=sd1.le hle2
 exact⟨hL2,(d0,d1,d2,d3,()),_,rfl,(rSl.mk sd0 (rSl.mk sd1 (rStr.mk zd2 (rSl.mk sd3 rNil.mk)))),by simpa using hA2⟩
def litT (s:SlV) (k:SlV→T):T :=
 .es [] 3 fun b1=>.ra ⟨s.a,s.n,s.c⟩ 1 fun y2 =>
 .rq (one y2=true∧s.n*(8:Nat)≤(140737488355328:Nat)∧s.n≤(9223372036854775807:Nat)) <|
 .br (decide (s.n=(0:Nat))) (k ⟨some ⟨b1,0,none⟩,0,0⟩) (.fz s.n y2 3 fun b3 c3=>k ⟨some ⟨b3,0,none⟩,s.n,c3⟩)
theorem litT_wp {P:Program} {K:Know→List Value→Prop} {V V0:Know} {Ns:List (List LV→Know→Prop)} {s:SlV} {l:List Lim} {f:List Nat} {k:SlV→T} (h:LR rI V0 s l f) (hl:l.length≤1048576)
  (hk:∀ V2 s' f',V.le V2→LR rI V2 s' l f'→Own V V2 f'→(k s').wp P K V2 V0 Ns):(litT s k).wp P K V V0 Ns:=by
 simp only [litT,T.wp]
 obtain⟨h1,h2⟩:=h.rdI
 have hn:=h.1
 intro b1 hb1
 have hV1:=kset_le (x:=(([]:List Value),((3:TypeId),((0,0):Nat × Nat)))) hb1
 refine⟨l.map cellI,?_,⟨h2,(by omega:s.n*8≤140737488355328),(by omega:s.n≤9223372036854775807)⟩,fun hz=>?_,fun hz b3 cap spare hb3 hc _=>?_⟩
 ·rcases h1 with ⟨q1,_,q3⟩ | q
  ·exact .inl ⟨q1,q3⟩
  ·exact .inr q
 ·have hz':s.n=0:=of_decide_eq_true hz
  have:l=[]:=List.eq_nil_of_length_eq_zero (by omega)
  subst this
  have hk':=newI (V:=V) (b:=b1) (cap:=0) (o:=[]) (spare:=[]) (t:=3) hb1 (Nat.le_refl _) (by simp)
  exact hk _ _ _ hV1 hk'.1 hk'.2
 ·have hc':l.length≤cap:=by rw [← hn]; exact hc
  have hk':=newI (V:=kset V b1 (([]:List Value),((3:TypeId),((0,0):Nat × Nat)))) (b:=b3) (cap:=cap) (o:=l) (spare:=spare) (t:=3) hb3 hc' (by omega)
  have hV3:=kset_le (x:=(l.map cellI++spare,((3:TypeId),((0,0):Nat × Nat)))) hb3
  refine hk _ _ [b3] (hV1.trans hV3) ?_ (hk'.2.pre hV1)
  rw [hn]; exact hk'.1
theorem kS_l19Rat:ToC Tryz.prog 203 rRat:=by
 rintro V ⟨c0,c1,c2,cu⟩ ⟨x0,x1,x2,xu⟩ f hx ht
 obtain⟨ec0,hx⟩:=hx
 replace ec0:c0=x0:=ec0
 subst ec0
 obtain⟨f1,fr1,ec1,sc1,hx⟩:=hx
 subst ec1
 replace sc1:LR rI _ c1 x1 f1:=sc1
 obtain⟨f2,fr2,ec2,sc2,hx⟩:=hx
 subst ec2
 replace sc2:LR rI _ c2 x2 f2:=sc2
 replace hx:_=[]:=hx
 subst hx
 replace ht:(x1.length+totE rI x1+(x2.length+totE rI x2+0))≤1048576:=ht
 refine CallX.of_fits Tryz.mix (fS_l19Rat _) fun _=>?_
 show T.wp _ _ (litT c1 fun s1=>litT c2 fun s2=>.ret [qv1 (c0,s1,s2,())]) V V []
 refine litT_wp sc1 (by omega) fun V1 s1 g1 hle1 L1 O1=>?_
 refine litT_wp sc2 (by omega) fun V2 s2 g2 hle2 L2 O2=>?_
 exact⟨hle1.trans hle2,(c0,s1,s2,()),_,rfl,rBool.mk (rSl.mk (L1.le hle2) (rSl.mk L2 rNil.mk)),by simpa using O1.append O2 hle1 hle2⟩
theorem kS_l19Copy:ToSC Tryz.prog 155 rRest:=by
 intro V s l f sc ht
 have hn:=sc.1
 refine CallX.of_fits Tryz.mix (fS_l19Copy _) fun _=>?_
 simp only [tS_l19Copy,ap_d,T.wp]
 intro b cap spare hb hc hsp
 refine⟨fun y V'=>CopyI rRest 116 V l y.2.1 y.1 V',fun y _=>((l.length:Int)-(y.2.1:Int)).toNat,⟨(⟨some ⟨b,0,none⟩,0,cap⟩,(0:Int),()),rfl,CopyI.start_made (Know.le.refl _) hb (by rw [hsp]; rfl)⟩,?_⟩
 rintro⟨s1,(i:Int),u⟩ V' hI
 have hI':CopyI rRest 116 V l i s1 V':=hI
 refine⟨fun hlt=>?_,fun hge=>?_⟩
 ·have hI0:=hI'
  obtain⟨hle,k,f0,rfl,hk,_,_⟩:=hI'
  have h1:k<l.length:=by
   have:(k:Int)<(s.n:Int):=by simpa using hlt
   omega
  obtain⟨b1,o1,c1,fc,a1,l1,r1,_⟩:=(sc.le hle).at h1
  have htx:=totE_mem rRest h1
  refine⟨_,a1,(by omega:(0:Int)≤(k:Int)),(by omega:(k:Int)<(s.n:Int)),c1,l1,?_⟩
  obtain⟨n1,m1⟩:=c1
  obtain⟨en,zn⟩:=r1.1
  refine(kS_l19Rat V' m1 l[k].2 fc r1.2 (by have:l[k].1.size+rRat.tot l[k].2=rRest.tot l[k]:=rfl; omega)).mono ?_
  rintro V2 r ⟨hle2,⟨c2,c3,c4,cv⟩,f2,rfl,hR,hO⟩
  refine⟨fun _=>hle2,(c2,c3,c4,()),rfl,rfl,rfl,?_⟩
  refine copy_end (sh:=[.s,.b,.l,.l]) (c:=(n1,c2,c3,c4,())) hI0 h1 hle2 (e:=rRest) (bytes:=72) (fx:=f2) ⟨⟨en,zn⟩,hR⟩ hO (by kernel_rfl) (by omega) (by omega) fun s' V3 h3=>?_
  refine⟨_,rfl,(s',((k+1:Nat):Int),()),by rw [nxt h1 (by omega)]; rfl,h3,?_⟩
  show((l.length:Int)-((k+1:Nat):Int)).toNat<((l.length:Int)-(k:Int)).toNat
  omega
 ·have hi:¬ i<(l.length:Int):=by
   have:¬ i<(s.n:Int):=by simpa using hge
   omega
  obtain⟨hle,f3,hL,hO⟩:=hI'.fin (by omega) hi
  exact⟨hle,s1,f3,rfl,hL,hO⟩
end Go.Proofs.YtfiakghfncempaaGreatDoor
