/-
  An operation on a copy of a ledger; DoRate in the program and in the reference.
-/
import Derived.Test.YtceoihhldnnenaaGreatDoorChg
import Derived.Test.YtceoihhldnnenaaGreatDoorMu
import Derived.Test.YtceoihhldnnenaaGreatDoorTotB
import Derived.Test.YtceoihhldnnenaaGreatDoorRestM
namespace Go.Proofs.YtceoihhldnnenaaGreatDoor
open Sx
theorem setl_skip {x y vs:List Value} {n:Nat}:setl (x++y) (x.length+n) vs=x++setl y n vs:=by
 simp only [setl,Nat.add_assoc]
 rw [List.take_length_add_append,List.drop_length_add_append,List.append_assoc,List.append_assoc,List.append_assoc]
theorem setl_head {x y vs:List Value} {n:Nat} (h:n+vs.length≤x.length):setl (x++y) n vs=setl x n vs++y:=by
 simp only [setl]
 rw [List.take_append_of_le_length (by omega),List.drop_append_of_le_length h,List.append_assoc,List.append_assoc,List.append_assoc]
section
variable {sh:List Sc} {α:Type}
theorem flat_set {c':Scs sh} {vs:List Value} {k:Nat}:∀ {cs:List (Scs sh)} {i:Nat} (hi:i<cs.length) (post:List Value),k+vs.length≤sh.length→Scs.vals sh c'=setl (Scs.vals sh cs[i]) k vs →
  setl (cs.flatMap (Scs.vals sh)++post) (i*sh.length+k) vs=(cs.set i c').flatMap (Scs.vals sh)++post
 | c :: cs,0,_,post,hk,e=>by
  have e:Scs.vals sh c'=setl (Scs.vals sh c) k vs:=e
  rw [List.flatMap_cons,List.set_cons_zero,List.flatMap_cons,Nat.zero_mul,Nat.zero_add,List.append_assoc,setl_head (by rw [vals_len]; exact hk),← e,List.append_assoc]
 | c :: cs,i+1,hi,post,hk,e=>by
  have e2:(i+1)*sh.length+k=(Scs.vals sh c).length+(i*sh.length+k):=by rw [vals_len,Nat.add_mul]; omega
  rw [List.flatMap_cons,List.append_assoc,e2,setl_skip,flat_set (cs:=cs) (by simpa using hi) post hk e,List.set_cons_succ,List.flatMap_cons,List.append_assoc]
theorem Els.set {r:Rp sh α} {V:Know} {c':Scs sh} {x':α} {fx:List Nat} (hx:r.R V c' x' fx) (nx:fx.Nodup):∀ {cs:List (Scs sh)} {l:List α} {fp:List Nat} {i:Nat},Els r V cs l fp→fp.Nodup→(∀ b∈fx,b ∉ fp)→i<l.length →
  ∃ fp',Els r V (cs.set i c') (l.set i x') fp'∧fp'.Nodup∧∀ b∈fp',b∈fp∨b∈fx
 | c :: cs,x :: l,_,0,⟨f,g,rfl,h1,h2⟩,nd,dj,_=>by
  have n2:=(List.nodup_append.1 nd).2.1
  refine⟨fx++g,⟨fx,g,rfl,hx,h2⟩,List.nodup_append.2 ⟨nx,n2,fun a ha b hb e=>dj a ha (by subst e; simp [hb])⟩,fun b hb=>?_⟩
  rcases List.mem_append.1 hb with h | h
  ·exact .inr h
  ·exact .inl (by simp [h])
 | c :: cs,x :: l,_,i+1,⟨f,g,rfl,h1,h2⟩,nd,dj,hi=>by
  obtain⟨n1,n2,n3⟩:=List.nodup_append.1 nd
  obtain⟨g',k1,k2,k3⟩:=Els.set hx nx (i:=i) h2 n2 (fun b hb hg=>dj b hb (by simp [hg])) (by simpa using hi)
  refine⟨f++g',⟨f,g',rfl,h1,k1⟩,List.nodup_append.2 ⟨n1,k2,fun a ha b hb e=>?_⟩,fun b hb=>?_⟩
  ·subst e
   rcases k3 a hb with h | h
   ·exact n3 a ha a h rfl
   ·exact dj a h (by simp [ha])
  ·rcases List.mem_append.1 hb with h | h
   ·exact .inl (by simp [h])
   ·rcases k3 b h with h | h
    ·exact .inl (by simp [h])
    ·exact .inr h
 | [],[],_,_,_,_,_,h=>by simp at h
 | [],_ :: _,_,_,h,_,_,_=>h.elim
 | _ :: _,[],_,_,h,_,_,_=>h.elim
theorem Own.perm {V V':Know} {f g:List Nat} (h:Own V V' f) (p:g.Perm f):Own V V' g:=⟨p.nodup_iff.2 h.1,fun b hb=>h.2.1 b (p.mem_iff.1 hb),fun b hb=>h.2.2 b (p.mem_iff.1 hb)⟩
theorem Own.sub {V V':Know} {f g:List Nat} (h:Own V V' f) (s:g.Sublist f):Own V V' g:=⟨h.1.sublist s,fun b hb=>h.2.1 b (s.subset hb),fun b hb=>h.2.2 b (s.subset hb)⟩
theorem LR.putRow {r:Rp sh α} {V0 V:Know} {s:SlV} {l:List α} {f:List Nat} (h:LR r V s l f) (hO:Own V0 V f) {i:Nat} (hi:i<l.length) :
  ∃ b o cs u c fc,s.a=some ⟨b,o,none⟩∧V b=some (cs,(u,(0,0)))∧o+i*sh.length+sh.length≤cs.length∧loadV V ((⟨b,o,none⟩:Addr).add (i*sh.length)) sh.length=some (Scs.vals sh c)∧r.R V c l[i] fc∧(∀ y∈fc,y∈f) ∧
   ∀ {V2:Know} {c':Scs sh} {x':α} {fx:List Nat} {k:Nat} {vs:List Value},V.le V2→V0.le V2→r.R V2 c' x' fx→Own V0 V2 (f++fx)→k+vs.length≤sh.length→Scs.vals sh c'=setl (Scs.vals sh c) k vs →
    ∃ f',LR r (kset V2 b (setl cs (o+i*sh.length+k) vs,(u,(0,0)))) s (l.set i x') f'∧Own V0 (kset V2 b (setl cs (o+i*sh.length+k) vs,(u,(0,0)))) f'∧V0.le (kset V2 b (setl cs (o+i*sh.length+k) vs,(u,(0,0))))∧b∈f∧∀ y∈f',y∈f∨y∈fx:=by
 have h0:=h
 obtain⟨h1,h2,h3,h4⟩:=h
 rcases h4 with ⟨z,_,_⟩ | ⟨b,pre,post,t,fps,cs,ha,hb,he,rfl⟩
 ·omega
 obtain⟨cw,tw,hw⟩:=hO.2.2 b (by simp)
 obtain rfl:t=(tw,(0,0)):=by
  rw [hb] at hw
  simp only [Option.some.injEq,Prod.mk.injEq] at hw
  exact hw.2
 have hcl:=he.len
 have hi2:i<cs.length:=by omega
 obtain⟨hi3,fc,g1,g2⟩:=he.at hi
 have hfl:(cs.flatMap (Scs.vals sh)).length=cs.length*sh.length:=flat_len cs
 have hmul:i*sh.length+sh.length≤cs.length*sh.length:=by
  have:=Nat.mul_le_mul_right sh.length (show i+1≤cs.length by omega)
  rw [Nat.add_mul,Nat.one_mul] at this
  exact this
 refine⟨b,pre.length,_,tw,cs[i],fc,ha,hb,?_,?_,g1,fun y hy=>by simp [g2 y hy],?_⟩
 ·simp only [List.length_append]; omega
 ·simp only [addr_add_eq,loadV,hb]
  rw [cutv_skip]
  exact cutv_flat (vals_len sh) hi2 post
 intro V2 c' x' fx k vs hle hle0 hx hO2 hk hc
 have e1:setl (pre++(cs.flatMap (Scs.vals sh)++post)) (pre.length+i*sh.length+k) vs=pre++((cs.set i c').flatMap (Scs.vals sh)++post):=by
  rw [Nat.add_assoc,setl_skip,flat_set hi2 post hk hc]
 rw [e1]
 obtain⟨n1,n2,n3⟩:=List.nodup_append.1 hO2.1
 have nb:b ∉ fps:=(List.nodup_cons.1 n1).1
 have nbx:b ∉ fx:=fun hm=>n3 b (by simp) b hm rfl
 have hoff:∀ (y:List Value × KTy) (g:List Nat),b ∉ g→∀ b'∈g,kset V2 b y b'=V2 b':=fun y g hg b' hb'=>by
  simp only [kset]; rw [if_neg (fun e:b'=b=>hg (by rw [← e]; exact hb'))]
 obtain⟨fp',k1,k2,k3⟩:=Els.set ((r.loc hx (hoff (pre++((cs.set i c').flatMap (Scs.vals sh)++post),(tw,(0,0))) fx nbx))) n2 (i:=i) ((he.le hle).loc (hoff _ fps nb)) (List.nodup_cons.1 n1).2 (fun y hy hm=>n3 y (by simp [hm]) y hy rfl) hi
 have nb':b ∉ fp':=fun hm=>by
  rcases k3 b hm with h | h
  ·exact nb h
  ·exact nbx h
 have hin:∀ y∈fp',y∈(b :: fps)++fx:=fun y hy=>by
  rcases k3 y hy with h | h
  ·simp [h]
  ·simp [h]
 refine⟨b :: fp',⟨by rw [List.length_set]; exact h1,h2,h3,.inr ⟨b,pre,post,_,fp',cs.set i c',ha,kset_same,k1,rfl⟩⟩,⟨List.nodup_cons.2 ⟨nb',k2⟩,fun y hy=>?_,fun y hy=>?_⟩,fun y z hy=>?_,by simp,fun y hy=>?_⟩
 ·rcases List.mem_cons.1 hy with rfl | hy
  ·exact hO2.2.1 y (by simp)
  ·exact hO2.2.1 y (hin y hy)
 ·rcases List.mem_cons.1 hy with rfl | hy
  ·exact⟨_,_,kset_same⟩
  ·obtain⟨u,v,huv⟩:=hO2.2.2 y (hin y hy)
   exact⟨u,v,by rw [kset_other (fun e=>nb' (by rw [← e]; exact hy))]; exact huv⟩
 ·have hne:y≠b:=fun e=>by
   subst e
   rw [hO2.2.1 y (by simp)] at hy; cases hy
  rw [kset_other hne]; exact hle0 y z hy
 ·rcases List.mem_cons.1 hy with rfl | hy
  ·exact .inl (by simp)
  ·rcases k3 y hy with h | h
   ·exact .inl (by simp [h])
   ·exact .inr h
end
end Go.Proofs.YtceoihhldnnenaaGreatDoor
namespace Go.Proofs.YtceoihhldnnenaaGreatDoor
open Sx
set_option maxRecDepth 100000
abbrev MonSh:List Sc:=[.s,.b,.l]
theorem mon_elim {V:Know} {c:Scs MonSh} {x:DMoney} {f:List Nat} (h:rMoney.R V c x f):∃ s,c=(x.1,x.2.1,s,())∧LR rI V s x.2.2.1 f∧x.1.size≤9223372036854775807:=by
 obtain⟨c0,c1,c2,cu⟩:=c
 obtain⟨⟨e0,z0⟩,e1,g,g',rfl,hs,hN⟩:=h
 replace e0:c0=x.1:=e0
 replace e1:c1=x.2.1:=e1
 replace hN:g'=[]:=hN
 subst e0 e1 hN
 rw [List.append_nil]
 exact⟨c2,rfl,hs,z0⟩
theorem mon_mk {V:Know} {e:Bool} {s:SlV} {o:List Lim} {f:List Nat} {n:ByteArray} (z:n.size≤9223372036854775807) (h:LR rI V s o f):rMoney.R V (n,e,s,()) (n,e,o,()) f:=⟨⟨rfl,z⟩,rfl,f,[],by simp,h,rfl⟩
theorem nilM_R (V:Know):rMoney.R V (ByteArray.empty,false,⟨none,0,0⟩,()) nilM []:=mon_mk (by decide) ⟨rfl,Nat.le_refl _,by decide,.inl ⟨rfl,fun _=>rfl,rfl⟩⟩
theorem findR_wp {sh:List Sc} {α:Type} {P:Program} {r:Rp sh α} {K:Know→List Value→Prop} {V V0:Know} {s:SlV} {l:List α} {f:List Nat} {p:α→Prop} {body:LShs [.o (.o (.i .i64))]→T} (h:LR r V s l f)
  (hbody:∀ (i:Nat) (hi:i<l.length) (N:List LV→Know→Prop),(p l[i]→K V [.int .i64 i])→(¬ p l[i]→N [.v (.int .i64 (IntKind.i64.wrap ((i:Int)+1)))] V)→(body ((i:Int),())).wp P K V V [N])
  (hK:∀ (i:Nat) (hi:i<l.length),p l[i]→(∀ (j:Nat) (hj:j<l.length),j<i→¬ p l[j])→K V [.int .i64 i]) (hno:(∀ (j:Nat) (hj:j<l.length),¬ p l[j])→K V [.int .i64 (-1)]) :
  (T.lp [.o (.o (.i .i64))] [.v (.int .i64 (0:Int))] fun y=>.br (decide (y.1<(s.n:Int))) (body y) (.ret [.int .i64 (-1:Int)])).wp P K V V0 []:=by
 have hn:=h.1
 have h63:=h.2.2.1
 simp only [T.wp]
 refine⟨fun y V'=>V'=V∧∃ i:Nat,y.1=(i:Int)∧i≤l.length∧∀ (j:Nat) (hj:j<l.length),j<i→¬ p l[j],fun y _=>((l.length:Int)-(y.1:Int)).toNat,⟨((0:Int),()),rfl,rfl,0,rfl,Nat.zero_le _,fun j _ h=>by omega⟩,?_⟩
 rintro⟨(i:Int),u⟩ V' ⟨rfl,k,hk,hle,hall⟩
 replace hk:i=(k:Int):=hk
 subst hk
 refine⟨fun hlt=>?_,fun hge=>?_⟩
 ·have hi:k<l.length:=by
   have:(k:Int)<(s.n:Int):=of_decide_eq_true hlt
   omega
  refine hbody k hi _ (fun hp=>hK k hi hp hall) fun hp=>?_
  ·refine⟨(((k+1:Nat):Int),()),by rw [nxt hi (by omega)]; rfl,⟨rfl,k+1,rfl,hi,fun j hj h2=>?_⟩,?_⟩
   ·by_cases e:j=k
    ·subst e; exact hp
    ·exact hall j hj (by omega)
   ·show((l.length:Int)-((k+1:Nat):Int)).toNat<((l.length:Int)-(k:Int)).toNat
    omega
 ·have hi:k=l.length:=by
   have:¬ (k:Int)<(s.n:Int):=of_decide_eq_false hge
   omega
  subst hi
  exact hno fun j hj=>hall j hj hj
abbrev AxPost (V:Know) (n:ByteArray) (l:List DAcct):Know→Value→Prop:=fun V' r=>V.le V'∧r=.int .i64 (atN n l)
theorem ax_yes {n:ByteArray} {l:List DAcct} {k:Nat} (h:k<l.length) (e:l[k].1=n) (hj:∀ (j:Nat) (hj:j<l.length),j<k→¬ l[j].1=n):atN n l=k:=atN_some (fnd_some h e hj)
theorem ax_no {n:ByteArray} {l:List DAcct} (h:∀ (j:Nat) (hj:j<l.length),¬ l[j].1=n):atN n l=-1:=atN_none (fnd_none h)
theorem acct_name {V:Know} {c:Scs [.s,.s,.b,.l]} {x:DAcct} {f:List Nat} (h:rAcct.R V c x f):c.1=x.1:=h.1.1
theorem cS_AcctAt (V:Know) (s:SlV) (l:List DAcct) (f:List Nat) (h:LR rAcct V s l f) (n:ByteArray):CallX Tryz.prog V 41 [qv4 (s,()),.string n] (AxPost V n l):=by
 refine CallX.of_fits Tryz.mix (fS_AcctAt _ _) fun _=>?_
 have hn:=h.1
 rw [tS_AcctAt]
 refine findR_wp (p:=fun a=>a.1=n) h (fun i hi N hy hN=>?_) (fun i hi e hj=>⟨Know.le.refl _,by rw [ax_yes hi e hj]; rfl⟩) (fun hno=>⟨Know.le.refl _,by rw [ax_no hno]; rfl⟩)
 obtain⟨b1,o1,c1,fc,a1,l1,hR,_⟩:=h.at hi
 have e0:(i:Int).toNat=i:=by omega
 simp only [T.wp]
 rw [e0]
 refine⟨_,a1,by omega,by omega,c1,l1,fun he=>?_,fun he=>⟨_,rfl,hN fun e=>?_⟩⟩
 ·exact hy ((acct_name hR).symm.trans (text_eq.1 he))
 ·have:=text_eq.2 ((acct_name hR).trans e)
  rw [this] at he; cases he
theorem cI_AcctAt (V:Know) (s:SlV) (l:List DAcct) (f:List Nat) (h:LR rAcct V s l f) (n:ByteArray):CallX Tryz.prog V 246 [qv4 (s,()),.string n] (AxPost V n l):=by
 refine CallX.of_fits Tryz.mix (fI_AcctAt _ _) fun _=>?_
 simp only [tI_AcctAt,T.wp]
 intro b hb
 have leb:=kset_le (x:=([Value.string n],((9:TypeId),((0,0):Nat × Nat)))) hb
 have hv:kset V b ([Value.string n],((9:TypeId),((0,0):Nat × Nat))) b=some _:=kset_same
 revert leb hv
 generalize kset V b ([Value.string n],((9:TypeId),((0,0):Nat × Nat)))=V1
 intro leb hv
 have h1:=h.le leb
 have hn:=h.1
 have key:CallX Tryz.prog V1 253 [Sc.val .l s,.func (.func 254) #[] #[.pointer (some ⟨b,0,none⟩)]] (fun V' r=>V'=V1∧r=.int .i64 (atN n l)):=by
  refine CallX.of_fits Tryz.mix (fX_IndexFunc_Acct s (254,⟨b,0,none⟩)) fun _=>?_
  rw [tX_IndexFunc_Acct]
  refine findR_wp (p:=fun a=>a.1=n) h1 (fun i hi N hy hN=>?_) (fun i hi e hj=>⟨rfl,by rw [ax_yes hi e hj]; rfl⟩) (fun hno=>⟨rfl,by rw [ax_no hno]; rfl⟩)
  obtain⟨b1,o1,c1,fc,a1,l1,hR,_⟩:=h1.at hi
  have e0:(i:Int).toNat=i:=by omega
  simp only [T.wp]
  rw [e0]
  refine⟨_,a1,by omega,by omega,c1,l1,?_⟩
  have hc:CallX Tryz.prog V1 254 [qv8 c1,.pointer (some ⟨b,0,none⟩)] (fun V' r=>V'=V1∧r=.bool (l[i].1.toList == n.toList)):=by
   refine CallX.of_fits Tryz.mix (fI_AcctAt_1 c1 ⟨b,0,none⟩) fun _=>?_
   simp only [tI_AcctAt_1,T.wp]
   refine⟨n,?_,trivial,?_⟩
   ·simp only [loadV,Bool.false_eq_true,if_false,hv]
    rfl
   ·rw [acct_name hR]; rfl
  refine hc.mono ?_
  rintro V2 _ ⟨rfl,rfl⟩
  refine⟨nofun,_,rfl,fun he=>hy (text_eq.1 he),fun he=>⟨_,rfl,hN fun e=>?_⟩⟩
  have:=text_eq.2 e
  rw [this] at he; cases he
 refine key.mono ?_
 rintro V2 _ ⟨rfl,rfl⟩
 exact⟨nofun,_,rfl,leb,rfl⟩
theorem load_part {V:Know} {a:Addr} {m o n:Nat} {L l':List Value} (h:loadV V a m=some L) (hc:cutv L o n=some l'):loadV V (a.add o) n=some l':=by
 obtain⟨b,off,sp⟩:=a
 cases sp with
 | some _=>simp [loadV] at h
 | none =>
  simp only [addr_add_eq,loadV] at h ⊢
  cases hb:V b with
  | none=>rw [hb] at h; cases h
  | some y =>
   rw [hb] at h
   simp only at h ⊢
   unfold cutv at h hc ⊢
   split at h
   ·rename_i hle
    simp only [Option.some.injEq] at h
    subst h
    split at hc
    ·rename_i hle2
     simp only [Option.some.injEq] at hc
     simp only [List.length_take,List.length_drop] at hle2
     rw [if_pos (by omega)]
     simp only [Option.some.injEq]
     rw [← hc,List.drop_take,List.take_take,List.drop_drop]
     congr 1
     omega
    ·cases hc
   ·cases h
theorem setl_mon (c:Scs [.s,.s,.b,.l]) (z:Scs MonSh):Scs.vals [.s,.s,.b,.l] (c.1,z)=setl (Scs.vals [.s,.s,.b,.l] c) 1 (Scs.vals MonSh z):=rfl
theorem at_neg {n:ByteArray} {l:List DAcct}:(atN n l<0↔fnd n l=none):=by
 cases h:fnd n l with
 | none=>rw [atN_none h]; simp
 | some i=>rw [atN_some h]; simp
theorem at_some {n:ByteArray} {l:List DAcct} (h:¬ atN n l<0):∃ (i:Nat) (hi:i<l.length),fnd n l=some i∧atN n l=i∧l[i].1=n:=by
 cases hf:fnd n l with
 | none=>exact absurd (at_neg.2 hf) h
 | some i =>
  obtain⟨h1,h2⟩:=fnd_at hf
  exact⟨i,h1,rfl,atN_some hf,h2⟩
end Go.Proofs.YtceoihhldnnenaaGreatDoor
namespace Go.Proofs.YtceoihhldnnenaaGreatDoor
open Sx
set_option maxRecDepth 100000
theorem kS_l20Rates:ToC Tryz.prog 99 rRates:=by
 rintro V ⟨p0,s,cu⟩ ⟨q0,l,xu⟩ f hx ht
 obtain⟨⟨ep,zp⟩,hx⟩:=hx
 replace ep:p0=q0:=ep
 subst ep
 obtain⟨f1,fr1,ef,sc,hx⟩:=hx
 subst ef
 replace sc:LR rRate _ s l f1:=sc
 replace hx:_=[]:=hx
 subst hx
 replace ht:(p0.size+(l.length+totE rRate l+0))≤1048576:=ht
 have hn:=sc.1
 refine CallX.of_fits Tryz.mix (fS_l20Rates _) fun _=>?_
 show T.wp _ _ (T.lp [.o (.o (.i .i64)),.o (.o (.s)),.o (.o (.l))] [.v (.int .i64 (0:Int)),.v (.string p0),.v (.slice none 0 0)] fun y1=>.br (decide (y1.1<(s.n:Int))) (.el s.a s.n y1.1 fun y2=>.ld false (y2.add (Int.toNat y1.1*(5:Nat))) (.g [.s,.s,.b,.l,.i .i64]) fun y3=>.rg <| litT y3.2.2.2.1 fun s5 =>
  .rq ([Value.string y3.1,.string y3.2.1,.bool y3.2.2.1,.slice s5.a s5.n s5.c,.int .i64 y3.2.2.2.2.1].length=(1:Nat)*(5:Nat)) <| .rq (one [Value.string y3.1,.string y3.2.1,.bool y3.2.2.1,.slice s5.a s5.n s5.c,.int .i64 y3.2.2.2.2.1]=true) <|
  apD y1.2.2.1 5 72 [Value.string y3.1,.string y3.2.1,.bool y3.2.2.1,.slice s5.a s5.n s5.c,.int .i64 y3.2.2.2.2.1] 1 ratT fun y6=>.nx 0 [.v (.int .i64 (IntKind.i64.wrap (y1.1+(1:Int)))),.v (.string y1.2.1),.v (Sc.val .l y6)]) <| .ret [qv5 y1.2]) V V []
 simp only [T.wp]
 refine⟨fun y V'=>y.2.1=p0∧CopyI rRate ratT V l y.1 y.2.2.1 V',fun y _=>((l.length:Int)-(y.1:Int)).toNat,⟨((0:Int),p0,⟨none,0,0⟩,()),rfl,rfl,CopyI.start⟩,?_⟩
 rintro⟨(i:Int),p1,s1,u⟩ V' ⟨hp,hI⟩
 replace hp:p1=p0:=hp
 subst hp
 have hI':CopyI rRate ratT V l i s1 V':=hI
 refine⟨fun hlt=>?_,fun hge=>?_⟩
 ·have hI0:=hI'
  obtain⟨hle,k,f0,rfl,hk,_,_⟩:=hI'
  have h1:k<l.length:=by
   have:(k:Int)<(s.n:Int):=by simpa using hlt
   omega
  obtain⟨b1,o1,c1,fc,a1,l1,r1,_⟩:=(sc.le hle).at h1
  have htx:=totE_mem rRate h1
  refine⟨_,a1,(by omega:(0:Int)≤(k:Int)),(by omega:(k:Int)<(s.n:Int)),c1,l1,?_⟩
  obtain⟨c2,c3,c4,c5,c6,cv⟩:=c1
  obtain⟨⟨e0,z0⟩,r2⟩:=r1
  replace e0:c2=l[k].1:=e0
  obtain⟨⟨e1,z1⟩,r2⟩:=r2
  replace e1:c3=l[k].2.1:=e1
  obtain⟨e2,r2⟩:=r2
  replace e2:c4=l[k].2.2.1:=e2
  obtain⟨g,g2,_,hs,r2⟩:=r2
  replace hs:LR rI V' c5 l[k].2.2.2.1 g:=hs
  obtain⟨e4,_⟩:=r2
  replace e4:c6=l[k].2.2.2.2.1:=e4
  have tq:l[k].2.2.2.1.length≤1048576:=by
   have e:rRate.tot l[k]=l[k].1.size+(l[k].2.1.size+(l[k].2.2.2.1.length+totE rI l[k].2.2.2.1+0)):=rfl
   omega
  refine litT_wp hs tq fun V2 s' f2 hle2 L2 O2=>⟨rfl,rfl,?_⟩
  refine copy_end (sh:=[.s,.s,.b,.l,.i .i64]) (c:=(c2,c3,c4,s',c6,())) hI0 h1 hle2 (e:=rRate) (bytes:=72) (fx:=f2++[]) ⟨⟨e0,z0⟩,⟨e1,z1⟩,e2,f2,[],rfl,L2,e4,rfl⟩ (by simpa using O2) (by kernel_rfl) (by omega) (by omega) fun s' V3 h3=>?_
  refine⟨_,rfl,(((k+1:Nat):Int),p1,s',()),by rw [nxt h1 (by omega)]; rfl,⟨rfl,h3⟩,?_⟩
  show((l.length:Int)-((k+1:Nat):Int)).toNat<((l.length:Int)-(k:Int)).toNat
  omega
 ·have hi:¬ i<(l.length:Int):=by
   have:¬ i<(s.n:Int):=by simpa using hge
   omega
  obtain⟨hle,f3,hL,hO⟩:=hI'.fin (by omega) hi
  exact⟨hle,(p1,s1,()),f3++[],rfl,rStr.mk zp (rSl.mk hL rNil.mk),by simpa using hO⟩
end Go.Proofs.YtceoihhldnnenaaGreatDoor
namespace Go.Proofs.YtceoihhldnnenaaGreatDoor
open Sx
set_option maxRecDepth 100000
abbrev LedSh:List Sc:=[.l,.l,.s,.l]
abbrev zeroL:DLedger:=([],[],ByteArray.empty,[],())
abbrev zeroLC:Scs LedSh:=(⟨none,0,0⟩,⟨none,0,0⟩,ByteArray.empty,⟨none,0,0⟩,())
theorem lrNil {sh:List Sc} {α:Type} {r:Rp sh α} {V:Know}:LR r V ⟨none,0,0⟩ [] []:=⟨rfl,Nat.le_refl _,by decide,.inl ⟨rfl,fun _=>rfl,rfl⟩⟩
theorem zeroL_R (V:Know):rLedger.R V zeroLC zeroL []:=rSl.mk (f:=[]) lrNil (rSl.mk (f:=[]) lrNil (rStr.mk (by decide) (rSl.mk (f:=[]) lrNil rNil.mk)))
abbrev DoPost (V:Know) (y:DLedger × Int):Know→Value→Prop:=fun V' v=>V.le V'∧∃ c f,v=.tuple #[qv2 c,.int .i64 y.2]∧rLedger.R V' c y.1 f∧Own V V' f
theorem do_zero {V V':Know} (le:V.le V') (n:Int):DoPost V (zeroL,n) V' (packed [qv2 zeroLC,.int .i64 n]):=⟨le,zeroLC,[],rfl,zeroL_R V',Own.nil⟩
open Classical in
noncomputable def perfP (x:DLedger) (y:DLedger × Int):DLedger × Int:=if LedgerOkP x then y else (zeroL,1)
theorem perfP_ok {x:DLedger} {y:DLedger × Int} (h:LedgerOkP x):perfP x y=y:=if_pos h
theorem perfP_no {x:DLedger} {y:DLedger × Int} (h:¬ LedgerOkP x):perfP x y=(zeroL,1):=if_neg h
def tPerf (g:Nat) (o:Value) (x0:Scs LedSh):T :=
 .call false 103 [qv2 x0] (.v (.o .b)) fun y1 =>
 .br (!y1) (.ret [qv2 zeroLC,.int .i64 (1:Int)]) <|
 .rg <|
 .call false 104 [qv2 x0] (.v (.g [.l,.l,.s,.l])) fun y2 =>
 .call false g [o,qv2 y2] (.t [(.g [.l,.l,.s,.l]),(.o (.i .i64))]) fun y3 =>
 .br (y3.2.1 != (0:Int)) (.ret [qv2 zeroLC,.int .i64 y3.2.1]) <|
 .ret [qv2 y3.1,.int .i64 (0:Int)]
theorem perf_wp0 {V V0:Know} (hV:HcI V) {c:Scs LedSh} {x:DLedger} {f:List Nat} (h:rLedger.R V c x f) (ht:rLedger.tot x≤1048576) {g:Nat} {o:Value} {y:DLedger × Int}
  (hrun:LedgerOkP x→∀ V1 c1 f1,V.le V1→rLedger.R V1 c1 x f1→Own V V1 f1→CallX Tryz.prog V1 g [o,qv2 c1] (fun V2 v=>DoPost V y V2 v)) (hy:y.2≠0→y.1=zeroL) :
  (tPerf g o c).wp Tryz.prog (fun V' vs=>DoPost V (perfP x y) V' (packed vs)) V V0 []:=by
 simp only [tPerf,T.wp]
 refine(cI_LedgerOk hV c x f h).mono ?_
 rintro V1 _ ⟨le1,e1,rfl,he1⟩
 refine⟨nofun,e1,rfl,fun hf=>?_,fun h1=>?_⟩
 ·rw [perfP_no (fun k=>by rw [he1.2 k] at hf; cases hf)]
  exact do_zero le1 1
 have ok:=he1.1 (by simpa using h1)
 rw [perfP_ok ok]
 refine(kI_ledgerCopy V1 c x f (rLedger.le h le1) ht).mono ?_
 rintro V2 _ ⟨le2,c2,f2,rfl,R2,O2⟩
 have l2:=le1.trans le2
 refine⟨fun _=>le2,c2,rfl,(hrun ok V2 c2 f2 l2 R2 (O2.pre le1)).mono ?_⟩
 rintro V3 _ ⟨le3,c3,f3,rfl,R3,O3⟩
 refine⟨nofun,(c3,y.2,()),rfl,fun hne=>?_,fun he=>?_⟩
 ·have e:=hy (by simpa using hne)
  obtain⟨y1,y2⟩:=y
  replace e:y1=zeroL:=e
  subst e
  exact do_zero le3 y2
 ·have e:y.2=0:=by simpa using he
  obtain⟨y1,y2⟩:=y
  replace e:y2=0:=e
  subst e
  exact⟨le3,c3,f3,rfl,R3,O3⟩
theorem kS_l20CopyO (V:Know) (c:Scs LedSh) (x:DLedger) (f:List Nat) (h:rLedger.R V c x f) (ht:rLedger.tot x≤1048576) :
  CallX Tryz.prog V 48 [qv2 c] (fun V' v=>V.le V'∧∃ c' f',v=qv2 c'∧rLedger.R V' c' x f'∧∃ q0 q3,LR rAcct V' c'.1 x.1 q0∧Own V V' q0∧LR rRate V' c'.2.2.2.1 x.2.2.2.1 q3∧∀ b∈q0,b ∉ q3):=by
 obtain⟨c0,c1,c2,c3,cu⟩:=c
 obtain⟨x0,x1,x2,x3,xu⟩:=x
 obtain⟨f0,g0,_,h0,h⟩:=h
 obtain⟨f1,g1,_,h1,h⟩:=h
 obtain⟨⟨e2,z2⟩,h⟩:=h
 replace e2:c2=x2:=e2
 subst e2
 obtain⟨f3,g3,_,h3,_⟩:=h
 replace h0:LR rAcct V c0 x0 f0:=h0
 replace h1:LR rRest V c1 x1 f1:=h1
 replace h3:LR rRate V c3 x3 f3:=h3
 replace ht:(x0.length+totE rAcct x0+(x1.length+totE rRest x1+(c2.size+(x3.length+totE rRate x3+0))))≤1048576:=ht
 refine CallX.of_fits Tryz.mix (fS_l20Copy _) fun _=>?_
 simp only [tS_l20Copy,T.wp]
 refine(kS_l17Copy V (c0,()) (x0,()) _ (rSl.mk h0 rNil.mk) (by show(x0.length+totE rAcct x0+0)≤1048576; omega)).mono ?_
 rintro V1 _ ⟨le1,⟨d0,du⟩,k0,rfl,⟨a0,b0,ek,r0,hN⟩,O0⟩
 refine⟨fun _=>le1,(d0,()),rfl,?_⟩
 refine(kS_l19Copy V1 c1 x1 f1 (h1.le le1) (by omega)).mono ?_
 rintro V2 _ ⟨le2,d1,k1,rfl,r1,_⟩
 refine⟨fun _=>le2,d1,rfl,?_⟩
 refine(kS_l20Rates V2 (c2,c3,()) (c2,x3,()) _ (rStr.mk z2 (rSl.mk (h3.le (le1.trans le2)) rNil.mk)) (by show(c2.size+(x3.length+totE rRate x3+0))≤1048576; omega)).mono ?_
 rintro V3 _ ⟨le3,⟨d2,d3,dv⟩,k3,rfl,R3,O3⟩
 refine⟨fun _=>le3,(d2,d3,()),rfl,(le1.trans le2).trans le3,(d0,d1,d2,d3,()),a0++(k1++k3),rfl,?_,?_⟩
 ·exact rSl.mk (r:=rSl rRest (rStr (rSl rRate rNil))) (LR.le (show LR rAcct V1 d0 x0 a0 from r0) (le2.trans le3)) (rSl.mk (r:=rStr (rSl rRate rNil)) (r1.le le3) R3)
 ·replace hN:b0=[]:=hN
  subst hN
  rw [List.append_nil] at ek
  subst ek
  obtain⟨_,q3,q4,eq,r3,hN3⟩:=R3
  replace hN3:q4=[]:=hN3
  subst hN3
  rw [List.append_nil] at eq
  subst eq
  exact⟨k0,k3,LR.le (show LR rAcct V1 d0 x0 k0 from r0) (le2.trans le3),O0.post (le2.trans le3),r3,fun b hb hb3=>by
   obtain⟨u,t,k⟩:=O0.2.2 b hb
   have:=O3.2.1 b hb3
   rw [le2 _ _ k] at this; cases this⟩
abbrev DoS (V:Know) (y:DLedger × Int):Know→Value→Prop:=fun V' v=>V.le V'∧∃ c f,v=.tuple #[qv2 c,.int .i64 y.2]∧rLedger.R V' c y.1 f
theorem doS_zero {V V':Know} (le:V.le V') (n:Int):DoS V (zeroL,n) V' (packed [qv2 zeroLC,.int .i64 n]):=⟨le,zeroLC,[],rfl,zeroL_R V'⟩
end Go.Proofs.YtceoihhldnnenaaGreatDoor
