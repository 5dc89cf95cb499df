/-
  A row of a list that one owns is replaced, in whole or in part.
-/
import Derived.Test.YtfiakghfncempaaGreatDoorGrow
namespace Go.Proofs.YtfiakghfncempaaGreatDoor
open Sx
theorem setl_skip {x y vs:List Value} {n:Nat}:setl (x++y) (x.length+n) vs=x++setl y n vs:=by
 simp only [setl,Nat.add_assoc]
 rw [List.take_length_add_append,List.drop_length_add_append,List.append_assoc,List.append_assoc,List.append_assoc]
theorem setl_head {x y vs:List Value} {n:Nat} (h:n+vs.length≤x.length):setl (x++y) n vs=setl x n vs++y:=by
 simp only [setl]
 rw [List.take_append_of_le_length (by omega),List.drop_append_of_le_length h,List.append_assoc,List.append_assoc,List.append_assoc]
theorem setl_whole {x y:List Value} (h:y.length=x.length):y=setl x 0 y:=by
 simp only [setl,List.take_zero,List.nil_append,Nat.zero_add]
 rw [List.drop_of_length_le (by omega),List.append_nil]
section
variable {sh:List Sc} {α:Type}
theorem flat_set {c':Scs sh} {vs:List Value} {k:Nat}:∀ {cs:List (Scs sh)} {i:Nat} (hi:i<cs.length) (post:List Value),k+vs.length≤sh.length→Scs.vals sh c'=setl (Scs.vals sh cs[i]) k vs →
  setl (cs.flatMap (Scs.vals sh)++post) (i*sh.length+k) vs=(cs.set i c').flatMap (Scs.vals sh)++post
 | c :: cs,0,_,post,hk,e=>by
  have e:Scs.vals sh c'=setl (Scs.vals sh c) k vs:=e
  rw [List.flatMap_cons,List.set_cons_zero,List.flatMap_cons,Nat.zero_mul,Nat.zero_add,List.append_assoc,setl_head (by rw [vals_len]; exact hk),← e,List.append_assoc]
 | c :: cs,i+1,hi,post,hk,e=>by
  have e2:(i+1)*sh.length+k=(Scs.vals sh c).length+(i*sh.length+k):=by rw [vals_len,Nat.add_mul]; omega
  rw [List.flatMap_cons,List.append_assoc,e2,setl_skip,flat_set (cs:=cs) (by simpa using hi) post hk e,List.set_cons_succ,List.flatMap_cons,List.append_assoc]
theorem Els.set {r:Rp sh α} {V:Know} {c':Scs sh} {x':α} {fx:List Nat} (hx:r.R V c' x' fx) (nx:fx.Nodup):∀ {cs:List (Scs sh)} {l:List α} {fp:List Nat} {i:Nat},Els r V cs l fp→fp.Nodup→(∀ b∈fx,b ∉ fp)→i<l.length →
  ∃ fp',Els r V (cs.set i c') (l.set i x') fp'∧fp'.Nodup∧∀ b∈fp',b∈fp∨b∈fx
 | c :: cs,x :: l,_,0,⟨f,g,rfl,h1,h2⟩,nd,dj,_=>by
  have n2:=(List.nodup_append.1 nd).2.1
  refine⟨fx++g,⟨fx,g,rfl,hx,h2⟩,List.nodup_append.2 ⟨nx,n2,fun a ha b hb e=>dj a ha (by subst e; simp [hb])⟩,fun b hb=>?_⟩
  rcases List.mem_append.1 hb with h | h
  ·exact .inr h
  ·exact .inl (by simp [h])
 | c :: cs,x :: l,_,i+1,⟨f,g,rfl,h1,h2⟩,nd,dj,hi=>by
  obtain⟨n1,n2,n3⟩:=List.nodup_append.1 nd
  obtain⟨g',k1,k2,k3⟩:=Els.set hx nx (i:=i) h2 n2 (fun b hb hg=>dj b hb (by simp [hg])) (by simpa using hi)
  refine⟨f++g',⟨f,g',rfl,h1,k1⟩,List.nodup_append.2 ⟨n1,k2,fun a ha b hb e=>?_⟩,fun b hb=>?_⟩
  ·subst e
   rcases k3 a hb with h | h
   ·exact n3 a ha a h rfl
   ·exact dj a h (by simp [ha])
  ·rcases List.mem_append.1 hb with h | h
   ·exact .inl (by simp [h])
   ·rcases k3 b h with h | h
    ·exact .inl (by simp [h])
    ·exact .inr h
 | [],[],_,_,_,_,_,h=>by simp at h
 | [],_ :: _,_,_,h,_,_,_=>h.elim
 | _ :: _,[],_,_,h,_,_,_=>h.elim
theorem Own.perm {V V':Know} {f g:List Nat} (h:Own V V' f) (p:g.Perm f):Own V V' g:=⟨p.nodup_iff.2 h.1,fun b hb=>h.2.1 b (p.mem_iff.1 hb),fun b hb=>h.2.2 b (p.mem_iff.1 hb)⟩
theorem Own.sub {V V':Know} {f g:List Nat} (h:Own V V' f) (s:g.Sublist f):Own V V' g:=⟨h.1.sublist s,fun b hb=>h.2.1 b (s.subset hb),fun b hb=>h.2.2 b (s.subset hb)⟩
theorem LR.putRow {r:Rp sh α} {V0 V:Know} {s:SlV} {l:List α} {f:List Nat} (h:LR r V s l f) (hO:Own V0 V f) {i:Nat} (hi:i<l.length) :
  ∃ b o cs u c fc,s.a=some ⟨b,o,none⟩∧V b=some (cs,(u,(0,0)))∧o+i*sh.length+sh.length≤cs.length∧loadV V ((⟨b,o,none⟩:Addr).add (i*sh.length)) sh.length=some (Scs.vals sh c)∧r.R V c l[i] fc∧(∀ y∈fc,y∈f) ∧
   ∀ {V2:Know} {c':Scs sh} {x':α} {fx:List Nat} {k:Nat} {vs:List Value},V.le V2→V0.le V2→r.R V2 c' x' fx→Own V0 V2 (f++fx)→k+vs.length≤sh.length→Scs.vals sh c'=setl (Scs.vals sh c) k vs →
    ∃ f',LR r (kset V2 b (setl cs (o+i*sh.length+k) vs,(u,(0,0)))) s (l.set i x') f'∧Own V0 (kset V2 b (setl cs (o+i*sh.length+k) vs,(u,(0,0)))) f'∧V0.le (kset V2 b (setl cs (o+i*sh.length+k) vs,(u,(0,0))))∧b∈f∧∀ y∈f',y∈f∨y∈fx:=by
 have h0:=h
 obtain⟨h1,h2,h3,h4⟩:=h
 rcases h4 with ⟨z,_,_⟩ | ⟨b,pre,post,t,fps,cs,ha,hb,he,rfl⟩
 ·omega
 obtain⟨cw,tw,hw⟩:=hO.2.2 b (by simp)
 obtain rfl:t=(tw,(0,0)):=by
  rw [hb] at hw
  simp only [Option.some.injEq,Prod.mk.injEq] at hw
  exact hw.2
 have hcl:=he.len
 have hi2:i<cs.length:=by omega
 obtain⟨hi3,fc,g1,g2⟩:=he.at hi
 have hfl:(cs.flatMap (Scs.vals sh)).length=cs.length*sh.length:=flat_len cs
 have hmul:i*sh.length+sh.length≤cs.length*sh.length:=by
  have:=Nat.mul_le_mul_right sh.length (show i+1≤cs.length by omega)
  rw [Nat.add_mul,Nat.one_mul] at this
  exact this
 refine⟨b,pre.length,_,tw,cs[i],fc,ha,hb,?_,?_,g1,fun y hy=>by simp [g2 y hy],?_⟩
 ·simp only [List.length_append]; omega
 ·simp only [addr_add_eq,loadV,hb]
  rw [cutv_skip]
  exact cutv_flat (vals_len sh) hi2 post
 intro V2 c' x' fx k vs hle hle0 hx hO2 hk hc
 have e1:setl (pre++(cs.flatMap (Scs.vals sh)++post)) (pre.length+i*sh.length+k) vs=pre++((cs.set i c').flatMap (Scs.vals sh)++post):=by
  rw [Nat.add_assoc,setl_skip,flat_set hi2 post hk hc]
 rw [e1]
 obtain⟨n1,n2,n3⟩:=List.nodup_append.1 hO2.1
 have nb:b ∉ fps:=(List.nodup_cons.1 n1).1
 have nbx:b ∉ fx:=fun hm=>n3 b (by simp) b hm rfl
 have hoff:∀ (y:List Value × KTy) (g:List Nat),b ∉ g→∀ b'∈g,kset V2 b y b'=V2 b':=fun y g hg b' hb'=>by
  simp only [kset]; rw [if_neg (fun e:b'=b=>hg (by rw [← e]; exact hb'))]
 obtain⟨fp',k1,k2,k3⟩:=Els.set ((r.loc hx (hoff (pre++((cs.set i c').flatMap (Scs.vals sh)++post),(tw,(0,0))) fx nbx))) n2 (i:=i) ((he.le hle).loc (hoff _ fps nb)) (List.nodup_cons.1 n1).2 (fun y hy hm=>n3 y (by simp [hm]) y hy rfl) hi
 have nb':b ∉ fp':=fun hm=>by
  rcases k3 b hm with h | h
  ·exact nb h
  ·exact nbx h
 have hin:∀ y∈fp',y∈(b :: fps)++fx:=fun y hy=>by
  rcases k3 y hy with h | h
  ·simp [h]
  ·simp [h]
 refine⟨b :: fp',⟨by rw [List.length_set]; exact h1,h2,h3,.inr ⟨b,pre,post,_,fp',cs.set i c',ha,kset_same,k1,rfl⟩⟩,⟨List.nodup_cons.2 ⟨nb',k2⟩,fun y hy=>?_,fun y hy=>?_⟩,fun y z hy=>?_,by simp,fun y hy=>?_⟩
 ·rcases List.mem_cons.1 hy with rfl | hy
  ·exact hO2.2.1 y (by simp)
  ·exact hO2.2.1 y (hin y hy)
 ·rcases List.mem_cons.1 hy with rfl | hy
  ·exact⟨_,_,kset_same⟩
  ·obtain⟨u,v,huv⟩:=hO2.2.2 y (hin y hy)
   exact⟨u,v,by rw [kset_other (fun e=>nb' (by rw [← e]; exact hy))]; exact huv⟩
 ·have hne:y≠b:=fun e=>by
   subst e
   rw [hO2.2.1 y (by simp)] at hy; cases hy
  rw [kset_other hne]; exact hle0 y z hy
 ·rcases List.mem_cons.1 hy with rfl | hy
  ·exact .inl (by simp)
  ·rcases k3 y hy with h | h
   ·exact .inl (by simp [h])
   ·exact .inr h
end
end Go.Proofs.YtfiakghfncempaaGreatDoor
