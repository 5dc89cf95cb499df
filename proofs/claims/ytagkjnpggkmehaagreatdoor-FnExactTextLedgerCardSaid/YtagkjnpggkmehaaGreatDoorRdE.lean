/-
  Fractions read from their texts, in the program and in the reference.
-/
import Derived.Test.YtagkjnpggkmehaaGreatDoorMath
import Derived.Test.YtagkjnpggkmehaaGreatDoorRdD
import Derived.Test.YtagkjnpggkmehaaGreatDoorTxtD
namespace Go.Proofs.YtagkjnpggkmehaaGreatDoor
open Sx
def apD (s:SlV) (sz bytes:Nat) (ys:List Value) (m:Nat) (t:TypeId) (k:SlV→T):T:=.ap s sz bytes ys m t k
theorem ap_d (s:SlV) (sz bytes:Nat) (ys:List Value) (m:Nat) (t:TypeId) (k:SlV→T):T.ap s sz bytes ys m t k=apD s sz bytes ys m t k:=rfl
section
variable {sh:List Sc} {α:Type}
def GR (r:Rp sh α) (t:TypeId) (V:Know) (s:SlV) (l:List α) (f:List Nat):Prop :=
 s.n=l.length∧s.n≤s.c∧((s.a=none∧s.c=0∧l=[]∧f=[]) ∨
  ∃ b fps cs post,s.a=some ⟨b,0,none⟩∧V b=some (cs.flatMap (Scs.vals sh)++post,(t,(0,0)))∧post.length=(s.c-s.n)*sh.length∧Els r V cs l fps∧f=b :: fps)
theorem GR.nil {r:Rp sh α} {t:TypeId} {V:Know}:GR r t V ⟨none,0,0⟩ [] []:=⟨rfl,Nat.le_refl _,.inl ⟨rfl,rfl,rfl,rfl⟩⟩
theorem GR.lr {r:Rp sh α} {t:TypeId} {V:Know} {s:SlV} {l:List α} {f:List Nat} (h:GR r t V s l f) (hn:l.length≤9223372036854775807):LR r V s l f:=by
 obtain⟨h1,h2,h3⟩:=h
 refine⟨h1,h2,by omega,?_⟩
 rcases h3 with ⟨ha,hc,rfl,rfl⟩ | ⟨b,fps,cs,post,ha,hb,hp,he,rfl⟩
 ·exact .inl ⟨h1,fun _=>hc,rfl⟩
 ·exact .inr ⟨b,[],post,_,fps,cs,ha,hb,he,rfl⟩
theorem GR.loc {r:Rp sh α} {t:TypeId} {V V':Know} {s:SlV} {l:List α} {f:List Nat} (h:GR r t V s l f) (hb:∀ b∈f,V' b=V b):GR r t V' s l f:=by
 obtain⟨h1,h2,h3⟩:=h
 refine⟨h1,h2,?_⟩
 rcases h3 with h3 | ⟨b,fps,cs,post,ha,hv,hp,he,rfl⟩
 ·exact .inl h3
 ·exact .inr ⟨b,fps,cs,post,ha,by rw [hb b (by simp),hv],hp,he.loc fun x hx=>hb x (by simp [hx]),rfl⟩
theorem GR.le {r:Rp sh α} {t:TypeId} {V V':Know} {s:SlV} {l:List α} {f:List Nat} (h:GR r t V s l f) (hle:V.le V'):GR r t V' s l f:=by
 obtain⟨h1,h2,h3⟩:=h
 refine⟨h1,h2,?_⟩
 rcases h3 with h3 | ⟨b,fps,cs,post,ha,hb,hp,he,rfl⟩
 ·exact .inl h3
 ·exact .inr ⟨b,fps,cs,post,ha,hle _ _ hb,hp,he.le hle,rfl⟩
theorem ap_row {P:Program} {r:Rp sh α} {t:TypeId} {V0 V Vd:Know} {s:SlV} {l:List α} {f fx:List Nat} {c:Scs sh} {x:α} {bytes:Nat} {k:SlV→T} {K:Know→List Value→Prop} {Ns:List (List LV→Know→Prop)}
  (h:GR r t V s l f) (hx:r.R V c x fx) (hO:Own V0 V (f++fx)) (hle:V0.le V) (hP:P.cellsOf t=sh.length)
  (hb:(l.length+1)*bytes≤140737488355328) (hl:l.length+1≤9223372036854775807)
  (hk:∀ s' V' f',GR r t V' s' (l++[x]) f'→Own V0 V' f'→V0.le V'→(k s').wp P K V' Vd Ns) :
  (T.ap s sh.length bytes (Scs.vals sh c) 1 t k).wp P K V Vd Ns:=by
 obtain⟨h1,h2,h3⟩:=h
 simp only [T.wp]
 refine⟨h2,fun ha=>?_,fun h=>absurd h (by decide),fun _ hroom=>?_,fun _ hroom=>⟨by rw [h1]; exact hb,by rw [h1]; exact hl,?_⟩⟩
 ·rcases h3 with ⟨_,hc,_⟩ | ⟨b,fps,cs,post,ha',_⟩
  ·exact hc
  ·rw [ha] at ha'; cases ha'
 ·rcases h3 with ⟨_,hc,_⟩ | ⟨b,fps,cs,post,ha,hbk,hp,he,rfl⟩
  ·omega
  have hcl:cs.length=l.length:=he.len
  have hfl:(cs.flatMap (Scs.vals sh)).length=s.n*sh.length:=by rw [flat_len,hcl,h1]
  have hpl:sh.length≤post.length:=by
   rw [hp]; exact Nat.le_mul_of_pos_left _ (by omega)
  have hset:setl (cs.flatMap (Scs.vals sh)++post) (s.n*sh.length) (Scs.vals sh c)=(cs++[c]).flatMap (Scs.vals sh)++post.drop sh.length:=by
   rw [setl_mid hfl.symm (by rw [vals_len]; exact hpl),vals_len]
   simp
  have hnd:b ∉ fps∧b ∉ fx:=by
   have:=hO.1
   simp only [List.cons_append,List.nodup_cons,List.mem_append,not_or] at this
   exact this.1
  have hoff:∀ (y:List Value × KTy) (g:List Nat),b ∉ g→∀ b'∈g,kset V b y b'=V b':=fun y g hg b' hb'=>by
   simp only [kset]; rw [if_neg (fun e:b'=b=>hg (by rw [← e]; exact hb'))]
  refine⟨b,_,ha,hbk,?_,?_⟩
  ·rw [List.length_append,hfl,hp,← Nat.add_mul]
   exact Nat.mul_le_mul_right _ (by omega)
  ·rw [hset]
   refine hk _ _ (b :: (fps++fx)) ⟨by simp [h1],by show s.n+1≤s.c; omega,.inr ⟨b,fps++fx,cs++[c],post.drop sh.length,ha,kset_same,?_,?_,rfl⟩⟩ ⟨by simpa using hO.1,by simpa using hO.2.1,?_⟩ ?_
   ·rw [List.length_drop,hp,← Nat.sub_one_mul]
    congr 1
   ·exact(he.loc (hoff _ _ hnd.1)).snoc (r.loc hx (hoff _ _ hnd.2))
   ·intro b' hb'
    rcases List.mem_cons.1 hb' with rfl | hb'
    ·exact⟨_,_,kset_same⟩
    ·have hne:b'≠b:=fun e=>by
      rw [e] at hb'
      rcases List.mem_append.1 hb' with h | h
      ·exact hnd.1 h
      ·exact hnd.2 h
     obtain⟨u,v,huv⟩:=hO.2.2 b' (by simp only [List.cons_append,List.mem_cons]; exact .inr hb')
     exact⟨u,v,by simp only [kset]; rw [if_neg hne]; exact huv⟩
   ·intro b' y hy
    have hne:b'≠b:=fun e=>by
     subst e
     have:=hO.2.1 b' (by simp)
     rw [this] at hy; cases hy
    simp only [kset]; rw [if_neg hne]; exact hle b' y hy
 ·have hgo:∀ (cs:List (Scs sh)) (fps:List Nat),Els r V cs l fps→(∀ b∈fps,b∈f)→fps.Nodup→(∀ b∈fps,b ∉ fx) →
    ∀ b cap spare,V b=none→s.n+1≤cap→spare.length=(cap-(s.n+1))*P.cellsOf t →
    (k ⟨some ⟨b,0,none⟩,s.n+1,cap⟩).wp P K (kset V b ((cs.flatMap (Scs.vals sh)++Scs.vals sh c)++spare,(t,(0,0)))) Vd Ns:=by
   intro cs fps he hsub hnd hdis b cap spare hbn hcap hsp
   have hV:=kset_le (x:=((cs.flatMap (Scs.vals sh)++Scs.vals sh c)++spare,(t,(0,0)))) hbn
   have hin:∀ b'∈fps++fx,b'∈f++fx:=fun b' hb'=>by
    rcases List.mem_append.1 hb' with h | h
    ·exact List.mem_append.2 (.inl (hsub b' h))
    ·exact List.mem_append.2 (.inr h)
   have hn:b ∉ fps++fx:=fun hm=>by
    obtain⟨u,v,huv⟩:=hO.2.2 b (hin b hm)
    rw [hbn] at huv; cases huv
   refine hk _ _ (b :: (fps++fx)) ⟨by simp [h1],hcap,.inr ⟨b,fps++fx,cs++[c],spare,rfl,?_,by rw [hsp,hP],(he.le hV).snoc (r.le hx hV),rfl⟩⟩ ⟨List.nodup_cons.2 ⟨hn,?_⟩,fun b' hb'=>?_,fun b' hb'=>?_⟩ (hle.trans hV)
   ·rw [kset_same]; simp
   ·have:=List.nodup_append.1 hO.1
    exact List.nodup_append.2 ⟨hnd,this.2.1,fun a ha b hb e=>hdis a ha (e ▸ hb)⟩
   ·rcases List.mem_cons.1 hb' with rfl | hb'
    ·exact none_of_le hle hbn
    ·exact hO.2.1 b' (hin b' hb')
   ·rcases List.mem_cons.1 hb' with rfl | hb'
    ·exact⟨_,_,kset_same⟩
    ·obtain⟨u,v,huv⟩:=hO.2.2 b' (hin b' hb')
     exact⟨u,v,hV _ _ huv⟩
  rcases h3 with ⟨ha,hc,rfl,rfl⟩ | ⟨b,fps,cs,post,ha,hbk,hp,he,rfl⟩
  ·exact⟨[],.inl ⟨ha,h1,hc,rfl⟩,rfl,fun b cap spare hb hcap hsp=>by
    have:=hgo [] [] rfl (fun _ h=>by cases h) List.nodup_nil (fun _ h=>by cases h) b cap spare hb hcap hsp
    simpa using this⟩
  ·have hcl:cs.length=l.length:=he.len
   have hfl:(cs.flatMap (Scs.vals sh)).length=s.n*sh.length:=by rw [flat_len,hcl,h1]
   have hnt:∀ cs:List (Scs sh),noTup (cs.flatMap (Scs.vals sh))=true:=fun cs=>by
    induction cs with
    | nil=>rfl
    | cons c cs ih =>
     have hv:=vals_noTup sh c
     unfold noTup at ih hv ⊢
     rw [List.flatMap_cons,List.all_append,hv,ih]; rfl
   refine⟨_,.inr ⟨⟨b,0,none⟩,ha,?_⟩,hnt cs,hgo cs fps he (fun b' hb'=>by simp [hb']) ?_ ?_⟩
   ·simp only [loadV,hbk]
    rw [← hfl]; exact cutv_head
   ·have:=List.nodup_append.1 hO.1
    exact(List.nodup_cons.1 this.1).2
   ·have:=List.nodup_append.1 hO.1
    exact fun b' hb' hx'=>this.2.2 b' (by simp [hb']) b' hx' rfl
def CopyI (e:Rp sh α) (t:TypeId) (V0:Know) (l:List α) (i:Int) (s:SlV) (V:Know):Prop :=
 V0.le V∧∃ (k:Nat) (f:List Nat),i=(k:Int)∧k≤l.length∧GR e t V s (l.take k) f∧Own V0 V f
theorem CopyI.start {e:Rp sh α} {t:TypeId} {V:Know} {l:List α}:CopyI e t V l 0 ⟨none,0,0⟩ V:=⟨Know.le.refl _,0,[],rfl,Nat.zero_le _,by simpa using GR.nil,Own.nil⟩
theorem CopyI.start_made {e:Rp sh α} {t:TypeId} {V0 V:Know} {l:List α} {b cap:Nat} {spare:List Value} (hle:V0.le V) (hb:V b=none) (hs:spare.length=cap*sh.length) :
  CopyI e t V0 l 0 ⟨some ⟨b,0,none⟩,0,cap⟩ (kset V b ([]++spare,(t,(0,0)))):=by
 have hV:=kset_le (x:=([]++spare,(t,(0,0)))) hb
 refine⟨hle.trans hV,0,[b],rfl,Nat.zero_le _,⟨by simp,Nat.zero_le _,.inr ⟨b,[],[],spare,rfl,by rw [kset_same]; simp,by simpa using hs,by simp [Els],rfl⟩⟩,⟨by simp,fun b' hb'=>?_,fun b' hb'=>?_⟩⟩
 ·obtain rfl:b'=b:=by simpa using hb'
  exact none_of_le hle hb
 ·obtain rfl:b'=b:=by simpa using hb'
  exact⟨_,_,kset_same⟩
theorem copy_end {P:Program} {e:Rp sh α} {t:TypeId} {V0 V V2 Vd:Know} {l:List α} {k:Nat} {s:SlV} {c:Scs sh} {fx:List Nat} {bytes:Nat} {kk:SlV→T} {K:Know→List Value→Prop} {Ns:List (List LV→Know→Prop)}
  (h:CopyI e t V0 l (k:Int) s V) (hk:k<l.length) (hle2:V.le V2) (hR:e.R V2 c l[k] fx) (hO:Own V V2 fx) (hP:P.cellsOf t=sh.length)
  (hb:l.length*bytes≤140737488355328) (hl:l.length≤9223372036854775807)
  (hn:∀ s' V3,CopyI e t V0 l ((k+1:Nat):Int) s' V3→(kk s').wp P K V3 Vd Ns) :
  (T.ap s sh.length bytes (Scs.vals sh c) 1 t kk).wp P K V2 Vd Ns:=by
 obtain⟨h1,k',f,he,_,hg,ho⟩:=h
 obtain rfl:k=k':=by omega
 have hlen:(l.take k).length=k:=by simp; omega
 refine ap_row (hg.le hle2) hR (ho.append hO h1 hle2) (h1.trans hle2) hP ?_ (by omega) fun s' V' f' hg' ho' hle'=>hn s' V' ⟨hle',k+1,f',rfl,hk,?_,ho'⟩
 ·rw [hlen]
  exact Nat.le_trans (Nat.mul_le_mul_right _ hk) hb
 ·rw [List.take_succ_eq_append_getElem hk]; exact hg'
theorem CopyI.fin {e:Rp sh α} {t:TypeId} {V0 V:Know} {l:List α} {i:Int} {s:SlV} (h:CopyI e t V0 l i s V) (hl:l.length≤9223372036854775807) (hi:¬ i<(l.length:Int)) :
  V0.le V∧∃ f,LR e V s l f∧Own V0 V f:=by
 obtain⟨h1,k,f,rfl,hk,hg,ho⟩:=h
 obtain rfl:k=l.length:=by omega
 rw [List.take_length] at hg
 exact⟨h1,f,hg.lr hl,ho⟩
theorem CopyI.finG {e:Rp sh α} {t:TypeId} {V0 V:Know} {l:List α} {i:Int} {s:SlV} (h:CopyI e t V0 l i s V) (hi:¬ i<(l.length:Int)) :
  V0.le V∧∃ f,GR e t V s l f∧Own V0 V f:=by
 obtain⟨h1,k,f,rfl,hk,hg,ho⟩:=h
 obtain rfl:k=l.length:=by omega
 rw [List.take_length] at hg
 exact⟨h1,f,hg,ho⟩
end
end Go.Proofs.YtagkjnpggkmehaaGreatDoor
namespace Go.Proofs.YtagkjnpggkmehaaGreatDoor
open Sx
theorem setl_skip {x y vs:List Value} {n:Nat}:setl (x++y) (x.length+n) vs=x++setl y n vs:=by
 simp only [setl,Nat.add_assoc]
 rw [List.take_length_add_append,List.drop_length_add_append,List.append_assoc,List.append_assoc,List.append_assoc]
theorem setl_head {x y vs:List Value} {n:Nat} (h:n+vs.length≤x.length):setl (x++y) n vs=setl x n vs++y:=by
 simp only [setl]
 rw [List.take_append_of_le_length (by omega),List.drop_append_of_le_length h,List.append_assoc,List.append_assoc,List.append_assoc]
theorem setl_whole {x y:List Value} (h:y.length=x.length):y=setl x 0 y:=by
 simp only [setl,List.take_zero,List.nil_append,Nat.zero_add]
 rw [List.drop_of_length_le (by omega),List.append_nil]
section
variable {sh:List Sc} {α:Type}
theorem flat_set {c':Scs sh} {vs:List Value} {k:Nat}:∀ {cs:List (Scs sh)} {i:Nat} (hi:i<cs.length) (post:List Value),k+vs.length≤sh.length→Scs.vals sh c'=setl (Scs.vals sh cs[i]) k vs →
  setl (cs.flatMap (Scs.vals sh)++post) (i*sh.length+k) vs=(cs.set i c').flatMap (Scs.vals sh)++post
 | c :: cs,0,_,post,hk,e=>by
  have e:Scs.vals sh c'=setl (Scs.vals sh c) k vs:=e
  rw [List.flatMap_cons,List.set_cons_zero,List.flatMap_cons,Nat.zero_mul,Nat.zero_add,List.append_assoc,setl_head (by rw [vals_len]; exact hk),← e,List.append_assoc]
 | c :: cs,i+1,hi,post,hk,e=>by
  have e2:(i+1)*sh.length+k=(Scs.vals sh c).length+(i*sh.length+k):=by rw [vals_len,Nat.add_mul]; omega
  rw [List.flatMap_cons,List.append_assoc,e2,setl_skip,flat_set (cs:=cs) (by simpa using hi) post hk e,List.set_cons_succ,List.flatMap_cons,List.append_assoc]
theorem Els.set {r:Rp sh α} {V:Know} {c':Scs sh} {x':α} {fx:List Nat} (hx:r.R V c' x' fx) (nx:fx.Nodup):∀ {cs:List (Scs sh)} {l:List α} {fp:List Nat} {i:Nat},Els r V cs l fp→fp.Nodup→(∀ b∈fx,b ∉ fp)→i<l.length →
  ∃ fp',Els r V (cs.set i c') (l.set i x') fp'∧fp'.Nodup∧∀ b∈fp',b∈fp∨b∈fx
 | c :: cs,x :: l,_,0,⟨f,g,rfl,h1,h2⟩,nd,dj,_=>by
  have n2:=(List.nodup_append.1 nd).2.1
  refine⟨fx++g,⟨fx,g,rfl,hx,h2⟩,List.nodup_append.2 ⟨nx,n2,fun a ha b hb e=>dj a ha (by subst e; simp [hb])⟩,fun b hb=>?_⟩
  rcases List.mem_append.1 hb with h | h
  ·exact .inr h
  ·exact .inl (by simp [h])
 | c :: cs,x :: l,_,i+1,⟨f,g,rfl,h1,h2⟩,nd,dj,hi=>by
  obtain⟨n1,n2,n3⟩:=List.nodup_append.1 nd
  obtain⟨g',k1,k2,k3⟩:=Els.set hx nx (i:=i) h2 n2 (fun b hb hg=>dj b hb (by simp [hg])) (by simpa using hi)
  refine⟨f++g',⟨f,g',rfl,h1,k1⟩,List.nodup_append.2 ⟨n1,k2,fun a ha b hb e=>?_⟩,fun b hb=>?_⟩
  ·subst e
   rcases k3 a hb with h | h
   ·exact n3 a ha a h rfl
   ·exact dj a h (by simp [ha])
  ·rcases List.mem_append.1 hb with h | h
   ·exact .inl (by simp [h])
   ·rcases k3 b h with h | h
    ·exact .inl (by simp [h])
    ·exact .inr h
 | [],[],_,_,_,_,_,h=>by simp at h
 | [],_ :: _,_,_,h,_,_,_=>h.elim
 | _ :: _,[],_,_,h,_,_,_=>h.elim
theorem Own.perm {V V':Know} {f g:List Nat} (h:Own V V' f) (p:g.Perm f):Own V V' g:=⟨p.nodup_iff.2 h.1,fun b hb=>h.2.1 b (p.mem_iff.1 hb),fun b hb=>h.2.2 b (p.mem_iff.1 hb)⟩
theorem Own.sub {V V':Know} {f g:List Nat} (h:Own V V' f) (s:g.Sublist f):Own V V' g:=⟨h.1.sublist s,fun b hb=>h.2.1 b (s.subset hb),fun b hb=>h.2.2 b (s.subset hb)⟩
theorem LR.putRow {r:Rp sh α} {V0 V:Know} {s:SlV} {l:List α} {f:List Nat} (h:LR r V s l f) (hO:Own V0 V f) {i:Nat} (hi:i<l.length) :
  ∃ b o cs u c fc,s.a=some ⟨b,o,none⟩∧V b=some (cs,(u,(0,0)))∧o+i*sh.length+sh.length≤cs.length∧loadV V ((⟨b,o,none⟩:Addr).add (i*sh.length)) sh.length=some (Scs.vals sh c)∧r.R V c l[i] fc∧(∀ y∈fc,y∈f) ∧
   ∀ {V2:Know} {c':Scs sh} {x':α} {fx:List Nat} {k:Nat} {vs:List Value},V.le V2→V0.le V2→r.R V2 c' x' fx→Own V0 V2 (f++fx)→k+vs.length≤sh.length→Scs.vals sh c'=setl (Scs.vals sh c) k vs →
    ∃ f',LR r (kset V2 b (setl cs (o+i*sh.length+k) vs,(u,(0,0)))) s (l.set i x') f'∧Own V0 (kset V2 b (setl cs (o+i*sh.length+k) vs,(u,(0,0)))) f'∧V0.le (kset V2 b (setl cs (o+i*sh.length+k) vs,(u,(0,0))))∧b∈f∧∀ y∈f',y∈f∨y∈fx:=by
 have h0:=h
 obtain⟨h1,h2,h3,h4⟩:=h
 rcases h4 with ⟨z,_,_⟩ | ⟨b,pre,post,t,fps,cs,ha,hb,he,rfl⟩
 ·omega
 obtain⟨cw,tw,hw⟩:=hO.2.2 b (by simp)
 obtain rfl:t=(tw,(0,0)):=by
  rw [hb] at hw
  simp only [Option.some.injEq,Prod.mk.injEq] at hw
  exact hw.2
 have hcl:=he.len
 have hi2:i<cs.length:=by omega
 obtain⟨hi3,fc,g1,g2⟩:=he.at hi
 have hfl:(cs.flatMap (Scs.vals sh)).length=cs.length*sh.length:=flat_len cs
 have hmul:i*sh.length+sh.length≤cs.length*sh.length:=by
  have:=Nat.mul_le_mul_right sh.length (show i+1≤cs.length by omega)
  rw [Nat.add_mul,Nat.one_mul] at this
  exact this
 refine⟨b,pre.length,_,tw,cs[i],fc,ha,hb,?_,?_,g1,fun y hy=>by simp [g2 y hy],?_⟩
 ·simp only [List.length_append]; omega
 ·simp only [addr_add_eq,loadV,hb]
  rw [cutv_skip]
  exact cutv_flat (vals_len sh) hi2 post
 intro V2 c' x' fx k vs hle hle0 hx hO2 hk hc
 have e1:setl (pre++(cs.flatMap (Scs.vals sh)++post)) (pre.length+i*sh.length+k) vs=pre++((cs.set i c').flatMap (Scs.vals sh)++post):=by
  rw [Nat.add_assoc,setl_skip,flat_set hi2 post hk hc]
 rw [e1]
 obtain⟨n1,n2,n3⟩:=List.nodup_append.1 hO2.1
 have nb:b ∉ fps:=(List.nodup_cons.1 n1).1
 have nbx:b ∉ fx:=fun hm=>n3 b (by simp) b hm rfl
 have hoff:∀ (y:List Value × KTy) (g:List Nat),b ∉ g→∀ b'∈g,kset V2 b y b'=V2 b':=fun y g hg b' hb'=>by
  simp only [kset]; rw [if_neg (fun e:b'=b=>hg (by rw [← e]; exact hb'))]
 obtain⟨fp',k1,k2,k3⟩:=Els.set ((r.loc hx (hoff (pre++((cs.set i c').flatMap (Scs.vals sh)++post),(tw,(0,0))) fx nbx))) n2 (i:=i) ((he.le hle).loc (hoff _ fps nb)) (List.nodup_cons.1 n1).2 (fun y hy hm=>n3 y (by simp [hm]) y hy rfl) hi
 have nb':b ∉ fp':=fun hm=>by
  rcases k3 b hm with h | h
  ·exact nb h
  ·exact nbx h
 have hin:∀ y∈fp',y∈(b :: fps)++fx:=fun y hy=>by
  rcases k3 y hy with h | h
  ·simp [h]
  ·simp [h]
 refine⟨b :: fp',⟨by rw [List.length_set]; exact h1,h2,h3,.inr ⟨b,pre,post,_,fp',cs.set i c',ha,kset_same,k1,rfl⟩⟩,⟨List.nodup_cons.2 ⟨nb',k2⟩,fun y hy=>?_,fun y hy=>?_⟩,fun y z hy=>?_,by simp,fun y hy=>?_⟩
 ·rcases List.mem_cons.1 hy with rfl | hy
  ·exact hO2.2.1 y (by simp)
  ·exact hO2.2.1 y (hin y hy)
 ·rcases List.mem_cons.1 hy with rfl | hy
  ·exact⟨_,_,kset_same⟩
  ·obtain⟨u,v,huv⟩:=hO2.2.2 y (hin y hy)
   exact⟨u,v,by rw [kset_other (fun e=>nb' (by rw [← e]; exact hy))]; exact huv⟩
 ·have hne:y≠b:=fun e=>by
   subst e
   rw [hO2.2.1 y (by simp)] at hy; cases hy
  rw [kset_other hne]; exact hle0 y z hy
 ·rcases List.mem_cons.1 hy with rfl | hy
  ·exact .inl (by simp)
  ·rcases k3 y hy with h | h
   ·exact .inl (by simp [h])
   ·exact .inr h
end
end Go.Proofs.YtagkjnpggkmehaaGreatDoor
namespace Go.Proofs.YtagkjnpggkmehaaGreatDoor
open Sx Go.RowKit
set_option maxRecDepth 100000
theorem rdNat_get {s:ByteArray} {o q:List Lim} {ok:Bool} (h:RdNat s o ok) (hq:NatOkP q) (e:natT q=s):ok=true∧o=q:=by
 rcases h with ⟨h1,h2,h3⟩ | ⟨_,_,h⟩
 ·exact⟨h1,natT_inj h2.1 hq.1 (h3.trans e.symm)⟩
 ·exact absurd ⟨q,hq,e⟩ h
theorem rdInt_get {s:ByteArray} {c d:Bool} {o q:List Lim} {ok:Bool} (h:RdInt s c o ok) (hq:IntOkP d q) (e:intT d q=s):ok=true∧c=d∧o=q:=by
 rcases h with ⟨h1,h2,h3⟩ | ⟨_,_,_,h⟩
 ·exact⟨h1,intT_inj h2.1.1 hq.1.1 (h3.trans e.symm)⟩
 ·exact absurd ⟨d,q,hq,e⟩ h
abbrev RatX (x:DRat):Prop:=RatOkP x.1 x.2.1 x.2.2.1
abbrev ratX (x:DRat):ByteArray:=ratT x.1 x.2.1 x.2.2.1
abbrev noR:DRat:=(false,[],[],())
abbrev one1:List Lim:=[((1:Int),())]
theorem no47 {e:Bool} {o:List Lim} (h:Can o):(47:UInt8) ∉ bl (intT e o):=fun k=>by
 rcases intT_bytes h 47 k with k | k
 ·exact absurd k (by decide)
 ·exact absurd k (by decide)
theorem no47n {o:List Lim} (h:Can o):(47:UInt8) ∉ bl (natT o):=fun k=>absurd (natT_dg h 47 k) (by decide)
theorem rat_cut {x:DRat} (h:RatX x) {s:ByteArray} (e:ratX x=s):(x.2.2.1=one1∧cutB 47 s=[(intT x.1 x.2.1,())])∨(x.2.2.1≠one1∧cutB 47 s=[(intT x.1 x.2.1,()),(natT x.2.2.1,())]):=by
 subst e
 by_cases k:x.2.2.1=one1
 ·refine .inl ⟨k,cutB_eq ?_ (by simp) fun y hy=>?_⟩
  ·show bl (ratT x.1 x.2.1 x.2.2.1)=bl (intT x.1 x.2.1)
   unfold ratT
   rw [if_pos k]
  ·obtain rfl:y=(intT x.1 x.2.1,()):=by simpa using hy
   exact no47 h.1.1.1
 ·refine .inr ⟨k,cutB_eq ?_ (by simp) fun y hy=>?_⟩
  ·show bl (ratT x.1 x.2.1 x.2.2.1)=bl (intT x.1 x.2.1)++47 :: bl (natT x.2.2.1)
   unfold ratT
   rw [if_neg k,bl_append,bl_append]
   show(bl (intT x.1 x.2.1)++[47])++bl (natT x.2.2.1)=_
   simp
  ·rcases List.mem_cons.1 hy with rfl | hy
   ·exact no47 h.1.1.1
   ·obtain rfl:y=(natT x.2.2.1,()):=by simpa using hy
    exact no47n h.2.1.1
theorem rat_one {s p:ByteArray} (h:cutB 47 s=[(p,())]):s=p:=by
 have:=cutB_join 47 s
 rw [h] at this
 exact bl_inj this
theorem rat_two {s p q:ByteArray} (h:cutB 47 s=[(p,()),(q,())]):s=p++(⟨#[47]⟩:ByteArray)++q:=by
 have:=cutB_join 47 s
 rw [h] at this
 refine bl_inj (this.trans ?_)
 rw [bl_append,bl_append]
 show bl p++47 :: bl q=(bl p++[47])++bl q
 simp
theorem ratX_inj {x y:DRat} (h:RatX x) (k:RatX y) (e:ratX x=ratX y):x=y:=by
 obtain⟨x0,x1,x2,xu⟩:=x
 obtain⟨y0,y1,y2,yu⟩:=y
 have fin:intT x0 x1=intT y0 y1→x2=y2→(x0,x1,x2,xu)=(y0,y1,y2,yu):=fun a b=>by
  obtain⟨rfl,rfl⟩:=intT_inj h.1.1.1 k.1.1.1 a
  subst b; rfl
 rcases rat_cut h rfl with ⟨a1,a2⟩ | ⟨a1,a2⟩
 ·rcases rat_cut k e.symm with ⟨b1,b2⟩ | ⟨b1,b2⟩
  ·rw [a2] at b2
   simp only [List.cons.injEq,Prod.mk.injEq,and_true] at b2
   exact fin b2 (a1.trans b1.symm)
  ·rw [a2] at b2; simp at b2
 ·rcases rat_cut k e.symm with ⟨b1,b2⟩ | ⟨b1,b2⟩
  ·rw [a2] at b2; simp at b2
  ·rw [a2] at b2
   simp only [List.cons.injEq,Prod.mk.injEq,and_true] at b2
   exact fin b2.1 (natT_inj h.2.1.1 k.2.1.1 b2.2)
def RdRat (s:ByteArray) (x:DRat) (ok:Bool):Prop:=(ok=true∧RatX x∧ratX x=s)∨(ok=false∧x=noR∧¬ ∃ y,RatX y∧ratX y=s)
abbrev RatRd (V:Know) (s:ByteArray):Know→Value→Prop:=fun V' r=>V.le V'∧∃ c x f ok,r=.tuple #[qv1 c,.bool ok]∧rRat.R V' c x f∧Own V V' f∧RdRat s x ok
theorem rat_mkR {V:Know} {c0:Bool} {s1 s2:SlV} {n d:List Lim} {f g:List Nat} (h:LR rI V s1 n f) (k:LR rI V s2 d g):rRat.R V (c0,s1,s2,()) (c0,n,d,()) (f++(g++[])):=⟨rfl,f,g++[],rfl,h,g,[],rfl,k,rfl⟩
theorem noR_R {V:Know}:rRat.R V (false,⟨none,0,0⟩,⟨none,0,0⟩,()) noR []:=rat_mkR (f:=[]) (g:=[]) lr_none lr_none
theorem rat_no {V V':Know} {s:ByteArray} (le:V.le V') (h:¬ ∃ y,RatX y∧ratX y=s):RatRd V s V' (packed [qv1 (false,⟨none,0,0⟩,⟨none,0,0⟩,()),.bool false]) :=
 ⟨le,_,noR,[],false,rfl,noR_R,Own.nil,.inr ⟨rfl,rfl,h⟩⟩
theorem LR.at0t {V:Know} {t:SlV} {l:List Tx} {f:List Nat} (h:LR rString V t l f) {p:Tx} {r:List Tx} (e:l=p :: r):∃ b o,t.a=some ⟨b,o,none⟩∧loadV V ((⟨b,o,none⟩:Addr).add (Int.toNat 0*1)) 1=some [.string p.1]:=by
 subst e
 obtain⟨⟨b,o,a1,l1⟩,_⟩:=h.txt (i:=0) (by simp)
 exact⟨b,o,a1,l1⟩
theorem LR.at1t {V:Know} {t:SlV} {l:List Tx} {f:List Nat} (h:LR rString V t l f) {p q:Tx} {r:List Tx} (e:l=p :: q :: r):∃ b o,t.a=some ⟨b,o,none⟩∧loadV V ((⟨b,o,none⟩:Addr).add (Int.toNat 1*1)) 1=some [.string q.1]:=by
 subst e
 obtain⟨⟨b,o,a1,l1⟩,_⟩:=h.txt (i:=1) (by simp)
 exact⟨b,o,a1,l1⟩
theorem one_R {V:Know} {b c:Nat} {sp:List Value} (hc:1≤c):LR rI (kset V b ([Value.int .i64 1]++sp,(3,(0,0)))) ⟨some ⟨b,0,none⟩,1,c⟩ one1 [b] :=
 lr_cells (l:=one1) kset_same hc (by decide)
theorem cut_cases (c:UInt8) (s:ByteArray):(∃ p,cutB c s=[p])∨(∃ p q,cutB c s=[p,q])∨∃ p q r l,cutB c s=p :: q :: r :: l:=by
 have:=cutB_pos c s
 match h:cutB c s with
 | []=>rw [h] at this; simp at this
 | [p]=>exact .inl ⟨p,rfl⟩
 | [p,q]=>exact .inr (.inl ⟨p,q,rfl⟩)
 | p :: q :: r :: l=>exact .inr (.inr ⟨p,q,r,l,rfl⟩)
theorem cI_TextRat (V:Know) (s:ByteArray) (hs:s.size≤1048576):CallX Tryz.prog V 95 [.string s] (RatRd V s):=by
 refine CallX.of_fits Tryz.mix (fI_TextRat _) fun _=>?_
 simp only [tI_TextRat,T.wp]
 refine(cI_CutAt V s 47 hs).mono ?_
 rintro V1 _ ⟨le1,t,f1,rfl,L1,_⟩
 have hz:∀ y∈cutB 47 s,y.1.size≤9223372036854775807:=fun y hy=>by have:=cutB_size hy; omega
 refine⟨nofun,t,rfl,fun b2 c2 sp hb2 hc2 _=>?_⟩
 have le2:=kset_le (x:=([Value.int .i64 1]++sp,((3:TypeId),((0,0):Nat × Nat)))) hb2
 have M1:=one_R (V:=V1) (b:=b2) (sp:=sp) hc2
 have own1:Own V1 (kset V1 b2 ([Value.int .i64 1]++sp,(3,(0,0)))) [b2]:=own_one hb2 kset_same
 revert le2 M1 own1
 generalize kset V1 b2 ([Value.int .i64 1]++sp,(3,(0,0)))=V2
 intro le2 M1 own1
 have l2:=le1.trans le2
 have L2:=L1.le le2
 have hn:=L2.1
 obtain⟨p,r,hpr⟩:∃ p r,cutB 47 s=p :: r:=by
  rcases cut_cases 47 s with ⟨p,h⟩ | ⟨p,q,h⟩ | ⟨p,q,r,l,h⟩ <;> exact⟨_,_,h⟩
 have hlen:t.n=r.length+1:=by rw [hn,hpr]; rfl
 obtain⟨b,o,a1,ld1⟩:=L2.at0t hpr
 refine⟨_,a1,by omega,by omega,p.1,ld1,(cI_StrInt V2 p.1 (hz p (by rw [hpr]; simp))).mono ?_⟩
 rintro V3 _ ⟨le3,e,tn,n,fn,ok,rfl,L3,O3,k3⟩
 have l3:=l2.trans le3
 have first:∀ {y:DRat},RatX y→ratX y=s→ok=true∧e=y.1∧n=y.2.1:=fun {y} hy e=>by
  refine rdInt_get k3 hy.1 ?_
  rcases rat_cut hy e with ⟨_,h⟩ | ⟨_,h⟩
  ·rw [hpr] at h
   simp only [List.cons.injEq] at h
   rw [h.1]
  ·rw [hpr] at h
   simp only [List.cons.injEq] at h
   rw [h.1]
 refine⟨nofun,((e,tn,()),ok,()),rfl,fun hf=>rat_no l3 fun⟨y,h1,h2⟩=>?_,fun ht=>⟨fun h2=>rat_no l3 fun⟨y,h1,h3⟩=>?_,fun h2=>⟨fun heq=>?_,fun hne=>?_⟩⟩⟩
 ·obtain⟨h3,_⟩:=first h1 h2
  rw [h3] at hf; cases hf
 ·have h2':(t.n:Int) > 2:=of_decide_eq_true h2
  rcases rat_cut h1 h3 with ⟨_,h⟩ | ⟨_,h⟩
  ·rw [hpr] at h
   have:=congrArg List.length h
   simp only [List.length_cons,List.length_nil] at this
   omega
  ·rw [hpr] at h
   have:=congrArg List.length h
   simp only [List.length_cons,List.length_nil] at this
   omega
 all_goals
  have okt:ok=true:=by simpa using ht
  subst okt
  have kI:IntOkP e n∧intT e n=p.1:=by
   rcases k3 with ⟨_,a,b⟩ | ⟨a,_⟩
   ·exact⟨a,b⟩
   ·cases a
 ·have heq':(t.n:Int)=2:=by simpa using heq
  obtain⟨q,rfl⟩:=List.length_eq_one_iff.1 (show r.length=1 by omega)
  have hlen:t.n=2:=hlen
  obtain⟨b',o',a1',ld1'⟩:=(L2.le le3).at1t hpr
  refine⟨_,a1',by omega,by omega,q.1,ld1',(cI_TextNat V3 q.1 (hz q (by rw [hpr]; simp))).mono ?_⟩
  rintro V4 _ ⟨le4,td,d,fd,ok2,rfl,L4,O4,k4⟩
  have l4:=l3.trans le4
  have second:∀ {y:DRat},RatX y→ratX y=s→y.2.2.1≠one1∧ok2=true∧d=y.2.2.1:=fun {y} hy e=>by
   rcases rat_cut hy e with ⟨_,h⟩ | ⟨h0,h⟩
   ·rw [hpr] at h; simp at h
   ·rw [hpr] at h
    simp only [List.cons.injEq,and_true] at h
    exact⟨h0,rdNat_get k4 hy.2.1 (by rw [h.2])⟩
  refine⟨nofun,(td,ok2,()),rfl,fun hf=>rat_no l4 fun⟨y,h1,h2⟩=>?_,fun ht2=>(cI_isOne V4 td d fd L4).mono ?_⟩
  ·obtain⟨_,h3,_⟩:=second h1 h2
   rw [h3] at hf; cases hf
  rintro V5 _ ⟨rfl,e5,rfl,he5⟩
  have okt2:ok2=true:=by simpa using ht2
  subst okt2
  have kN:NatOkP d∧natT d=q.1:=by
   rcases k4 with ⟨_,a,b⟩ | ⟨a,_⟩
   ·exact⟨a,b⟩
   ·cases a
  refine⟨nofun,e5,rfl,fun h1=>rat_no l4 fun⟨y,g1,g2⟩=>?_,fun h1=>(cI_RatOk V5 e tn td n d fn fd (L3.le le4) L4).mono ?_⟩
  ·obtain⟨h3,_,h4⟩:=second g1 g2
   exact h3 (h4.symm.trans (he5.1 h1))
  rintro V6 _ ⟨le6,e6,rfl,he6⟩
  have l6:=l4.trans le6
  refine⟨nofun,e6,rfl,fun hf=>rat_no l6 fun⟨y,g1,g2⟩=>?_,fun ht6=>?_⟩
  ·obtain⟨_,h4,h5⟩:=first g1 g2
   obtain⟨_,_,h6⟩:=second g1 g2
   subst h4 h5 h6
   rw [he6.2 g1] at hf; cases hf
  ·have okr:=he6.1 (by simpa using ht6)
   have hd1:d≠one1:=fun k=>by rw [he5.2 k] at h1; cases h1
   refine⟨l6,(e,tn,td,()),(e,n,d,()),fn++(fd++[]),true,rfl,rat_mkR ((L3.le le4).le le6) (L4.le le6),?_,.inl ⟨rfl,okr,?_⟩⟩
   ·rw [List.append_nil]
    exact((O3.pre l2).append O4 l3 le4).post le6
   ·show ratT e n d=s
    unfold ratT
    rw [if_neg hd1,kI.2,kN.2]
    exact(rat_two hpr).symm
 ·have hne':¬ (t.n:Int)=2:=by simpa using hne
  have h2':¬ (t.n:Int) > 2:=of_decide_eq_false h2
  have hr:r=[]:=List.eq_nil_of_length_eq_zero (by omega)
  subst hr
  refine(cI_RatOk V3 e tn ⟨some ⟨b2,0,none⟩,1,c2⟩ n one1 fn [b2] L3 (M1.le le3)).mono ?_
  rintro V6 _ ⟨le6,e6,rfl,he6⟩
  have l6:=l3.trans le6
  refine⟨nofun,e6,rfl,fun hf=>rat_no l6 fun⟨y,g1,g2⟩=>?_,fun ht6=>?_⟩
  ·obtain⟨_,h4,h5⟩:=first g1 g2
   rcases rat_cut g1 g2 with ⟨h6,_⟩ | ⟨_,h⟩
   ·have:RatOkP e n one1:=by rw [h4,h5,← h6]; exact g1
    rw [he6.2 this] at hf; cases hf
   ·rw [hpr] at h; simp at h
  ·have okr:=he6.1 (by simpa using ht6)
   refine⟨l6,(e,tn,⟨some ⟨b2,0,none⟩,1,c2⟩,()),(e,n,one1,()),fn++([b2]++[]),true,rfl,rat_mkR (L3.le le6) ((M1.le le3).le le6),?_,.inl ⟨rfl,okr,?_⟩⟩
   ·rw [List.append_nil]
    exact Own.perm (((own1.pre le1).append O3 l2 le3).post le6) List.perm_append_comm
   ·show ratT e n one1=s
    unfold ratT
    rw [if_pos rfl,kI.2]
    exact(rat_one hpr).symm
theorem okT_ne {x:DRat} (h:RatX x):((ratX x).toList == (⟨#[]⟩:ByteArray).toList)≠true:=fun k=>by
 have e:=empty_iff.1 k
 rw [← bl_len] at e
 have h0:=List.eq_nil_of_length_eq_zero e
 have hi:=intT_ne (e:=x.1) h.1.1.1
 have h1:bl (ratX x)=bl (ratT x.1 x.2.1 x.2.2.1):=rfl
 rw [h1] at h0
 unfold ratT at h0
 split at h0
 ·exact hi h0
 ·rw [bl_append,bl_append] at h0
  simp at h0
theorem cS_ratEnd {V0 V:Know} (le0:V0.le V) {s:ByteArray} {e:Bool} {t1 t2:SlV} {n d:List Lim} {f1 f2:List Nat} (L1:LR rI V t1 n f1) (L2:LR rI V t2 d f2) (O:Own V0 V (f1++f2)) (h:∀ {y:DRat},RatX y→ratX y=s→e=y.1∧n=y.2.1∧d=y.2.2.1) :
  CallX Tryz.prog V 88 [qv1 (e,t1,t2,())] (fun V' r=>(false=true→V.le V')∧∃ y:ByteArray,r=Sh.val (.v (.o .s)) y ∧
   ((y.toList == (⟨#[]⟩:ByteArray).toList)=true→RatRd V0 s V' (packed [qv1 (false,⟨none,0,0⟩,⟨none,0,0⟩,()),.bool false])) ∧
   ((y.toList == (⟨#[]⟩:ByteArray).toList)=false→CallX Tryz.prog V' 88 [qv1 (e,t1,t2,())] (fun V'' r=>(false=true→V'.le V'')∧∃ y:ByteArray,r=Sh.val (.v (.o .s)) y ∧
    ((!(y.toList == s.toList))=true→RatRd V0 s V'' (packed [qv1 (false,⟨none,0,0⟩,⟨none,0,0⟩,()),.bool false])) ∧
    ((!(y.toList == s.toList))=false→RatRd V0 s V'' (packed [qv1 (e,t1,t2,()),.bool true]))))):=by
 refine(cS_RatText (V:=V) trivial e t1 t2 n d f1 f2 L1 L2).mono ?_
 rintro V1 _ ⟨le1,rfl⟩
 have key:RatX (e,n,d,())∨¬ RatX (e,n,d,()):=Classical.em _
 have same:∀ {y:DRat},RatX y→ratX y=s→RatX (e,n,d,())∧ratX (e,n,d,())=s:=fun {y} hy he=>by
  obtain⟨rfl,rfl,rfl⟩:=h hy he
  exact⟨hy,he⟩
 refine⟨nofun,_,rfl,fun h0=>rat_no (le0.trans le1) fun⟨y,g1,g2⟩=>?_,fun hne=>(cS_RatText (V:=V1) trivial e t1 t2 n d f1 f2 (L1.le le1) (L2.le le1)).mono ?_⟩
 ·obtain⟨k1,_⟩:=same g1 g2
  rw [okT_pos k1] at h0
  exact okT_ne k1 h0
 rintro V2 _ ⟨le2,rfl⟩
 have l2:=le0.trans (le1.trans le2)
 refine⟨nofun,_,rfl,fun h0=>rat_no l2 fun⟨y,g1,g2⟩=>?_,fun h0=>?_⟩
 ·obtain⟨k1,k2⟩:=same g1 g2
  rw [okT_pos k1] at h0
  have:((ratT e n d).toList == s.toList)=true:=text_eq.2 k2
  rw [this] at h0; cases h0
 ·have hs:okT (RatOkP e n d) (ratT e n d)=s:=text_eq.1 (by simpa using h0)
  rcases key with k | k
  ·rw [okT_pos k] at hs
   refine⟨l2,(e,t1,t2,()),(e,n,d,()),f1++(f2++[]),true,rfl,rat_mkR (L1.le (le1.trans le2)) (L2.le (le1.trans le2)),?_,.inl ⟨rfl,k,hs⟩⟩
   rw [List.append_nil]
   exact O.post (le1.trans le2)
  ·rw [okT_neg k] at hne
   exact absurd (hne.symm.trans (text_eq.2 rfl)) (by decide)
theorem cS_TextRat (V:Know) (s:ByteArray) (hs:s.size≤1048576):CallX Tryz.prog V 34 [.string s] (RatRd V s):=by
 refine CallX.of_fits Tryz.mix (fS_TextRat _) fun _=>?_
 simp only [tS_TextRat,T.wp]
 refine(cS_CutAt V s 47 hs).mono ?_
 rintro V1 _ ⟨le1,t,f1,rfl,L1,_⟩
 have hz:∀ y∈cutB 47 s,y.1.size≤9223372036854775807:=fun y hy=>by have:=cutB_size hy; omega
 have hn:=L1.1
 obtain⟨p,r,hpr⟩:∃ p r,cutB 47 s=p :: r:=by
  rcases cut_cases 47 s with ⟨p,h⟩ | ⟨p,q,h⟩ | ⟨p,q,r,l,h⟩ <;> exact⟨_,_,h⟩
 have hlen:t.n=r.length+1:=by rw [hn,hpr]; rfl
 obtain⟨b,o,a1,ld1⟩:=L1.at0t hpr
 refine⟨nofun,t,rfl,_,a1,by omega,by omega,p.1,ld1,(cS_StrInt V1 p.1 (hz p (by rw [hpr]; simp))).mono ?_⟩
 rintro V3 _ ⟨le3,e,tn,n,fn,ok,rfl,L3,O3,k3⟩
 have l3:=le1.trans le3
 have first:∀ {y:DRat},RatX y→ratX y=s→ok=true∧e=y.1∧n=y.2.1:=fun {y} hy e=>by
  refine rdInt_get k3 hy.1 ?_
  rcases rat_cut hy e with ⟨_,h⟩ | ⟨_,h⟩
  ·rw [hpr] at h
   simp only [List.cons.injEq] at h
   rw [h.1]
  ·rw [hpr] at h
   simp only [List.cons.injEq] at h
   rw [h.1]
 refine⟨nofun,((e,tn,()),ok,()),rfl,fun h1=>?_,fun h1=>?_⟩
 ·have h1':(t.n:Int) > 1:=of_decide_eq_true h1
  obtain⟨q,r',rfl⟩:∃ q r',r=q :: r':=List.exists_cons_of_length_pos (by omega)
  obtain⟨b',o',a1',ld1'⟩:=(L1.le le3).at1t hpr
  refine⟨_,a1',by omega,by omega,q.1,ld1',(cS_TextNat V3 q.1 (hz q (by rw [hpr]; simp))).mono ?_⟩
  rintro V4 _ ⟨le4,td,d,fd,ok2,rfl,L4,O4,k4⟩
  have l4:=l3.trans le4
  have second:∀ {y:DRat},RatX y→ratX y=s→ok2=true∧d=y.2.2.1:=fun {y} hy e=>by
   rcases rat_cut hy e with ⟨_,h⟩ | ⟨h0,h⟩
   ·rw [hpr] at h; simp at h
   ·rw [hpr] at h
    simp only [List.cons.injEq] at h
    exact rdNat_get k4 hy.2.1 (by rw [h.2.1])
  refine⟨nofun,(td,ok2,()),rfl,fun hf=>rat_no l4 fun⟨y,h1,h2⟩=>?_,fun _=>⟨fun hf=>rat_no l4 fun⟨y,h1,h2⟩=>?_,fun _=>?_⟩⟩
  ·obtain⟨h3,_⟩:=first h1 h2
   rw [h3] at hf; cases hf
  ·obtain⟨h3,_⟩:=second h1 h2
   rw [h3] at hf; cases hf
  ·exact cS_ratEnd l4 (L3.le le4) L4 ((O3.pre le1).append O4 l3 le4) fun g1 g2=>⟨(first g1 g2).2.1,(first g1 g2).2.2,(second g1 g2).2⟩
 ·intro b2 c2 sp hb2 hc2 _
  have h1':¬ (t.n:Int) > 1:=of_decide_eq_false h1
  have hr:r=[]:=List.eq_nil_of_length_eq_zero (by omega)
  subst hr
  have le2:=kset_le (x:=([Value.int .i64 1]++sp,((3:TypeId),((0,0):Nat × Nat)))) hb2
  have M1:=one_R (V:=V3) (b:=b2) (sp:=sp) hc2
  have own1:Own V3 (kset V3 b2 ([Value.int .i64 1]++sp,(3,(0,0)))) [b2]:=own_one hb2 kset_same
  revert le2 M1 own1
  generalize kset V3 b2 ([Value.int .i64 1]++sp,(3,(0,0)))=V2
  intro le2 M1 own1
  refine⟨fun hf=>rat_no (l3.trans le2) fun⟨y,h1,h2⟩=>?_,fun _=>?_⟩
  ·obtain⟨h3,_⟩:=first h1 h2
   rw [h3] at hf; cases hf
  ·refine cS_ratEnd (l3.trans le2) (L3.le le2) M1 ((O3.pre le1).append own1 l3 le2) fun {y} g1 g2=>⟨(first g1 g2).2.1,(first g1 g2).2.2,?_⟩
   rcases rat_cut g1 g2 with ⟨h6,_⟩ | ⟨_,h⟩
   ·exact h6.symm
   ·rw [hpr] at h; simp at h
end Go.Proofs.YtagkjnpggkmehaaGreatDoor
