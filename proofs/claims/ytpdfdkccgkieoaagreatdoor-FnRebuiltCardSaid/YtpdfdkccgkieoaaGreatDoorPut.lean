/-
  A row of a list that one owns is replaced, in whole or in part.
-/
import Derived.Test.YtpdfdkccgkieoaaGreatDoorRead
namespace Go.Proofs.YtpdfdkccgkieoaaGreatDoor
open Sx
def apD (s:SlV) (sz bytes:Nat) (ys:List Value) (m:Nat) (t:TypeId) (k:SlV→T):T:=.ap s sz bytes ys m t k
theorem ap_d (s:SlV) (sz bytes:Nat) (ys:List Value) (m:Nat) (t:TypeId) (k:SlV→T):T.ap s sz bytes ys m t k=apD s sz bytes ys m t k:=rfl
section
variable {sh:List Sc} {α:Type}
def GR (r:Rp sh α) (t:TypeId) (V:Know) (s:SlV) (l:List α) (f:List Nat):Prop :=
 s.n=l.length∧s.n≤s.c∧((s.a=none∧s.c=0∧l=[]∧f=[]) ∨
  ∃ b fps cs post,s.a=some ⟨b,0,none⟩∧V b=some (cs.flatMap (Scs.vals sh)++post,(t,(0,0)))∧post.length=(s.c-s.n)*sh.length∧Els r V cs l fps∧f=b :: fps)
theorem GR.nil {r:Rp sh α} {t:TypeId} {V:Know}:GR r t V ⟨none,0,0⟩ [] []:=⟨rfl,Nat.le_refl _,.inl ⟨rfl,rfl,rfl,rfl⟩⟩
theorem GR.lr {r:Rp sh α} {t:TypeId} {V:Know} {s:SlV} {l:List α} {f:List Nat} (h:GR r t V s l f) (hn:l.length≤9223372036854775807):LR r V s l f:=by
 obtain⟨h1,h2,h3⟩:=h
 refine⟨h1,h2,by omega,?_⟩
 rcases h3 with ⟨ha,hc,rfl,rfl⟩ | ⟨b,fps,cs,post,ha,hb,hp,he,rfl⟩
 ·exact .inl ⟨h1,fun _=>hc,rfl⟩
 ·exact .inr ⟨b,[],post,_,fps,cs,ha,hb,he,rfl⟩
theorem GR.loc {r:Rp sh α} {t:TypeId} {V V':Know} {s:SlV} {l:List α} {f:List Nat} (h:GR r t V s l f) (hb:∀ b∈f,V' b=V b):GR r t V' s l f:=by
 obtain⟨h1,h2,h3⟩:=h
 refine⟨h1,h2,?_⟩
 rcases h3 with h3 | ⟨b,fps,cs,post,ha,hv,hp,he,rfl⟩
 ·exact .inl h3
 ·exact .inr ⟨b,fps,cs,post,ha,by rw [hb b (by simp),hv],hp,he.loc fun x hx=>hb x (by simp [hx]),rfl⟩
theorem GR.le {r:Rp sh α} {t:TypeId} {V V':Know} {s:SlV} {l:List α} {f:List Nat} (h:GR r t V s l f) (hle:V.le V'):GR r t V' s l f:=by
 obtain⟨h1,h2,h3⟩:=h
 refine⟨h1,h2,?_⟩
 rcases h3 with h3 | ⟨b,fps,cs,post,ha,hb,hp,he,rfl⟩
 ·exact .inl h3
 ·exact .inr ⟨b,fps,cs,post,ha,hle _ _ hb,hp,he.le hle,rfl⟩
theorem ap_row {P:Program} {r:Rp sh α} {t:TypeId} {V0 V Vd:Know} {s:SlV} {l:List α} {f fx:List Nat} {c:Scs sh} {x:α} {bytes:Nat} {k:SlV→T} {K:Know→List Value→Prop} {Ns:List (List LV→Know→Prop)}
  (h:GR r t V s l f) (hx:r.R V c x fx) (hO:Own V0 V (f++fx)) (hle:V0.le V) (hP:P.cellsOf t=sh.length)
  (hb:(l.length+1)*bytes≤140737488355328) (hl:l.length+1≤9223372036854775807)
  (hk:∀ s' V' f',GR r t V' s' (l++[x]) f'→Own V0 V' f'→V0.le V'→(k s').wp P K V' Vd Ns) :
  (T.ap s sh.length bytes (Scs.vals sh c) 1 t k).wp P K V Vd Ns:=by
 obtain⟨h1,h2,h3⟩:=h
 simp only [T.wp]
 refine⟨h2,fun ha=>?_,fun h=>absurd h (by decide),fun _ hroom=>?_,fun _ hroom=>⟨by rw [h1]; exact hb,by rw [h1]; exact hl,?_⟩⟩
 ·rcases h3 with ⟨_,hc,_⟩ | ⟨b,fps,cs,post,ha',_⟩
  ·exact hc
  ·rw [ha] at ha'; cases ha'
 ·rcases h3 with ⟨_,hc,_⟩ | ⟨b,fps,cs,post,ha,hbk,hp,he,rfl⟩
  ·omega
  have hcl:cs.length=l.length:=he.len
  have hfl:(cs.flatMap (Scs.vals sh)).length=s.n*sh.length:=by rw [flat_len,hcl,h1]
  have hpl:sh.length≤post.length:=by
   rw [hp]; exact Nat.le_mul_of_pos_left _ (by omega)
  have hset:setl (cs.flatMap (Scs.vals sh)++post) (s.n*sh.length) (Scs.vals sh c)=(cs++[c]).flatMap (Scs.vals sh)++post.drop sh.length:=by
   rw [setl_mid hfl.symm (by rw [vals_len]; exact hpl),vals_len]
   simp
  have hnd:b ∉ fps∧b ∉ fx:=by
   have:=hO.1
   simp only [List.cons_append,List.nodup_cons,List.mem_append,not_or] at this
   exact this.1
  have hoff:∀ (y:List Value × KTy) (g:List Nat),b ∉ g→∀ b'∈g,kset V b y b'=V b':=fun y g hg b' hb'=>by
   simp only [kset]; rw [if_neg (fun e:b'=b=>hg (by rw [← e]; exact hb'))]
  refine⟨b,_,ha,hbk,?_,?_⟩
  ·rw [List.length_append,hfl,hp,← Nat.add_mul]
   exact Nat.mul_le_mul_right _ (by omega)
  ·rw [hset]
   refine hk _ _ (b :: (fps++fx)) ⟨by simp [h1],by show s.n+1≤s.c; omega,.inr ⟨b,fps++fx,cs++[c],post.drop sh.length,ha,kset_same,?_,?_,rfl⟩⟩ ⟨by simpa using hO.1,by simpa using hO.2.1,?_⟩ ?_
   ·rw [List.length_drop,hp,← Nat.sub_one_mul]
    congr 1
   ·exact(he.loc (hoff _ _ hnd.1)).snoc (r.loc hx (hoff _ _ hnd.2))
   ·intro b' hb'
    rcases List.mem_cons.1 hb' with rfl | hb'
    ·exact⟨_,_,kset_same⟩
    ·have hne:b'≠b:=fun e=>by
      rw [e] at hb'
      rcases List.mem_append.1 hb' with h | h
      ·exact hnd.1 h
      ·exact hnd.2 h
     obtain⟨u,v,huv⟩:=hO.2.2 b' (by simp only [List.cons_append,List.mem_cons]; exact .inr hb')
     exact⟨u,v,by simp only [kset]; rw [if_neg hne]; exact huv⟩
   ·intro b' y hy
    have hne:b'≠b:=fun e=>by
     subst e
     have:=hO.2.1 b' (by simp)
     rw [this] at hy; cases hy
    simp only [kset]; rw [if_neg hne]; exact hle b' y hy
 ·have hgo:∀ (cs:List (Scs sh)) (fps:List Nat),Els r V cs l fps→(∀ b∈fps,b∈f)→fps.Nodup→(∀ b∈fps,b ∉ fx) →
    ∀ b cap spare,V b=none→s.n+1≤cap→spare.length=(cap-(s.n+1))*P.cellsOf t →
    (k ⟨some ⟨b,0,none⟩,s.n+1,cap⟩).wp P K (kset V b ((cs.flatMap (Scs.vals sh)++Scs.vals sh c)++spare,(t,(0,0)))) Vd Ns:=by
   intro cs fps he hsub hnd hdis b cap spare hbn hcap hsp
   have hV:=kset_le (x:=((cs.flatMap (Scs.vals sh)++Scs.vals sh c)++spare,(t,(0,0)))) hbn
   have hin:∀ b'∈fps++fx,b'∈f++fx:=fun b' hb'=>by
    rcases List.mem_append.1 hb' with h | h
    ·exact List.mem_append.2 (.inl (hsub b' h))
    ·exact List.mem_append.2 (.inr h)
   have hn:b ∉ fps++fx:=fun hm=>by
    obtain⟨u,v,huv⟩:=hO.2.2 b (hin b hm)
    rw [hbn] at huv; cases huv
   refine hk _ _ (b :: (fps++fx)) ⟨by simp [h1],hcap,.inr ⟨b,fps++fx,cs++[c],spare,rfl,?_,by rw [hsp,hP],(he.le hV).snoc (r.le hx hV),rfl⟩⟩ ⟨List.nodup_cons.2 ⟨hn,?_⟩,fun b' hb'=>?_,fun b' hb'=>?_⟩ (hle.trans hV)
   ·rw [kset_same]; simp
   ·have:=List.nodup_append.1 hO.1
    exact List.nodup_append.2 ⟨hnd,this.2.1,fun a ha b hb e=>hdis a ha (e ▸ hb)⟩
   ·rcases List.mem_cons.1 hb' with rfl | hb'
    ·exact none_of_le hle hbn
    ·exact hO.2.1 b' (hin b' hb')
   ·rcases List.mem_cons.1 hb' with rfl | hb'
    ·exact⟨_,_,kset_same⟩
    ·obtain⟨u,v,huv⟩:=hO.2.2 b' (hin b' hb')
     exact⟨u,v,hV _ _ huv⟩
  rcases h3 with ⟨ha,hc,rfl,rfl⟩ | ⟨b,fps,cs,post,ha,hbk,hp,he,rfl⟩
  ·exact⟨[],.inl ⟨ha,h1,hc,rfl⟩,rfl,fun b cap spare hb hcap hsp=>by
    have:=hgo [] [] rfl (fun _ h=>by cases h) List.nodup_nil (fun _ h=>by cases h) b cap spare hb hcap hsp
    simpa using this⟩
  ·have hcl:cs.length=l.length:=he.len
   have hfl:(cs.flatMap (Scs.vals sh)).length=s.n*sh.length:=by rw [flat_len,hcl,h1]
   have hnt:∀ cs:List (Scs sh),noTup (cs.flatMap (Scs.vals sh))=true:=fun cs=>by
    induction cs with
    | nil=>rfl
    | cons c cs ih =>
     have hv:=vals_noTup sh c
     unfold noTup at ih hv ⊢
     rw [List.flatMap_cons,List.all_append,hv,ih]; rfl
   refine⟨_,.inr ⟨⟨b,0,none⟩,ha,?_⟩,hnt cs,hgo cs fps he (fun b' hb'=>by simp [hb']) ?_ ?_⟩
   ·simp only [loadV,hbk]
    rw [← hfl]; exact cutv_head
   ·have:=List.nodup_append.1 hO.1
    exact(List.nodup_cons.1 this.1).2
   ·have:=List.nodup_append.1 hO.1
    exact fun b' hb' hx'=>this.2.2 b' (by simp [hb']) b' hx' rfl
def CopyI (e:Rp sh α) (t:TypeId) (V0:Know) (l:List α) (i:Int) (s:SlV) (V:Know):Prop :=
 V0.le V∧∃ (k:Nat) (f:List Nat),i=(k:Int)∧k≤l.length∧GR e t V s (l.take k) f∧Own V0 V f
theorem CopyI.start {e:Rp sh α} {t:TypeId} {V:Know} {l:List α}:CopyI e t V l 0 ⟨none,0,0⟩ V:=⟨Know.le.refl _,0,[],rfl,Nat.zero_le _,by simpa using GR.nil,Own.nil⟩
theorem CopyI.start_made {e:Rp sh α} {t:TypeId} {V0 V:Know} {l:List α} {b cap:Nat} {spare:List Value} (hle:V0.le V) (hb:V b=none) (hs:spare.length=cap*sh.length) :
  CopyI e t V0 l 0 ⟨some ⟨b,0,none⟩,0,cap⟩ (kset V b ([]++spare,(t,(0,0)))):=by
 have hV:=kset_le (x:=([]++spare,(t,(0,0)))) hb
 refine⟨hle.trans hV,0,[b],rfl,Nat.zero_le _,⟨by simp,Nat.zero_le _,.inr ⟨b,[],[],spare,rfl,by rw [kset_same]; simp,by simpa using hs,by simp [Els],rfl⟩⟩,⟨by simp,fun b' hb'=>?_,fun b' hb'=>?_⟩⟩
 ·obtain rfl:b'=b:=by simpa using hb'
  exact none_of_le hle hb
 ·obtain rfl:b'=b:=by simpa using hb'
  exact⟨_,_,kset_same⟩
theorem copy_end {P:Program} {e:Rp sh α} {t:TypeId} {V0 V V2 Vd:Know} {l:List α} {k:Nat} {s:SlV} {c:Scs sh} {fx:List Nat} {bytes:Nat} {kk:SlV→T} {K:Know→List Value→Prop} {Ns:List (List LV→Know→Prop)}
  (h:CopyI e t V0 l (k:Int) s V) (hk:k<l.length) (hle2:V.le V2) (hR:e.R V2 c l[k] fx) (hO:Own V V2 fx) (hP:P.cellsOf t=sh.length)
  (hb:l.length*bytes≤140737488355328) (hl:l.length≤9223372036854775807)
  (hn:∀ s' V3,CopyI e t V0 l ((k+1:Nat):Int) s' V3→(kk s').wp P K V3 Vd Ns) :
  (T.ap s sh.length bytes (Scs.vals sh c) 1 t kk).wp P K V2 Vd Ns:=by
 obtain⟨h1,k',f,he,_,hg,ho⟩:=h
 obtain rfl:k=k':=by omega
 have hlen:(l.take k).length=k:=by simp; omega
 refine ap_row (hg.le hle2) hR (ho.append hO h1 hle2) (h1.trans hle2) hP ?_ (by omega) fun s' V' f' hg' ho' hle'=>hn s' V' ⟨hle',k+1,f',rfl,hk,?_,ho'⟩
 ·rw [hlen]
  exact Nat.le_trans (Nat.mul_le_mul_right _ hk) hb
 ·rw [List.take_succ_eq_append_getElem hk]; exact hg'
theorem CopyI.fin {e:Rp sh α} {t:TypeId} {V0 V:Know} {l:List α} {i:Int} {s:SlV} (h:CopyI e t V0 l i s V) (hl:l.length≤9223372036854775807) (hi:¬ i<(l.length:Int)) :
  V0.le V∧∃ f,LR e V s l f∧Own V0 V f:=by
 obtain⟨h1,k,f,rfl,hk,hg,ho⟩:=h
 obtain rfl:k=l.length:=by omega
 rw [List.take_length] at hg
 exact⟨h1,f,hg.lr hl,ho⟩
theorem CopyI.finG {e:Rp sh α} {t:TypeId} {V0 V:Know} {l:List α} {i:Int} {s:SlV} (h:CopyI e t V0 l i s V) (hi:¬ i<(l.length:Int)) :
  V0.le V∧∃ f,GR e t V s l f∧Own V0 V f:=by
 obtain⟨h1,k,f,rfl,hk,hg,ho⟩:=h
 obtain rfl:k=l.length:=by omega
 rw [List.take_length] at hg
 exact⟨h1,f,hg,ho⟩
end
end Go.Proofs.YtpdfdkccgkieoaaGreatDoor
namespace Go.Proofs.YtpdfdkccgkieoaaGreatDoor
open Sx
theorem setl_skip {x y vs:List Value} {n:Nat}:setl (x++y) (x.length+n) vs=x++setl y n vs:=by
 simp only [setl,Nat.add_assoc]
 rw [List.take_length_add_append,List.drop_length_add_append,List.append_assoc,List.append_assoc,List.append_assoc]
theorem setl_head {x y vs:List Value} {n:Nat} (h:n+vs.length≤x.length):setl (x++y) n vs=setl x n vs++y:=by
 simp only [setl]
 rw [List.take_append_of_le_length (by omega),List.drop_append_of_le_length h,List.append_assoc,List.append_assoc,List.append_assoc]
theorem setl_whole {x y:List Value} (h:y.length=x.length):y=setl x 0 y:=by
 simp only [setl,List.take_zero,List.nil_append,Nat.zero_add]
 rw [List.drop_of_length_le (by omega),List.append_nil]
section
variable {sh:List Sc} {α:Type}
theorem flat_set {c':Scs sh} {vs:List Value} {k:Nat}:∀ {cs:List (Scs sh)} {i:Nat} (hi:i<cs.length) (post:List Value),k+vs.length≤sh.length→Scs.vals sh c'=setl (Scs.vals sh cs[i]) k vs →
  setl (cs.flatMap (Scs.vals sh)++post) (i*sh.length+k) vs=(cs.set i c').flatMap (Scs.vals sh)++post
 | c :: cs,0,_,post,hk,e=>by
  have e:Scs.vals sh c'=setl (Scs.vals sh c) k vs:=e
  rw [List.flatMap_cons,List.set_cons_zero,List.flatMap_cons,Nat.zero_mul,Nat.zero_add,List.append_assoc,setl_head (by rw [vals_len]; exact hk),← e,List.append_assoc]
 | c :: cs,i+1,hi,post,hk,e=>by
  have e2:(i+1)*sh.length+k=(Scs.vals sh c).length+(i*sh.length+k):=by rw [vals_len,Nat.add_mul]; omega
  rw [List.flatMap_cons,List.append_assoc,e2,setl_skip,flat_set (cs:=cs) (by simpa using hi) post hk e,List.set_cons_succ,List.flatMap_cons,List.append_assoc]
theorem Els.set {r:Rp sh α} {V:Know} {c':Scs sh} {x':α} {fx:List Nat} (hx:r.R V c' x' fx) (nx:fx.Nodup):∀ {cs:List (Scs sh)} {l:List α} {fp:List Nat} {i:Nat},Els r V cs l fp→fp.Nodup→(∀ b∈fx,b ∉ fp)→i<l.length →
  ∃ fp',Els r V (cs.set i c') (l.set i x') fp'∧fp'.Nodup∧∀ b∈fp',b∈fp∨b∈fx
 | c :: cs,x :: l,_,0,⟨f,g,rfl,h1,h2⟩,nd,dj,_=>by
  have n2:=(List.nodup_append.1 nd).2.1
  refine⟨fx++g,⟨fx,g,rfl,hx,h2⟩,List.nodup_append.2 ⟨nx,n2,fun a ha b hb e=>dj a ha (by subst e; simp [hb])⟩,fun b hb=>?_⟩
  rcases List.mem_append.1 hb with h | h
  ·exact .inr h
  ·exact .inl (by simp [h])
 | c :: cs,x :: l,_,i+1,⟨f,g,rfl,h1,h2⟩,nd,dj,hi=>by
  obtain⟨n1,n2,n3⟩:=List.nodup_append.1 nd
  obtain⟨g',k1,k2,k3⟩:=Els.set hx nx (i:=i) h2 n2 (fun b hb hg=>dj b hb (by simp [hg])) (by simpa using hi)
  refine⟨f++g',⟨f,g',rfl,h1,k1⟩,List.nodup_append.2 ⟨n1,k2,fun a ha b hb e=>?_⟩,fun b hb=>?_⟩
  ·subst e
   rcases k3 a hb with h | h
   ·exact n3 a ha a h rfl
   ·exact dj a h (by simp [ha])
  ·rcases List.mem_append.1 hb with h | h
   ·exact .inl (by simp [h])
   ·rcases k3 b h with h | h
    ·exact .inl (by simp [h])
    ·exact .inr h
 | [],[],_,_,_,_,_,h=>by simp at h
 | [],_ :: _,_,_,h,_,_,_=>h.elim
 | _ :: _,[],_,_,h,_,_,_=>h.elim
theorem Own.perm {V V':Know} {f g:List Nat} (h:Own V V' f) (p:g.Perm f):Own V V' g:=⟨p.nodup_iff.2 h.1,fun b hb=>h.2.1 b (p.mem_iff.1 hb),fun b hb=>h.2.2 b (p.mem_iff.1 hb)⟩
theorem Own.sub {V V':Know} {f g:List Nat} (h:Own V V' f) (s:g.Sublist f):Own V V' g:=⟨h.1.sublist s,fun b hb=>h.2.1 b (s.subset hb),fun b hb=>h.2.2 b (s.subset hb)⟩
theorem LR.putRow {r:Rp sh α} {V0 V:Know} {s:SlV} {l:List α} {f:List Nat} (h:LR r V s l f) (hO:Own V0 V f) {i:Nat} (hi:i<l.length) :
  ∃ b o cs u c fc,s.a=some ⟨b,o,none⟩∧V b=some (cs,(u,(0,0)))∧o+i*sh.length+sh.length≤cs.length∧loadV V ((⟨b,o,none⟩:Addr).add (i*sh.length)) sh.length=some (Scs.vals sh c)∧r.R V c l[i] fc∧(∀ y∈fc,y∈f) ∧
   ∀ {V2:Know} {c':Scs sh} {x':α} {fx:List Nat} {k:Nat} {vs:List Value},V.le V2→V0.le V2→r.R V2 c' x' fx→Own V0 V2 (f++fx)→k+vs.length≤sh.length→Scs.vals sh c'=setl (Scs.vals sh c) k vs →
    ∃ f',LR r (kset V2 b (setl cs (o+i*sh.length+k) vs,(u,(0,0)))) s (l.set i x') f'∧Own V0 (kset V2 b (setl cs (o+i*sh.length+k) vs,(u,(0,0)))) f'∧V0.le (kset V2 b (setl cs (o+i*sh.length+k) vs,(u,(0,0))))∧b∈f∧∀ y∈f',y∈f∨y∈fx:=by
 have h0:=h
 obtain⟨h1,h2,h3,h4⟩:=h
 rcases h4 with ⟨z,_,_⟩ | ⟨b,pre,post,t,fps,cs,ha,hb,he,rfl⟩
 ·omega
 obtain⟨cw,tw,hw⟩:=hO.2.2 b (by simp)
 obtain rfl:t=(tw,(0,0)):=by
  rw [hb] at hw
  simp only [Option.some.injEq,Prod.mk.injEq] at hw
  exact hw.2
 have hcl:=he.len
 have hi2:i<cs.length:=by omega
 obtain⟨hi3,fc,g1,g2⟩:=he.at hi
 have hfl:(cs.flatMap (Scs.vals sh)).length=cs.length*sh.length:=flat_len cs
 have hmul:i*sh.length+sh.length≤cs.length*sh.length:=by
  have:=Nat.mul_le_mul_right sh.length (show i+1≤cs.length by omega)
  rw [Nat.add_mul,Nat.one_mul] at this
  exact this
 refine⟨b,pre.length,_,tw,cs[i],fc,ha,hb,?_,?_,g1,fun y hy=>by simp [g2 y hy],?_⟩
 ·simp only [List.length_append]; omega
 ·simp only [addr_add_eq,loadV,hb]
  rw [cutv_skip]
  exact cutv_flat (vals_len sh) hi2 post
 intro V2 c' x' fx k vs hle hle0 hx hO2 hk hc
 have e1:setl (pre++(cs.flatMap (Scs.vals sh)++post)) (pre.length+i*sh.length+k) vs=pre++((cs.set i c').flatMap (Scs.vals sh)++post):=by
  rw [Nat.add_assoc,setl_skip,flat_set hi2 post hk hc]
 rw [e1]
 obtain⟨n1,n2,n3⟩:=List.nodup_append.1 hO2.1
 have nb:b ∉ fps:=(List.nodup_cons.1 n1).1
 have nbx:b ∉ fx:=fun hm=>n3 b (by simp) b hm rfl
 have hoff:∀ (y:List Value × KTy) (g:List Nat),b ∉ g→∀ b'∈g,kset V2 b y b'=V2 b':=fun y g hg b' hb'=>by
  simp only [kset]; rw [if_neg (fun e:b'=b=>hg (by rw [← e]; exact hb'))]
 obtain⟨fp',k1,k2,k3⟩:=Els.set ((r.loc hx (hoff (pre++((cs.set i c').flatMap (Scs.vals sh)++post),(tw,(0,0))) fx nbx))) n2 (i:=i) ((he.le hle).loc (hoff _ fps nb)) (List.nodup_cons.1 n1).2 (fun y hy hm=>n3 y (by simp [hm]) y hy rfl) hi
 have nb':b ∉ fp':=fun hm=>by
  rcases k3 b hm with h | h
  ·exact nb h
  ·exact nbx h
 have hin:∀ y∈fp',y∈(b :: fps)++fx:=fun y hy=>by
  rcases k3 y hy with h | h
  ·simp [h]
  ·simp [h]
 refine⟨b :: fp',⟨by rw [List.length_set]; exact h1,h2,h3,.inr ⟨b,pre,post,_,fp',cs.set i c',ha,kset_same,k1,rfl⟩⟩,⟨List.nodup_cons.2 ⟨nb',k2⟩,fun y hy=>?_,fun y hy=>?_⟩,fun y z hy=>?_,by simp,fun y hy=>?_⟩
 ·rcases List.mem_cons.1 hy with rfl | hy
  ·exact hO2.2.1 y (by simp)
  ·exact hO2.2.1 y (hin y hy)
 ·rcases List.mem_cons.1 hy with rfl | hy
  ·exact⟨_,_,kset_same⟩
  ·obtain⟨u,v,huv⟩:=hO2.2.2 y (hin y hy)
   exact⟨u,v,by rw [kset_other (fun e=>nb' (by rw [← e]; exact hy))]; exact huv⟩
 ·have hne:y≠b:=fun e=>by
   subst e
   rw [hO2.2.1 y (by simp)] at hy; cases hy
  rw [kset_other hne]; exact hle0 y z hy
 ·rcases List.mem_cons.1 hy with rfl | hy
  ·exact .inl (by simp)
  ·rcases k3 y hy with h | h
   ·exact .inl (by simp [h])
   ·exact .inr h
end
end Go.Proofs.YtpdfdkccgkieoaaGreatDoor
