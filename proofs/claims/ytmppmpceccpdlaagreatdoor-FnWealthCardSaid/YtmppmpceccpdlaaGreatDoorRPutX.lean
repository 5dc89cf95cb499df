/-
  A rate is put into a table, in the program and in the reference; copies of tables that may grow. RatePut in the program and in the reference: a rate takes the place of the one with the same pair, or comes last.
-/
import Derived.Test.YtmppmpceccpdlaaGreatDoorMath
import Derived.Test.YtmppmpceccpdlaaGreatDoorMap
import Derived.Test.YtmppmpceccpdlaaGreatDoorOk
import Derived.Test.YtmppmpceccpdlaaGreatDoorTotA
namespace Go.Proofs.YtmppmpceccpdlaaGreatDoor
open Sx
def apD (s:SlV) (sz bytes:Nat) (ys:List Value) (m:Nat) (t:TypeId) (k:SlV→T):T:=.ap s sz bytes ys m t k
theorem ap_d (s:SlV) (sz bytes:Nat) (ys:List Value) (m:Nat) (t:TypeId) (k:SlV→T):T.ap s sz bytes ys m t k=apD s sz bytes ys m t k:=rfl
section
variable {sh:List Sc} {α:Type}
def GR (r:Rp sh α) (t:TypeId) (V:Know) (s:SlV) (l:List α) (f:List Nat):Prop :=
 s.n=l.length∧s.n≤s.c∧((s.a=none∧s.c=0∧l=[]∧f=[]) ∨
  ∃ b fps cs post,s.a=some ⟨b,0,none⟩∧V b=some (cs.flatMap (Scs.vals sh)++post,(t,(0,0)))∧post.length=(s.c-s.n)*sh.length∧Els r V cs l fps∧f=b :: fps)
theorem GR.nil {r:Rp sh α} {t:TypeId} {V:Know}:GR r t V ⟨none,0,0⟩ [] []:=⟨rfl,Nat.le_refl _,.inl ⟨rfl,rfl,rfl,rfl⟩⟩
theorem GR.lr {r:Rp sh α} {t:TypeId} {V:Know} {s:SlV} {l:List α} {f:List Nat} (h:GR r t V s l f) (hn:l.length≤9223372036854775807):LR r V s l f:=by
 obtain⟨h1,h2,h3⟩:=h
 refine⟨h1,h2,by omega,?_⟩
 rcases h3 with ⟨ha,hc,rfl,rfl⟩ | ⟨b,fps,cs,post,ha,hb,hp,he,rfl⟩
 ·exact .inl ⟨h1,fun _=>hc,rfl⟩
 ·exact .inr ⟨b,[],post,_,fps,cs,ha,hb,he,rfl⟩
theorem GR.loc {r:Rp sh α} {t:TypeId} {V V':Know} {s:SlV} {l:List α} {f:List Nat} (h:GR r t V s l f) (hb:∀ b∈f,V' b=V b):GR r t V' s l f:=by
 obtain⟨h1,h2,h3⟩:=h
 refine⟨h1,h2,?_⟩
 rcases h3 with h3 | ⟨b,fps,cs,post,ha,hv,hp,he,rfl⟩
 ·exact .inl h3
 ·exact .inr ⟨b,fps,cs,post,ha,by rw [hb b (by simp),hv],hp,he.loc fun x hx=>hb x (by simp [hx]),rfl⟩
theorem GR.le {r:Rp sh α} {t:TypeId} {V V':Know} {s:SlV} {l:List α} {f:List Nat} (h:GR r t V s l f) (hle:V.le V'):GR r t V' s l f:=by
 obtain⟨h1,h2,h3⟩:=h
 refine⟨h1,h2,?_⟩
 rcases h3 with h3 | ⟨b,fps,cs,post,ha,hb,hp,he,rfl⟩
 ·exact .inl h3
 ·exact .inr ⟨b,fps,cs,post,ha,hle _ _ hb,hp,he.le hle,rfl⟩
theorem ap_row {P:Program} {r:Rp sh α} {t:TypeId} {V0 V Vd:Know} {s:SlV} {l:List α} {f fx:List Nat} {c:Scs sh} {x:α} {bytes:Nat} {k:SlV→T} {K:Know→List Value→Prop} {Ns:List (List LV→Know→Prop)}
  (h:GR r t V s l f) (hx:r.R V c x fx) (hO:Own V0 V (f++fx)) (hle:V0.le V) (hP:P.cellsOf t=sh.length)
  (hb:(l.length+1)*bytes≤140737488355328) (hl:l.length+1≤9223372036854775807)
  (hk:∀ s' V' f',GR r t V' s' (l++[x]) f'→Own V0 V' f'→V0.le V'→(k s').wp P K V' Vd Ns) :
  (T.ap s sh.length bytes (Scs.vals sh c) 1 t k).wp P K V Vd Ns:=by
 obtain⟨h1,h2,h3⟩:=h
 simp only [T.wp]
 refine⟨h2,fun ha=>?_,fun h=>absurd h (by decide),fun _ hroom=>?_,fun _ hroom=>⟨by rw [h1]; exact hb,by rw [h1]; exact hl,?_⟩⟩
 ·rcases h3 with ⟨_,hc,_⟩ | ⟨b,fps,cs,post,ha',_⟩
  ·exact hc
  ·rw [ha] at ha'; cases ha'
 ·rcases h3 with ⟨_,hc,_⟩ | ⟨b,fps,cs,post,ha,hbk,hp,he,rfl⟩
  ·omega
  have hcl:cs.length=l.length:=he.len
  have hfl:(cs.flatMap (Scs.vals sh)).length=s.n*sh.length:=by rw [flat_len,hcl,h1]
  have hpl:sh.length≤post.length:=by
   rw [hp]; exact Nat.le_mul_of_pos_left _ (by omega)
  have hset:setl (cs.flatMap (Scs.vals sh)++post) (s.n*sh.length) (Scs.vals sh c)=(cs++[c]).flatMap (Scs.vals sh)++post.drop sh.length:=by
   rw [setl_mid hfl.symm (by rw [vals_len]; exact hpl),vals_len]
   simp
  have hnd:b ∉ fps∧b ∉ fx:=by
   have:=hO.1
   simp only [List.cons_append,List.nodup_cons,List.mem_append,not_or] at this
   exact this.1
  have hoff:∀ (y:List Value × KTy) (g:List Nat),b ∉ g→∀ b'∈g,kset V b y b'=V b':=fun y g hg b' hb'=>by
   simp only [kset]; rw [if_neg (fun e:b'=b=>hg (by rw [← e]; exact hb'))]
  refine⟨b,_,ha,hbk,?_,?_⟩
  ·rw [List.length_append,hfl,hp,← Nat.add_mul]
   exact Nat.mul_le_mul_right _ (by omega)
  ·rw [hset]
   refine hk _ _ (b :: (fps++fx)) ⟨by simp [h1],by show s.n+1≤s.c; omega,.inr ⟨b,fps++fx,cs++[c],post.drop sh.length,ha,kset_same,?_,?_,rfl⟩⟩ ⟨by simpa using hO.1,by simpa using hO.2.1,?_⟩ ?_
   ·rw [List.length_drop,hp,← Nat.sub_one_mul]
    congr 1
   ·exact(he.loc (hoff _ _ hnd.1)).snoc (r.loc hx (hoff _ _ hnd.2))
   ·intro b' hb'
    rcases List.mem_cons.1 hb' with rfl | hb'
    ·exact⟨_,_,kset_same⟩
    ·have hne:b'≠b:=fun e=>by
      rw [e] at hb'
      rcases List.mem_append.1 hb' with h | h
      ·exact hnd.1 h
      ·exact hnd.2 h
     obtain⟨u,v,huv⟩:=hO.2.2 b' (by simp only [List.cons_append,List.mem_cons]; exact .inr hb')
     exact⟨u,v,by simp only [kset]; rw [if_neg hne]; exact huv⟩
   ·intro b' y hy
    have hne:b'≠b:=fun e=>by
     subst e
     have:=hO.2.1 b' (by simp)
     rw [this] at hy; cases hy
    simp only [kset]; rw [if_neg hne]; exact hle b' y hy
 ·have hgo:∀ (cs:List (Scs sh)) (fps:List Nat),Els r V cs l fps→(∀ b∈fps,b∈f)→fps.Nodup→(∀ b∈fps,b ∉ fx) →
    ∀ b cap spare,V b=none→s.n+1≤cap→spare.length=(cap-(s.n+1))*P.cellsOf t →
    (k ⟨some ⟨b,0,none⟩,s.n+1,cap⟩).wp P K (kset V b ((cs.flatMap (Scs.vals sh)++Scs.vals sh c)++spare,(t,(0,0)))) Vd Ns:=by
   intro cs fps he hsub hnd hdis b cap spare hbn hcap hsp
   have hV:=kset_le (x:=((cs.flatMap (Scs.vals sh)++Scs.vals sh c)++spare,(t,(0,0)))) hbn
   have hin:∀ b'∈fps++fx,b'∈f++fx:=fun b' hb'=>by
    rcases List.mem_append.1 hb' with h | h
    ·exact List.mem_append.2 (.inl (hsub b' h))
    ·exact List.mem_append.2 (.inr h)
   have hn:b ∉ fps++fx:=fun hm=>by
    obtain⟨u,v,huv⟩:=hO.2.2 b (hin b hm)
    rw [hbn] at huv; cases huv
   refine hk _ _ (b :: (fps++fx)) ⟨by simp [h1],hcap,.inr ⟨b,fps++fx,cs++[c],spare,rfl,?_,by rw [hsp,hP],(he.le hV).snoc (r.le hx hV),rfl⟩⟩ ⟨List.nodup_cons.2 ⟨hn,?_⟩,fun b' hb'=>?_,fun b' hb'=>?_⟩ (hle.trans hV)
   ·rw [kset_same]; simp
   ·have:=List.nodup_append.1 hO.1
    exact List.nodup_append.2 ⟨hnd,this.2.1,fun a ha b hb e=>hdis a ha (e ▸ hb)⟩
   ·rcases List.mem_cons.1 hb' with rfl | hb'
    ·exact none_of_le hle hbn
    ·exact hO.2.1 b' (hin b' hb')
   ·rcases List.mem_cons.1 hb' with rfl | hb'
    ·exact⟨_,_,kset_same⟩
    ·obtain⟨u,v,huv⟩:=hO.2.2 b' (hin b' hb')
     exact⟨u,v,hV _ _ huv⟩
  rcases h3 with ⟨ha,hc,rfl,rfl⟩ | ⟨b,fps,cs,post,ha,hbk,hp,he,rfl⟩
  ·exact⟨[],.inl ⟨ha,h1,hc,rfl⟩,rfl,fun b cap spare hb hcap hsp=>by
    have:=hgo [] [] rfl (fun _ h=>by cases h) List.nodup_nil (fun _ h=>by cases h) b cap spare hb hcap hsp
    simpa using this⟩
  ·have hcl:cs.length=l.length:=he.len
   have hfl:(cs.flatMap (Scs.vals sh)).length=s.n*sh.length:=by rw [flat_len,hcl,h1]
   have hnt:∀ cs:List (Scs sh),noTup (cs.flatMap (Scs.vals sh))=true:=fun cs=>by
    induction cs with
    | nil=>rfl
    | cons c cs ih =>
     have hv:=vals_noTup sh c
     unfold noTup at ih hv ⊢
     rw [List.flatMap_cons,List.all_append,hv,ih]; rfl
   refine⟨_,.inr ⟨⟨b,0,none⟩,ha,?_⟩,hnt cs,hgo cs fps he (fun b' hb'=>by simp [hb']) ?_ ?_⟩
   ·simp only [loadV,hbk]
    rw [← hfl]; exact cutv_head
   ·have:=List.nodup_append.1 hO.1
    exact(List.nodup_cons.1 this.1).2
   ·have:=List.nodup_append.1 hO.1
    exact fun b' hb' hx'=>this.2.2 b' (by simp [hb']) b' hx' rfl
def CopyI (e:Rp sh α) (t:TypeId) (V0:Know) (l:List α) (i:Int) (s:SlV) (V:Know):Prop :=
 V0.le V∧∃ (k:Nat) (f:List Nat),i=(k:Int)∧k≤l.length∧GR e t V s (l.take k) f∧Own V0 V f
theorem CopyI.start {e:Rp sh α} {t:TypeId} {V:Know} {l:List α}:CopyI e t V l 0 ⟨none,0,0⟩ V:=⟨Know.le.refl _,0,[],rfl,Nat.zero_le _,by simpa using GR.nil,Own.nil⟩
theorem CopyI.start_made {e:Rp sh α} {t:TypeId} {V0 V:Know} {l:List α} {b cap:Nat} {spare:List Value} (hle:V0.le V) (hb:V b=none) (hs:spare.length=cap*sh.length) :
  CopyI e t V0 l 0 ⟨some ⟨b,0,none⟩,0,cap⟩ (kset V b ([]++spare,(t,(0,0)))):=by
 have hV:=kset_le (x:=([]++spare,(t,(0,0)))) hb
 refine⟨hle.trans hV,0,[b],rfl,Nat.zero_le _,⟨by simp,Nat.zero_le _,.inr ⟨b,[],[],spare,rfl,by rw [kset_same]; simp,by simpa using hs,by simp [Els],rfl⟩⟩,⟨by simp,fun b' hb'=>?_,fun b' hb'=>?_⟩⟩
 ·obtain rfl:b'=b:=by simpa using hb'
  exact none_of_le hle hb
 ·obtain rfl:b'=b:=by simpa using hb'
  exact⟨_,_,kset_same⟩
theorem copy_end {P:Program} {e:Rp sh α} {t:TypeId} {V0 V V2 Vd:Know} {l:List α} {k:Nat} {s:SlV} {c:Scs sh} {fx:List Nat} {bytes:Nat} {kk:SlV→T} {K:Know→List Value→Prop} {Ns:List (List LV→Know→Prop)}
  (h:CopyI e t V0 l (k:Int) s V) (hk:k<l.length) (hle2:V.le V2) (hR:e.R V2 c l[k] fx) (hO:Own V V2 fx) (hP:P.cellsOf t=sh.length)
  (hb:l.length*bytes≤140737488355328) (hl:l.length≤9223372036854775807)
  (hn:∀ s' V3,CopyI e t V0 l ((k+1:Nat):Int) s' V3→(kk s').wp P K V3 Vd Ns) :
  (T.ap s sh.length bytes (Scs.vals sh c) 1 t kk).wp P K V2 Vd Ns:=by
 obtain⟨h1,k',f,he,_,hg,ho⟩:=h
 obtain rfl:k=k':=by omega
 have hlen:(l.take k).length=k:=by simp; omega
 refine ap_row (hg.le hle2) hR (ho.append hO h1 hle2) (h1.trans hle2) hP ?_ (by omega) fun s' V' f' hg' ho' hle'=>hn s' V' ⟨hle',k+1,f',rfl,hk,?_,ho'⟩
 ·rw [hlen]
  exact Nat.le_trans (Nat.mul_le_mul_right _ hk) hb
 ·rw [List.take_succ_eq_append_getElem hk]; exact hg'
theorem CopyI.fin {e:Rp sh α} {t:TypeId} {V0 V:Know} {l:List α} {i:Int} {s:SlV} (h:CopyI e t V0 l i s V) (hl:l.length≤9223372036854775807) (hi:¬ i<(l.length:Int)) :
  V0.le V∧∃ f,LR e V s l f∧Own V0 V f:=by
 obtain⟨h1,k,f,rfl,hk,hg,ho⟩:=h
 obtain rfl:k=l.length:=by omega
 rw [List.take_length] at hg
 exact⟨h1,f,hg.lr hl,ho⟩
theorem CopyI.finG {e:Rp sh α} {t:TypeId} {V0 V:Know} {l:List α} {i:Int} {s:SlV} (h:CopyI e t V0 l i s V) (hi:¬ i<(l.length:Int)) :
  V0.le V∧∃ f,GR e t V s l f∧Own V0 V f:=by
 obtain⟨h1,k,f,rfl,hk,hg,ho⟩:=h
 obtain rfl:k=l.length:=by omega
 rw [List.take_length] at hg
 exact⟨h1,f,hg,ho⟩
end
end Go.Proofs.YtmppmpceccpdlaaGreatDoor
namespace Go.Proofs.YtmppmpceccpdlaaGreatDoor
open Sx
theorem setl_skip {x y vs:List Value} {n:Nat}:setl (x++y) (x.length+n) vs=x++setl y n vs:=by
 simp only [setl,Nat.add_assoc]
 rw [List.take_length_add_append,List.drop_length_add_append,List.append_assoc,List.append_assoc,List.append_assoc]
theorem setl_head {x y vs:List Value} {n:Nat} (h:n+vs.length≤x.length):setl (x++y) n vs=setl x n vs++y:=by
 simp only [setl]
 rw [List.take_append_of_le_length (by omega),List.drop_append_of_le_length h,List.append_assoc,List.append_assoc,List.append_assoc]
theorem setl_whole {x y:List Value} (h:y.length=x.length):y=setl x 0 y:=by
 simp only [setl,List.take_zero,List.nil_append,Nat.zero_add]
 rw [List.drop_of_length_le (by omega),List.append_nil]
section
variable {sh:List Sc} {α:Type}
theorem flat_set {c':Scs sh} {vs:List Value} {k:Nat}:∀ {cs:List (Scs sh)} {i:Nat} (hi:i<cs.length) (post:List Value),k+vs.length≤sh.length→Scs.vals sh c'=setl (Scs.vals sh cs[i]) k vs →
  setl (cs.flatMap (Scs.vals sh)++post) (i*sh.length+k) vs=(cs.set i c').flatMap (Scs.vals sh)++post
 | c :: cs,0,_,post,hk,e=>by
  have e:Scs.vals sh c'=setl (Scs.vals sh c) k vs:=e
  rw [List.flatMap_cons,List.set_cons_zero,List.flatMap_cons,Nat.zero_mul,Nat.zero_add,List.append_assoc,setl_head (by rw [vals_len]; exact hk),← e,List.append_assoc]
 | c :: cs,i+1,hi,post,hk,e=>by
  have e2:(i+1)*sh.length+k=(Scs.vals sh c).length+(i*sh.length+k):=by rw [vals_len,Nat.add_mul]; omega
  rw [List.flatMap_cons,List.append_assoc,e2,setl_skip,flat_set (cs:=cs) (by simpa using hi) post hk e,List.set_cons_succ,List.flatMap_cons,List.append_assoc]
theorem Els.set {r:Rp sh α} {V:Know} {c':Scs sh} {x':α} {fx:List Nat} (hx:r.R V c' x' fx) (nx:fx.Nodup):∀ {cs:List (Scs sh)} {l:List α} {fp:List Nat} {i:Nat},Els r V cs l fp→fp.Nodup→(∀ b∈fx,b ∉ fp)→i<l.length →
  ∃ fp',Els r V (cs.set i c') (l.set i x') fp'∧fp'.Nodup∧∀ b∈fp',b∈fp∨b∈fx
 | c :: cs,x :: l,_,0,⟨f,g,rfl,h1,h2⟩,nd,dj,_=>by
  have n2:=(List.nodup_append.1 nd).2.1
  refine⟨fx++g,⟨fx,g,rfl,hx,h2⟩,List.nodup_append.2 ⟨nx,n2,fun a ha b hb e=>dj a ha (by subst e; simp [hb])⟩,fun b hb=>?_⟩
  rcases List.mem_append.1 hb with h | h
  ·exact .inr h
  ·exact .inl (by simp [h])
 | c :: cs,x :: l,_,i+1,⟨f,g,rfl,h1,h2⟩,nd,dj,hi=>by
  obtain⟨n1,n2,n3⟩:=List.nodup_append.1 nd
  obtain⟨g',k1,k2,k3⟩:=Els.set hx nx (i:=i) h2 n2 (fun b hb hg=>dj b hb (by simp [hg])) (by simpa using hi)
  refine⟨f++g',⟨f,g',rfl,h1,k1⟩,List.nodup_append.2 ⟨n1,k2,fun a ha b hb e=>?_⟩,fun b hb=>?_⟩
  ·subst e
   rcases k3 a hb with h | h
   ·exact n3 a ha a h rfl
   ·exact dj a h (by simp [ha])
  ·rcases List.mem_append.1 hb with h | h
   ·exact .inl (by simp [h])
   ·rcases k3 b h with h | h
    ·exact .inl (by simp [h])
    ·exact .inr h
 | [],[],_,_,_,_,_,h=>by simp at h
 | [],_ :: _,_,_,h,_,_,_=>h.elim
 | _ :: _,[],_,_,h,_,_,_=>h.elim
theorem Own.perm {V V':Know} {f g:List Nat} (h:Own V V' f) (p:g.Perm f):Own V V' g:=⟨p.nodup_iff.2 h.1,fun b hb=>h.2.1 b (p.mem_iff.1 hb),fun b hb=>h.2.2 b (p.mem_iff.1 hb)⟩
theorem LR.putRow {r:Rp sh α} {V0 V:Know} {s:SlV} {l:List α} {f:List Nat} (h:LR r V s l f) (hO:Own V0 V f) {i:Nat} (hi:i<l.length) :
  ∃ b o cs u c fc,s.a=some ⟨b,o,none⟩∧V b=some (cs,(u,(0,0)))∧o+i*sh.length+sh.length≤cs.length∧loadV V ((⟨b,o,none⟩:Addr).add (i*sh.length)) sh.length=some (Scs.vals sh c)∧r.R V c l[i] fc∧(∀ y∈fc,y∈f) ∧
   ∀ {V2:Know} {c':Scs sh} {x':α} {fx:List Nat} {k:Nat} {vs:List Value},V.le V2→V0.le V2→r.R V2 c' x' fx→Own V0 V2 (f++fx)→k+vs.length≤sh.length→Scs.vals sh c'=setl (Scs.vals sh c) k vs →
    ∃ f',LR r (kset V2 b (setl cs (o+i*sh.length+k) vs,(u,(0,0)))) s (l.set i x') f'∧Own V0 (kset V2 b (setl cs (o+i*sh.length+k) vs,(u,(0,0)))) f'∧V0.le (kset V2 b (setl cs (o+i*sh.length+k) vs,(u,(0,0))))∧b∈f∧∀ y∈f',y∈f∨y∈fx:=by
 have h0:=h
 obtain⟨h1,h2,h3,h4⟩:=h
 rcases h4 with ⟨z,_,_⟩ | ⟨b,pre,post,t,fps,cs,ha,hb,he,rfl⟩
 ·omega
 obtain⟨cw,tw,hw⟩:=hO.2.2 b (by simp)
 obtain rfl:t=(tw,(0,0)):=by
  rw [hb] at hw
  simp only [Option.some.injEq,Prod.mk.injEq] at hw
  exact hw.2
 have hcl:=he.len
 have hi2:i<cs.length:=by omega
 obtain⟨hi3,fc,g1,g2⟩:=he.at hi
 have hfl:(cs.flatMap (Scs.vals sh)).length=cs.length*sh.length:=flat_len cs
 have hmul:i*sh.length+sh.length≤cs.length*sh.length:=by
  have:=Nat.mul_le_mul_right sh.length (show i+1≤cs.length by omega)
  rw [Nat.add_mul,Nat.one_mul] at this
  exact this
 refine⟨b,pre.length,_,tw,cs[i],fc,ha,hb,?_,?_,g1,fun y hy=>by simp [g2 y hy],?_⟩
 ·simp only [List.length_append]; omega
 ·simp only [addr_add_eq,loadV,hb]
  rw [cutv_skip]
  exact cutv_flat (vals_len sh) hi2 post
 intro V2 c' x' fx k vs hle hle0 hx hO2 hk hc
 have e1:setl (pre++(cs.flatMap (Scs.vals sh)++post)) (pre.length+i*sh.length+k) vs=pre++((cs.set i c').flatMap (Scs.vals sh)++post):=by
  rw [Nat.add_assoc,setl_skip,flat_set hi2 post hk hc]
 rw [e1]
 obtain⟨n1,n2,n3⟩:=List.nodup_append.1 hO2.1
 have nb:b ∉ fps:=(List.nodup_cons.1 n1).1
 have nbx:b ∉ fx:=fun hm=>n3 b (by simp) b hm rfl
 have hoff:∀ (y:List Value × KTy) (g:List Nat),b ∉ g→∀ b'∈g,kset V2 b y b'=V2 b':=fun y g hg b' hb'=>by
  simp only [kset]; rw [if_neg (fun e:b'=b=>hg (by rw [← e]; exact hb'))]
 obtain⟨fp',k1,k2,k3⟩:=Els.set ((r.loc hx (hoff (pre++((cs.set i c').flatMap (Scs.vals sh)++post),(tw,(0,0))) fx nbx))) n2 (i:=i) ((he.le hle).loc (hoff _ fps nb)) (List.nodup_cons.1 n1).2 (fun y hy hm=>n3 y (by simp [hm]) y hy rfl) hi
 have nb':b ∉ fp':=fun hm=>by
  rcases k3 b hm with h | h
  ·exact nb h
  ·exact nbx h
 have hin:∀ y∈fp',y∈(b :: fps)++fx:=fun y hy=>by
  rcases k3 y hy with h | h
  ·simp [h]
  ·simp [h]
 refine⟨b :: fp',⟨by rw [List.length_set]; exact h1,h2,h3,.inr ⟨b,pre,post,_,fp',cs.set i c',ha,kset_same,k1,rfl⟩⟩,⟨List.nodup_cons.2 ⟨nb',k2⟩,fun y hy=>?_,fun y hy=>?_⟩,fun y z hy=>?_,by simp,fun y hy=>?_⟩
 ·rcases List.mem_cons.1 hy with rfl | hy
  ·exact hO2.2.1 y (by simp)
  ·exact hO2.2.1 y (hin y hy)
 ·rcases List.mem_cons.1 hy with rfl | hy
  ·exact⟨_,_,kset_same⟩
  ·obtain⟨u,v,huv⟩:=hO2.2.2 y (hin y hy)
   exact⟨u,v,by rw [kset_other (fun e=>nb' (by rw [← e]; exact hy))]; exact huv⟩
 ·have hne:y≠b:=fun e=>by
   subst e
   rw [hO2.2.1 y (by simp)] at hy; cases hy
  rw [kset_other hne]; exact hle0 y z hy
 ·rcases List.mem_cons.1 hy with rfl | hy
  ·exact .inl (by simp)
  ·rcases k3 y hy with h | h
   ·exact .inl (by simp [h])
   ·exact .inr h
end
end Go.Proofs.YtmppmpceccpdlaaGreatDoor
namespace Go.Proofs.YtmppmpceccpdlaaGreatDoor
open Sx
set_option maxRecDepth 100000
theorem cS_l17Money (V:Know) (c0:ByteArray) (c1:Bool) (c2:SlV) (l:List Lim) (f:List Nat) (h:LR rI V c2 l f) (hl:l.length≤1048576) :
  CallX Tryz.prog V 167 [qv2 (c0,c1,c2,())] (fun V' r=>V.le V'∧∃ s f',r=qv2 (c0,c1,s,())∧LR rI V' s l f'∧Own V V' f'):=by
 refine CallX.of_fits Tryz.mix (fS_l17Money _) fun _=>?_
 simp only [tS_l17Money,T.wp]
 obtain⟨h1,h2⟩:=h.rdI
 have hn:=h.1
 intro b1 hb1
 have hV1:=kset_le (x:=(([]:List Value),((3:TypeId),((0,0):Nat × Nat)))) hb1
 refine⟨l.map cellI,?_,⟨h2,(by omega:c2.n*8≤140737488355328),(by omega:c2.n≤9223372036854775807)⟩,fun hz=>?_,fun hz b3 cap spare hb3 hc _=>?_⟩
 ·rcases h1 with ⟨q1,_,q3⟩ | q
  ·exact .inl ⟨q1,q3⟩
  ·exact .inr q
 ·have hz':c2.n=0:=of_decide_eq_true hz
  have:l=[]:=List.eq_nil_of_length_eq_zero (by omega)
  subst this
  have hk:=newI (V:=V) (b:=b1) (cap:=0) (o:=[]) (spare:=[]) (t:=3) hb1 (Nat.le_refl _) (by simp)
  exact⟨hV1,_,_,rfl,hk.1,hk.2⟩
 ·have hc':l.length≤cap:=by rw [← hn]; exact hc
  have hk:=newI (V:=kset V b1 (([]:List Value),((3:TypeId),((0,0):Nat × Nat)))) (b:=b3) (cap:=cap) (o:=l) (spare:=spare) (t:=3) hb3 hc' (by omega)
  have hV3:=kset_le (x:=(l.map cellI++spare,((3:TypeId),((0,0):Nat × Nat)))) hb3
  refine⟨hV1.trans hV3,⟨some ⟨b3,0,none⟩,c2.n,cap⟩,[b3],rfl,?_,hk.2.pre hV1⟩
  rw [hn]; exact hk.1
theorem kS_l17Money:ToC Tryz.prog 167 rMoney:=by
 rintro V ⟨c0,c1,c2,cu⟩ ⟨x0,x1,x2,xu⟩ f hx ht
 obtain⟨⟨ec0,zc0⟩,hx⟩:=hx
 replace ec0:c0=x0:=ec0
 subst ec0
 obtain⟨ec1,hx⟩:=hx
 replace ec1:c1=x1:=ec1
 subst ec1
 obtain⟨f2,fr2,ec2,sc2,hx⟩:=hx
 subst ec2
 replace sc2:LR rI _ c2 x2 f2:=sc2
 replace hx:_=[]:=hx
 subst hx
 replace ht:(c0.size+(x2.length+totE rI x2+0))≤1048576:=ht
 refine(cS_l17Money _ _ _ _ x2 _ sc2 (by omega)).mono ?_
 rintro V1 r ⟨hle1,s,k,rfl,hr,ho⟩
 exact⟨hle1,(c0,c1,s,()),_,rfl,rStr.mk zc0 (rBool.mk (rSl.mk hr rNil.mk)),by simpa using ho⟩
abbrev acT:TypeId:=65
abbrev ratT:TypeId:=111
theorem kS_l17Copy:ToC Tryz.prog 155 rBook:=by
 rintro V ⟨s,cu⟩ ⟨l,xu⟩ f hx ht
 obtain⟨f1,fr1,ef,sc,hx⟩:=hx
 subst ef
 replace sc:LR rAcct _ s l f1:=sc
 replace hx:_=[]:=hx
 subst hx
 replace ht:(l.length+totE rAcct l+0)≤1048576:=ht
 have hn:=sc.1
 refine CallX.of_fits Tryz.mix (fS_l17Copy _) fun _=>?_
 simp only [tS_l17Copy,ap_d,T.wp]
 refine⟨fun y V'=>CopyI rAcct 65 V l y.1 y.2.1 V',fun y _=>((l.length:Int)-(y.1:Int)).toNat,⟨((0:Int),⟨none,0,0⟩,()),rfl,CopyI.start⟩,?_⟩
 rintro⟨(i:Int),s1,u⟩ V' hI
 have hI':CopyI rAcct 65 V l i s1 V':=hI
 refine⟨fun hlt=>?_,fun hge=>?_⟩
 ·have hI0:=hI'
  obtain⟨hle,k,f0,rfl,hk,_,_⟩:=hI'
  have h1:k<l.length:=by
   have:(k:Int)<(s.n:Int):=by simpa using hlt
   omega
  obtain⟨b1,o1,c1,fc,a1,l1,r1,_⟩:=(sc.le hle).at h1
  have htx:=totE_mem rAcct h1
  refine⟨_,a1,(by omega:(0:Int)≤(k:Int)),(by omega:(k:Int)<(s.n:Int)),c1,l1,?_⟩
  obtain⟨n1,m1⟩:=c1
  obtain⟨en,zn⟩:=r1.1
  refine(kS_l17Money V' m1 l[k].2 fc r1.2 (by have:l[k].1.size+rMoney.tot l[k].2=rAcct.tot l[k]:=rfl; omega)).mono ?_
  rintro V2 r ⟨hle2,⟨c2,c3,c4,cv⟩,f2,rfl,hR,hO⟩
  refine⟨fun _=>hle2,(c2,c3,c4,()),rfl,rfl,rfl,?_⟩
  refine copy_end (sh:=[.s,.s,.b,.l]) (c:=(n1,c2,c3,c4,())) hI0 h1 hle2 (e:=rAcct) (bytes:=64) (fx:=f2) ⟨⟨en,zn⟩,hR⟩ hO (by kernel_rfl) (by omega) (by omega) fun s' V3 h3=>?_
  refine⟨_,rfl,(((k+1:Nat):Int),s',()),by rw [nxt h1 (by omega)]; rfl,h3,?_⟩
  show((l.length:Int)-((k+1:Nat):Int)).toNat<((l.length:Int)-(k:Int)).toNat
  omega
 ·have hi:¬ i<(l.length:Int):=by
   have:¬ i<(s.n:Int):=by simpa using hge
   omega
  obtain⟨hle,f3,hL,hO⟩:=hI'.fin (by omega) hi
  exact⟨hle,(s1,()),f3++[],rfl,rSl.mk hL rNil.mk,by simpa using hO⟩
abbrev GrowPost (V:Know) (x:DRates):Know→Value→Prop:=fun V' r=>V.le V'∧∃ s f,r=qv3 (x.1,s,())∧GR rRate ratT V' s x.2.1 f∧Own V V' f
def litT (s:SlV) (k:SlV→T):T :=
 .es [] 3 fun b1=>.ra ⟨s.a,s.n,s.c⟩ 1 fun y2 =>
 .rq (one y2=true∧s.n*(8:Nat)≤(140737488355328:Nat)∧s.n≤(9223372036854775807:Nat)) <|
 .br (decide (s.n=(0:Nat))) (k ⟨some ⟨b1,0,none⟩,0,0⟩) (.fz s.n y2 3 fun b3 c3=>k ⟨some ⟨b3,0,none⟩,s.n,c3⟩)
theorem litT_wp {P:Program} {K:Know→List Value→Prop} {V V0:Know} {Ns:List (List LV→Know→Prop)} {s:SlV} {l:List Lim} {f:List Nat} {k:SlV→T} (h:LR rI V0 s l f) (hl:l.length≤1048576)
  (hk:∀ V2 s' f',V.le V2→LR rI V2 s' l f'→Own V V2 f'→(k s').wp P K V2 V0 Ns):(litT s k).wp P K V V0 Ns:=by
 simp only [litT,T.wp]
 obtain⟨h1,h2⟩:=h.rdI
 have hn:=h.1
 intro b1 hb1
 have hV1:=kset_le (x:=(([]:List Value),((3:TypeId),((0,0):Nat × Nat)))) hb1
 refine⟨l.map cellI,?_,⟨h2,(by omega:s.n*8≤140737488355328),(by omega:s.n≤9223372036854775807)⟩,fun hz=>?_,fun hz b3 cap spare hb3 hc _=>?_⟩
 ·rcases h1 with ⟨q1,_,q3⟩ | q
  ·exact .inl ⟨q1,q3⟩
  ·exact .inr q
 ·have hz':s.n=0:=of_decide_eq_true hz
  have:l=[]:=List.eq_nil_of_length_eq_zero (by omega)
  subst this
  have hk':=newI (V:=V) (b:=b1) (cap:=0) (o:=[]) (spare:=[]) (t:=3) hb1 (Nat.le_refl _) (by simp)
  exact hk _ _ _ hV1 hk'.1 hk'.2
 ·have hc':l.length≤cap:=by rw [← hn]; exact hc
  have hk':=newI (V:=kset V b1 (([]:List Value),((3:TypeId),((0,0):Nat × Nat)))) (b:=b3) (cap:=cap) (o:=l) (spare:=spare) (t:=3) hb3 hc' (by omega)
  have hV3:=kset_le (x:=(l.map cellI++spare,((3:TypeId),((0,0):Nat × Nat)))) hb3
  refine hk _ _ [b3] (hV1.trans hV3) ?_ (hk'.2.pre hV1)
  rw [hn]; exact hk'.1
theorem kS_l19Rat:ToC Tryz.prog 159 rRat:=by
 rintro V ⟨c0,c1,c2,cu⟩ ⟨x0,x1,x2,xu⟩ f hx ht
 obtain⟨ec0,hx⟩:=hx
 replace ec0:c0=x0:=ec0
 subst ec0
 obtain⟨f1,fr1,ec1,sc1,hx⟩:=hx
 subst ec1
 replace sc1:LR rI _ c1 x1 f1:=sc1
 obtain⟨f2,fr2,ec2,sc2,hx⟩:=hx
 subst ec2
 replace sc2:LR rI _ c2 x2 f2:=sc2
 replace hx:_=[]:=hx
 subst hx
 replace ht:(x1.length+totE rI x1+(x2.length+totE rI x2+0))≤1048576:=ht
 refine CallX.of_fits Tryz.mix (fS_l19Rat _) fun _=>?_
 show T.wp _ _ (litT c1 fun s1=>litT c2 fun s2=>.ret [qv0 (c0,s1,s2,())]) V V []
 refine litT_wp sc1 (by omega) fun V1 s1 g1 hle1 L1 O1=>?_
 refine litT_wp sc2 (by omega) fun V2 s2 g2 hle2 L2 O2=>?_
 exact⟨hle1.trans hle2,(c0,s1,s2,()),_,rfl,rBool.mk (rSl.mk (L1.le hle2) (rSl.mk L2 rNil.mk)),by simpa using O1.append O2 hle1 hle2⟩
theorem kS_l19Copy:ToSC Tryz.prog 131 rRest:=by
 intro V s l f sc ht
 have hn:=sc.1
 refine CallX.of_fits Tryz.mix (fS_l19Copy _) fun _=>?_
 simp only [tS_l19Copy,ap_d,T.wp]
 intro b cap spare hb hc hsp
 refine⟨fun y V'=>CopyI rRest 188 V l y.2.1 y.1 V',fun y _=>((l.length:Int)-(y.2.1:Int)).toNat,⟨(⟨some ⟨b,0,none⟩,0,cap⟩,(0:Int),()),rfl,CopyI.start_made (Know.le.refl _) hb (by rw [hsp]; rfl)⟩,?_⟩
 rintro⟨s1,(i:Int),u⟩ V' hI
 have hI':CopyI rRest 188 V l i s1 V':=hI
 refine⟨fun hlt=>?_,fun hge=>?_⟩
 ·have hI0:=hI'
  obtain⟨hle,k,f0,rfl,hk,_,_⟩:=hI'
  have h1:k<l.length:=by
   have:(k:Int)<(s.n:Int):=by simpa using hlt
   omega
  obtain⟨b1,o1,c1,fc,a1,l1,r1,_⟩:=(sc.le hle).at h1
  have htx:=totE_mem rRest h1
  refine⟨_,a1,(by omega:(0:Int)≤(k:Int)),(by omega:(k:Int)<(s.n:Int)),c1,l1,?_⟩
  obtain⟨n1,m1⟩:=c1
  obtain⟨en,zn⟩:=r1.1
  refine(kS_l19Rat V' m1 l[k].2 fc r1.2 (by have:l[k].1.size+rRat.tot l[k].2=rRest.tot l[k]:=rfl; omega)).mono ?_
  rintro V2 r ⟨hle2,⟨c2,c3,c4,cv⟩,f2,rfl,hR,hO⟩
  refine⟨fun _=>hle2,(c2,c3,c4,()),rfl,rfl,rfl,?_⟩
  refine copy_end (sh:=[.s,.b,.l,.l]) (c:=(n1,c2,c3,c4,())) hI0 h1 hle2 (e:=rRest) (bytes:=72) (fx:=f2) ⟨⟨en,zn⟩,hR⟩ hO (by kernel_rfl) (by omega) (by omega) fun s' V3 h3=>?_
  refine⟨_,rfl,(s',((k+1:Nat):Int),()),by rw [nxt h1 (by omega)]; rfl,h3,?_⟩
  show((l.length:Int)-((k+1:Nat):Int)).toNat<((l.length:Int)-(k:Int)).toNat
  omega
 ·have hi:¬ i<(l.length:Int):=by
   have:¬ i<(s.n:Int):=by simpa using hge
   omega
  obtain⟨hle,f3,hL,hO⟩:=hI'.fin (by omega) hi
  exact⟨hle,s1,f3,rfl,hL,hO⟩
end Go.Proofs.YtmppmpceccpdlaaGreatDoor
namespace Go.Proofs.YtmppmpceccpdlaaGreatDoor
open Sx
set_option maxRecDepth 100000
theorem rates_elim {V:Know} {c:Scs [.s,.l]} {x:DRates} {f:List Nat} (h:rRates.R V c x f):∃ s g,c=(x.1,s,())∧LR rRate V s x.2.1 g:=by
 obtain⟨c0,c1,cu⟩:=c
 obtain⟨⟨e0,_⟩,g,r,rfl,hs,_⟩:=h
 replace e0:c0=x.1:=e0
 subst e0
 exact⟨c1,g,rfl,hs⟩
theorem kS_l10Rate (V:Know) (c:Scs [.s,.s,.b,.l,.i .i64]) (x:DRate) (f:List Nat) (h:rRate.R V c x f) (ok:RateOkP x) :
  CallX Tryz.prog V 109 [qv5 c] (fun V' r=>V.le V'∧∃ c' f',r=qv5 c'∧rRate.R V' c' x f'∧Own V V' f'):=by
 obtain⟨c0,c1,c2,c3,c4,cu⟩:=c
 obtain⟨x0,x1,x2,x3,x4,xu⟩:=x
 obtain⟨⟨e0,z0⟩,h⟩:=h
 replace e0:c0=x0:=e0
 subst e0
 obtain⟨⟨e1,z1⟩,h⟩:=h
 replace e1:c1=x1:=e1
 subst e1
 obtain⟨e2,h⟩:=h
 replace e2:c2=x2:=e2
 subst e2
 obtain⟨g,g2,_,hs,h⟩:=h
 replace hs:LR rI V c3 x3 g:=hs
 obtain⟨e4,_⟩:=h
 replace e4:c4=x4:=e4
 subst e4
 have oi:IntOkP c2 x3:=ok.2.2.2.1.1
 refine CallX.of_fits Tryz.mix (fS_l10Rate _) fun _=>?_
 simp only [tS_l10Rate,T.wp]
 refine(cS_l04Make V c2 c3 x3 g hs oi.1.1 oi.1.2).mono ?_
 rintro V1 _ ⟨le1,s1,f1,rfl,L1,O1⟩
 refine⟨fun _=>le1,_,rfl,le1,(c0,c1,c2,s1,c4,()),_,?_,rStr.mk z0 (rStr.mk z1 (rBool.mk (rSl.mk L1 (rInt.mk rNil.mk)))),by simpa using O1⟩
 have:(c2 && decide (0<x3.length))=c2:=by
  cases c2
  ·rfl
  ·have:=oi.2 rfl
   simpa using this
 show qv5 (c0,c1,(c2 && decide (0<x3.length)),s1,c4,())=_
 rw [this]
theorem growS_rates (V:Know) (c:Scs [.s,.l]) (x:DRates) (f:List Nat) (hx:rRates.R V c x f) (ht:rRates.tot x≤1048576) (ok:∀ i (h:i<x.2.1.length),RateOkP x.2.1[i]):CallX Tryz.prog V 107 [qv3 c] (GrowPost V x):=by
 obtain⟨p0,s,cu⟩:=c
 obtain⟨q0,l,xu⟩:=x
 obtain⟨⟨ep,zp⟩,hx⟩:=hx
 replace ep:p0=q0:=ep
 subst ep
 obtain⟨f1,fr1,ef,sc,hx⟩:=hx
 subst ef
 replace sc:LR rRate _ s l f1:=sc
 replace hx:_=[]:=hx
 subst hx
 replace ht:(p0.size+(l.length+totE rRate l+0))≤1048576:=ht
 have hn:=sc.1
 refine CallX.of_fits Tryz.mix (fS_l10Copy _) fun _=>?_
 simp only [tS_l10Copy,ap_d,T.wp]
 refine⟨fun y V'=>y.2.1=p0∧CopyI rRate ratT V l y.1 y.2.2.1 V',fun y _=>((l.length:Int)-(y.1:Int)).toNat,⟨((0:Int),p0,⟨none,0,0⟩,()),rfl,rfl,CopyI.start⟩,?_⟩
 rintro⟨(i:Int),p1,s1,u⟩ V' ⟨hp,hI⟩
 replace hp:p1=p0:=hp
 subst hp
 have hI':CopyI rRate ratT V l i s1 V':=hI
 refine⟨fun hlt=>?_,fun hge=>?_⟩
 ·have hI0:=hI'
  obtain⟨hle,k,f0,rfl,hk,_,_⟩:=hI'
  have h1:k<l.length:=by
   have:(k:Int)<(s.n:Int):=by simpa using hlt
   omega
  obtain⟨b1,o1,c1,fc,a1,l1,r1,_⟩:=(sc.le hle).at h1
  have htx:=totE_mem rRate h1
  refine⟨_,a1,(by omega:(0:Int)≤(k:Int)),(by omega:(k:Int)<(s.n:Int)),c1,l1,?_⟩
  refine(kS_l10Rate V' c1 l[k] fc r1 (ok k h1)).mono ?_
  rintro V2 r ⟨hle2,⟨c2,c3,c4,c5,c6,cv⟩,f2,rfl,hR,hO⟩
  refine⟨fun _=>hle2,(c2,c3,c4,c5,c6,()),rfl,rfl,rfl,?_⟩
  refine copy_end (sh:=[.s,.s,.b,.l,.i .i64]) (c:=(c2,c3,c4,c5,c6,())) hI0 h1 hle2 (e:=rRate) (bytes:=72) (fx:=f2) hR hO (by kernel_rfl) (by omega) (by omega) fun s' V3 h3=>?_
  refine⟨_,rfl,(((k+1:Nat):Int),p1,s',()),by rw [nxt h1 (by omega)]; rfl,⟨rfl,h3⟩,?_⟩
  show((l.length:Int)-((k+1:Nat):Int)).toNat<((l.length:Int)-(k:Int)).toNat
  omega
 ·have hi:¬ i<(l.length:Int):=by
   have:¬ i<(s.n:Int):=by simpa using hge
   omega
  obtain⟨hle,f3,hL,hO⟩:=hI'.finG hi
  exact⟨hle,s1,f3,rfl,hL,hO⟩
def putR (r:DRate):List DRate→List DRate
 | []=>[r]
 | x :: l=>if rkey x=rkey r then r :: l else x :: putR r l
theorem putR_at {r:DRate}:∀ {l:List DRate} {i:Nat} (h:i<l.length),rkey l[i]=rkey r→(∀ (j:Nat) (hj:j<l.length),j<i→rkey l[j]≠rkey r)→putR r l=l.set i r
 | x :: l,0,_,e,_=>by
  have e:rkey x=rkey r:=e
  rw [putR,if_pos e,List.set_cons_zero]
 | x :: l,i+1,h,e,hj=>by
  have h0:rkey x≠rkey r:=hj 0 (by simp) (by omega)
  rw [putR,if_neg h0,List.set_cons_succ,putR_at (l:=l) (i:=i) (by simpa using h) (by simpa using e) fun j hj' hji=>by
   have:=hj (j+1) (by simpa using hj') (by omega)
   simpa using this]
theorem putR_none {r:DRate}:∀ {l:List DRate},(∀ (j:Nat) (hj:j<l.length),rkey l[j]≠rkey r)→putR r l=l++[r]
 | [],_=>rfl
 | x :: l,h=>by
  have h0:rkey x≠rkey r:=h 0 (by simp)
  rw [putR,if_neg h0,putR_none (l:=l) fun j hj=>by
   have:=h (j+1) (by simpa using hj)
   simpa using this]
  rfl
theorem ratesOk_set {p:ByteArray} {l:List DRate} {r:DRate} (h:RatesOkP p l) (hr:RateOkP r) {i:Nat} (hi:i<l.length) (e:rkey l[i]=rkey r):RatesOkP p (l.set i r):=by
 have hk:∀ (j:Nat) (hj:j<(l.set i r).length),rkey (l.set i r)[j]=rkey (l[j]'(by simpa using hj)):=fun j hj=>by
  rw [List.getElem_set]
  split
  ·rename_i ij; subst ij; exact e.symm
  ·rfl
 refine⟨h.1,by rw [List.length_set]; exact h.2.1,fun j hj=>?_⟩
 obtain⟨q0,q1,q2⟩:=h.2.2 j (by simpa using hj)
 refine⟨hj,?_,fun m hm hmj=>by rw [hk,hk]; exact q2 m (by simpa using hm) hmj⟩
 rw [List.getElem_set]
 split
 ·exact hr
 ·exact q1
theorem ratesOk_snoc {p:ByteArray} {l:List DRate} {r:DRate} (h:RatesOkP p l) (hr:RateOkP r) (hn:∀ (j:Nat) (hj:j<l.length),rkey l[j]≠rkey r):RatesOkP p (l++[r])↔l.length+1≤12:=by
 refine⟨fun k=>by simpa using k.2.1,fun k=>⟨h.1,by simpa using k,fun j hj=>?_⟩⟩
 by_cases c:j<l.length
 ·obtain⟨q0,q1,q2⟩:=h.2.2 j c
  refine⟨hj,by rw [List.getElem_append_left c]; exact q1,fun m hm hmj=>?_⟩
  rw [List.getElem_append_left c,List.getElem_append_left (by omega)]
  exact q2 m (by omega) hmj
 ·obtain rfl:j=l.length:=by simp at hj; omega
  refine⟨hj,by simpa using hr,fun m hm hmj=>?_⟩
  rw [List.getElem_append_left hmj]
  simpa using hn m hmj
def PutOk (p:ByteArray) (l:List DRate) (r:DRate):Prop:=RatesOkP p l∧RateOkP r∧(putR r l).length≤12
open Classical in
noncomputable def putP (x:DRates) (r:DRate):DRates × Bool:=if PutOk x.1 x.2.1 r then ((x.1,putR r x.2.1,()),true) else ((ByteArray.empty,[],()),false)
theorem putP_ok {x:DRates} {r:DRate} (h:PutOk x.1 x.2.1 r):putP x r=((x.1,putR r x.2.1,()),true):=if_pos h
theorem putP_no {x:DRates} {r:DRate} (h:¬ PutOk x.1 x.2.1 r):putP x r=((ByteArray.empty,[],()),false):=if_neg h
abbrev PutPost (V:Know) (y:DRates × Bool):Know→Value→Prop:=fun V' v=>V.le V'∧∃ c f,v=.tuple #[qv3 c,.bool y.2]∧rRates.R V' c y.1 f∧Own V V' f
theorem rates_nil (V:Know):rRates.R V (ByteArray.empty,⟨none,0,0⟩,()) (ByteArray.empty,[],()) []:=rStr.mk (by decide) (rSl.mk (f:=[]) ⟨rfl,Nat.le_refl _,by decide,.inl ⟨rfl,fun _=>rfl,rfl⟩⟩ rNil.mk)
theorem put_no {V V':Know} {x:DRates} {r:DRate} (le:V.le V') (h:¬ PutOk x.1 x.2.1 r):PutPost V (putP x r) V' (packed [qv3 (ByteArray.empty,⟨none,0,0⟩,()),.bool false]):=by
 rw [putP_no h]
 exact⟨le,(ByteArray.empty,⟨none,0,0⟩,()),[],rfl,rates_nil V',Own.nil⟩
theorem cS_RatePut {V:Know} (hV:HcS V) (c:Scs [.s,.l]) (x:DRates) (f:List Nat) (h:rRates.R V c x f) (ht:rRates.tot x≤1048576) (d:Scs [.s,.s,.b,.l,.i .i64]) (r:DRate) (g:List Nat) (hr:rRate.R V d r g) (_:rRate.tot r≤1048576) :
  CallX Tryz.prog V 66 [qv3 c,qv5 d] (PutPost V (putP x r)):=by
 refine CallX.of_fits Tryz.mix (fS_RatePut _ _) fun _=>?_
 obtain⟨s,fl,rfl,hl⟩:=rates_elim h
 have hn:=hl.1
 obtain⟨s3,g3,rfl,hm⟩:=rate_elim hr
 simp only [tS_RatePut,ap_d,T.wp]
 refine(cS_RatesOk x.1 s x.2.1 fl hl).mono ?_
 rintro V1 _ ⟨le1,e1,rfl,he1⟩
 refine⟨nofun,e1,rfl,fun hf=>put_no le1 fun k=>?_,fun h1=>?_⟩
 ·rw [he1.2 k.1] at hf; cases hf
 have ok1:=he1.1 (by simpa using h1)
 refine(cS_RateOk (hV.le le1) r s3 g3 (hm.le le1)).mono ?_
 rintro V2 _ ⟨le2,e2,rfl,he2⟩
 have l2:=le1.trans le2
 refine⟨nofun,e2,rfl,fun hf=>put_no l2 fun k=>?_,fun h2=>?_⟩
 ·rw [he2.2 k.2.1] at hf; cases hf
 have ok2:=he2.1 (by simpa using h2)
 refine(growS_rates V2 _ x f (rRates.le h l2) ht (fun i hi=>by obtain⟨_,q,_⟩:=ok1.2.2 i hi; exact q)).mono ?_
 rintro V3 _ ⟨le3,s',f',rfl,G3,O3⟩
 have l3:=l2.trans le3
 have h12:=ok1.2.1
 refine⟨nofun,(x.1,s',()),rfl,(cS_l10AtX V3 s x.2.1 fl (hl.le l3) r.1 r.2.1).mono ?_⟩
 rintro V4 _ ⟨rfl,k,rfl,hk⟩
 have L3:=G3.lr (show x.2.1.length≤9223372036854775807 by omega)
 refine⟨nofun,k,rfl,fun hge=>?_,fun hlt=>?_⟩
 ·obtain⟨i,hi,rfl,hki,hj⟩:∃ (i:Nat) (hi:i<x.2.1.length),k=(i:Int)∧rkey x.2.1[i]=(r.1,r.2.1)∧∀ (j:Nat) (hj:j<x.2.1.length),j<i→rkey x.2.1[j]≠(r.1,r.2.1):=by
   rcases hk with hk | ⟨rfl,_⟩
   ·exact hk
   ·exact absurd (show(-1:Int)≥0 from of_decide_eq_true hge) (by omega)
  have hput:=putR_at hi hki hj
  have hok:PutOk x.1 x.2.1 r:=⟨ok1,ok2,by rw [hput,List.length_set]; exact h12⟩
  refine(kS_l10Rate V4 _ r g (rRate.le hr l3) ok2).mono ?_
  rintro V5 _ ⟨le5,c5,f5,rfl,R5,O5⟩
  obtain⟨b,o,cs,u,c6,fc,ha,hb,hlen,_,_,_,hset⟩:=(L3.le le5).putRow (V0:=V2) (O3.post le5) hi
  have l5:=l3.trans le5
  have hn':=L3.1
  have e0:(i:Int).toNat=i:=by omega
  obtain⟨q0,q1,q2,q3,q4,qu⟩:=c5
  obtain⟨fN,LN,ON,leN,_⟩:=hset (k:=0) (vs:=Scs.vals [.s,.s,.b,.l,.i .i64] (q0,q1,q2,q3,q4,())) (Know.le.refl _) (le3.trans le5) R5 (O3.append O5 le3 le5) (by simp [vals_len]) (setl_whole (by rw [vals_len,vals_len]))
  refine⟨fun _=>le5,_,rfl,_,ha,(by omega:(0:Int)≤(i:Int)),(by show(i:Int)<(s'.n:Int); omega),?_⟩
  rw [e0]
  simp only [addr_add_eq]
  refine⟨cs,u,trivial,hb,hlen,?_⟩
  refine(cS_RatesOk x.1 s' (x.2.1.set i r) fN LN).mono ?_
  rintro V6 _ ⟨le6,e6,rfl,he6⟩
  obtain rfl:e6=true:=he6.2 (ratesOk_set ok1 ok2 hi hki)
  refine⟨nofun,true,rfl,nofun,fun _=>?_⟩
  rw [putP_ok hok,hput]
  exact⟨l2.trans (leN.trans le6),(x.1,s',()),fN++[],rfl,rStr.mk (h.1.2) (rSl.mk (LN.le le6) rNil.mk),by simpa using (ON.post le6).pre l2⟩
 ·have hno:∀ (j:Nat) (hj:j<x.2.1.length),rkey x.2.1[j]≠(r.1,r.2.1):=by
   rcases hk with ⟨i,_,rfl,_⟩ | ⟨_,hk⟩
   ·exact absurd (show ¬ (i:Int)≥0 from of_decide_eq_false hlt) (by omega)
   ·exact hk
  have hput:=putR_none (r:=r) hno
  refine(kS_l10Rate V4 _ r g (rRate.le hr l3) ok2).mono ?_
  rintro V5 _ ⟨le5,⟨q0,q1,q2,q3,q4,qu⟩,f5,rfl,R5,O5⟩
  refine⟨fun _=>le5,_,rfl,rfl,rfl,?_⟩
  refine ap_row (r:=rRate) (sh:=[.s,.s,.b,.l,.i .i64]) (c:=(q0,q1,q2,q3,q4,())) (V0:=V2) (G3.le le5) R5 (O3.append O5 le3 le5) (le3.trans le5) (by kernel_rfl) (by omega) (by omega) fun s6 V6 f6 G6 O6 le6=>?_
  have L6:=G6.lr (by simp; omega)
  refine(cS_RatesOk x.1 s6 (x.2.1++[r]) f6 L6).mono ?_
  rintro V7 _ ⟨le7,e7,rfl,he7⟩
  have hl7:=l2.trans (le6.trans le7)
  refine⟨nofun,e7,rfl,fun hf=>put_no hl7 fun k=>?_,fun hT=>?_⟩
  ·have k3:=k.2.2
   rw [hput] at k3
   rw [he7.2 ((ratesOk_snoc ok1 ok2 hno).2 (by simpa using k3))] at hf
   cases hf
  ·have k7:=he7.1 (by simpa using hT)
   rw [putP_ok ⟨ok1,ok2,by rw [hput]; exact k7.2.1⟩,hput]
   exact⟨hl7,(x.1,s6,()),f6++[],rfl,rStr.mk (h.1.2) (rSl.mk (L6.le le7) rNil.mk),by simpa using (O6.post le7).pre l2⟩
end Go.Proofs.YtmppmpceccpdlaaGreatDoor
