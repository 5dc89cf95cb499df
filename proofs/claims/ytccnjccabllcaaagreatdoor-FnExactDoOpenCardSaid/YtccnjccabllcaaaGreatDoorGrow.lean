/-
  Lists that grow at their end, in known memory.
-/
import Derived.Test.YtccnjccabllcaaaGreatDoorLoop
namespace Go.Proofs.YtccnjccabllcaaaGreatDoor
open Sx
def apD (s:SlV) (sz bytes:Nat) (ys:List Value) (m:Nat) (t:TypeId) (k:SlV→T):T:=.ap s sz bytes ys m t k
theorem ap_d (s:SlV) (sz bytes:Nat) (ys:List Value) (m:Nat) (t:TypeId) (k:SlV→T):T.ap s sz bytes ys m t k=apD s sz bytes ys m t k:=rfl
section
variable {sh:List Sc} {α:Type}
def GR (r:Rp sh α) (t:TypeId) (V:Know) (s:SlV) (l:List α) (f:List Nat):Prop :=
 s.n=l.length∧s.n≤s.c∧((s.a=none∧s.c=0∧l=[]∧f=[]) ∨
  ∃ b fps cs post,s.a=some ⟨b,0,none⟩∧V b=some (cs.flatMap (Scs.vals sh)++post,(t,(0,0)))∧post.length=(s.c-s.n)*sh.length∧Els r V cs l fps∧f=b :: fps)
theorem GR.nil {r:Rp sh α} {t:TypeId} {V:Know}:GR r t V ⟨none,0,0⟩ [] []:=⟨rfl,Nat.le_refl _,.inl ⟨rfl,rfl,rfl,rfl⟩⟩
theorem GR.lr {r:Rp sh α} {t:TypeId} {V:Know} {s:SlV} {l:List α} {f:List Nat} (h:GR r t V s l f) (hn:l.length≤9223372036854775807):LR r V s l f:=by
 obtain⟨h1,h2,h3⟩:=h
 refine⟨h1,h2,by omega,?_⟩
 rcases h3 with ⟨ha,hc,rfl,rfl⟩ | ⟨b,fps,cs,post,ha,hb,hp,he,rfl⟩
 ·exact .inl ⟨h1,fun _=>hc,rfl⟩
 ·exact .inr ⟨b,[],post,_,fps,cs,ha,hb,he,rfl⟩
theorem GR.loc {r:Rp sh α} {t:TypeId} {V V':Know} {s:SlV} {l:List α} {f:List Nat} (h:GR r t V s l f) (hb:∀ b∈f,V' b=V b):GR r t V' s l f:=by
 obtain⟨h1,h2,h3⟩:=h
 refine⟨h1,h2,?_⟩
 rcases h3 with h3 | ⟨b,fps,cs,post,ha,hv,hp,he,rfl⟩
 ·exact .inl h3
 ·exact .inr ⟨b,fps,cs,post,ha,by rw [hb b (by simp),hv],hp,he.loc fun x hx=>hb x (by simp [hx]),rfl⟩
theorem GR.le {r:Rp sh α} {t:TypeId} {V V':Know} {s:SlV} {l:List α} {f:List Nat} (h:GR r t V s l f) (hle:V.le V'):GR r t V' s l f:=by
 obtain⟨h1,h2,h3⟩:=h
 refine⟨h1,h2,?_⟩
 rcases h3 with h3 | ⟨b,fps,cs,post,ha,hb,hp,he,rfl⟩
 ·exact .inl h3
 ·exact .inr ⟨b,fps,cs,post,ha,hle _ _ hb,hp,he.le hle,rfl⟩
theorem ap_row {P:Program} {r:Rp sh α} {t:TypeId} {V0 V Vd:Know} {s:SlV} {l:List α} {f fx:List Nat} {c:Scs sh} {x:α} {bytes:Nat} {k:SlV→T} {K:Know→List Value→Prop} {Ns:List (List LV→Know→Prop)}
  (h:GR r t V s l f) (hx:r.R V c x fx) (hO:Own V0 V (f++fx)) (hle:V0.le V) (hP:P.cellsOf t=sh.length)
  (hb:(l.length+1)*bytes≤140737488355328) (hl:l.length+1≤9223372036854775807)
  (hk:∀ s' V' f',GR r t V' s' (l++[x]) f'→Own V0 V' f'→V0.le V'→(k s').wp P K V' Vd Ns) :
  (T.ap s sh.length bytes (Scs.vals sh c) 1 t k).wp P K V Vd Ns:=by
 obtain⟨h1,h2,h3⟩:=h
 simp only [T.wp]
 refine⟨h2,fun ha=>?_,fun h=>absurd h (by decide),fun _ hroom=>?_,fun _ hroom=>⟨by rw [h1]; exact hb,by rw [h1]; exact hl,?_⟩⟩
 ·rcases h3 with ⟨_,hc,_⟩ | ⟨b,fps,cs,post,ha',_⟩
  ·exact hc
  ·rw [ha] at ha'; cases ha'
 ·rcases h3 with ⟨_,hc,_⟩ | ⟨b,fps,cs,post,ha,hbk,hp,he,rfl⟩
  ·omega
  have hcl:cs.length=l.length:=he.len
  have hfl:(cs.flatMap (Scs.vals sh)).length=s.n*sh.length:=by rw [flat_len,hcl,h1]
  have hpl:sh.length≤post.length:=by
   rw [hp]; exact Nat.le_mul_of_pos_left _ (by omega)
  have hset:setl (cs.flatMap (Scs.vals sh)++post) (s.n*sh.length) (Scs.vals sh c)=(cs++[c]).flatMap (Scs.vals sh)++post.drop sh.length:=by
   rw [setl_mid hfl.symm (by rw [vals_len]; exact hpl),vals_len]
   simp
  have hnd:b ∉ fps∧b ∉ fx:=by
   have:=hO.1
   simp only [List.cons_append,List.nodup_cons,List.mem_append,not_or] at this
   exact this.1
  have hoff:∀ (y:List Value × KTy) (g:List Nat),b ∉ g→∀ b'∈g,kset V b y b'=V b':=fun y g hg b' hb'=>by
   simp only [kset]; rw [if_neg (fun e:b'=b=>hg (by rw [← e]; exact hb'))]
  refine⟨b,_,ha,hbk,?_,?_⟩
  ·rw [List.length_append,hfl,hp,← Nat.add_mul]
   exact Nat.mul_le_mul_right _ (by omega)
  ·rw [hset]
   refine hk _ _ (b :: (fps++fx)) ⟨by simp [h1],by show s.n+1≤s.c; omega,.inr ⟨b,fps++fx,cs++[c],post.drop sh.length,ha,kset_same,?_,?_,rfl⟩⟩ ⟨by simpa using hO.1,by simpa using hO.2.1,?_⟩ ?_
   ·rw [List.length_drop,hp,← Nat.sub_one_mul]
    congr 1
   ·exact(he.loc (hoff _ _ hnd.1)).snoc (r.loc hx (hoff _ _ hnd.2))
   ·intro b' hb'
    rcases List.mem_cons.1 hb' with rfl | hb'
    ·exact⟨_,_,kset_same⟩
    ·have hne:b'≠b:=fun e=>by
      rw [e] at hb'
      rcases List.mem_append.1 hb' with h | h
      ·exact hnd.1 h
      ·exact hnd.2 h
     obtain⟨u,v,huv⟩:=hO.2.2 b' (by simp only [List.cons_append,List.mem_cons]; exact .inr hb')
     exact⟨u,v,by simp only [kset]; rw [if_neg hne]; exact huv⟩
   ·intro b' y hy
    have hne:b'≠b:=fun e=>by
     subst e
     have:=hO.2.1 b' (by simp)
     rw [this] at hy; cases hy
    simp only [kset]; rw [if_neg hne]; exact hle b' y hy
 ·have hgo:∀ (cs:List (Scs sh)) (fps:List Nat),Els r V cs l fps→(∀ b∈fps,b∈f)→fps.Nodup→(∀ b∈fps,b ∉ fx) →
    ∀ b cap spare,V b=none→s.n+1≤cap→spare.length=(cap-(s.n+1))*P.cellsOf t →
    (k ⟨some ⟨b,0,none⟩,s.n+1,cap⟩).wp P K (kset V b ((cs.flatMap (Scs.vals sh)++Scs.vals sh c)++spare,(t,(0,0)))) Vd Ns:=by
   intro cs fps he hsub hnd hdis b cap spare hbn hcap hsp
   have hV:=kset_le (x:=((cs.flatMap (Scs.vals sh)++Scs.vals sh c)++spare,(t,(0,0)))) hbn
   have hin:∀ b'∈fps++fx,b'∈f++fx:=fun b' hb'=>by
    rcases List.mem_append.1 hb' with h | h
    ·exact List.mem_append.2 (.inl (hsub b' h))
    ·exact List.mem_append.2 (.inr h)
   have hn:b ∉ fps++fx:=fun hm=>by
    obtain⟨u,v,huv⟩:=hO.2.2 b (hin b hm)
    rw [hbn] at huv; cases huv
   refine hk _ _ (b :: (fps++fx)) ⟨by simp [h1],hcap,.inr ⟨b,fps++fx,cs++[c],spare,rfl,?_,by rw [hsp,hP],(he.le hV).snoc (r.le hx hV),rfl⟩⟩ ⟨List.nodup_cons.2 ⟨hn,?_⟩,fun b' hb'=>?_,fun b' hb'=>?_⟩ (hle.trans hV)
   ·rw [kset_same]; simp
   ·have:=List.nodup_append.1 hO.1
    exact List.nodup_append.2 ⟨hnd,this.2.1,fun a ha b hb e=>hdis a ha (e ▸ hb)⟩
   ·rcases List.mem_cons.1 hb' with rfl | hb'
    ·exact none_of_le hle hbn
    ·exact hO.2.1 b' (hin b' hb')
   ·rcases List.mem_cons.1 hb' with rfl | hb'
    ·exact⟨_,_,kset_same⟩
    ·obtain⟨u,v,huv⟩:=hO.2.2 b' (hin b' hb')
     exact⟨u,v,hV _ _ huv⟩
  rcases h3 with ⟨ha,hc,rfl,rfl⟩ | ⟨b,fps,cs,post,ha,hbk,hp,he,rfl⟩
  ·exact⟨[],.inl ⟨ha,h1,hc,rfl⟩,rfl,fun b cap spare hb hcap hsp=>by
    have:=hgo [] [] rfl (fun _ h=>by cases h) List.nodup_nil (fun _ h=>by cases h) b cap spare hb hcap hsp
    simpa using this⟩
  ·have hcl:cs.length=l.length:=he.len
   have hfl:(cs.flatMap (Scs.vals sh)).length=s.n*sh.length:=by rw [flat_len,hcl,h1]
   have hnt:∀ cs:List (Scs sh),noTup (cs.flatMap (Scs.vals sh))=true:=fun cs=>by
    induction cs with
    | nil=>rfl
    | cons c cs ih =>
     have hv:=vals_noTup sh c
     unfold noTup at ih hv ⊢
     rw [List.flatMap_cons,List.all_append,hv,ih]; rfl
   refine⟨_,.inr ⟨⟨b,0,none⟩,ha,?_⟩,hnt cs,hgo cs fps he (fun b' hb'=>by simp [hb']) ?_ ?_⟩
   ·simp only [loadV,hbk]
    rw [← hfl]; exact cutv_head
   ·have:=List.nodup_append.1 hO.1
    exact(List.nodup_cons.1 this.1).2
   ·have:=List.nodup_append.1 hO.1
    exact fun b' hb' hx'=>this.2.2 b' (by simp [hb']) b' hx' rfl
def CopyI (e:Rp sh α) (t:TypeId) (V0:Know) (l:List α) (i:Int) (s:SlV) (V:Know):Prop :=
 V0.le V∧∃ (k:Nat) (f:List Nat),i=(k:Int)∧k≤l.length∧GR e t V s (l.take k) f∧Own V0 V f
theorem CopyI.start {e:Rp sh α} {t:TypeId} {V:Know} {l:List α}:CopyI e t V l 0 ⟨none,0,0⟩ V:=⟨Know.le.refl _,0,[],rfl,Nat.zero_le _,by simpa using GR.nil,Own.nil⟩
theorem CopyI.start_made {e:Rp sh α} {t:TypeId} {V0 V:Know} {l:List α} {b cap:Nat} {spare:List Value} (hle:V0.le V) (hb:V b=none) (hs:spare.length=cap*sh.length) :
  CopyI e t V0 l 0 ⟨some ⟨b,0,none⟩,0,cap⟩ (kset V b ([]++spare,(t,(0,0)))):=by
 have hV:=kset_le (x:=([]++spare,(t,(0,0)))) hb
 refine⟨hle.trans hV,0,[b],rfl,Nat.zero_le _,⟨by simp,Nat.zero_le _,.inr ⟨b,[],[],spare,rfl,by rw [kset_same]; simp,by simpa using hs,by simp [Els],rfl⟩⟩,⟨by simp,fun b' hb'=>?_,fun b' hb'=>?_⟩⟩
 ·obtain rfl:b'=b:=by simpa using hb'
  exact none_of_le hle hb
 ·obtain rfl:b'=b:=by simpa using hb'
  exact⟨_,_,kset_same⟩
theorem copy_end {P:Program} {e:Rp sh α} {t:TypeId} {V0 V V2 Vd:Know} {l:List α} {k:Nat} {s:SlV} {c:Scs sh} {fx:List Nat} {bytes:Nat} {kk:SlV→T} {K:Know→List Value→Prop} {Ns:List (List LV→Know→Prop)}
  (h:CopyI e t V0 l (k:Int) s V) (hk:k<l.length) (hle2:V.le V2) (hR:e.R V2 c l[k] fx) (hO:Own V V2 fx) (hP:P.cellsOf t=sh.length)
  (hb:l.length*bytes≤140737488355328) (hl:l.length≤9223372036854775807)
  (hn:∀ s' V3,CopyI e t V0 l ((k+1:Nat):Int) s' V3→(kk s').wp P K V3 Vd Ns) :
  (T.ap s sh.length bytes (Scs.vals sh c) 1 t kk).wp P K V2 Vd Ns:=by
 obtain⟨h1,k',f,he,_,hg,ho⟩:=h
 obtain rfl:k=k':=by omega
 have hlen:(l.take k).length=k:=by simp; omega
 refine ap_row (hg.le hle2) hR (ho.append hO h1 hle2) (h1.trans hle2) hP ?_ (by omega) fun s' V' f' hg' ho' hle'=>hn s' V' ⟨hle',k+1,f',rfl,hk,?_,ho'⟩
 ·rw [hlen]
  exact Nat.le_trans (Nat.mul_le_mul_right _ hk) hb
 ·rw [List.take_succ_eq_append_getElem hk]; exact hg'
theorem CopyI.fin {e:Rp sh α} {t:TypeId} {V0 V:Know} {l:List α} {i:Int} {s:SlV} (h:CopyI e t V0 l i s V) (hl:l.length≤9223372036854775807) (hi:¬ i<(l.length:Int)) :
  V0.le V∧∃ f,LR e V s l f∧Own V0 V f:=by
 obtain⟨h1,k,f,rfl,hk,hg,ho⟩:=h
 obtain rfl:k=l.length:=by omega
 rw [List.take_length] at hg
 exact⟨h1,f,hg.lr hl,ho⟩
theorem CopyI.finG {e:Rp sh α} {t:TypeId} {V0 V:Know} {l:List α} {i:Int} {s:SlV} (h:CopyI e t V0 l i s V) (hi:¬ i<(l.length:Int)) :
  V0.le V∧∃ f,GR e t V s l f∧Own V0 V f:=by
 obtain⟨h1,k,f,rfl,hk,hg,ho⟩:=h
 obtain rfl:k=l.length:=by omega
 rw [List.take_length] at hg
 exact⟨h1,f,hg,ho⟩
end
end Go.Proofs.YtccnjccabllcaaaGreatDoor
