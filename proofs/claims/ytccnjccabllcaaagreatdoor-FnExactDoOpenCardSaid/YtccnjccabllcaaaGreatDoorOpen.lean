/-
  An account opened in a book, in the program and in the reference; DoOpen.
-/
import Derived.Test.YtccnjccabllcaaaGreatDoorIns
import Derived.Test.YtccnjccabllcaaaGreatDoorLegs
namespace Go.Proofs.YtccnjccabllcaaaGreatDoor
open Sx
set_option maxRecDepth 100000
theorem oth_on {V:Know} {w w':World} (hV:V.on w) {b:Nat} {L:List Value} {t:TypeId} (h:Other w w' b) (hb:w'.heap[b]?=some (.cells L.toArray t (0,0))) (hk:∀ k,k<w.heap.size→V k=none→k≠b) :
  (kset V b (L,(t,(0,0)))).on w'∧Fr V (kset V b (L,(t,(0,0)))) w w':=by
 refine⟨fun k c u hku=>?_,h.os,h.tape,h.output,?_,fun k hkw hkn=>h.keep k (hk k hkw hkn),fun k hkw hkn=>?_⟩
 ·by_cases e:k=b
  ·subst e
   rw [kset_same] at hku
   cases hku
   rw [hb,objOf_rw]
  ·rw [kset_other e] at hku
   rw [h.keep k e]; exact hV k c u hku
 ·refine Nat.le_of_not_lt fun hlt=>?_
  have h1:w'.heap[w'.heap.size]?=none:=Array.getElem?_eq_none (Nat.le_refl _)
  by_cases e:w'.heap.size=b
  ·rw [e,hb] at h1; cases h1
  ·rw [h.keep _ e,Array.getElem?_eq_getElem hlt] at h1; cases h1
 ·rw [kset_other (hk k hkw hkn)]; exact hkn
theorem on_cells {V:Know} {w:World} (hV:V.on w) {b:Nat} {L:List Value} {t:TypeId} (hb:V b=some (L,(t,(0,0)))) :
  w.heap[b]?=some (.cells L.toArray t (0,0))∧(∀ j,w.cell? ⟨b,j,none⟩=L[j]?)∧(∀ j,w.frozen? ⟨b,j,none⟩=false)∧w.shape? b=some (t,L.length):=by
 have h0:w.heap[b]?=some (.cells L.toArray t (0,0)):=by rw [hV b _ _ hb,objOf_rw]
 refine⟨h0,fun j=>?_,fun j=>?_,?_⟩
 ·simp [World.cell?,h0]
 ·simp [World.frozen?,h0]
 ·simp [World.shape?,h0]
theorem vals_one1:∀ (sh:List Sc) (c:Scs sh),∀ v∈Scs.vals sh c,v.oneCell'=true
 | [],_,v,h=>by cases h
 | k :: r,c,v,h=>by
  rcases List.mem_cons.1 h with rfl | h
  ·cases k <;> first | rfl | (rename_i x; cases x <;> rfl) | skip
   all_goals first | rfl | (show(Value.oneCell' _)=true; cases c.1 <;> rfl) | (have h1:=c.1.2; show(c.1.1).oneCell'=true; simpa [one] using h1)
  ·exact vals_one1 r c.2 v h
theorem lr_new2 {sh:List Sc} {α:Type} {r:Rp sh α} {V:Know} {b n cap:Nat} {cs:List (Scs sh)} {l:List α} {fps:List Nat} {post:List Value} {t:KTy} (h:Els r V cs l fps) (hb:V b=some (cs.flatMap (Scs.vals sh)++post,t)) (hn:n=l.length) (hc:l.length≤cap) (hl:l.length≤9223372036854775807) :
  LR r V ⟨some ⟨b,0,none⟩,n,cap⟩ l (b :: fps):=by
 subst hn
 exact⟨rfl,hc,hl,.inr ⟨b,[],post,t,fps,cs,rfl,by simpa using hb,h,rfl⟩⟩
abbrev AcSh:List Sc:=[.s,.s,.b,.l]
theorem flat_one (cs:List (Scs AcSh)):∀ v∈cs.flatMap (Scs.vals AcSh),v.oneCell'=true:=fun v hv=>by
 obtain⟨c,_,h⟩:=List.mem_flatMap.1 hv
 exact vals_one1 _ c v h
def insL {α:Type} (i:Nat) (x:α) (l:List α):List α:=l.take i++x :: l.drop i
theorem insL_zero {α:Type} {x:α} {l:List α}:insL 0 x l=x :: l:=rfl
theorem insL_cons {α:Type} {x y:α} {l:List α} {i:Nat}:insL (i+1) x (y :: l)=y :: insL i x l:=rfl
theorem insL_len {α:Type} {x:α} {l:List α} {i:Nat} (h:i≤l.length):(insL i x l).length=l.length+1:=by
 simp only [insL,List.length_append,List.length_take,List.length_cons,List.length_drop]
 omega
theorem els_ins {V:Know} {cv:Scs AcSh} {xv:DAcct} {fv:List Nat} (hx:rAcct.R V cv xv fv):∀ {i:Nat} {cs:List (Scs AcSh)} {l:List DAcct} {fps:List Nat},Els rAcct V cs l fps→i≤l.length→∃ fps',Els rAcct V (insL i cv cs) (insL i xv l) fps'∧fps'.Perm (fps++fv)
 | 0,cs,l,fps,h,_=>⟨fv++fps,⟨fv,fps,rfl,hx,h⟩,List.perm_append_comm⟩
 | i+1,c :: cs,x :: l,_,⟨f,g,rfl,h1,h2⟩,hi=>by
  obtain⟨g',k1,k2⟩:=els_ins hx (i:=i) h2 (by simpa using hi)
  refine⟨f++g',⟨f,g',rfl,h1,k1⟩,?_⟩
  rw [List.append_assoc]
  exact List.Perm.append_left f k2
 | _+1,[],[],_,_,h=>by simp at h
 | _+1,[],_ :: _,_,h,_=>h.elim
 | _+1,_ :: _,[],_,h,_=>h.elim
theorem flat_ins (cv:Scs AcSh):∀ {i:Nat} {cs:List (Scs AcSh)},i≤cs.length→(insL i cv cs).flatMap (Scs.vals AcSh)=(cs.flatMap (Scs.vals AcSh)).take (i*4)++Scs.vals AcSh cv++(cs.flatMap (Scs.vals AcSh)).drop (i*4)
 | 0,cs,_=>by simp [insL_zero]
 | i+1,c :: cs,h=>by
  have ih:=flat_ins cv (i:=i) (cs:=cs) (by simpa using h)
  have e:(i+1)*4=(Scs.vals AcSh c).length+i*4:=by rw [vals_len]; simp; omega
  rw [insL_cons,List.flatMap_cons,ih,List.flatMap_cons,e,List.take_length_add_append,List.drop_length_add_append]
  simp [List.append_assoc]
 | _+1,[],h=>by simp at h
theorem setl_shift {flat post vs:List Value} {n i:Nat} (hf:flat.length=n*4) (hv:vs.length=4) (hi:i≤n) (hp:4≤post.length) :
  setl (setl (flat++post) ((i+1)*4) (flat.drop (i*4))) (i*4) vs=flat.take (i*4)++vs++flat.drop (i*4)++post.drop 4:=by
 have hd:(flat.drop (i*4)).length=(n-i)*4:=by rw [List.length_drop,hf,← Nat.sub_mul]
 have e1:(i+1)*4+(n-i)*4=flat.length+4:=by rw [hf]; omega
 have e2:i*4+4=(i+1)*4:=by omega
 have hl:(List.take ((i+1)*4) (flat++post)).length=(i+1)*4:=by rw [List.length_take,List.length_append,hf]; omega
 simp only [setl]
 rw [hd,e1,List.drop_length_add_append,hv,e2,List.append_assoc (List.take ((i+1)*4) (flat++post))]
 have e3:List.drop ((i+1)*4) (List.take ((i+1)*4) (flat++post)++(List.drop (i*4) flat++List.drop 4 post))=List.drop (i*4) flat++List.drop 4 post:=by
  conv=>lhs; rw [← hl]
  rw [hl,List.drop_append_of_le_length (by omega),List.drop_of_length_le (by omega),List.nil_append]
 rw [e3,List.take_append_of_le_length (by omega),List.take_take,Nat.min_eq_left (by omega),List.take_append_of_le_length (by omega)]
 simp [List.append_assoc]
def InsPost (V0 V:Know) (n:Nat) (l:List DAcct) (i:Nat) (xv:DAcct) (f fv:List Nat) (V':Know) (r:Value):Prop :=
 ∃ s' f',r=Sc.val .l s'∧s'.n=n+1∧LR rAcct V' s' (insL i xv l) f'∧Own V0 V' f'∧V0.le V'∧(∀ y,y ∉ f→V y≠none→V' y=V y)∧∀ y∈f',V y=none∨y∈f∨y∈fv
theorem new_post {V0 V:Know} {w w':World} (hw:V.on w) (le0:V0.le V) {n:Nat} {l:List DAcct} {cs:List (Scs AcSh)} {fps f fv:List Nat} {cv:Scs AcSh} {xv:DAcct} {i:Nat} {e:Ending} (he:Els rAcct V cs l fps) (hR:rAcct.R V cv xv fv) (hO:Own V0 V (fps++fv)) (hsub:∀ y∈fps,y∈f) (hi:i≤l.length) (hn:n=l.length) (hl:l.length+1≤1048576)
  (h:NewRow (n+1) ((cs.flatMap (Scs.vals AcSh)).take (i*4)++Scs.vals AcSh cv++(cs.flatMap (Scs.vals AcSh)).drop (i*4)) w e w') :
  ∃ V' r,e=.returned r∧Fr V V' w w'∧V'.on w'∧InsPost V0 V n l i xv f fv V' r:=by
 obtain⟨G,sp,hG,rfl,hb,ho⟩:=h
 have hbn:V w.heap.size=none:=by
  cases hv:V w.heap.size with
  | none=>rfl
  | some y =>
   have:=hw _ _ _ hv
   rw [Array.getElem?_eq_none (Nat.le_refl _)] at this
   cases this
 obtain⟨on',fr'⟩:=oth_on hw ho hb (fun k hk _ e=>by omega)
 have hcl:=he.len
 rw [← flat_ins cv (by omega)] at hb on' fr'
 have lek:=kset_le (x:=((insL i cv cs).flatMap (Scs.vals AcSh)++sp,((135:TypeId),((0,0):Nat × Nat)))) hbn
 obtain⟨fps',k1,k2⟩:=els_ins hR he hi
 have hO':=hO.perm k2
 have hnf:w.heap.size ∉ fps':=fun hm=>by
  obtain⟨c,t,k⟩:=hO'.2.2 _ hm
  rw [hbn] at k; cases k
 refine⟨_,_,rfl,fr',on',⟨some ⟨w.heap.size,0,none⟩,n+1,G⟩,w.heap.size :: fps',rfl,rfl,lr_new2 (k1.le lek) kset_same (by rw [insL_len hi,hn]) (by rw [insL_len hi]; omega) (by rw [insL_len hi]; omega),⟨List.nodup_cons.2 ⟨hnf,hO'.1⟩,fun y hy=>?_,fun y hy=>?_⟩,le0.trans lek,fun y _ hy=>kset_other (fun e=>hy (by rw [e]; exact hbn)),fun y hy=>?_⟩
 ·rcases List.mem_cons.1 hy with rfl | hy
  ·exact none_of_le le0 hbn
  ·exact hO'.2.1 y hy
 ·rcases List.mem_cons.1 hy with rfl | hy
  ·exact⟨_,_,kset_same⟩
  ·exact(hO'.post lek).2.2 y hy
 ·rcases List.mem_cons.1 hy with rfl | hy
  ·exact .inl hbn
  ·rcases List.mem_append.1 (k2.mem_iff.1 hy) with h | h
   ·exact .inr (.inl (hsub y h))
   ·exact .inr (.inr h)
set_option maxHeartbeats 4000000 in
theorem cI_Insert {V0 V:Know} {vb:Nat} {tv:TypeId} {s:SlV} {l:List DAcct} {f:List Nat} {cv:Scs AcSh} {xv:DAcct} {fv:List Nat} (G:GR rAcct acT V s l f) (O:Own V0 V (f++fv)) (le0:V0.le V) (hv:V vb=some (Scs.vals AcSh cv,(tv,(0,0)))) (hvf:vb ∉ f) (hR:rAcct.R V cv xv fv) (hl:l.length+1≤1048576) {i:Nat} (hi:i≤l.length) :
  CallX Tryz.prog V 197 [Sc.val .l s,.int .i64 (i:Int),.slice (some ⟨vb,0,none⟩) 1 1] (InsPost V0 V s.n l i xv f fv):=by
 refine⟨⟨_,Tryz.func197,by kernel_rfl,by kernel_rfl⟩,fun w hw=>?_⟩
 obtain⟨hn,hnc,hG⟩:=G
 obtain⟨_,vc,vz,vs⟩:=on_cells hw hv
 have hvl:(Scs.vals AcSh cv).length=4:=vals_len _ _
 have hvs:∀ j v,(Scs.vals AcSh cv)[j]?=some v→w.cell? ⟨vb,j,none⟩=some v:=fun j v h=>by rw [vc]; exact h
 have h1v:=vals_one1 AcSh cv
 obtain⟨sa,sn,sc⟩:=s
 replace hn:sn=l.length:=hn
 replace hnc:sn≤sc:=hnc
 rcases hG with ⟨ha,hc,rfl,rfl⟩ | ⟨b,fps,cs,post,ha,hb,hp,he,rfl⟩
 ·replace ha:sa=none:=ha
  replace hc:sc=0:=hc
  subst ha hc
  obtain rfl:sn=0:=hn
  obtain rfl:i=0:=by simpa using hi
  refine(ins_new none 0 0 vb [] (Scs.vals AcSh cv) w (by omega) (by omega) rfl hvl (fun _=>rfl) (Nat.le_refl _) (fun a h=>by cases h) hvs h1v).mono ?_
  intro e w' h
  exact new_post hw le0 (cs:=[]) (l:=[]) (fps:=[]) (i:=0) (by exact rfl) hR O (fun y h=>by cases h) (Nat.le_refl _) rfl (by simp) h
 replace ha:sa=some ⟨b,0,none⟩:=ha
 replace hp:post.length=(sc-sn)*4:=hp
 subst ha
 obtain⟨h0,bc,bz,bs⟩:=on_cells hw hb
 have hcl:=he.len
 have hfl:(cs.flatMap (Scs.vals AcSh)).length=sn*4:=by rw [flat_len,hcl,hn]; rfl
 have hcs:∀ j v,(cs.flatMap (Scs.vals AcSh))[j]?=some v→w.cell? ⟨b,j,none⟩=some v:=fun j v h=>by
  rw [bc,List.getElem?_append_left (List.getElem?_eq_some_iff.1 h).1]; exact h
 have hO2:Own V0 V (fps++fv):=O.sub (by simp)
 have hvb:vb≠b:=fun e=>hvf (by simp [e])
 by_cases hroom:sn+1≤sc
 ·have hsp:∀ j,j<(sn+1)*4→(w.cell? ⟨b,j,none⟩).isSome=true:=fun j hj=>by
   rw [bc,List.getElem?_eq_getElem (by rw [List.length_append,hfl,hp]; omega)]; rfl
  have hLl:sn*4+4≤(cs.flatMap (Scs.vals AcSh)++post).length:=by rw [List.length_append,hfl,hp]; omega
  -- the block as it is behind the call
  have fin:∀ (w':World),w'.heap[b]?=some (.cells ((insL i cv cs).flatMap (Scs.vals AcSh)++post.drop 4).toArray acT (0,0))→Other w w' b →
    ∃ V' r,Ending.returned (.slice (some ⟨b,0,none⟩) (sn+1) sc)=.returned r∧Fr V V' w w'∧V'.on w'∧InsPost V0 V sn l i xv (b :: fps) fv V' r:=by
   intro w' hb' ho
   obtain⟨on',fr'⟩:=oth_on hw ho hb' (fun k _ hk e=>by rw [e,hb] at hk; cases hk)
   have hbx:∀ y∈fps++fv,y≠b:=fun y hy e=>by
    subst e
    have:=O.1
    simp only [List.cons_append,List.nodup_cons] at this
    exact this.1 hy
   have hoff:∀ (z:List Value × KTy) (g:List Nat),(∀ y∈g,y∈fps++fv)→∀ y∈g,kset V b z y=V y:=fun z g hg y hy=>kset_other (hbx y (hg y hy))
   obtain⟨fps',k1,k2⟩:=els_ins (rAcct.loc hR (hoff (((insL i cv cs).flatMap (Scs.vals AcSh)++post.drop 4),(acT,(0,0))) fv (fun y hy=>by simp [hy]))) (he.loc (hoff _ fps (fun y hy=>by simp [hy]))) hi
   have hO':=hO2.perm k2
   have hb0:V0 b=none:=O.2.1 b (by simp)
   refine⟨_,_,rfl,fr',on',⟨some ⟨b,0,none⟩,sn+1,sc⟩,b :: fps',rfl,rfl,lr_new2 k1 kset_same (by rw [insL_len hi,hn]) (by rw [insL_len hi]; omega) (by rw [insL_len hi]; omega),⟨List.nodup_cons.2 ⟨fun hm=>hbx b (k2.mem_iff.1 hm) rfl,hO'.1⟩,fun y hy=>?_,fun y hy=>?_⟩,kset_le2 le0 hb0,fun y hy _=>kset_other (fun e=>hy (by simp [e])),fun y hy=>?_⟩
   ·rcases List.mem_cons.1 hy with rfl | hy
    ·exact hb0
    ·exact hO'.2.1 y hy
   ·rcases List.mem_cons.1 hy with rfl | hy
    ·exact⟨_,_,kset_same⟩
    ·obtain⟨c,t,q⟩:=hO'.2.2 y hy
     exact⟨c,t,by rw [kset_other (hbx y (k2.mem_iff.1 hy))]; exact q⟩
   ·rcases List.mem_cons.1 hy with rfl | hy
    ·exact .inr (.inl (by simp))
    ·rcases List.mem_append.1 (k2.mem_iff.1 hy) with h | h
     ·exact .inr (.inl (by simp [h]))
     ·exact .inr (.inr h)
  have hdl:((cs.flatMap (Scs.vals AcSh)).drop (i*4)).length=(sn-i)*4:=by rw [List.length_drop,hfl,← Nat.sub_mul]
  by_cases hin:i<sn
  ·refine(ins_shift b sn sc i vb _ _ w hin hroom (by omega) hvb hfl hvl hcs hsp bz hvs (flat_one cs) h1v _ _ _ _ vs bs (by show(cs.flatMap (Scs.vals AcSh)++post).length≠0; omega) (vz _) (vz _)).mono ?_
   rintro e w' ⟨rfl,rfl⟩
   have h0':w.drew.heap[b]?=some (.cells (cs.flatMap (Scs.vals AcSh)++post).toArray acT (0,0)):=h0
   have hA:(i+1)*4+((cs.flatMap (Scs.vals AcSh)).drop (i*4)).length≤(cs.flatMap (Scs.vals AcSh)++post).length:=by rw [hdl]; omega
   obtain⟨q1,q2⟩:=heap_setCells h0' hA
   have hB:i*4+(Scs.vals AcSh cv).length≤(setl (cs.flatMap (Scs.vals AcSh)++post) ((i+1)*4) ((cs.flatMap (Scs.vals AcSh)).drop (i*4))).length:=by rw [setl_len hA,hvl]; omega
   obtain⟨r1,r2⟩:=heap_setCells q1 hB
   rw [setl_shift hfl hvl (by omega) (by rw [hp]; omega),← flat_ins cv (by omega)] at r1
   exact fin _ r1 ⟨r2.os.trans q2.os,r2.tape.trans q2.tape,r2.output.trans q2.output,fun k hk=>(r2.keep k hk).trans (q2.keep k hk)⟩
  ·obtain rfl:i=sn:=by omega
   refine(ins_end b i sc vb _ w hroom hvl hsp bz hvs h1v).mono ?_
   rintro e w' ⟨rfl,rfl⟩
   have hB:i*4+(Scs.vals AcSh cv).length≤(cs.flatMap (Scs.vals AcSh)++post).length:=by rw [hvl]; omega
   obtain⟨q1,q2⟩:=heap_setCells h0 hB
   have e:setl (cs.flatMap (Scs.vals AcSh)++post) (i*4) (Scs.vals AcSh cv)=(insL i cv cs).flatMap (Scs.vals AcSh)++post.drop 4:=by
    rw [setl_mid hfl.symm (by rw [hvl,hp]; omega),hvl,flat_ins cv (by omega),List.take_of_length_le (Nat.le_of_eq hfl),List.drop_of_length_le (Nat.le_of_eq hfl),List.append_nil,List.append_assoc]
   rw [e] at q1
   exact fin _ q1 q2
 ·have hO3:∀ y∈fps,y∈b :: fps:=fun y hy=>by simp [hy]
  by_cases hin:i<sn
  ·refine(ins_grow b sn sc i vb _ _ w hin hnc (by omega) (by omega) hfl hvl hcs hvs (flat_one cs) h1v).mono ?_
   intro e w' h
   exact new_post hw le0 he hR hO2 hO3 hi hn hl h
  ·obtain rfl:i=sn:=by omega
   refine(ins_new (some ⟨b,0,none⟩) i sc vb _ _ w (by omega) (by omega) hfl hvl (fun h=>by cases h) hnc (fun a h j v hj=>by cases h; simp only [addr_add_eq,Nat.zero_add]; exact hcs j v hj) hvs h1v).mono ?_
   intro e w' h
   refine new_post (i:=i) hw le0 he hR hO2 hO3 hi hn hl ?_
   rw [List.take_of_length_le (Nat.le_of_eq hfl),List.drop_of_length_le (Nat.le_of_eq hfl),List.append_nil]
   exact h
end Go.Proofs.YtccnjccabllcaaaGreatDoor
