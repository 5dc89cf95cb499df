/-
  The reader of code is sound: loops, branches, results, the call as a whole.
-/
import Derived.Test.YtpdfdkccgkieoaaGreatDoorEngC
namespace Sx
open Go
variable {P:Program} {N:Nat} {w0:World} {Vs V V0:Know} {ρ:Nat→Nat × Nat} {a:Act} {w:World}
 {K:Know→List Value→Prop} {Ns:List (List LV→Know→Prop)} {W:List Nat} {st st1 st2:St}
 {ops:Array Oper} {Kf:Kt} {dr:Bool} {k:St→T}
theorem pickT_eq (c b:Bool) (x y:T):pickT c b x y=if (c == b)=true then x else y:=by cases c <;> cases b <;> rfl
theorem unkF_of {F:Fm} {t:Nat} {s:SV} (h:F t=some s):unkF F t=some (unk s):=by simp [unkF,h]
theorem unkF_known {F:Fm} {d:Nat} {c:Bool} (h:F d=some (.v (.bool c))):unkF (upd F d (.k c))=unkF F:=by
 funext t
 by_cases e:t=d
 ·subst e; simp [unkF,upd,h,unk]
 ·simp [unkF,upd,e]
theorem opsT_R (hW:∀ (i:Nat) (o:Oper) (d:Nat),ops[i]?=some o→o.dst=some d→W.contains d=true):∀ (l:List Oper) (i:Nat),ops.toList.drop i=l→∀ (st:St) (V:Know),
  (opsT P dr ops l st k).wp P K V V0 Ns→(∀ st' V',Pres W st st'→st'.c=st.c→(k st').wp P K V' V0 Ns→Kf (unkF st'.F) st'.H V') →
  R P ops dr V0 Kf (List.range' i l.length) (unkF st.F) st.H V:=by
 intro l
 induction l with
 | nil=>intro i _ st V h hk; exact R.nil (hk st V Pres.refl rfl h)
 | cons o r ih =>
  intro i hd st V h hk
  have hlt:i<ops.toList.length:=by
   rcases Nat.lt_or_ge i ops.toList.length with h | h
   ·exact h
   ·rw [List.drop_eq_nil_of_le h] at hd; cases hd
  rw [List.drop_eq_getElem_cons hlt] at hd
  have ho:ops[i]?=some o:=by
   have:=(List.cons.inj hd).1
   rw [← this]; simp
  have hr:ops.toList.drop (i+1)=r:=(List.cons.inj hd).2
  rw [List.length_cons,List.range'_succ]
  have hrun:∀ (s:St),Pres W st s→s.c=st.c→want ops (unkF s.F) o.guard=some true→(match dr && isX ops o with | true=>alT P o s (fun st=>opsT P dr ops r st k) | false=>opT P dr (r.all fun o=>!isLoad o) (nlAt ops (ops.size-(r.length+1))) o s (fun st=>opsT P dr ops r st k)).wp P K V V0 Ns →
    R P ops dr V0 Kf (i :: List.range' (i+1) r.length) (unkF s.F) s.H V:=by
   intro s hp hc hw h
   cases hX:dr && isX ops o with
   | true =>
    rw [hX] at h
    simp only [Bool.and_eq_true] at hX
    obtain⟨rfl,hX⟩:=hX
    exact alT_R (W:=W) ho hw (fun d e=>hW i o d ho e) hX h fun st' V' h1 h2 h3=>ih (i+1) hr st' V' h3 fun st2 V2 g1 g2 g3=>hk st2 V2 ((hp.trans h1).trans g1) (g2.trans (h2.trans hc)) g3
   | false =>
   rw [hX] at h
   have hX':dr=true→isX ops o=false:=by
    intro e
    rw [e] at hX
    simpa using hX
   have hnl:(r.all fun o=>!isLoad o)=true→∀ k∈List.range' (i+1) r.length,∀ ok,ops[k]?=some ok→isLoad ok=false:=by
    intro hall k hk ok hok
    rw [List.mem_range'] at hk
    obtain⟨j,hj,rfl⟩:=hk
    have h1:r[j]?=some ok:=by
     rw [← hr,List.getElem?_drop]
     simpa using hok
    have:=List.all_eq_true.1 hall ok (List.mem_of_getElem? h1)
    simpa using this
   have hix:ops.size-(r.length+1)=i:=by
    have h1:=congrArg List.length hr
    simp only [List.length_drop,Array.length_toList] at h1 hlt
    omega
   exact opT_R (W:=W) (nc:=nlAt ops (ops.size-(r.length+1))) (fun e=>by rw [hix] at e; exact e) hnl hX' ho hw (fun d e=>hW i o d ho e) h fun st' V' h1 h2 h3=>ih (i+1) hr st' V' h3 fun st2 V2 g1 g2 g3=>hk st2 V2 ((hp.trans h1).trans g1) (g2.trans (h2.trans hc)) g3
  have hskip:∀ (s:St),Pres W st s→s.c=st.c→want ops (unkF s.F) o.guard=some false→(opsT P dr ops r { s with F:=putF s.F o.dst (.v undef) } k).wp P K V V0 Ns →
    R P ops dr V0 Kf (i :: List.range' (i+1) r.length) (unkF s.F) s.H V:=by
   intro s hp hc hw h
   refine R.skip ho hw ?_
   have:=ih (i+1) hr { s with F:=putF s.F o.dst (.v undef) } V h fun st2 V2 g1 g2 g3=>hk st2 V2 ((hp.trans (Pres.putF (fun d e=>hW i o d ho e))).trans g1) (g2.trans hc) g3
   rw [← show unkF (putF s.F o.dst (.v undef))=putF (unkF s.F) o.dst (.v undef) from unkF_put _ _ _]
   exact this
  unfold opsT at h
  simp only at h
  split at h
  ·rename_i hg
   exact hrun st Pres.refl rfl (by rw [hg]; rfl) h
  ·rename_i j b hg
   split at h
   ·rename_i d hd2
    have hWd:W.contains d=true:=by
     cases hj:ops[j]? with
     | none=>rw [hj] at hd2; cases hd2
     | some oj=>rw [hj] at hd2; exact hW j oj d hj hd2
    split at h
    ·rename_i c hF
     have hw:want ops (unkF st.F) o.guard=some (c == b):=by simp only [want,hg,hd2,unkF_of hF,unk]
     rw [pickT_eq] at h
     by_cases e:(c == b)=true
     ·rw [if_pos e] at h; exact hrun st Pres.refl rfl (by rw [hw,e]) h
     ·rw [if_neg e] at h; exact hskip st Pres.refl rfl (by rw [hw]; simpa using e) h
    ·rename_i c hF
     have hw:want ops (unkF st.F) o.guard=some (c == b):=by simp only [want,hg,hd2,unkF_of hF,unk]
     have h':=br_sound h
     have hp:Pres W st { st with F:=upd st.F d (.k c) }:=Pres.upd hWd
     have hu:=unkF_known hF
     have h2:(pickT c b (match dr && isX ops o with | true=>alT P o { st with F:=upd st.F d (.k c) } (fun st=>opsT P dr ops r st k) | false=>opT P dr (r.all fun o=>!isLoad o) (nlAt ops (ops.size-(r.length+1))) o { st with F:=upd st.F d (.k c) } (fun st=>opsT P dr ops r st k)) (opsT P dr ops r { st with F:=putF (upd st.F d (.k c)) o.dst (.v undef) } k)).wp P K V V0 Ns:=by
      cases c
      ·exact h'
      ·exact h'
     rw [pickT_eq] at h2
     rw [← hu] at hw
     rw [← hu]
     by_cases e:(c == b)=true
     ·rw [if_pos e] at h2; exact hrun _ hp rfl (by rw [hw,e]) h2
     ·rw [if_neg e] at h2; exact hskip _ hp rfl (by rw [hw]; simpa using e) h2
    ·rename_i vs hF
     have hw:want ops (unkF st.F) o.guard=some false:=by simp only [want,hg,hd2,unkF_of hF,unk]
     exact hskip st Pres.refl rfl hw h
    ·exact h.elim
   ·exact h.elim
def SameB (σ:Nat→Nat) (H1 H':List Box) (i:Nat):Box→Prop
 | .c cs t=>∃ cs',H'[σ i]?=some (.c cs' t)∧cs'.length=cs.length ∧
   ∀ (j:Nat) s,cs[j]?=some s→inb H1.length s∧∀ s',cs'[j]?=some s'→∀ (ρ:Nat→Nat × Nat) x,cv (fun m=>ρ (σ m)) H1 s=some x→cv ρ H' s'=some x
 | .a n xs t=>H'[σ i]?=some (.a n xs t)
 | _=>True
structure HR (σ:Nat→Nat) (F':Fm) (H':List Box) (F1:Fm) (H1:List Box):Prop where
 fm:∀ t s,F1 t=some s→inb H1.length s∧∃ s',F' t=some s'∧∀ (ρ:Nat→Nat × Nat) x,cv (fun m=>ρ (σ m)) H1 s=some x→cv ρ H' s'=some x
 bx:∀ i b,H1[i]?=some b→SameB σ H1 H' i b
 inj:∀ i j b c,H1[i]?=some b→H1[j]?=some c→b.live=true→c.live=true→σ i=σ j→i=j
theorem SameB.live {σ:Nat→Nat} {H1 H':List Box} {i:Nat} {b:Box} (h:SameB σ H1 H' i b) (hl:b.live=true):∃ b',H'[σ i]?=some b'∧b'.live=true:=by
 cases b with
 | c cs t=>obtain⟨cs',h1,_⟩:=h; exact⟨_,h1,rfl⟩
 | a n xs t=>exact⟨_,h,rfl⟩
 | _=>cases hl
theorem Sat.rename {σ:Nat→Nat} {F' F1:Fm} {H' H1:List Box} (h:Sat P N w0.heap.size F' H' V ρ a w) (r:HR σ F' H' F1 H1):Sat P N w0.heap.size F1 H1 V (fun m=>ρ (σ m)) a w:=by
 refine⟨h.defers,h.size,fun t s x hs hx=>?_,fun i b hb=>?_,fun i j b c hb hc hbl hcl he=>?_,fun i b hb hl=>?_,fun i b hb hl=>?_,h.know,fun t s hs=>(r.fm t s hs).1,fun i cs t hi s hs=>?_⟩
 ·obtain⟨_,s',h1,h2⟩:=r.fm t s hs
  exact h.slot t s' x h1 (h2 ρ x hx)
 ·have hs:=r.bx i b hb
  cases b with
  | c cs t =>
   obtain⟨cs',h1,h2,h3⟩:=hs
   obtain⟨cells,g1,g2,g3⟩:=h.box _ _ h1
   refine⟨cells,g1,g2.trans h2,fun j s x hj hx=>?_⟩
   have hlt:j<cs'.length:=by rw [h2]; exact(List.getElem?_eq_some_iff.1 hj).1
   exact g3 j cs'[j] x (by simp [hlt]) ((h3 j s hj).2 cs'[j] (by simp [hlt]) ρ x hx)
  | a n xs t=>exact h.box _ _ hs
  | _=>trivial
 ·obtain⟨b',h1,h2⟩:=(r.bx i b hb).live hbl
  obtain⟨c',h3,h4⟩:=(r.bx j c hc).live hcl
  exact r.inj i j b c hb hc hbl hcl (h.inj _ _ _ _ h1 h3 h2 h4 he)
 ·obtain⟨b',h1,h2⟩:=(r.bx i b hb).live hl
  exact h.base _ _ h1 h2
 ·obtain⟨b',h1,h2⟩:=(r.bx i b hb).live hl
  exact h.priv _ _ h1 h2
 ·have hb:=r.bx i _ hi
  obtain⟨cs',h1,h2,h3⟩:=hb
  obtain⟨j,hj,rfl⟩:=List.mem_iff_getElem.1 hs
  exact(h3 j cs[j] (by simp [hj])).1
theorem cv_app {H:List Box} {b:Box} {s:SV} (hs:inb H.length s) (ρ:Nat→Nat × Nat):cv ρ (H++[b]) s=cv ρ H s:=cv_append (fun _ _=>rfl) hs
theorem HR.slot {σ:Nat→Nat} {F' F1:Fm} {H' H1:List Box} (r:HR σ F' H' F1 H1) {t:Nat} {s s':SV} (hs:F' t=some s') (hi:inb H1.length s)
  (hc:∀ (ρ:Nat→Nat × Nat) x,cv (fun m=>ρ (σ m)) H1 s=some x→cv ρ H' s'=some x):HR σ F' H' (upd F1 t s) H1:=by
 refine⟨fun u s1 hu=>?_,r.bx,r.inj⟩
 simp only [upd] at hu
 split at hu
 ·rename_i e; subst e; simp at hu; subst hu; exact⟨hi,s',hs,hc⟩
 ·exact r.fm u s1 hu
theorem HR.arr {σ:Nat→Nat} {F' F1:Fm} {H' H1:List Box} (r:HR σ F' H' F1 H1) {m n:Nat} {xs:List Value} {e:TypeId} (hm:σ H1.length=m) (hH:H'[m]?=some (.a n xs e))
  (hf:∀ i b,H1[i]?=some b→b.live=true→σ i≠m):HR σ F' H' F1 (H1++[.a n xs e]):=by
 refine⟨fun t s hs=>?_,fun i b hb=>?_,fun i j b c hb hc hbl hcl he=>?_⟩
 ·obtain⟨h1,s',h2,h3⟩:=r.fm t s hs
  exact⟨inb_mono (by simp) h1,s',h2,fun ρ x hx=>h3 ρ x (by rw [cv_app h1] at hx; exact hx)⟩
 ·rw [List.getElem?_append] at hb
  split at hb
  ·have:=r.bx i b hb
   cases b with
   | c cs t =>
    obtain⟨cs',h1,h2,h3⟩:=this
    exact⟨cs',h1,h2,fun j s hj=>⟨inb_mono (by simp) (h3 j s hj).1,fun s' hs' ρ x hx=>(h3 j s hj).2 s' hs' ρ x (by rw [cv_app (h3 j s hj).1] at hx; exact hx)⟩⟩
   | a n xs t=>exact this
   | _=>trivial
  ·rename_i hge
   cases hq:i-H1.length with
   | zero =>
    rw [hq] at hb; simp at hb; subst hb
    have:i=H1.length:=by omega
    subst this
    show H'[σ H1.length]?=_
    rw [hm]; exact hH
   | succ q=>rw [hq] at hb; simp at hb
 ·have key:∀ i b,(H1++[Box.a n xs e])[i]?=some b→(H1[i]?=some b∧i<H1.length)∨(i=H1.length):=by
   intro i b hb
   rw [List.getElem?_append] at hb
   split at hb
   ·exact .inl ⟨hb,by assumption⟩
   ·cases hq:i-H1.length with
    | zero=>exact .inr (by omega)
    | succ q=>rw [hq] at hb; simp at hb
  rcases key i b hb with ⟨h1,h2⟩ | h1 <;> rcases key j c hc with ⟨g1,g2⟩ | g1
  ·exact r.inj i j b c h1 g1 hbl hcl he
  ·subst g1; rw [hm] at he; exact(hf i b h1 hbl he).elim
  ·subst h1; rw [hm] at he; exact(hf j c g1 hcl he.symm).elim
  ·rw [h1,g1]
theorem cv_setc {H:List Box} {i:Nat} {cs cs2:List SV} {t:TypeId} (hi:H[i]?=some (.c cs t)) (ρ:Nat→Nat × Nat):cv ρ (H.set i (.c cs2 t))=cv ρ H :=
 cv_set hi (.inl ⟨_,_,_,_,rfl,rfl⟩)
theorem HR.cell {σ:Nat→Nat} {F' F1:Fm} {H' H1:List Box} (r:HR σ F' H' F1 H1) {i j:Nat} {cs cs':List SV} {t:TypeId} {s s':SV} (hi:H1[i]?=some (.c cs t))
  (hi':H'[σ i]?=some (.c cs' t)) (hj:cs'[j]?=some s') (hs:inb H1.length s)
  (hc:∀ (ρ:Nat→Nat × Nat) x,cv (fun m=>ρ (σ m)) H1 s=some x→cv ρ H' s'=some x):HR σ F' H' F1 (H1.set i (.c (cs.set j s) t)):=by
 have hlt:=(List.getElem?_eq_some_iff.1 hi).1
 have hlen:(H1.set i (.c (cs.set j s) t)).length=H1.length:=by simp
 refine⟨fun u s1 hu=>?_,fun m b hb=>?_,fun m q b c hb hc2 hbl hcl he=>?_⟩
 ·obtain⟨h1,s2,h2,h3⟩:=r.fm u s1 hu
  exact⟨by rw [hlen]; exact h1,s2,h2,fun ρ x hx=>h3 ρ x (by rw [cv_setc hi] at hx; exact hx)⟩
 ·rw [List.getElem?_set] at hb
  split at hb
  ·rename_i e; subst e
   simp only [Option.some.injEq] at hb
   subst hb
   obtain⟨cs2,h1,h2,h3⟩:=r.bx i _ hi
   rw [hi'] at h1; simp at h1; subst h1
   refine⟨cs',hi',by simp [h2],fun q s1 hq=>?_⟩
   rw [List.getElem?_set] at hq
   split at hq
   ·rename_i e; subst e
    split at hq
    ·simp at hq; subst hq
     refine⟨by rw [hlen]; exact hs,fun s2 hs2 ρ x hx=>?_⟩
     rw [hj] at hs2; simp at hs2; subst hs2
     exact hc ρ x (by rw [cv_setc hi] at hx; exact hx)
    ·cases hq
   ·exact⟨by rw [hlen]; exact(h3 q s1 hq).1,fun s2 hs2 ρ x hx=>(h3 q s1 hq).2 s2 hs2 ρ x (by rw [cv_setc hi] at hx; exact hx)⟩
  ·have:=r.bx m b hb
   cases b with
   | c cs2 t2 =>
    obtain⟨cs3,h1,h2,h3⟩:=this
    exact⟨cs3,h1,h2,fun q s1 hq=>⟨by rw [hlen]; exact(h3 q s1 hq).1,fun s2 hs2 ρ x hx=>(h3 q s1 hq).2 s2 hs2 ρ x (by rw [cv_setc hi] at hx; exact hx)⟩⟩
   | a n xs t=>exact this
   | _=>trivial
 ·have key:∀ (m:Nat) (b:Box),(H1.set i (.c (cs.set j s) t))[m]?=some b→b.live=true→∃ b':Box,H1[m]?=some b'∧b'.live=true:=by
   intro m b hb hl
   rw [List.getElem?_set] at hb
   split at hb
   ·rename_i e; subst e; exact⟨_,hi,rfl⟩
   ·exact⟨b,hb,hl⟩
  obtain⟨b',h1,h2⟩:=key m b hb hbl
  obtain⟨c',h3,h4⟩:=key q c hc2 hcl
  exact r.inj m q b' c' h1 h3 h2 h4 he
end Sx
namespace Sx
open Go
variable {P:Program} {N:Nat} {w0:World} {Vs V V0:Know} {ρ:Nat→Nat × Nat} {a:Act} {w:World}
 {K:Know→List Value→Prop} {Ns:List (List LV→Know→Prop)} {W:List Nat} {st st1 st2:St}
def WfH (H:List Box):Prop:=∀ (i:Nat) cs t,H[i]?=some (.c cs t)→∀ s∈cs,inb H.length s
structure Kill (st st':St):Prop where
 c:st'.c=st.c
 F:st'.F=st.F
 len:st'.H.length=st.H.length
 pres:Pres [] st st'
 wf:WfH st.H→WfH st'.H
theorem Kill.refl:Kill st st:=⟨rfl,rfl,rfl,Pres.refl,id⟩
theorem Kill.trans (h:Kill st st1) (k:Kill st1 st2):Kill st st2 :=
 ⟨k.c.trans h.c,k.F.trans h.F,k.len.trans h.len,h.pres.trans k.pres,fun e=>k.wf (h.wf e)⟩
theorem WfH.set {H:List Box} (h:WfH H) {i:Nat} {b:Box} (hb:∀ cs t,b=.c cs t→∀ s∈cs,inb H.length s):WfH (H.set i b):=by
 intro j cs t hj s hs
 simp only [List.length_set]
 rw [List.getElem?_set] at hj
 split at hj
 ·split at hj
  ·simp at hj; exact hb cs t hj s hs
  ·cases hj
 ·exact h j cs t hj s hs
theorem Kill.set {i:Nat} {b:Box} (hb:WfH st.H→∀ cs t,b=.c cs t→∀ s∈cs,inb st.H.length s):Kill st { st with H:=st.H.set i b,D:=st.D.set i st.c } :=
 ⟨rfl,rfl,by simp,Pres.set,fun h=>h.set (hb h)⟩
theorem killT_spec:∀ (pls:List Pl) (shs:List LSh) {st base:St},killT pls shs st=some base→Kill st base
 | [],[],st,base,h=>by simp [killT] at h; subst h; exact Kill.refl
 | [],_ :: _,st,base,h=>by simp [killT] at h
 | .s t :: r,[],st,base,h=>by simp [killT] at h
 | .c i j :: r,[],st,base,h=>by simp [killT] at h
 | .s t :: r,sh :: l,st,base,h=>by
  simp only [killT] at h
  split at h
  ·exact(Kill.set fun _ cs t e=>by cases e).trans (killT_spec r l h)
  ·exact killT_spec r l h
 | .c i j :: r,sh :: l,st,base,h=>by
  simp only [killT] at h
  split at h
  ·rename_i cs u hi
   have hlt:=(List.getElem?_eq_some_iff.1 hi).1
   have hk:Kill st { st with H:=st.H.set i (.c (cs.set j (.o i)) u),D:=st.D.set i st.c }:=by
    refine Kill.set fun hw cs' t e s hs=>?_
    cases e
    rcases List.mem_or_eq_of_mem_set hs with h1 | h1
    ·exact hw i cs u hi s h1
    ·subst h1; exact hlt
   split at h
   ·rename_i m hm
    split at h
    ·exact hk.trans (killT_spec r l h)
    ·exact(hk.trans (Kill.set (i:=m) (b:=.x) fun _ cs t e=>by cases e)).trans (killT_spec r l h)
   ·exact hk.trans (killT_spec r l h)
  ·cases h
theorem sameAll_spec {c:Nat} {H':List Box} {D':List Nat}:∀ (l:List Box) (i:Nat),sameAll c l i H' D'=true→∀ (j:Nat) b,l[j]?=some b →
  (b=.x)∨(∃ d,D'[i+j]?=some d∧d<c)∨(∃ cs t cs',b=.c cs t∧H'[i+j]?=some (.c cs' t)∧cs'.length=cs.length∧deadAll (i+j) cs=true)
 | [],i,h,j,b,hb=>by simp at hb
 | b0 :: r,i,h,j,b,hb=>by
  simp only [sameAll,Bool.and_eq_true] at h
  cases j with
  | zero =>
   simp at hb; subst hb
   have h1:=h.1
   have key:(match D'[i]? with | some d=>Nat.blt d c | none=>false)=true→∃ d,D'[i+0]?=some d∧d<c:=by
    intro hh
    split at hh
    ·rename_i d hd; exact⟨d,hd,by simpa [Nat.blt_eq] using hh⟩
    ·cases hh
   split at h1
   ·exact .inl rfl
   ·rename_i cs t
    simp only [Bool.or_eq_true] at h1
    rcases h1 with h1 | h1
    ·exact .inr (.inl (key h1))
    ·split at h1
     ·rename_i cs' t' hH
      simp only [Bool.and_eq_true,Nat.beq_eq] at h1
      obtain⟨⟨e1,e2⟩,e3⟩:=h1
      subst e1
      exact .inr (.inr ⟨cs,t,cs',rfl,hH,e2.symm,e3⟩)
     ·cases h1
   ·exact .inr (.inl (key h1))
  | succ j =>
   have:=sameAll_spec r (i+1) h.2 j b (by simpa using hb)
   simpa [Nat.add_assoc,Nat.add_comm 1 j] using this
theorem deadAll_spec {i:Nat}:∀ {l:List SV},deadAll i l=true→∀ s∈l,s=.o i
 | [],_,s,hs=>by cases hs
 | .o j :: r,h,s,hs=>by
  simp only [deadAll,Bool.and_eq_true,Nat.beq_eq] at h
  cases hs with
  | head=>rw [h.1]
  | tail _ hs=>exact deadAll_spec h.2 s hs
 | .v _ :: r,h,s,hs=>by cases h
 | .k _ :: r,h,s,hs=>by cases h
 | .p _ _ :: r,h,s,hs=>by cases h
theorem freshAll_spec {base:List Box}:∀ {l:List Nat},freshAll base l=true→l.Nodup∧∀ i∈l,∀ b,base[i]?=some b→b.live=false
 | [],_=>⟨List.nodup_nil,fun i hi=>by cases hi⟩
 | i :: r,h=>by
  simp only [freshAll,Bool.and_eq_true] at h
  obtain⟨⟨h1,h2⟩,h3⟩:=h
  obtain⟨g1,g2⟩:=freshAll_spec h3
  refine⟨List.nodup_cons.2 ⟨by simpa using h2,g1⟩,fun j hj b hb=>?_⟩
  cases hj with
  | head=>rw [hb] at h1; simpa using h1
  | tail _ hj=>exact g2 j hj b hb
def shift (L:Nat) (is:List Nat) (i:Nat):Nat:=if i<L then i else is.getD (i-L) 0
theorem base_HR {F':Fm} {H':List Box} {D' is:List Nat} {base:St}
  (hslot:∀ t s,unkF base.F t=some s→F' t=some s) (hinb:∀ t s,unkF base.F t=some s→inb base.H.length s) (hwf:WfH base.H)
  (hbox:∀ (i d:Nat),i<base.H.length→D'[i]?=some d→d<base.c→H'[i]?=base.H[i]?) (hsame:sameAll base.c base.H 0 H' D'=true) :
  HR (shift base.H.length is) F' H' (unkF base.F) base.H:=by
 have hsh:∀ i,i<base.H.length→shift base.H.length is i=i:=fun i hi=>by simp [shift,hi]
 have hcase:∀ (i:Nat) b,base.H[i]?=some b→(b=.x)∨(H'[i]?=some b)∨(∃ cs t cs',b=.c cs t∧H'[i]?=some (.c cs' t)∧cs'.length=cs.length∧deadAll i cs=true):=by
  intro i b hb
  have hlt:=(List.getElem?_eq_some_iff.1 hb).1
  have:=sameAll_spec base.H 0 hsame i b hb
  simp only [Nat.zero_add] at this
  rcases this with h | ⟨d,h1,h2⟩ | h
  ·exact .inl h
  ·exact .inr (.inl (by rw [hbox i d hlt h1 h2,hb]))
  ·exact .inr (.inr h)
 have hcv:∀ s,inb base.H.length s→∀ (ρ:Nat→Nat × Nat) x,cv (fun m=>ρ (shift base.H.length is m)) base.H s=some x→cv ρ H' s=some x:=by
  intro s hs ρ x hx
  cases s with
  | v y=>exact hx
  | k b=>exact hx
  | p i off =>
   have hi:i<base.H.length:=hs
   simp only [cv] at hx ⊢
   cases hb:base.H[i]? with
   | none=>rw [hb] at hx; cases hx
   | some b =>
    rw [hb] at hx
    rcases hcase i b hb with h | h | ⟨cs,t,cs',h1,h2,_⟩
    ·subst h; cases hx
    ·rw [h]; cases b <;> simp_all
    ·subst h1; rw [h2]; simp_all
  | o i =>
   have hi:i<base.H.length:=hs
   simp only [cv] at hx ⊢
   cases hb:base.H[i]? with
   | none=>rw [hb] at hx; cases hx
   | some b =>
    rw [hb] at hx
    rcases hcase i b hb with h | h | ⟨cs,t,cs',h1,h2,_⟩
    ·subst h; cases hx
    ·rw [h]; cases b <;> simp_all
    ·subst h1; cases hx
 refine⟨fun t s hs=>⟨hinb t s hs,s,hslot t s hs,hcv s (hinb t s hs)⟩,fun i b hb=>?_,fun i j b c hb hc hbl hcl he=>?_⟩
 ·have hlt:=(List.getElem?_eq_some_iff.1 hb).1
  have hcvc:∀ cs t,base.H[i]?=some (.c cs t)→∀ (j:Nat) s,cs[j]?=some s→inb base.H.length s∧∀ (ρ:Nat→Nat × Nat) x,cv (fun m=>ρ (shift base.H.length is m)) base.H s=some x→cv ρ H' s=some x:=by
   intro cs t hi j s hj
   have hin:=hwf i cs t hi s (List.mem_of_getElem? hj)
   exact⟨hin,hcv s hin⟩
  rcases hcase i b hb with h | h | ⟨cs,t,cs',h1,h2,h3,h4⟩
  ·subst h; trivial
  ·cases b with
   | c cs t =>
    refine⟨cs,by rw [hsh i hlt]; exact h,rfl,fun j s hj=>?_⟩
    obtain⟨g1,g2⟩:=hcvc cs t hb j s hj
    exact⟨g1,fun s' hs'=>by rw [hj] at hs'; simp at hs'; subst hs'; exact g2⟩
   | a n xs t=>show H'[shift _ _ i]?=_; rw [hsh i hlt]; exact h
   | _=>trivial
  ·subst h1
   refine⟨cs',by rw [hsh i hlt]; exact h2,h3,fun j s hj=>?_⟩
   have:=deadAll_spec h4 s (List.mem_of_getElem? hj)
   subst this
   refine⟨hlt,fun s' _ ρ x hx=>?_⟩
   simp only [cv,hb] at hx
   cases hx
 ·have h1:=(List.getElem?_eq_some_iff.1 hb).1
  have h2:=(List.getElem?_eq_some_iff.1 hc).1
  rw [hsh i h1,hsh j h2] at he
  exact he
theorem getV_spec {H:List Box} {sh:LSh} {s:SV} {x:LV} {is:List Nat} (h:getV H sh s=some (x,is)) :
  (∃ y,x=.v y∧is=[]∧∀ ρ,cv ρ H s=some y∨cv ρ H s=none∨cv ρ H (res H s)=some y)∧(∃ y,x=.v y∧is=[]∧pvT (res H s)=some y) ∨
  (∃ e n ys i,x=.a e n ys∧is=[i]∧s=.o i∧H[i]?=some (.a n ys e)):=by
 unfold getV at h
 split at h
 ·split at h
  ·rename_i y hy
   simp at h
   obtain⟨rfl,rfl⟩:=h
   refine .inl ⟨⟨y,rfl,rfl,fun ρ=>.inr (.inr ?_)⟩,y,rfl,rfl,hy⟩
   have:=pv_unk hy
   cases hr:res H s <;> rw [hr] at hy <;> simp [pvT] at hy <;> subst hy <;> rfl
  ·cases h
 ·split at h
  ·rename_i n ys u hi
   split at h
   ·rename_i hu
    simp at h
    obtain⟨rfl,rfl⟩:=h
    subst hu
    exact .inr ⟨_,_,_,_,rfl,rfl,rfl,hi⟩
   ·cases h
  ·cases h
 ·cases h
theorem cv_pv {H:List Box} {s:SV} {y:Value} (h:pvT (res H s)=some y) (ρ:Nat→Nat × Nat):cv ρ H s=some y:=by
 apply cv_res
 cases hr:res H s <;> rw [hr] at h <;> simp [pvT] at h <;> subst h <;> rfl
theorem cv_unk {ρ:Nat→Nat × Nat} {H:List Box} {s:SV}:cv ρ H (unk s)=cv ρ H s:=by cases s <;> rfl
theorem unkF_F {F:Fm} {t:Nat} {s:SV} (h:F t=some s):unkF F t=some (unk s):=unkF_of h
theorem putL_HR {σ:Nat→Nat} {st':St}:∀ (pls:List Pl) (shs:List LSh) (xs:List LV) (is:List Nat) (cur hd:St),getL st' pls shs=some (xs,is)→putL pls xs cur=some hd →
  HR σ (unkF st'.F) st'.H (unkF cur.F) cur.H→(∀ k,k<is.length→σ (cur.H.length+k)=is.getD k 0)→is.Nodup→(∀ (i:Nat) b,cur.H[i]?=some b→b.live=true→σ i ∉ is) →
  (∀ i j,Pl.c i j∈pls→σ i=i)→HR σ (unkF st'.F) st'.H (unkF hd.F) hd.H
 | [],[],xs,is,cur,hd,hg,hp,r,_,_,_,_=>by
  simp [getL] at hg
  obtain⟨rfl,rfl⟩:=hg
  simp [putL] at hp
  subst hp
  exact r
 | [],_ :: _,xs,is,cur,hd,hg,hp,r,_,_,_,_=>by simp [getL] at hg
 | .s t :: pr,[],xs,is,cur,hd,hg,hp,r,_,_,_,_=>by simp [getL] at hg
 | .c i j :: pr,[],xs,is,cur,hd,hg,hp,r,_,_,_,_=>by simp [getL] at hg
 | .s t :: pr,sh :: l,xs,is,cur,hd,hg,hp,r,hf,hn,hfr,hid=>by
  simp only [getL] at hg
  split at hg
  ·rename_i s hs
   split at hg
   ·rename_i x is1 xs1 js hv hrest
    simp at hg
    obtain⟨rfl,rfl⟩:=hg
    rcases getV_spec hv with ⟨_,y,rfl,rfl,hy⟩ | ⟨e,n,ys,i,rfl,rfl,rfl,hi⟩
    ·simp only [putL] at hp
     refine putL_HR pr l xs1 js _ hd hrest hp ?_ (by simpa using hf) (by simpa using hn) (by simpa using hfr) (fun i j hm=>hid i j (List.mem_cons_of_mem _ hm))
     rw [unkF_upd]
     refine r.slot (unkF_F hs) trivial fun ρ x hx=>?_
     rw [cv_unk,cv_pv hy]
     simpa [cv,unk] using hx
    ·simp only [putL] at hp
     have hl:σ cur.H.length=i:=by have:=hf 0 (by simp); simpa using this
     have r2:HR σ (unkF st'.F) st'.H (unkF cur.F) (cur.H++[.a n ys e]):=r.arr hl hi fun m b hb hbl he=>hfr m b hb hbl (by rw [he]; simp)
     refine putL_HR pr l xs1 js _ hd hrest hp ?_ ?_ ?_ ?_ (fun i j hm=>hid i j (List.mem_cons_of_mem _ hm))
     ·rw [unkF_upd]
      refine r2.slot (unkF_F hs) (by simp [unk,inb]) fun ρ x hx=>?_
      simp only [unk,cv,List.getElem?_append_right (Nat.le_refl _),Nat.sub_self,List.getElem?_cons_zero,hl] at hx
      simp only [unk,cv,hi]
      exact hx
     ·intro k hk
      have:=hf (k+1) (by simpa using hk)
      simp only [List.length_append,List.length_cons,List.length_nil]
      simpa [Nat.add_assoc,Nat.add_comm 1 k] using this
     ·simp at hn; exact hn.2
     ·intro m b hb hbl hmem
      rw [List.getElem?_append] at hb
      split at hb
      ·exact hfr m b hb hbl (by simp [hmem])
      ·cases hq:m-cur.H.length with
       | zero =>
        have:m=cur.H.length:=by omega
        subst this
        rw [hl] at hmem
        simp at hn
        exact hn.1 hmem
       | succ q=>rw [hq] at hb; simp at hb
   ·cases hg
  ·cases hg
 | .c i j :: pr,sh :: l,xs,is,cur,hd,hg,hp,r,hf,hn,hfr,hid=>by
  have hii:=hid i j (List.mem_cons_self ..)
  simp only [getL] at hg
  split at hg
  ·rename_i cs' u' hci
   split at hg
   ·rename_i s hs
    split at hg
    ·rename_i x is1 xs1 js hv hrest
     simp at hg
     obtain⟨rfl,rfl⟩:=hg
     rcases getV_spec hv with ⟨_,y,rfl,rfl,hy⟩ | ⟨e,n,ys,m,rfl,rfl,rfl,hi⟩
     ·simp only [putL] at hp
      split at hp
      ·rename_i cs u hcur
       have hcl:st'.H[σ i]?=some (.c cs' u'):=by rw [hii]; exact hci
       have hu:u'=u:=by
        obtain⟨c2,g1,_⟩:=r.bx i _ hcur
        rw [hcl] at g1; simp at g1; exact g1.2
       subst hu
       refine putL_HR pr l xs1 js _ hd hrest hp ?_ (by simpa using hf) (by simpa using hn) ?_ (fun i j hm=>hid i j (List.mem_cons_of_mem _ hm))
       ·refine r.cell hcur hcl hs trivial fun ρ x hx=>?_
        rw [cv_pv hy]
        simpa [cv] using hx
       ·intro m b hb hbl
        rw [List.getElem?_set] at hb
        split at hb
        ·rename_i e; subst e
         exact(by simpa using hfr i _ hcur rfl)
        ·simpa using hfr m b hb hbl
      ·cases hp
     ·simp only [putL] at hp
      split at hp
      ·rename_i cs u hcur
       have hcl:st'.H[σ i]?=some (.c cs' u'):=by rw [hii]; exact hci
       have hu:u'=u:=by
        obtain⟨c2,g1,_⟩:=r.bx i _ hcur
        rw [hcl] at g1; simp at g1; exact g1.2
       subst hu
       have hl:σ cur.H.length=m:=by have:=hf 0 (by simp); simpa using this
       have r2:HR σ (unkF st'.F) st'.H (unkF cur.F) (cur.H++[.a n ys e]):=r.arr hl hi fun q b hb hbl he=>hfr q b hb hbl (by rw [he]; simp)
       have hlt:=(List.getElem?_eq_some_iff.1 hcur).1
       have hcur2:(cur.H++[Box.a n ys e])[i]?=some (.c cs u'):=by rw [List.getElem?_append_left hlt]; exact hcur
       have r3:=r2.cell (j:=j) (s:=.o cur.H.length) hcur2 hcl hs (by simp [inb]) (fun ρ x hx=>by
        simp only [cv,List.getElem?_append_right (Nat.le_refl _),Nat.sub_self,List.getElem?_cons_zero,hl] at hx
        simp only [cv,hi]
        exact hx)
       have e3:(cur.H++[Box.a n ys e]).set i (.c (cs.set j (.o cur.H.length)) u')=cur.H.set i (.c (cs.set j (.o cur.H.length)) u')++[Box.a n ys e]:=by
        rw [List.set_append_left _ _ hlt]
       rw [e3] at r3
       refine putL_HR pr l xs1 js _ hd hrest hp r3 ?_ ?_ ?_ (fun i j hm=>hid i j (List.mem_cons_of_mem _ hm))
       ·intro k hk
        have:=hf (k+1) (by simpa using hk)
        simp only [List.length_append,List.length_cons,List.length_nil,List.length_set]
        simpa [Nat.add_assoc,Nat.add_comm 1 k] using this
       ·simp at hn; exact hn.2
       ·intro q b hb hbl hmem
        rw [List.getElem?_append] at hb
        split at hb
        ·rw [List.getElem?_set] at hb
         split at hb
         ·rename_i e; subst e
          exact hfr i _ hcur rfl (by simp [hmem])
         ·exact hfr q b hb hbl (by simp [hmem])
        ·rename_i hge
         simp only [List.length_set] at hge hb
         cases hq:q-cur.H.length with
         | zero =>
          have:q=cur.H.length:=by omega
          subst this
          rw [hl] at hmem
          simp at hn
          exact hn.1 hmem
         | succ p=>rw [hq] at hb; simp at hb
      ·cases hp
    ·cases hg
   ·cases hg
  ·cases hg
end Sx
namespace Sx
open Go
variable {P:Program} {N:Nat} {w0:World} {Vs V V0:Know} {ρ:Nat→Nat × Nat} {a:Act} {w:World}
 {K:Know→List Value→Prop} {Ns Ns0:List (List LV→Know→Prop)} {W:List Nat} {st st0 st1 st2 base hd:St}
 {pls:List Pl} {shs:List LSh} {an:An}
theorem Pres.wide {W':List Nat} (h:Pres W st st1) (hw:∀ t,W.contains t=true→W'.contains t=true):Pres W' st st1 :=
 ⟨fun t ht=>h.slot t (by cases e:W.contains t with | false=>rfl | true=>rw [hw t e] at ht; cases ht),h.wf,h.len,h.cnt,h.box,h.kind⟩
theorem Pres.any (h:Pres [] st st1):Pres W st st1:=h.wide fun t ht=>by simp at ht
structure BaseOk (W:List Nat) (pls:List Pl) (st base:St):Prop where
 c:base.c=st.c+1
 F:∀ t,base.F t=match W.contains t with | true=>none | false=>st.F t
 len:base.H.length=st.H.length
 pres:Pres [] { st with c:=st.c+1 } { base with F:=st.F }
 wf:WfH st.H→WfH base.H
 lt:∀ i j,Pl.c i j∈pls→i<base.H.length
theorem killT_lt:∀ (pls:List Pl) (shs:List LSh) {st base:St},killT pls shs st=some base→∀ i j,Pl.c i j∈pls→i<st.H.length
 | [],_,st,base,h,i,j,hm=>by cases hm
 | .s t :: r,[],st,base,h,i,j,hm=>by simp [killT] at h
 | .c i j :: r,[],st,base,h,i',j',hm=>by simp [killT] at h
 | .s t :: r,sh :: l,st,base,h,i,j,hm=>by
  have hm:Pl.c i j∈r:=by cases hm; assumption
  simp only [killT] at h
  split at h
  ·have:=killT_lt r l h i j hm; simpa using this
  ·exact killT_lt r l h i j hm
 | .c i j :: r,sh :: l,st,base,h,i',j',hm=>by
  simp only [killT] at h
  split at h
  ·rename_i cs u hi
   have hlt:=(List.getElem?_eq_some_iff.1 hi).1
   have rest:∀ {s':St},s'.H.length=st.H.length→killT r l s'=some base→i'<st.H.length:=by
    intro s' hl h
    cases hm with
    | head=>exact hlt
    | tail _ hm=>rw [← hl]; exact killT_lt r l h i' j' hm
   split at h
   ·split at h
    ·exact rest (by simp) h
    ·exact rest (by simp) h
   ·exact rest (by simp) h
  ·cases h
theorem baseT_spec (h:baseT W pls shs st=some base):BaseOk W pls st base:=by
 unfold baseT at h
 split at h
 ·rename_i b hb
  have h:=Option.some.inj h
  subst h
  have k:=killT_spec pls shs hb
  refine⟨k.c,fun t=>?_,k.len,?_,k.wf,fun i j hm=>?_⟩
  ·simp only
   rw [k.F]
   cases W.contains t <;> rfl
  ·have:=k.pres
   have e:({ b with F:=st.F }:St)=b:=by
    have hF:=k.F
    simp only at hF
    cases b; simp_all
   rw [← e] at this
   exact this
  ·have:=killT_lt pls shs hb i j hm
   rw [k.len]
   exact this
 ·cases h
structure Hb (W:List Nat) (base st':St):Prop where
 slot:∀ t,W.contains t=false→unkF st'.F t=unkF base.F t
 box:∀ (i d:Nat),i<base.H.length→st'.D[i]?=some d→d<base.c→st'.H[i]?=base.H[i]?
 len:base.H.length≤st'.H.length
 cnt:base.c≤st'.c
theorem Hb.step (h:Hb W base st) (p:Pres W st st1):Hb W base st1 :=
 ⟨fun t ht=>(p.slot t ht).trans (h.slot t ht),fun i d hi hd hc=>by
  obtain⟨h1,h2⟩:=p.box i d (Nat.lt_of_lt_of_le hi h.len) hd (Nat.lt_of_lt_of_le hc h.cnt)
  exact h1.trans (h.box i d hi h2 hc),Nat.le_trans h.len p.len,Nat.le_trans h.cnt p.cnt⟩
theorem Hb.of (p:Pres W base st):Hb W base st:=⟨p.slot,fun i d hi hd hc=>(p.box i d hi hd hc).1,p.len,p.cnt⟩
theorem unkF_eq {F G:Fm} {t:Nat} (h:F t=G t):unkF F t=unkF G t:=by simp [unkF,h]
theorem BaseOk.hb (b:BaseOk W pls st base):Hb W base { st with c:=st.c+1,D:=base.D }:=by
 refine⟨fun t ht=>?_,fun i d hi hd hc=>?_,by rw [b.len]; exact Nat.le_refl _,by rw [b.c]; exact Nat.le_refl _⟩
 ·apply unkF_eq
  rw [b.F,ht]
 ·rw [b.c] at hc
  have:=b.pres.box i d (by rw [← b.len]; exact hi) hd hc
  exact this.1.symm
theorem head_sat {xs:List LV} {is:List Nat} {st':St} (b:BaseOk W pls st base) (hb:Hb W base st')
  (hF:∀ t s,unkF st.F t=some s→inb st.H.length s) (hH:WfH st.H)
  (hS:Sat P N w0.heap.size (unkF st'.F) st'.H V ρ a w) (hg:getL st' pls shs=some (xs,is)) (hp:putL pls xs base=some hd)
  (hok:(sameAll base.c base.H 0 st'.H st'.D && freshAll base.H is)=true):∃ ρ1,Sat P N w0.heap.size (unkF hd.F) hd.H V ρ1 a w:=by
 simp only [Bool.and_eq_true] at hok
 obtain⟨f1,f2⟩:=freshAll_spec hok.2
 have hbase:∀ t s,unkF base.F t=some s→W.contains t=false∧unkF st.F t=some s:=by
  intro t s hs
  have:=b.F t
  cases e:W.contains t with
  | true=>rw [e] at this; simp [unkF,this] at hs
  | false =>
   rw [e] at this
   refine⟨rfl,?_⟩
   rw [← hs]
   exact unkF_eq this.symm
 have r:=base_HR (is:=is) (F':=unkF st'.F) (H':=st'.H) (D':=st'.D) (base:=base)
  (fun t s hs=>by rw [hb.slot t (hbase t s hs).1]; exact hs)
  (fun t s hs=>by rw [b.len]; exact hF t s (hbase t s hs).2) (b.wf hH) hb.box hok.1
 refine⟨_,hS.rename (putL_HR pls shs xs is base hd hg hp r (fun k hk=>?_) f1 (fun i bx hi hl hm=>?_) (fun i j hm=>?_))⟩
 ·have hnk:¬ (base.H.length+k<base.H.length):=by omega
  simp only [shift,if_neg hnk,Nat.add_sub_cancel_left]
 ·have hlt:=(List.getElem?_eq_some_iff.1 hi).1
  simp only [shift,hlt,if_true] at hm
  rw [f2 i hm bx hi] at hl
  cases hl
 ·simp [shift,b.lt i j hm]
theorem putL_pres:∀ (pls:List Pl) (xs:List LV) {st hd:St},putL pls xs st=some hd→(∀ t∈slots pls,W.contains t=true)→Pres W st hd∧hd.c=st.c
 | [],[],st,hd,h,_=>by simp [putL] at h; subst h; exact⟨Pres.refl,rfl⟩
 | [],_ :: _,st,hd,h,_=>by simp [putL] at h
 | .s t :: r,[],st,hd,h,_=>by simp [putL] at h
 | .c i j :: r,[],st,hd,h,_=>by simp [putL] at h
 | .s t :: r,.v x :: l,st,hd,h,hw=>by
  simp only [putL] at h
  obtain⟨h1,h2⟩:=putL_pres r l h (fun t ht=>hw t (List.mem_cons_of_mem _ ht))
  exact⟨(Pres.upd (hw t (List.mem_cons_self ..))).trans h1,h2⟩
 | .s t :: r,.a e n ys :: l,st,hd,h,hw=>by
  simp only [putL] at h
  obtain⟨h1,h2⟩:=putL_pres r l h (fun t ht=>hw t (List.mem_cons_of_mem _ ht))
  exact⟨((Pres.app (b:=.a n ys e)).trans (Pres.upd (s:=.o st.H.length) (hw t (List.mem_cons_self ..)))).trans h1,h2⟩
 | .c i j :: r,.v x :: l,st,hd,h,hw=>by
  simp only [putL] at h
  split at h
  ·obtain⟨h1,h2⟩:=putL_pres r l h hw
   exact⟨Pres.set.trans h1,h2⟩
  ·cases h
 | .c i j :: r,.a e n ys :: l,st,hd,h,hw=>by
  simp only [putL] at h
  split at h
  ·rename_i cs u _
   obtain⟨h1,h2⟩:=putL_pres r l h hw
   exact⟨((Pres.set (i:=i) (b:=.c (cs.set j (.o st.H.length)) u)).trans (Pres.app (b:=.a n ys e))).trans h1,h2⟩
  ·cases h
theorem BaseOk.pres' (b:BaseOk W pls st base):Pres W st base:=by
 have p:=b.pres
 refine⟨fun t ht=>?_,fun h=>?_,by rw [b.len]; exact Nat.le_refl _,by rw [b.c]; omega,fun i d hi hd hc=>?_,fun i hi hn=>?_⟩
 ·apply unkF_eq; rw [b.F,ht]
 ·exact p.wf h
 ·exact p.box i d hi hd (by show d<st.c+1; omega)
 ·exact p.kind i hi hn
theorem BaseOk.before (b:BaseOk W pls st base):Pres W st { st with c:=st.c+1,D:=base.D }:=by
 have p:=b.pres
 refine⟨fun t ht=>rfl,fun h=>?_,Nat.le_refl _,by show st.c≤st.c+1; omega,fun i d hi hd hc=>⟨rfl,?_⟩,fun i hi hn=>?_⟩
 ·have:=p.wf h
  show base.D.length=st.H.length
  rw [← b.len]; exact this
 ·exact(p.box i d hi hd (by show d<st.c+1; omega)).2
 ·exact p.kind i hi hn
structure At (P:Program) (N:Nat) (w0:World) (Vs:Know) (K:Know→List Value→Prop) (W:List Nat) (st0:St) (Ns0:List (List LV→Know→Prop)) (k:St→T) (a:Act) (w:World):Prop where
 ex:∃ st V V0 Ns ρ,Pres W st0 st∧st.D.length=st.H.length∧(∃ e,Ns=Ns0++e)∧Ns.length=st.c∧Sat P N w0.heap.size (unkF st.F) st.H V ρ a w∧Fr Vs V w0 w∧(k st).wp P K V V0 Ns
theorem At.trans {k:St→T} {W':List Nat} {Ns1} (h:At P N w0 Vs K W' st1 Ns1 k a w) (p:Pres W st0 st1) (hw:∀ t,W'.contains t=true→W.contains t=true) (he:∃ e,Ns1=Ns0++e) :
  At P N w0 Vs K W st0 Ns0 k a w:=by
 obtain⟨st,V,V0,Ns,ρ,h1,h2,⟨e,h3⟩,h4,h5,h6,h7⟩:=h.ex
 obtain⟨e',he⟩:=he
 exact⟨st,V,V0,Ns,ρ,p.trans (h1.wide hw),h2,⟨e'++e,by rw [h3,he,List.append_assoc]⟩,h4,h5,h6,h7⟩
def dstOk (N:Nat) (ops:Array Oper):Bool:=ops.toList.all fun o=>match o.dst with | some d=>Nat.blt d N | none=>true
def codeOk (N:Nat):Code→Bool
 | .region _ ops _=>dstOk N ops
 | .seq a b=>codeOk N a && codeOk N b
 | .cond _ a b=>codeOk N a && codeOk N b
 | .block _ c=>codeOk N c
 | .loop c=>codeOk N c
 | _=>true
theorem least (p:Nat→Prop) (h:∃ n,p n):∃ n,p n∧∀ m,p m→n≤m:=by
 obtain⟨n,hn⟩:=h
 induction n using Nat.strongRecOn with
 | _ n ih =>
  by_cases hm:∃ m,m<n∧p m
  ·obtain⟨m,h1,h2⟩:=hm
   exact ih m h1 h2
  ·exact⟨n,hn,fun m hp=>Nat.le_of_not_lt fun hlt=>hm ⟨m,hlt,hp⟩⟩
theorem wp_loopN {Q:Exit→Act→World→Prop} {c:Code} (I:Nat→Act→World→Prop) (n0:Nat) (h₀:I n0 a w)
  (round:∀ n a w,I n a w→c.wp P (Exit.then (fun a' w'=>∃ m,m<n∧I m a' w') Q) a w):(Code.loop c).wp P Q a w:=by
 classical
 let μ:Act→World→Nat:=fun a w=>if h:∃ n,I n a w then (least (fun n=>I n a w) h).choose else 0
 have hμ:∀ a w n,I n a w→I (μ a w) a w∧μ a w≤n:=by
  intro a w n hn
  have hex:∃ n,I n a w:=⟨n,hn⟩
  have hs:=(least (fun n=>I n a w) hex).choose_spec
  have e:μ a w=(least (fun n=>I n a w) hex).choose:=dif_pos hex
  rw [e]
  exact⟨hs.1,hs.2 n hn⟩
 refine wp_loop (fun a w=>∃ n,I n a w) μ ⟨n0,h₀⟩ fun a w ⟨n,hn⟩=>?_
 refine wp_mono (round (μ a w) a w (hμ a w n hn).1) fun e a' w' hq=>?_
 cases e with
 | normal =>
  obtain⟨m,h1,h2⟩:=hq
  exact⟨⟨m,h2⟩,Nat.lt_of_le_of_lt (hμ a' w' m h2).2 h1⟩
 | _=>exact hq
theorem nx_sound {lbl:Nat} {Nn:List LV→Know→Prop} (b:BaseOk W pls st base) (hb:Hb W base st1)
  (hF:∀ t s,unkF st.F t=some s→inb st.H.length s) (hH:WfH st.H)
  (h:At P N w0 Vs K W st1 Ns0 (nxT pls shs base lbl) a w) (hN:Ns0[lbl]?=some Nn) :
  ∃ xs V,Nn xs V∧Fr Vs V w0 w∧∀ hd,putL pls xs base=some hd→∃ ρ1,Sat P N w0.heap.size (unkF hd.F) hd.H V ρ1 a w:=by
 obtain⟨st2,V,V0,Ns,ρ,h1,h2,⟨e,h3⟩,h4,h5,h6,h7⟩:=h.ex
 obtain⟨st3,V',g1,g2,_,g3,g4,g5⟩:=fzS_sat (W:=W) _ h5 h6 h7
 split at g5
 ·rename_i xs is hg
  split at g5
  ·rename_i hok
   obtain⟨Nx,e1,e2⟩:=g5
   have hlt:=(List.getElem?_eq_some_iff.1 hN).1
   rw [h3,List.getElem?_append_left hlt,hN] at e1
   simp at e1
   subst e1
   exact⟨xs,V',e2,g4,fun hd hp=>head_sat b ((hb.step h1).step g1) hF hH g3 hg hp hok⟩
  ·exact g5.elim
 ·exact g5.elim
theorem headT_spec {lvs:List LV} {k:St→T} (h:(headT pls base lvs k).wp P K V V0 Ns):∃ hd,putL pls lvs base=some hd∧(k hd).wp P K V V0 Ns:=by
 unfold headT at h
 split at h
 ·rename_i hd hp; exact⟨hd,hp,h⟩
 ·exact h.elim
end Sx
namespace Sx
open Go
variable {P:Program} {N:Nat} {w0:World} {Vs:Know} {a:Act} {w:World}
 {K:Know→List Value→Prop} {an:An}
theorem dstOk_spec {ops:Array Oper} (h:dstOk N ops=true):∀ (i:Nat) (o:Oper) (d:Nat),ops[i]?=some o→o.dst=some d→d<N:=by
 intro i o d ho hd
 simp only [dstOk,List.all_eq_true] at h
 have hm:o∈ops.toList:=by simpa using Array.mem_of_getElem? ho
 have:=h o hm
 rw [hd] at this
 simpa [Nat.blt_eq] using this
theorem wp_region_seq {id:Nat} {ops:Array Oper} {Q:Exit→Act→World→Prop} {F:Fm} {H:List Box} {V V0:Know} {ρ:Nat→Nat × Nat} {Kf:Kt}
  (hr:R P ops false V0 Kf (List.range ops.size) F H V) (hN:∀ (i:Nat) (o:Oper) (d:Nat),ops[i]?=some o→o.dst=some d→d<N)
  (hQ:∀ F H V ρ a w,Sat P N w0.heap.size F H V ρ a w→Fr Vs V w0 w→Kf F H V→Q .normal a w)
  (hS:Sat P N w0.heap.size F H V ρ a w) (hF:Fr Vs V w0 w):(Code.region id ops false).wp P Q a w :=
 wp_region (R.sound hr hN hQ ρ a w hS hF)
theorem getL_congr {st:St} {D:List Nat} {c:Nat}:∀ (pls:List Pl) (shs:List LSh),getL { st with D:=D,c:=c } pls shs=getL st pls shs
 | [],[]=>rfl
 | [],_ :: _=>rfl
 | .s _ :: _,[]=>rfl
 | .c _ _ :: _,[]=>rfl
 | .s t :: r,sh :: l=>by simp only [getL,getL_congr r l]
 | .c i j :: r,sh :: l=>by simp only [getL,getL_congr r l]
theorem named_slots {F:Fm}:∀ {pns:List PlN} {pls:List Pl},named F pns=some pls→slots pls=slotsN pns
 | [],pls,h=>by simp [named] at h; subst h; rfl
 | .s t :: r,pls,h=>by
  simp only [named] at h
  split at h
  ·rename_i l hl
   simp at h; subst h
   simp [slots,slotsN,named_slots hl]
  ·cases h
 | .c t j :: r,pls,h=>by
  simp only [named] at h
  split at h
  ·rename_i i off l hF hl
   simp at h; subst h
   simp [slots,slotsN,named_slots hl]
  ·cases h
theorem last_at {α:Type _} {l:List α} {x:α} {n:Nat} (h:l.length=n):(l++[x])[n]?=some x:=by
 subst h
 simp
theorem pres_apps {W:List Nat}:∀ (l:List Box) (st:St),Pres W st { st with H:=st.H++l,D:=st.D++l.map fun _=>st.c }
 | [],st=>by simpa using (Pres.refl (W:=W) (st:=st))
 | b :: r,st=>by
  have h:=(Pres.app (W:=W) (st:=st) (b:=b)).trans (pres_apps r { st with H:=st.H++[b],D:=st.D++[st.c] })
  simpa using h
theorem padT_pres {W:List Nat} {ops:Array Oper} {st:St}:Pres W st (padT ops st):=pres_apps (pads ops) st
theorem codeT_sound (hm:P.follows .mixedOrders=true):∀ (c:Code) {W:List Nat} {st0:St} {Ns0:List (List LV→Know→Prop)} {kn:St→T} {kx:Nat→St→T} {kr:St→T} {Q:Exit→Act→World→Prop} {a:Act} {w:World},
  codeOk N c=true→(∀ t,(writes an c).contains t=true→W.contains t=true)→At P N w0 Vs K W st0 Ns0 (fun st=>codeT P an c st kn kx kr) a w →
  (∀ a w,At P N w0 Vs K W st0 Ns0 kn a w→Q .normal a w)→(∀ e a w,At P N w0 Vs K W st0 Ns0 (kx e) a w→Q (.exit e) a w) →
  (∀ a w,At P N w0 Vs K W st0 Ns0 kr a w→Q .ret a w)→c.wp P Q a w:=by
 intro c
 induction c with
 | skip=>intro W st0 Ns0 kn kx kr Q a w hc hw h hn hx hr; exact wp_skip (hn a w h)
 | region id ops dr =>
  intro W st0 Ns0 kn kx kr Q a w hc hw h hn hx hr
  obtain⟨st,V,V0,Ns,ρ,h1,h2,h3,h4,h5,h6,h7⟩:=h.ex
  have hN:=dstOk_spec hc
  have hW:∀ (i:Nat) (o:Oper) (d:Nat),ops[i]?=some o→o.dst=some d→W.contains d=true:=by
   intro i o d ho hd
   apply hw
   have hm:o∈ops.toList:=by simpa using Array.mem_of_getElem? ho
   simp only [writes,List.contains_iff_mem,List.mem_filterMap]
   exact⟨o,hm,hd⟩
  have hlen:ops.toList.length=ops.size:=by simp
  have hdone:∀ (V0':Know) F H V' ρ' a' w',Sat P N w0.heap.size F H V' ρ' a' w'→Fr Vs V' w0 w' →
    (∃ st',Pres W st st'∧st'.c=st.c∧unkF st'.F=F∧st'.H=H∧(kn st').wp P K V' V0' Ns)→Q .normal a' w':=by
   rintro V0' F H V' ρ' a' w' hS hF ⟨st',g1,g2,rfl,rfl,g3⟩
   exact hn a' w' ⟨st',V',V0',Ns,ρ',h1.trans g1,g1.wf h2,h3,by rw [h4,g2],hS,hF,g3⟩
  cases dr with
  | true =>
   simp only [codeT] at h7
   obtain⟨stf,Vf,q1,q2,q3,q4,q5,q6⟩:=fzS_sat (W:=W) _ h5 h6 h7
   have h1:=h1.trans q1
   have h2:=q1.wf h2
   rw [← q3] at h4
   clear h5 h6 h7 hdone
   split at q6
   rotate_left
   ·exact q6.elim
   rename_i hdok
   have hpad:=padT_pres (W:=W) (ops:=ops) (st:=stf)
   have h1:=h1.trans hpad
   have h2:=hpad.wf h2
   have hdone:∀ (V0':Know) F H V' ρ' a' w',Sat P N w0.heap.size F H V' ρ' a' w'→Fr Vs V' w0 w' →
     (∃ st',Pres W (padT ops stf) st'∧st'.c=(padT ops stf).c∧unkF st'.F=F∧st'.H=H∧(kn st').wp P K V' V0' Ns)→Q .normal a' w':=by
    rintro V0' F H V' ρ' a' w' hS hF ⟨st',g1,g2,rfl,rfl,g3⟩
    exact hn a' w' ⟨st',V',V0',Ns,ρ',h1.trans g1,g1.wf h2,h3,by rw [h4,g2]; rfl,hS,hF,g3⟩
   obtain⟨U,hU,h7⟩:∃ U:Know,U.le Vf∧(opsT P true ops ops.toList (padT ops stf) kn).wp P K Vf U Ns:=by
    split at q6
    ·exact q6
    ·exact⟨Vf,Know.le.refl _,q6⟩
   have:=opsT_R (W:=W) (Kf:=fun F H V'=>∃ st',Pres W (padT ops stf) st'∧st'.c=(padT ops stf).c∧unkF st'.F=F∧st'.H=H∧(kn st').wp P K V' U Ns) hW ops.toList 0 rfl (padT ops stf) Vf h7
    (fun st' V' g1 g2 g3=>⟨st',g1,g2,rfl,rfl,g3⟩)
   rw [hlen,← List.range_eq_range'] at this
   exact region_any (F:=unkF stf.F) (H:=stf.H) hm hdok hN (hdone U) hU this q4 q5
  | false =>
   simp only [codeT] at h7
   have:=opsT_R (W:=W) (Kf:=fun F H V'=>∃ st',Pres W st st'∧st'.c=st.c∧unkF st'.F=F∧st'.H=H∧(kn st').wp P K V' V0 Ns) hW ops.toList 0 rfl st V h7
    (fun st' V' g1 g2 g3=>⟨st',g1,g2,rfl,rfl,g3⟩)
   rw [hlen,← List.range_eq_range'] at this
   exact wp_region_seq this hN (hdone V0) h5 h6
 | seq x y ihx ihy =>
  intro W st0 Ns0 kn kx kr Q a w hc hw h hn hx hr
  simp only [codeOk,Bool.and_eq_true] at hc
  have hwx:∀ t,(writes an x).contains t=true→W.contains t=true:=fun t ht=>hw t (by simp only [writes,List.contains_iff_mem,List.mem_append] at ht ⊢; exact .inl (.inl ht))
  have hwy:∀ t,(writes an y).contains t=true→W.contains t=true:=fun t ht=>hw t (by simp only [writes,List.contains_iff_mem,List.mem_append] at ht ⊢; exact .inl (.inr ht))
  refine wp_seq ?_
  obtain⟨st,V,V0,Ns,ρ,h1,h2,h3,h4,h5,h6,h7⟩:=h.ex
  simp only [codeT] at h7
  split at h7
  ·refine ihx (kn:=fun st=>codeT P an y st kn kx kr) (kx:=kx) (kr:=kr) hc.1 hwx ⟨st,V,V0,Ns,ρ,h1,h2,h3,h4,h5,h6,h7⟩ ?_ ?_ ?_
   ·intro a' w' h'; exact ihy hc.2 hwy h' hn hx hr
   ·intro e a' w' h'; exact hx e a' w' h'
   ·intro a' w' h'; exact hr a' w' h'
  ·rename_i pns shs hl
   split at h7
   ·exact h7.elim
   rename_i pls hpn
   split at h7
   ·exact h7.elim
   ·rename_i base hb
    have b:=baseT_spec hb
    obtain⟨inv,g1,g2⟩:=h7
    have hwin:∀ t,(slots pls++writes an x).contains t=true→W.contains t=true:=by
     intro t ht
     simp only [List.contains_iff_mem,List.mem_append] at ht
     rcases ht with ht | ht
     ·apply hw; simp only [writes,hl,List.contains_iff_mem,List.mem_append,← named_slots hpn]; exact .inr ht
     ·exact hwx t (by simpa using ht)
    have hwx':∀ t,(writes an x).contains t=true→(slots pls++writes an x).contains t=true:=by
     intro t ht
     simp only [List.contains_iff_mem,List.mem_append] at ht ⊢
     exact .inr ht
    have hdl:base.D.length=st.H.length:=by
     have:=b.pres.wf h2
     rw [← b.len]; exact this
    have hback:∀ {k:St→T} {Na:List LV→Know→Prop} {a' w'},At P N w0 Vs K (slots pls++writes an x) { st with c:=st.c+1,D:=base.D } (Ns++[Na]) k a' w'→At P N w0 Vs K W st0 Ns0 k a' w':=by
     intro k Na a' w' h'
     obtain⟨e,he⟩:=h3
     exact h'.trans (h1.trans (b.before.wide hwin)) hwin ⟨e++[Na],by rw [he,List.append_assoc]⟩
    refine ihx (W:=slots pls++writes an x) (st0:={ st with c:=st.c+1,D:=base.D }) (Ns0:=Ns++[fun vs V'=>∃ y',vs=LShs.lvs shs y'∧inv y' V']) (kn:=nxT pls shs base st.c) (kx:=kx) (kr:=kr) hc.1 hwx'
     ⟨_,V,V0,Ns++[fun vs V'=>∃ y',vs=LShs.lvs shs y'∧inv y' V'],ρ,Pres.refl,hdl,⟨[],by simp⟩,by simp [h4],h5,h6,g1⟩ ?_ ?_ ?_
    ·intro a' w' h'
     obtain⟨xs,V',⟨y',rfl,hinv⟩,hfr,hall⟩:=nx_sound b b.hb h5.wfF h5.wfH h' (last_at h4)
     obtain⟨hd,hp,hwp⟩:=headT_spec (g2 y' V' hinv)
     obtain⟨ρ1,hS⟩:=hall hd hp
     obtain⟨p1,p2⟩:=putL_pres (W:=W) pls _ hp (fun t ht=>hwin t (by simp only [List.contains_iff_mem,List.mem_append]; exact .inl ht))
     obtain⟨e,he⟩:=h3
     have hpb:Pres W st hd:=(b.pres'.wide hwin).trans p1
     refine ihy hc.2 hwy ⟨hd,V',V',Ns++[fun _ _=>False],ρ1,h1.trans hpb,hpb.wf h2,⟨e++[fun _ _=>False],by rw [he,List.append_assoc]⟩,by simp [p2,b.c,h4],hS,hfr,hwp⟩ hn hx hr
    ·intro e a' w' h'; exact hx e a' w' (hback h')
    ·intro a' w' h'; exact hr a' w' (hback h')
 | cond c x y ihx ihy =>
  intro W st0 Ns0 kn kx kr Q a w hc hw h hn hx hr
  simp only [codeOk,Bool.and_eq_true] at hc
  have hwx:∀ t,(writes an x).contains t=true→W.contains t=true:=fun t ht=>hw t (by simp only [writes,List.contains_iff_mem,List.mem_append] at ht ⊢; exact .inl ht)
  have hwy:∀ t,(writes an y).contains t=true→W.contains t=true:=fun t ht=>hw t (by simp only [writes,List.contains_iff_mem,List.mem_append] at ht ⊢; exact .inr ht)
  obtain⟨st,V,V0,Ns,ρ,h1,h2,h3,h4,h5,h6,h7⟩:=h.ex
  simp only [codeT,condT] at h7
  split at h7
  ·rename_i t
   have hev:∀ b,unkF st.F t=some (.v (.bool b))→a.eval (.tmp t)=.bool b:=by
    intro b hb
    have:=h5.slot t _ (.bool b) hb rfl
    simp [Act.eval,this]
   split at h7
   ·rename_i hF
    exact wp_cond_true (hev true (by simp [unkF,hF,unk])) (ihx hc.1 hwx ⟨st,V,V0,Ns,ρ,h1,h2,h3,h4,h5,h6,h7⟩ hn hx hr)
   ·rename_i hF
    exact wp_cond_false (hev false (by simp [unkF,hF,unk])) (ihy hc.2 hwy ⟨st,V,V0,Ns,ρ,h1,h2,h3,h4,h5,h6,h7⟩ hn hx hr)
   ·rename_i b hF
    have hu:=unkF_known hF
    have hp:Pres W st { st with F:=upd st.F t (.k b) } :=
     ⟨fun t' _=>by show unkF (upd st.F t (.k b)) t'=_; rw [hu],id,Nat.le_refl _,Nat.le_refl _,fun _ _ _ hd _=>⟨rfl,hd⟩,fun _ _ hh=>hh⟩
    have h5':Sat P N w0.heap.size (unkF (upd st.F t (.k b))) st.H V ρ a w:=by rw [hu]; exact h5
    have h7':=br_sound h7
    cases b with
    | true=>exact wp_cond_true (hev true (by simp [unkF,hF,unk])) (ihx hc.1 hwx ⟨{ st with F:=upd st.F t (.k true) },V,V0,Ns,ρ,h1.trans hp,h2,h3,h4,h5',h6,h7'⟩ hn hx hr)
    | false=>exact wp_cond_false (hev false (by simp [unkF,hF,unk])) (ihy hc.2 hwy ⟨{ st with F:=upd st.F t (.k false) },V,V0,Ns,ρ,h1.trans hp,h2,h3,h4,h5',h6,h7'⟩ hn hx hr)
   ·exact h7.elim
  ·exact wp_cond_true rfl (ihx hc.1 hwx ⟨st,V,V0,Ns,ρ,h1,h2,h3,h4,h5,h6,h7⟩ hn hx hr)
  ·exact wp_cond_false rfl (ihy hc.2 hwy ⟨st,V,V0,Ns,ρ,h1,h2,h3,h4,h5,h6,h7⟩ hn hx hr)
  ·exact h7.elim
 | block id c ih =>
  intro W st0 Ns0 kn kx kr Q a w hc hw h hn hx hr
  refine wp_block ?_
  refine ih (W:=W) (st0:=st0) (Ns0:=Ns0) (kn:=kn) (kx:=fun e st=>match Nat.beq e id with | true=>kn st | false=>kx e st) (kr:=kr) hc hw h ?_ ?_ ?_
  ·intro a' w' h'; exact hn a' w' h'
  ·intro e a' w' h'
   simp only [Exit.inBlock]
   by_cases he:e=id
   ·rw [if_pos he]
    have hb:Nat.beq e id=true:=by simp [he]
    simp only [hb] at h'
    exact hn a' w' h'
   ·rw [if_neg he]
    have hb:Nat.beq e id=false:=by
     cases hq:Nat.beq e id with
     | false=>rfl
     | true=>exact(he (Nat.eq_of_beq_eq_true hq)).elim
    simp only [hb] at h'
    exact hx e a' w' h'
  ·intro a' w' h'; exact hr a' w' h'
 | loop c ih =>
  intro W st0 Ns0 kn kx kr Q a w hc hw h hn hx hr
  obtain⟨st,V,V0,Ns,ρ,h1,h2,h3,h4,h5,h6,h7⟩:=h.ex
  simp only [codeT] at h7
  obtain⟨st,V,f1,_,f3,h5,h6,h7⟩:=fzS_sat (W:=W) _ h5 h6 h7
  have h1:=h1.trans f1
  have h2:=f1.wf h2
  rw [← f3] at h4
  clear f1 f3
  split at h7
  ·exact h7.elim
  ·rename_i pns shs hl
   split at h7
   ·exact h7.elim
   rename_i pls hpn
   obtain⟨st',V',f1,f2,f3,f4,f5,f6⟩:=fzS_sat (W:=W) _ h5 h6 h7
   have h1:=h1.trans f1
   have h2:=f1.wf h2
   rw [← f3] at h4
   clear h5 h6 h7
   split at f6
   ·rename_i base xs is hb hg
    have b:=baseT_spec hb
    split at f6
    ·rename_i hok
     obtain⟨inv,μ,⟨y0,hy0,hinv0⟩,hbody⟩:=f6
     have hwc:∀ t,(writes an c).contains t=true→W.contains t=true:=fun t ht=>hw t (by simp only [writes,List.contains_iff_mem,List.mem_append] at ht ⊢; exact .inl ht)
     have hwin:∀ t,(slots pls++writes an c).contains t=true→W.contains t=true:=by
      intro t ht
      simp only [List.contains_iff_mem,List.mem_append] at ht
      rcases ht with ht | ht
      ·apply hw; simp only [writes,hl,List.contains_iff_mem,List.mem_append,← named_slots hpn]; exact .inr ht
      ·exact hwc t (by simpa using ht)
     have hwc':∀ t,(writes an c).contains t=true→(slots pls++writes an c).contains t=true:=by
      intro t ht
      simp only [List.contains_iff_mem,List.mem_append] at ht ⊢
      exact .inr ht
     refine wp_loopN (fun n a w=>∃ y V1,μ y V1=n∧inv y V1∧Fr Vs V1 w0 w∧∀ hd,putL pls (LShs.lvs shs y) base=some hd→∃ ρ1,Sat P N w0.heap.size (unkF hd.F) hd.H V1 ρ1 a w)
      (μ y0 V') ⟨y0,V',rfl,hinv0,f5,fun hd hp=>?_⟩ ?_
     ·rw [← hy0] at hp
      exact head_sat b b.hb f4.wfF f4.wfH (st':={ st' with c:=st'.c+1,D:=base.D }) f4 (by rw [getL_congr]; exact hg) hp hok
     ·rintro n a w ⟨y,V1,hn1,hinv,hfr,hall⟩
      obtain⟨hd,hp,hwp⟩:=headT_spec (hbody y V1 hinv)
      obtain⟨ρ1,hS⟩:=hall hd hp
      obtain⟨p1,p2⟩:=putL_pres (W:=slots pls++writes an c) pls _ hp (fun t ht=>by simp only [List.contains_iff_mem,List.mem_append]; exact .inl ht)
      have hpb:Pres W st' hd:=(b.pres'.trans p1).wide hwin
      have hback:∀ {k:St→T} {Na:List LV→Know→Prop} {a' w'},At P N w0 Vs K (slots pls++writes an c) hd (Ns++[Na]) k a' w'→At P N w0 Vs K W st0 Ns0 k a' w':=by
       intro k Na a' w' h'
       obtain⟨e,he⟩:=h3
       exact h'.trans (h1.trans hpb) hwin ⟨e++[Na],by rw [he,List.append_assoc]⟩
      refine ih (W:=slots pls++writes an c) (st0:=hd) (Ns0:=Ns++[fun vs V'=>∃ y',vs=LShs.lvs shs y'∧inv y' V'∧μ y' V'<μ y V1]) (kn:=nxT pls shs base st'.c) (kx:=kx) (kr:=kr) hc hwc'
       ⟨hd,V1,V1,Ns++[fun vs V'=>∃ y',vs=LShs.lvs shs y'∧inv y' V'∧μ y' V'<μ y V1],ρ1,Pres.refl,hpb.wf h2,⟨[],by simp⟩,by simp [p2,b.c,h4],hS,hfr,hwp⟩ ?_ ?_ ?_
      ·intro a' w' h'
       obtain⟨xs',V2,⟨y',rfl,hinv',hlt⟩,hfr',hall'⟩:=nx_sound b (Hb.of p1) f4.wfF f4.wfH h' (last_at h4)
       exact⟨μ y' V2,by rw [← hn1]; exact hlt,y',V2,rfl,hinv',hfr',hall'⟩
      ·intro e a' w' h'; exact hx e a' w' (hback h')
      ·intro a' w' h'; exact hr a' w' (hback h')
    ·exact f6.elim
   ·exact f6.elim
 | exit id =>
  intro W st0 Ns0 kn kx kr Q a w hc hw h hn hx hr
  exact wp_exit (hx id a w h)
 | ret =>
  intro W st0 Ns0 kn kx kr Q a w hc hw h hn hx hr
  exact wp_ret (hr a w h)
 | _ =>
  intro W st0 Ns0 kn kx kr Q a w hc hw h hn hx hr
  obtain⟨st,V,V0,Ns,ρ,h1,h2,h3,h4,h5,h6,h7⟩:=h.ex
  exact h7.elim
end Sx
namespace Sx
open Go
variable {P:Program} {N:Nat} {w0:World} {Vs V V0:Know} {ρ:Nat→Nat × Nat} {a:Act} {w:World}
 {K:Know→List Value→Prop} {Ns:List (List LV→Know→Prop)} {an:An} {st:St}
def resOne (tmps:Array Value) (x:ResultVar):Sem Value:=match x with
 | .tmp t=>pure (tmps.getD t undef)
 | .cell a t=>do loadVar t (← asAddr (tmps.getD a undef))
theorem slot_getD (hS:Sat P N w0.heap.size (unkF st.F) st.H V ρ a w) {t:Nat} {s:SV} {x:Value} (h:st.F t=some s) (hx:cv ρ st.H s=some x):a.tmps.getD t undef=x:=by
 have:=hS.slot t _ x (unkF_of h) (by rw [cv_unk]; exact hx)
 simp [Array.getD_eq_getD_getElem?,this]
theorem resVals_run (hS:Sat P N w0.heap.size (unkF st.F) st.H V ρ a w):∀ {l:List ResultVar} {vs:List Value},resVals P st l=some vs→(l.mapM (resOne a.tmps)).run P w=.ok vs w
 | [],vs,h=>by simp [resVals] at h; subst h; rfl
 | .tmp t :: r,vs,h=>by
  simp only [resVals] at h
  split at h
  ·rename_i s l hs hl
   split at h
   ·rename_i x hx
    simp at h; subst h
    have ih:=resVals_run hS hl
    have:=slot_getD hS hs (cv_pv hx ρ)
    simp [List.mapM_cons,resOne,this,ih]
   ·cases h
  ·cases h
 | .cell c t :: r,vs,h=>by
  simp only [resVals] at h
  split at h
  ·rename_i i off n l hs hn hl
   split at h
   ·rename_i l' hl'
    split at h
    ·rename_i x hj
     simp at h; subst h
     have ih:=resVals_run hS hl
     obtain⟨g1,g2,g3⟩:=loadB_spec hS hl'
     have ht:=slot_getD hS hs g2
     obtain⟨y,hy,hy2⟩:=join_load (ad:=⟨(ρ i).1,off,none⟩) hn g1 hj (fun j u x hu hx=>by rw [addr_add_eq]; exact g3 j u x hu hx)
      (fun j hj=>by rw [addr_add_eq]; exact loadB_ex hS hl' j hj)
     have:x=y:=hy2 x rfl
     subst this
     simp [List.mapM_cons,resOne,ht,ih,asAddr,hy]
    ·cases h
   ·cases h
  ·cases h
def packed (vs:List Value):Value:=match vs with | [x]=>x | vs=>.tuple vs.toArray
theorem results_run (hS:Sat P N w0.heap.size (unkF st.F) st.H V ρ a w) {fn:Func} {vs:List Value} (h:resVals P st fn.results.toList=some vs):(results fn a.tmps).run P w=.ok (packed vs) w:=by
 have:=resVals_run hS h
 have e:results fn a.tmps=(do let vs ← fn.results.mapM (resOne a.tmps); pure (if h:vs.size=1 then vs[0] else .tuple vs)):=rfl
 rw [e,Array.mapM_eq_mapM_toList]
 simp [this]
 cases vs with
 | nil=>simp [packed]
 | cons x r=>cases r with
  | nil=>simp [packed]
  | cons y r=>simp [packed]
theorem retT_sound {W:List Nat} {st0:St} {Ns0:List (List LV→Know→Prop)} {fn:Func} (h:At P N w0 Vs K W st0 Ns0 (retT P fn) a w) :
  a.defers=[]∧∃ v,(results fn a.tmps).run P w=.ok v w∧∃ V' vs,v=packed vs∧Fr Vs V' w0 w∧V'.on w∧K V' vs:=by
 obtain⟨st,V,V0,Ns,ρ,h1,h2,h3,h4,h5,h6,h7⟩:=h.ex
 obtain⟨st',V',f1,f2,f3,f4,f5,f6⟩:=fzS_sat (W:=W) _ h5 h6 h7
 split at f6
 ·rename_i vs hv
  exact⟨f4.defers,packed vs,results_run f4 hv,V',vs,rfl,f5,f4.know,f6⟩
 ·exact f6.elim
theorem argF_sat {args:List Value} {n:Nat} (hn:args.length≤n) (hV:V.on w) :
  Sat P n w.heap.size (unkF (argF args n)) [] V (fun _=>(0,0)) { tmps:=args.toArray++Array.replicate (n-args.toArray.size) undef,defers:=[] } w:=by
 refine⟨rfl,by simp; omega,fun t s x hs hx=>?_,fun i b hb=>by simp at hb,fun i j b c hb=>by simp at hb,fun i b hb=>by simp at hb,fun i b hb=>by simp at hb,hV,fun t s hs=>?_,fun i cs t hb=>by simp at hb⟩
 ·simp only [unkF,argF] at hs
  cases ht:args[t]? with
  | some y =>
   rw [ht] at hs
   simp at hs
   subst hs
   have hlt:=(List.getElem?_eq_some_iff.1 ht).1
   have e:y=x:=by
    cases y <;> simpa [unk,cv] using hx
   subst e
   rw [Array.getElem?_append_left (by simpa using hlt)]
   simpa using ht
  | none =>
   rw [ht] at hs
   simp only at hs
   by_cases hlt:t<n
   ·simp only [hlt,if_true] at hs
    simp at hs
    subst hs
    have e:undef=x:=by simpa [unk,cv] using hx
    subst e
    have hge:args.length≤t:=by simpa using ht
    rw [Array.getElem?_append_right (by simpa using hge)]
    simp [Array.getElem?_replicate]
    omega
   ·simp [hlt] at hs
 ·simp only [unkF,argF] at hs
  cases ht:args[t]? with
  | some y=>rw [ht] at hs; simp at hs; subst hs; trivial
  | none =>
   rw [ht] at hs
   simp only at hs
   by_cases hlt:t<n
   ·simp [hlt] at hs; subst hs; trivial
   ·simp [hlt] at hs
theorem enter {f:FuncId} {fn:Func} {c:Code} {args:List Value} {K:Know→Value→Prop} (hm:P.follows .mixedOrders=true) (hf:P.funcs[f]?=some fn) (hb:fn.body=some c)
  (hname : (fn.name == "runtime.NumGoroutine") = false) (hok : codeOk fn.ntmps c = true) (hn : args.length ≤ fn.ntmps)
  (h:(∃ w,V.on w)→(dec P an fn c args).wp P (fun V' vs=>K V' (packed vs)) V V []):CallX P V f args K:=by
 refine⟨⟨fn,hf,by simp [hb],hname⟩,fun w hV=>?_⟩
 refine calls_of_wp hf hb ?_
 have hat:At P fn.ntmps w V (fun V' vs=>K V' (packed vs)) (writes an c) ⟨argF args fn.ntmps,[],[],0⟩ [] (fun st=>codeT P an c st (retT P fn) (fun _ _=>.no) (retT P fn))
   { tmps:=args.toArray++Array.replicate (fn.ntmps-args.toArray.size) undef,defers:=[] } w :=
  ⟨_,V,V,[],_,Pres.refl,rfl,⟨[],rfl⟩,rfl,argF_sat hn hV,Fr.refl V w,h ⟨w,hV⟩⟩
 refine codeT_sound hm c hok (fun _ h=>h) hat ?_ ?_ ?_
 ·intro a' w' h'
  obtain⟨h1,v,h2,V',vs,rfl,h3,h4,h5⟩:=retT_sound h'
  exact⟨h1,_,h2,V',_,rfl,h3,h4,h5⟩
 ·intro e a' w' h'
  obtain⟨st,V,V0,Ns,ρ,_,_,_,_,_,_,h7⟩:=h'.ex
  exact h7.elim
 ·intro a' w' h'
  obtain⟨h1,v,h2,V',vs,rfl,h3,h4,h5⟩:=retT_sound h'
  exact⟨h1,_,h2,V',_,rfl,h3,h4,h5⟩
def fits (P:Program) (an:An) (f:FuncId) (args:List Value) (t:T):Prop :=
 ∃ fn c, P.funcs[f]? = some fn ∧ fn.body = some c ∧ (fn.name == "runtime.NumGoroutine") = false ∧ codeOk fn.ntmps c = true ∧ Nat.ble args.length fn.ntmps = true ∧ dec P an fn c args = t
theorem CallX.of_fits {f:FuncId} {args:List Value} {t:T} {K:Know→Value→Prop} (hm:P.follows .mixedOrders=true) (hfit:fits P an f args t)
  (h:(∃ w,V.on w)→t.wp P (fun V' vs=>K V' (packed vs)) V V []):CallX P V f args K:=by
 obtain⟨fn,c,h1,h2,h3,h4,h5,rfl⟩:=hfit
 exact enter hm h1 h2 h3 h4 (Nat.le_of_ble_eq_true h5) h
theorem fitK {f : FuncId} {args : List Value} {t : T} (h : ((P.funcs[f]?).bind fun fn => fn.body.bind fun c => some (fn.name == "runtime.NumGoroutine", codeOk fn.ntmps c, Nat.ble args.length fn.ntmps, dec P an fn c args)) = some (false, true, true, t)) : fits P an f args t := by
 cases h1:P.funcs[f]? with
 | none=>rw [h1] at h; cases h
 | some fn =>
  rw [h1] at h
  simp only [Option.bind_some] at h
  cases h2:fn.body with
  | none=>rw [h2] at h; cases h
  | some c =>
   rw [h2] at h
   simp only [Option.bind_some,Option.some.injEq,Prod.mk.injEq] at h
   exact⟨fn,c,h1,h2,h.1,h.2.1,h.2.2.1,h.2.2.2⟩
abbrev nilS:SlV:=⟨none,0,0⟩
abbrev qv0:=Sh1.val (.g [.l,.l,.s,.l])
abbrev qv1:=Sh1.val (.g [.b,.l])
abbrev qv2:=Sh1.val (.g [.s,.b,.l])
abbrev qv3:=Sh1.val (.g [.b,.l,.i .i64])
abbrev qv4:=Sh1.val (.g [.l])
abbrev qv5:=Sh1.val (.g [.b,.l,.l])
abbrev qv6:=Sh1.val (.g [.s,.s,.b,.l,.i .i64])
abbrev qv7:=Sh1.val (.g [.s,.l])
abbrev qv8:=Sh1.val (.g [.i .i64,.s,.s,.s,.s,.s,.b,.l,.i .i64,.l,.l,.b,.l,.i .i64,.s,.s,.b,.l,.i .i64])
abbrev qv9:=Sh1.val (.g [.s,.s])
abbrev qv10:=Sh1.val (.g [.s,.s,.b,.l,.b])
abbrev qv11:=Sh1.val (.g [.s,.s,.b,.l])
abbrev qv12:=Sh1.val (.g [.s,.s,.i .i64,.i .i64])
abbrev qv13:=Sh1.val (.g [.s,.b,.l,.l])
abbrev qy0:=(SlV × SlV × ByteArray × SlV × PUnit:Type)
abbrev qy1:=(Bool × SlV × PUnit:Type)
abbrev qy2:=(ByteArray × Bool × SlV × PUnit:Type)
abbrev qy3:=(SlV × PUnit:Type)
abbrev qy4:=(Bool × SlV × SlV × PUnit:Type)
abbrev qy5:=(ByteArray × ByteArray × Bool × SlV × Int × PUnit:Type)
abbrev qy6:=(Bool × SlV × Int × PUnit:Type)
abbrev qy7:=(ByteArray × SlV × PUnit:Type)
abbrev qy8:=(Int × ByteArray × ByteArray × ByteArray × ByteArray × ByteArray × Bool × SlV × Int × SlV × SlV × Bool × SlV × Int × ByteArray × ByteArray × Bool × SlV × Int × PUnit:Type)
abbrev qy9:=(ByteArray × ByteArray × Bool × SlV × PUnit:Type)
end Sx
