/-
  What a row of cells stands for: data, and the blocks that it lives in; lists that lie in memory.
-/
import Derived.Test.YtccnjccabllcaaaGreatDoorBase
namespace Go.Proofs.YtccnjccabllcaaaGreatDoor
open Sx
theorem toList_loop (b:ByteArray) (i:Nat) (r:List UInt8) (h:i≤b.size):ByteArray.toList.loop b i r=r.reverse++b.data.toList.drop i:=by
 induction hk:b.size-i generalizing i r with
 | zero =>
  have:i=b.size:=by omega
  subst this
  unfold ByteArray.toList.loop
  rw [if_neg (by omega)]
  have:b.data.toList.drop b.size=[]:=List.drop_of_length_le (by simp)
  rw [this,List.append_nil]
 | succ k ih =>
  unfold ByteArray.toList.loop
  rw [if_pos (by omega),ih (i+1) _ (by omega) (by omega)]
  have hlt:i<b.data.toList.length:=by simp; omega
  rw [List.drop_eq_getElem_cons hlt]
  have hg:b.get! i=b.data.toList[i]:=by
   have:i<b.data.size:=by simpa using hlt
   show b.data[i]! = _
   rw [getElem!_pos b.data i this]; simp
  rw [hg]; simp
theorem toList_data (b:ByteArray):b.toList=b.data.toList:=by
 unfold ByteArray.toList
 rw [toList_loop b 0 [] (by omega)]; simp
theorem toList_inj {a b:ByteArray}:a.toList=b.toList↔a=b:=by
 refine⟨fun h=>?_,fun h=>by rw [h]⟩
 rw [toList_data,toList_data] at h
 obtain⟨⟨l⟩⟩:=a
 obtain⟨⟨m⟩⟩:=b
 simp at h
 subst h; rfl
theorem text_eq {a b:ByteArray}:(a.toList == b.toList)=true↔a=b:=by rw [beq_iff_eq]; exact toList_inj
theorem text_ne {a b:ByteArray}:(a.toList == b.toList)=false↔a≠b:=by
 rw [← Bool.not_eq_true,text_eq]
structure Rp (sh:List Sc) (α:Type) where
 R:Know→Scs sh→α→List Nat→Prop
 tot:α→Nat
 loc:∀ {V V':Know} {c:Scs sh} {x:α} {fp:List Nat},R V c x fp→(∀ b∈fp,V' b=V b)→R V' c x fp
 kn:∀ {V:Know} {c:Scs sh} {x:α} {fp:List Nat},R V c x fp→∀ b∈fp,∃ y,V b=some y
section
variable {sh:List Sc} {α:Type}
theorem Rp.le (r:Rp sh α) {V V':Know} {c:Scs sh} {x:α} {fp:List Nat} (h:r.R V c x fp) (hle:V.le V'):r.R V' c x fp :=
 r.loc h fun b hb=>by obtain⟨y,hy⟩:=r.kn h b hb; rw [hy]; exact hle b y hy
def Els (r:Rp sh α) (V:Know):List (Scs sh)→List α→List Nat→Prop
 | [],[],fp=>fp=[]
 | c :: cs,x :: l,fp=>∃ f g,fp=f++g∧r.R V c x f∧Els r V cs l g
 | _,_,_=>False
theorem Els.loc {r:Rp sh α} {V V':Know}:∀ {cs:List (Scs sh)} {l:List α} {fp:List Nat},Els r V cs l fp→(∀ b∈fp,V' b=V b)→Els r V' cs l fp
 | [],[],_,h,_=>h
 | _ :: _,_ :: _,_,⟨f,g,rfl,h1,h2⟩,hb=>⟨f,g,rfl,r.loc h1 fun b hm=>hb b (by simp [hm]),h2.loc fun b hm=>hb b (by simp [hm])⟩
theorem Els.kn {r:Rp sh α} {V:Know}:∀ {cs:List (Scs sh)} {l:List α} {fp:List Nat},Els r V cs l fp→∀ b∈fp,∃ y,V b=some y
 | [],[],_,h,b,hb=>by
  have h:_=[]:=h
  subst h; cases hb
 | _ :: _,_ :: _,_,⟨f,g,rfl,h1,h2⟩,b,hb=>by
  rcases List.mem_append.1 hb with hb | hb
  ·exact r.kn h1 b hb
  ·exact h2.kn b hb
theorem Els.le {r:Rp sh α} {V V':Know} {cs:List (Scs sh)} {l:List α} {fp:List Nat} (h:Els r V cs l fp) (hle:V.le V'):Els r V' cs l fp :=
 h.loc fun b hb=>by obtain⟨y,hy⟩:=h.kn b hb; rw [hy]; exact hle b y hy
theorem Els.len {r:Rp sh α} {V:Know}:∀ {cs:List (Scs sh)} {l:List α} {fp:List Nat},Els r V cs l fp→cs.length=l.length
 | [],[],_,_=>rfl
 | _ :: _,_ :: _,_,⟨_,_,_,_,h2⟩=>by simp [h2.len]
theorem Els.snoc {r:Rp sh α} {V:Know} {c:Scs sh} {x:α} {f:List Nat} (hx:r.R V c x f):∀ {cs:List (Scs sh)} {l:List α} {fp:List Nat},Els r V cs l fp→Els r V (cs++[c]) (l++[x]) (fp++f)
 | [],[],fp,h=>by
  have h:fp=[]:=h
  subst h
  exact⟨f,[],by simp,hx,rfl⟩
 | _ :: _,_ :: _,_,⟨f',g,rfl,h1,h2⟩=>⟨f',g++f,by simp,h1,h2.snoc hx⟩
theorem Els.at {r:Rp sh α} {V:Know}:∀ {cs:List (Scs sh)} {l:List α} {fp:List Nat},Els r V cs l fp→∀ {i:Nat} (h:i<l.length),∃ (h':i<cs.length) (f:List Nat),r.R V cs[i] l[i] f∧∀ b∈f,b∈fp
 | [],[],_,_,_,h=>by simp at h
 | _ :: _,_ :: _,_,⟨f,g,rfl,h1,h2⟩,0,_=>⟨by simp,f,h1,fun b hb=>by simp [hb]⟩
 | _ :: _,_ :: _,_,⟨f,g,rfl,h1,h2⟩,i+1,h=>by
  obtain⟨h',f',k1,k2⟩:=h2.at (i:=i) (by simpa using h)
  exact⟨by simpa using h',f',k1,fun b hb=>by simp [k2 b hb]⟩
def totE (r:Rp sh α):List α→Nat
 | []=>0
 | x :: l=>r.tot x+totE r l
theorem vals_len:∀ (sh:List Sc) (c:Scs sh),(Scs.vals sh c).length=sh.length
 | [],_=>rfl
 | _ :: r,c=>by simp [Scs.vals,vals_len r c.2]
def LR (r:Rp sh α) (V:Know) (s:SlV) (l:List α) (fp:List Nat):Prop :=
 s.n=l.length∧s.n≤s.c∧s.n≤9223372036854775807 ∧
  ((s.n=0∧(s.a=none→s.c=0)∧fp=[]) ∨
   ∃ b pre post t fps cs,s.a=some ⟨b,List.length pre,none⟩∧V b=some (pre++(cs.flatMap (Scs.vals sh)++post),t)∧Els r V cs l fps∧fp=b :: fps)
theorem LR.loc {r:Rp sh α} {V V':Know} {s:SlV} {l:List α} {fp:List Nat} (h:LR r V s l fp) (hb:∀ b∈fp,V' b=V b):LR r V' s l fp:=by
 obtain⟨h1,h2,h3,h4⟩:=h
 refine⟨h1,h2,h3,?_⟩
 rcases h4 with h4 | ⟨b,pre,post,t,fps,cs,k1,k2,k3,rfl⟩
 ·exact .inl h4
 ·exact .inr ⟨b,pre,post,t,fps,cs,k1,by rw [hb b (by simp),k2],k3.loc fun x hx=>hb x (by simp [hx]),rfl⟩
theorem LR.kn {r:Rp sh α} {V:Know} {s:SlV} {l:List α} {fp:List Nat} (h:LR r V s l fp):∀ b∈fp,∃ y,V b=some y:=by
 obtain⟨h1,h2,h3,h4⟩:=h
 intro b hb
 rcases h4 with ⟨_,_,rfl⟩ | ⟨b',pre,post,t,fps,cs,k1,k2,k3,rfl⟩
 ·cases hb
 ·rcases List.mem_cons.1 hb with rfl | hb
  ·exact⟨_,k2⟩
  ·exact k3.kn b hb
theorem LR.le {r:Rp sh α} {V V':Know} {s:SlV} {l:List α} {fp:List Nat} (h:LR r V s l fp) (hle:V.le V'):LR r V' s l fp :=
 h.loc fun b hb=>by obtain⟨y,hy⟩:=h.kn b hb; rw [hy]; exact hle b y hy
theorem LR.at {r:Rp sh α} {V:Know} {s:SlV} {l:List α} {fp:List Nat} (h:LR r V s l fp) {i:Nat} (hi:i<l.length) :
  ∃ b o c f,s.a=some ⟨b,o,none⟩∧loadV V ((⟨b,o,none⟩:Addr).add (i*sh.length)) sh.length=some (Scs.vals sh c)∧r.R V c l[i] f∧∀ b∈f,b∈fp:=by
 obtain⟨h1,h2,h3,h4⟩:=h
 rcases h4 with ⟨h0,_,_⟩ | ⟨b,pre,post,t,fps,cs,k1,k2,k3,rfl⟩
 ·omega
 ·obtain⟨h',f,g1,g2⟩:=k3.at hi
  refine⟨_,_,cs[i],f,k1,?_,g1,fun b hb=>by simp [g2 b hb]⟩
  simp only [addr_add_eq,loadV,k2]
  rw [cutv_skip]
  exact cutv_flat (vals_len sh) h' post
theorem LR.part {r:Rp sh α} {V:Know} {s:SlV} {l:List α} {fp:List Nat} (h:LR r V s l fp) {i:Nat} (hi:i<l.length) :
  ∃ b a c f,s.a=some ⟨b,a,none⟩∧(∀ (o n:Nat) l',cutv (Scs.vals sh c) o n=some l'→loadV V (((⟨b,a,none⟩:Addr).add (i*sh.length)).add o) n=some l')∧r.R V c l[i] f∧∀ b∈f,b∈fp:=by
 obtain⟨b,a,c,f,h1,h2,h3,h4⟩:=h.at hi
 refine⟨b,a,c,f,h1,fun o n l' hc=>?_,h3,h4⟩
 simp only [addr_add_eq,loadV] at h2 ⊢
 split at h2
 ·rename_i cs t hs hv
  unfold cutv at h2 hc ⊢
  split at h2
  ·rename_i hle
   split at hc
   ·rename_i hle2
    simp only [Option.some.injEq] at h2 hc
    rw [vals_len] at hle2
    rw [if_pos (by omega)]
    simp only [Option.some.injEq]
    rw [← hc,← h2,List.drop_take,List.take_take,List.drop_drop]
    congr 1
    omega
   ·cases hc
  ·cases h2
 ·cases h2
end
def rNil:Rp [] Unit where
 R _ _ _ fp:=fp=[]
 tot _:=0
 loc h _:=h
 kn h b hb:=by subst h; cases hb
def rInt {sh:List Sc} {α:Type} (r:Rp sh α):Rp (.i .i64 :: sh) (Int × α) where
 R V c x fp:=c.1=x.1∧r.R V c.2 x.2 fp
 tot x:=r.tot x.2
 loc h hb:=⟨h.1,r.loc h.2 hb⟩
 kn h:=r.kn h.2
def rBool {sh:List Sc} {α:Type} (r:Rp sh α):Rp (.b :: sh) (Bool × α) where
 R V c x fp:=c.1=x.1∧r.R V c.2 x.2 fp
 tot x:=r.tot x.2
 loc h hb:=⟨h.1,r.loc h.2 hb⟩
 kn h:=r.kn h.2
def rStr {sh:List Sc} {α:Type} (r:Rp sh α):Rp (.s :: sh) (ByteArray × α) where
 R V c x fp:=(c.1=x.1∧x.1.size≤9223372036854775807)∧r.R V c.2 x.2 fp
 tot x:=x.1.size+r.tot x.2
 loc h hb:=⟨h.1,r.loc h.2 hb⟩
 kn h:=r.kn h.2
def rSl {se sh:List Sc} {α β:Type} (e:Rp se α) (r:Rp sh β):Rp (.l :: sh) (List α × β) where
 R V c x fp:=∃ f g,fp=f++g∧LR e V c.1 x.1 f∧r.R V c.2 x.2 g
 tot x:=x.1.length+totE e x.1+r.tot x.2
 loc:=by
  rintro V V' c x fp ⟨f,g,rfl,h1,h2⟩ hb
  exact⟨f,g,rfl,h1.loc fun b hm=>hb b (by simp [hm]),r.loc h2 fun b hm=>hb b (by simp [hm])⟩
 kn:=by
  rintro V c x fp ⟨f,g,rfl,h1,h2⟩ b hb
  rcases List.mem_append.1 hb with hb | hb
  ·exact h1.kn b hb
  ·exact r.kn h2 b hb
def Wr (V:Know) (fp:List Nat):Prop:=∀ b∈fp,∃ c t,V b=some (c,(t,(0,0)))
theorem Wr.le {V V':Know} {fp:List Nat} (h:Wr V fp) (hle:V.le V'):Wr V' fp:=fun b hb=>by obtain⟨c,t,k⟩:=h b hb; exact⟨c,t,hle _ _ k⟩
def Own (V V':Know) (fp:List Nat):Prop:=fp.Nodup∧(∀ b∈fp,V b=none)∧Wr V' fp
theorem Own.nil {V V':Know}:Own V V' []:=⟨List.nodup_nil,(fun _ h=>by cases h),(fun _ h=>by cases h)⟩
theorem none_of_le {V V1:Know} (h:V.le V1) {b:Nat} (hb:V1 b=none):V b=none:=by
 cases hv:V b with
 | none=>rfl
 | some x=>rw [h b x hv] at hb; cases hb
theorem Own.append {V V1 V2:Know} {f g:List Nat} (hf:Own V V1 f) (hg:Own V1 V2 g) (h1:V.le V1) (h2:V1.le V2):Own V V2 (f++g):=by
 refine⟨List.nodup_append.2 ⟨hf.1,hg.1,fun a ha b hb e=>?_⟩,fun b hb=>?_,fun b hb=>?_⟩
 ·subst e
  obtain⟨c,t,k⟩:=hf.2.2 a ha
  rw [hg.2.1 a hb] at k; cases k
 ·rcases List.mem_append.1 hb with hb | hb
  ·exact hf.2.1 b hb
  ·exact none_of_le h1 (hg.2.1 b hb)
 ·rcases List.mem_append.1 hb with hb | hb
  ·exact hf.2.2.le h2 b hb
  ·exact hg.2.2 b hb
theorem Own.post {V V1 V2:Know} {f:List Nat} (hf:Own V V1 f) (h:V1.le V2):Own V V2 f:=⟨hf.1,hf.2.1,hf.2.2.le h⟩
theorem Own.pre {V V1 V2:Know} {f:List Nat} (hf:Own V1 V2 f) (h:V.le V1):Own V V2 f:=⟨hf.1,fun b hb=>none_of_le h (hf.2.1 b hb),hf.2.2⟩
def szr (t:Nat) (left:Int):Int:=if (t:Int)≤left then left-t else -1
theorem szr_add {t u:Nat} {left:Int} (h:(t:Int)≤left):szr (t+u) left=szr u (szr t left):=by
 unfold szr
 rw [if_pos h]
 by_cases h2:(u:Int)≤left-t
 ·rw [if_pos h2,if_pos (by omega)]; omega
 ·rw [if_neg h2,if_neg (by omega)]
theorem szr_neg {t u:Nat} {left:Int} (h:¬ (t:Int)≤left):szr (t+u) left=-1:=by
 unfold szr
 rw [if_neg (by omega)]
theorem szr_lt {t:Nat} {left:Int}:szr t left<0↔¬ (t:Int)≤left:=by
 unfold szr
 by_cases h:(t:Int)≤left
 ·rw [if_pos h]; omega
 ·rw [if_neg h]; omega
theorem szr_ge {t:Nat} {left:Int} (h:(t:Int)≤left):szr t left=left-t:=if_pos h
end Go.Proofs.YtccnjccabllcaaaGreatDoor
