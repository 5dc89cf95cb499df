/-
  Lists that grow at their end, in known memory.
-/
import Derived.Test.YtfiakghfncempaaGreatDoorEngD
namespace Go.Proofs.YtfiakghfncempaaGreatDoor
open Sx
theorem wrap_i64 {n:Int} (h:-9223372036854775808≤n∧n≤9223372036854775807):IntKind.i64.wrap n=n:=by
 simp only [IntKind.wrap]
 have h2:IntKind.i64.bits=64:=rfl
 have h4:IntKind.i64.signed=true:=rfl
 simp only [h2,h4,Bool.true_and]
 by_cases hn:0≤n
 ·have h3:n % 2 ^ 64=n:=Int.emod_eq_of_lt hn (by omega)
  rw [h3,if_neg (by simp; omega)]
 ·have h3:n % 2 ^ 64=n+2 ^ 64:=by
   rw [← Int.add_emod_right]
   exact Int.emod_eq_of_lt (by omega) (by omega)
  rw [h3,if_pos (by simp; omega)]
  omega
theorem kset_le {V:Know} {b:Nat} {x} (h:V b=none):V.le (kset V b x):=by
 intro k y hk
 simp only [kset]
 by_cases e:k=b
 ·subst e; rw [h] at hk; cases hk
 ·rw [if_neg e]; exact hk
theorem kset_same {V:Know} {b:Nat} {x}:kset V b x b=some x:=by simp [kset]
theorem kset_other {V:Know} {b k:Nat} {x} (h:k≠b):kset V b x k=V k:=by simp [kset,h]
theorem cutv_skip {β:Type} {x y:List β} {o n:Nat}:cutv (x++y) (x.length+o) n=cutv y o n:=by
 simp only [cutv,List.length_append]
 have hd:List.drop (x.length+o) (x++y)=List.drop o y:=by
  rw [← List.drop_drop,List.drop_left]
 by_cases h:o+n≤y.length
 ·rw [if_pos h,if_pos (by omega),hd]
 ·rw [if_neg h,if_neg (by omega)]
theorem cutv_head {β:Type} {x y:List β}:cutv (x++y) 0 x.length=some x:=by
 simp [cutv]
theorem cutv_flat {α β:Type} {f:α→List β} {m:Nat} (hf:∀ a,(f a).length=m):∀ {l:List α} {n:Nat} (h:n<l.length) (r:List β),cutv (l.flatMap f++r) (n*m) m=some (f l[n])
 | a :: l,0,_,r=>by
  have:=cutv_head (x:=f a) (y:=l.flatMap f++r)
  rw [hf] at this
  rw [List.flatMap_cons,List.append_assoc,Nat.zero_mul]
  exact this
 | a :: l,n+1,h,r=>by
  have ih:=cutv_flat hf (l:=l) (n:=n) (by simpa using h) r
  have e:(n+1)*m=(f a).length+n*m:=by rw [hf,Nat.add_mul,Nat.one_mul,Nat.add_comm]
  rw [List.flatMap_cons,List.append_assoc,e,cutv_skip,ih]
  rfl
end Go.Proofs.YtfiakghfncempaaGreatDoor
namespace Go.Proofs.YtfiakghfncempaaGreatDoor
open Sx
theorem toList_loop (b:ByteArray) (i:Nat) (r:List UInt8) (h:i≤b.size):ByteArray.toList.loop b i r=r.reverse++b.data.toList.drop i:=by
 induction hk:b.size-i generalizing i r with
 | zero =>
  have:i=b.size:=by omega
  subst this
  unfold ByteArray.toList.loop
  rw [if_neg (by omega)]
  have:b.data.toList.drop b.size=[]:=List.drop_of_length_le (by simp)
  rw [this,List.append_nil]
 | succ k ih =>
  unfold ByteArray.toList.loop
  rw [if_pos (by omega),ih (i+1) _ (by omega) (by omega)]
  have hlt:i<b.data.toList.length:=by simp; omega
  rw [List.drop_eq_getElem_cons hlt]
  have hg:b.get! i=b.data.toList[i]:=by
   have:i<b.data.size:=by simpa using hlt
   show b.data[i]! = _
   rw [getElem!_pos b.data i this]; simp
  rw [hg]; simp
theorem toList_data (b:ByteArray):b.toList=b.data.toList:=by
 unfold ByteArray.toList
 rw [toList_loop b 0 [] (by omega)]; simp
theorem toList_inj {a b:ByteArray}:a.toList=b.toList↔a=b:=by
 refine⟨fun h=>?_,fun h=>by rw [h]⟩
 rw [toList_data,toList_data] at h
 obtain⟨⟨l⟩⟩:=a
 obtain⟨⟨m⟩⟩:=b
 simp at h
 subst h; rfl
theorem text_eq {a b:ByteArray}:(a.toList == b.toList)=true↔a=b:=by rw [beq_iff_eq]; exact toList_inj
theorem text_ne {a b:ByteArray}:(a.toList == b.toList)=false↔a≠b:=by
 rw [← Bool.not_eq_true,text_eq]
structure Rp (sh:List Sc) (α:Type) where
 R:Know→Scs sh→α→List Nat→Prop
 tot:α→Nat
 loc:∀ {V V':Know} {c:Scs sh} {x:α} {fp:List Nat},R V c x fp→(∀ b∈fp,V' b=V b)→R V' c x fp
 kn:∀ {V:Know} {c:Scs sh} {x:α} {fp:List Nat},R V c x fp→∀ b∈fp,∃ y,V b=some y
section
variable {sh:List Sc} {α:Type}
theorem Rp.le (r:Rp sh α) {V V':Know} {c:Scs sh} {x:α} {fp:List Nat} (h:r.R V c x fp) (hle:V.le V'):r.R V' c x fp :=
 r.loc h fun b hb=>by obtain⟨y,hy⟩:=r.kn h b hb; rw [hy]; exact hle b y hy
def Els (r:Rp sh α) (V:Know):List (Scs sh)→List α→List Nat→Prop
 | [],[],fp=>fp=[]
 | c :: cs,x :: l,fp=>∃ f g,fp=f++g∧r.R V c x f∧Els r V cs l g
 | _,_,_=>False
theorem Els.loc {r:Rp sh α} {V V':Know}:∀ {cs:List (Scs sh)} {l:List α} {fp:List Nat},Els r V cs l fp→(∀ b∈fp,V' b=V b)→Els r V' cs l fp
 | [],[],_,h,_=>h
 | _ :: _,_ :: _,_,⟨f,g,rfl,h1,h2⟩,hb=>⟨f,g,rfl,r.loc h1 fun b hm=>hb b (by simp [hm]),h2.loc fun b hm=>hb b (by simp [hm])⟩
theorem Els.kn {r:Rp sh α} {V:Know}:∀ {cs:List (Scs sh)} {l:List α} {fp:List Nat},Els r V cs l fp→∀ b∈fp,∃ y,V b=some y
 | [],[],_,h,b,hb=>by
  have h:_=[]:=h
  subst h; cases hb
 | _ :: _,_ :: _,_,⟨f,g,rfl,h1,h2⟩,b,hb=>by
  rcases List.mem_append.1 hb with hb | hb
  ·exact r.kn h1 b hb
  ·exact h2.kn b hb
theorem Els.le {r:Rp sh α} {V V':Know} {cs:List (Scs sh)} {l:List α} {fp:List Nat} (h:Els r V cs l fp) (hle:V.le V'):Els r V' cs l fp :=
 h.loc fun b hb=>by obtain⟨y,hy⟩:=h.kn b hb; rw [hy]; exact hle b y hy
theorem Els.len {r:Rp sh α} {V:Know}:∀ {cs:List (Scs sh)} {l:List α} {fp:List Nat},Els r V cs l fp→cs.length=l.length
 | [],[],_,_=>rfl
 | _ :: _,_ :: _,_,⟨_,_,_,_,h2⟩=>by simp [h2.len]
theorem Els.snoc {r:Rp sh α} {V:Know} {c:Scs sh} {x:α} {f:List Nat} (hx:r.R V c x f):∀ {cs:List (Scs sh)} {l:List α} {fp:List Nat},Els r V cs l fp→Els r V (cs++[c]) (l++[x]) (fp++f)
 | [],[],fp,h=>by
  have h:fp=[]:=h
  subst h
  exact⟨f,[],by simp,hx,rfl⟩
 | _ :: _,_ :: _,_,⟨f',g,rfl,h1,h2⟩=>⟨f',g++f,by simp,h1,h2.snoc hx⟩
theorem Els.at {r:Rp sh α} {V:Know}:∀ {cs:List (Scs sh)} {l:List α} {fp:List Nat},Els r V cs l fp→∀ {i:Nat} (h:i<l.length),∃ (h':i<cs.length) (f:List Nat),r.R V cs[i] l[i] f∧∀ b∈f,b∈fp
 | [],[],_,_,_,h=>by simp at h
 | _ :: _,_ :: _,_,⟨f,g,rfl,h1,h2⟩,0,_=>⟨by simp,f,h1,fun b hb=>by simp [hb]⟩
 | _ :: _,_ :: _,_,⟨f,g,rfl,h1,h2⟩,i+1,h=>by
  obtain⟨h',f',k1,k2⟩:=h2.at (i:=i) (by simpa using h)
  exact⟨by simpa using h',f',k1,fun b hb=>by simp [k2 b hb]⟩
def totE (r:Rp sh α):List α→Nat
 | []=>0
 | x :: l=>r.tot x+totE r l
theorem vals_len:∀ (sh:List Sc) (c:Scs sh),(Scs.vals sh c).length=sh.length
 | [],_=>rfl
 | _ :: r,c=>by simp [Scs.vals,vals_len r c.2]
def LR (r:Rp sh α) (V:Know) (s:SlV) (l:List α) (fp:List Nat):Prop :=
 s.n=l.length∧s.n≤s.c∧s.n≤9223372036854775807 ∧
  ((s.n=0∧(s.a=none→s.c=0)∧fp=[]) ∨
   ∃ b pre post t fps cs,s.a=some ⟨b,List.length pre,none⟩∧V b=some (pre++(cs.flatMap (Scs.vals sh)++post),t)∧Els r V cs l fps∧fp=b :: fps)
theorem LR.loc {r:Rp sh α} {V V':Know} {s:SlV} {l:List α} {fp:List Nat} (h:LR r V s l fp) (hb:∀ b∈fp,V' b=V b):LR r V' s l fp:=by
 obtain⟨h1,h2,h3,h4⟩:=h
 refine⟨h1,h2,h3,?_⟩
 rcases h4 with h4 | ⟨b,pre,post,t,fps,cs,k1,k2,k3,rfl⟩
 ·exact .inl h4
 ·exact .inr ⟨b,pre,post,t,fps,cs,k1,by rw [hb b (by simp),k2],k3.loc fun x hx=>hb x (by simp [hx]),rfl⟩
theorem LR.kn {r:Rp sh α} {V:Know} {s:SlV} {l:List α} {fp:List Nat} (h:LR r V s l fp):∀ b∈fp,∃ y,V b=some y:=by
 obtain⟨h1,h2,h3,h4⟩:=h
 intro b hb
 rcases h4 with ⟨_,_,rfl⟩ | ⟨b',pre,post,t,fps,cs,k1,k2,k3,rfl⟩
 ·cases hb
 ·rcases List.mem_cons.1 hb with rfl | hb
  ·exact⟨_,k2⟩
  ·exact k3.kn b hb
theorem LR.le {r:Rp sh α} {V V':Know} {s:SlV} {l:List α} {fp:List Nat} (h:LR r V s l fp) (hle:V.le V'):LR r V' s l fp :=
 h.loc fun b hb=>by obtain⟨y,hy⟩:=h.kn b hb; rw [hy]; exact hle b y hy
theorem LR.at {r:Rp sh α} {V:Know} {s:SlV} {l:List α} {fp:List Nat} (h:LR r V s l fp) {i:Nat} (hi:i<l.length) :
  ∃ b o c f,s.a=some ⟨b,o,none⟩∧loadV V ((⟨b,o,none⟩:Addr).add (i*sh.length)) sh.length=some (Scs.vals sh c)∧r.R V c l[i] f∧∀ b∈f,b∈fp:=by
 obtain⟨h1,h2,h3,h4⟩:=h
 rcases h4 with ⟨h0,_,_⟩ | ⟨b,pre,post,t,fps,cs,k1,k2,k3,rfl⟩
 ·omega
 ·obtain⟨h',f,g1,g2⟩:=k3.at hi
  refine⟨_,_,cs[i],f,k1,?_,g1,fun b hb=>by simp [g2 b hb]⟩
  simp only [addr_add_eq,loadV,k2]
  rw [cutv_skip]
  exact cutv_flat (vals_len sh) h' post
theorem LR.part {r:Rp sh α} {V:Know} {s:SlV} {l:List α} {fp:List Nat} (h:LR r V s l fp) {i:Nat} (hi:i<l.length) :
  ∃ b a c f,s.a=some ⟨b,a,none⟩∧(∀ (o n:Nat) l',cutv (Scs.vals sh c) o n=some l'→loadV V (((⟨b,a,none⟩:Addr).add (i*sh.length)).add o) n=some l')∧r.R V c l[i] f∧∀ b∈f,b∈fp:=by
 obtain⟨b,a,c,f,h1,h2,h3,h4⟩:=h.at hi
 refine⟨b,a,c,f,h1,fun o n l' hc=>?_,h3,h4⟩
 simp only [addr_add_eq,loadV] at h2 ⊢
 split at h2
 ·rename_i cs t hs hv
  unfold cutv at h2 hc ⊢
  split at h2
  ·rename_i hle
   split at hc
   ·rename_i hle2
    simp only [Option.some.injEq] at h2 hc
    rw [vals_len] at hle2
    rw [if_pos (by omega)]
    simp only [Option.some.injEq]
    rw [← hc,← h2,List.drop_take,List.take_take,List.drop_drop]
    congr 1
    omega
   ·cases hc
  ·cases h2
 ·cases h2
end
def rNil:Rp [] Unit where
 R _ _ _ fp:=fp=[]
 tot _:=0
 loc h _:=h
 kn h b hb:=by subst h; cases hb
def rInt {sh:List Sc} {α:Type} (r:Rp sh α):Rp (.i .i64 :: sh) (Int × α) where
 R V c x fp:=c.1=x.1∧r.R V c.2 x.2 fp
 tot x:=r.tot x.2
 loc h hb:=⟨h.1,r.loc h.2 hb⟩
 kn h:=r.kn h.2
def rBool {sh:List Sc} {α:Type} (r:Rp sh α):Rp (.b :: sh) (Bool × α) where
 R V c x fp:=c.1=x.1∧r.R V c.2 x.2 fp
 tot x:=r.tot x.2
 loc h hb:=⟨h.1,r.loc h.2 hb⟩
 kn h:=r.kn h.2
def rStr {sh:List Sc} {α:Type} (r:Rp sh α):Rp (.s :: sh) (ByteArray × α) where
 R V c x fp:=(c.1=x.1∧x.1.size≤9223372036854775807)∧r.R V c.2 x.2 fp
 tot x:=x.1.size+r.tot x.2
 loc h hb:=⟨h.1,r.loc h.2 hb⟩
 kn h:=r.kn h.2
def rSl {se sh:List Sc} {α β:Type} (e:Rp se α) (r:Rp sh β):Rp (.l :: sh) (List α × β) where
 R V c x fp:=∃ f g,fp=f++g∧LR e V c.1 x.1 f∧r.R V c.2 x.2 g
 tot x:=x.1.length+totE e x.1+r.tot x.2
 loc:=by
  rintro V V' c x fp ⟨f,g,rfl,h1,h2⟩ hb
  exact⟨f,g,rfl,h1.loc fun b hm=>hb b (by simp [hm]),r.loc h2 fun b hm=>hb b (by simp [hm])⟩
 kn:=by
  rintro V c x fp ⟨f,g,rfl,h1,h2⟩ b hb
  rcases List.mem_append.1 hb with hb | hb
  ·exact h1.kn b hb
  ·exact r.kn h2 b hb
def Wr (V:Know) (fp:List Nat):Prop:=∀ b∈fp,∃ c t,V b=some (c,(t,(0,0)))
theorem Wr.le {V V':Know} {fp:List Nat} (h:Wr V fp) (hle:V.le V'):Wr V' fp:=fun b hb=>by obtain⟨c,t,k⟩:=h b hb; exact⟨c,t,hle _ _ k⟩
def Own (V V':Know) (fp:List Nat):Prop:=fp.Nodup∧(∀ b∈fp,V b=none)∧Wr V' fp
theorem Own.nil {V V':Know}:Own V V' []:=⟨List.nodup_nil,(fun _ h=>by cases h),(fun _ h=>by cases h)⟩
theorem none_of_le {V V1:Know} (h:V.le V1) {b:Nat} (hb:V1 b=none):V b=none:=by
 cases hv:V b with
 | none=>rfl
 | some x=>rw [h b x hv] at hb; cases hb
theorem Own.append {V V1 V2:Know} {f g:List Nat} (hf:Own V V1 f) (hg:Own V1 V2 g) (h1:V.le V1) (h2:V1.le V2):Own V V2 (f++g):=by
 refine⟨List.nodup_append.2 ⟨hf.1,hg.1,fun a ha b hb e=>?_⟩,fun b hb=>?_,fun b hb=>?_⟩
 ·subst e
  obtain⟨c,t,k⟩:=hf.2.2 a ha
  rw [hg.2.1 a hb] at k; cases k
 ·rcases List.mem_append.1 hb with hb | hb
  ·exact hf.2.1 b hb
  ·exact none_of_le h1 (hg.2.1 b hb)
 ·rcases List.mem_append.1 hb with hb | hb
  ·exact hf.2.2.le h2 b hb
  ·exact hg.2.2 b hb
theorem Own.post {V V1 V2:Know} {f:List Nat} (hf:Own V V1 f) (h:V1.le V2):Own V V2 f:=⟨hf.1,hf.2.1,hf.2.2.le h⟩
theorem Own.pre {V V1 V2:Know} {f:List Nat} (hf:Own V1 V2 f) (h:V.le V1):Own V V2 f:=⟨hf.1,fun b hb=>none_of_le h (hf.2.1 b hb),hf.2.2⟩
end Go.Proofs.YtfiakghfncempaaGreatDoor
namespace Go.Proofs.YtfiakghfncempaaGreatDoor
open Sx
section
variable {sh:List Sc} {α:Type}
def ToC (P:Program) (g:Nat) (e:Rp sh α):Prop:=∀ (V:Know) (c:Scs sh) (x:α) (f:List Nat),e.R V c x f→e.tot x≤1048576 →
 CallX P V g [Sh1.val (.g sh) c] (fun V' r=>V.le V'∧∃ c' f',r=Sh1.val (.g sh) c'∧e.R V' c' x f'∧Own V V' f')
def ToSC (P:Program) (g:Nat) (e:Rp sh α):Prop:=∀ (V:Know) (s:SlV) (l:List α) (f:List Nat),LR e V s l f→l.length+totE e l≤1048576 →
 CallX P V g [Sc.val .l s] (fun V' r=>V.le V'∧∃ s' f',r=Sc.val .l s'∧LR e V' s' l f'∧Own V V' f')
end
theorem nxt {i n:Nat} (h:i<n) (hn:n≤9223372036854775807):IntKind.i64.wrap ((i:Int)+1)=((i+1:Nat):Int):=by
 rw [wrap_i64 (by omega)]; omega
section
variable {sh:List Sc} {α:Type} {P:Program} {e:Rp sh α} {V V0:Know} {s s':SlV} {l l':List α} {f f':List Nat}
end
abbrev rI:Rp [.i .i64] (Int × Unit):=rInt rNil
theorem LR.int {V:Know} {s:SlV} {l:List (Int × Unit)} {f:List Nat} (h:LR rI V s l f) {i:Nat} (hi:i<l.length) :
  ∃ b o,s.a=some ⟨b,o,none⟩∧loadV V ((⟨b,o,none⟩:Addr).add (i*1)) 1=some [.int .i64 l[i].1]:=by
 obtain⟨b1,o1,c1,f1,a1,l1,r1,_⟩:=h.at hi
 refine⟨b1,o1,a1,?_⟩
 have e:c1.1=l[i].1:=r1.1
 rw [← e]; exact l1
theorem made_len (z:Array Value) (n:Nat):(madeCells z n).toList.length=n:=by
 unfold madeCells
 simp
theorem setl_mid {x y z:List Value} {n:Nat} (h:n=x.length) (_:z.length≤y.length):setl (x++y) n z=x++(z++y.drop z.length):=by
 subst h
 simp only [setl]
 rw [List.take_left,← List.drop_drop,List.drop_left,List.append_assoc]
theorem flat_len {sh:List Sc}:∀ cs:List (Scs sh),(cs.flatMap (Scs.vals sh)).length=cs.length*sh.length
 | []=>by simp
 | c :: cs=>by rw [List.flatMap_cons,List.length_append,vals_len,flat_len cs,List.length_cons,Nat.add_mul,Nat.one_mul,Nat.add_comm]
theorem totE_mem {sh:List Sc} {α:Type} (e:Rp sh α) {l:List α} {i:Nat} (h:i<l.length):e.tot l[i]≤totE e l:=by
 induction l generalizing i with
 | nil=>simp at h
 | cons a l ih =>
  cases i with
  | zero=>simp [totE]
  | succ i =>
   have:=ih (i:=i) (by simpa using h)
   simp only [List.getElem_cons_succ,totE]
   omega
end Go.Proofs.YtfiakghfncempaaGreatDoor
namespace Go.Proofs.YtfiakghfncempaaGreatDoor
open Sx
def apD (s:SlV) (sz bytes:Nat) (ys:List Value) (m:Nat) (t:TypeId) (k:SlV→T):T:=.ap s sz bytes ys m t k
theorem ap_d (s:SlV) (sz bytes:Nat) (ys:List Value) (m:Nat) (t:TypeId) (k:SlV→T):T.ap s sz bytes ys m t k=apD s sz bytes ys m t k:=rfl
section
variable {sh:List Sc} {α:Type}
def GR (r:Rp sh α) (t:TypeId) (V:Know) (s:SlV) (l:List α) (f:List Nat):Prop :=
 s.n=l.length∧s.n≤s.c∧((s.a=none∧s.c=0∧l=[]∧f=[]) ∨
  ∃ b fps cs post,s.a=some ⟨b,0,none⟩∧V b=some (cs.flatMap (Scs.vals sh)++post,(t,(0,0)))∧post.length=(s.c-s.n)*sh.length∧Els r V cs l fps∧f=b :: fps)
theorem GR.nil {r:Rp sh α} {t:TypeId} {V:Know}:GR r t V ⟨none,0,0⟩ [] []:=⟨rfl,Nat.le_refl _,.inl ⟨rfl,rfl,rfl,rfl⟩⟩
theorem GR.lr {r:Rp sh α} {t:TypeId} {V:Know} {s:SlV} {l:List α} {f:List Nat} (h:GR r t V s l f) (hn:l.length≤9223372036854775807):LR r V s l f:=by
 obtain⟨h1,h2,h3⟩:=h
 refine⟨h1,h2,by omega,?_⟩
 rcases h3 with ⟨ha,hc,rfl,rfl⟩ | ⟨b,fps,cs,post,ha,hb,hp,he,rfl⟩
 ·exact .inl ⟨h1,fun _=>hc,rfl⟩
 ·exact .inr ⟨b,[],post,_,fps,cs,ha,hb,he,rfl⟩
theorem GR.loc {r:Rp sh α} {t:TypeId} {V V':Know} {s:SlV} {l:List α} {f:List Nat} (h:GR r t V s l f) (hb:∀ b∈f,V' b=V b):GR r t V' s l f:=by
 obtain⟨h1,h2,h3⟩:=h
 refine⟨h1,h2,?_⟩
 rcases h3 with h3 | ⟨b,fps,cs,post,ha,hv,hp,he,rfl⟩
 ·exact .inl h3
 ·exact .inr ⟨b,fps,cs,post,ha,by rw [hb b (by simp),hv],hp,he.loc fun x hx=>hb x (by simp [hx]),rfl⟩
theorem GR.le {r:Rp sh α} {t:TypeId} {V V':Know} {s:SlV} {l:List α} {f:List Nat} (h:GR r t V s l f) (hle:V.le V'):GR r t V' s l f:=by
 obtain⟨h1,h2,h3⟩:=h
 refine⟨h1,h2,?_⟩
 rcases h3 with h3 | ⟨b,fps,cs,post,ha,hb,hp,he,rfl⟩
 ·exact .inl h3
 ·exact .inr ⟨b,fps,cs,post,ha,hle _ _ hb,hp,he.le hle,rfl⟩
theorem ap_row {P:Program} {r:Rp sh α} {t:TypeId} {V0 V Vd:Know} {s:SlV} {l:List α} {f fx:List Nat} {c:Scs sh} {x:α} {bytes:Nat} {k:SlV→T} {K:Know→List Value→Prop} {Ns:List (List LV→Know→Prop)}
  (h:GR r t V s l f) (hx:r.R V c x fx) (hO:Own V0 V (f++fx)) (hle:V0.le V) (hP:P.cellsOf t=sh.length)
  (hb:(l.length+1)*bytes≤140737488355328) (hl:l.length+1≤9223372036854775807)
  (hk:∀ s' V' f',GR r t V' s' (l++[x]) f'→Own V0 V' f'→V0.le V'→(k s').wp P K V' Vd Ns) :
  (T.ap s sh.length bytes (Scs.vals sh c) 1 t k).wp P K V Vd Ns:=by
 obtain⟨h1,h2,h3⟩:=h
 simp only [T.wp]
 refine⟨h2,fun ha=>?_,fun h=>absurd h (by decide),fun _ hroom=>?_,fun _ hroom=>⟨by rw [h1]; exact hb,by rw [h1]; exact hl,?_⟩⟩
 ·rcases h3 with ⟨_,hc,_⟩ | ⟨b,fps,cs,post,ha',_⟩
  ·exact hc
  ·rw [ha] at ha'; cases ha'
 ·rcases h3 with ⟨_,hc,_⟩ | ⟨b,fps,cs,post,ha,hbk,hp,he,rfl⟩
  ·omega
  have hcl:cs.length=l.length:=he.len
  have hfl:(cs.flatMap (Scs.vals sh)).length=s.n*sh.length:=by rw [flat_len,hcl,h1]
  have hpl:sh.length≤post.length:=by
   rw [hp]; exact Nat.le_mul_of_pos_left _ (by omega)
  have hset:setl (cs.flatMap (Scs.vals sh)++post) (s.n*sh.length) (Scs.vals sh c)=(cs++[c]).flatMap (Scs.vals sh)++post.drop sh.length:=by
   rw [setl_mid hfl.symm (by rw [vals_len]; exact hpl),vals_len]
   simp
  have hnd:b ∉ fps∧b ∉ fx:=by
   have:=hO.1
   simp only [List.cons_append,List.nodup_cons,List.mem_append,not_or] at this
   exact this.1
  have hoff:∀ (y:List Value × KTy) (g:List Nat),b ∉ g→∀ b'∈g,kset V b y b'=V b':=fun y g hg b' hb'=>by
   simp only [kset]; rw [if_neg (fun e:b'=b=>hg (by rw [← e]; exact hb'))]
  refine⟨b,_,ha,hbk,?_,?_⟩
  ·rw [List.length_append,hfl,hp,← Nat.add_mul]
   exact Nat.mul_le_mul_right _ (by omega)
  ·rw [hset]
   refine hk _ _ (b :: (fps++fx)) ⟨by simp [h1],by show s.n+1≤s.c; omega,.inr ⟨b,fps++fx,cs++[c],post.drop sh.length,ha,kset_same,?_,?_,rfl⟩⟩ ⟨by simpa using hO.1,by simpa using hO.2.1,?_⟩ ?_
   ·rw [List.length_drop,hp,← Nat.sub_one_mul]
    congr 1
   ·exact(he.loc (hoff _ _ hnd.1)).snoc (r.loc hx (hoff _ _ hnd.2))
   ·intro b' hb'
    rcases List.mem_cons.1 hb' with rfl | hb'
    ·exact⟨_,_,kset_same⟩
    ·have hne:b'≠b:=fun e=>by
      rw [e] at hb'
      rcases List.mem_append.1 hb' with h | h
      ·exact hnd.1 h
      ·exact hnd.2 h
     obtain⟨u,v,huv⟩:=hO.2.2 b' (by simp only [List.cons_append,List.mem_cons]; exact .inr hb')
     exact⟨u,v,by simp only [kset]; rw [if_neg hne]; exact huv⟩
   ·intro b' y hy
    have hne:b'≠b:=fun e=>by
     subst e
     have:=hO.2.1 b' (by simp)
     rw [this] at hy; cases hy
    simp only [kset]; rw [if_neg hne]; exact hle b' y hy
 ·have hgo:∀ (cs:List (Scs sh)) (fps:List Nat),Els r V cs l fps→(∀ b∈fps,b∈f)→fps.Nodup→(∀ b∈fps,b ∉ fx) →
    ∀ b cap spare,V b=none→s.n+1≤cap→spare.length=(cap-(s.n+1))*P.cellsOf t →
    (k ⟨some ⟨b,0,none⟩,s.n+1,cap⟩).wp P K (kset V b ((cs.flatMap (Scs.vals sh)++Scs.vals sh c)++spare,(t,(0,0)))) Vd Ns:=by
   intro cs fps he hsub hnd hdis b cap spare hbn hcap hsp
   have hV:=kset_le (x:=((cs.flatMap (Scs.vals sh)++Scs.vals sh c)++spare,(t,(0,0)))) hbn
   have hin:∀ b'∈fps++fx,b'∈f++fx:=fun b' hb'=>by
    rcases List.mem_append.1 hb' with h | h
    ·exact List.mem_append.2 (.inl (hsub b' h))
    ·exact List.mem_append.2 (.inr h)
   have hn:b ∉ fps++fx:=fun hm=>by
    obtain⟨u,v,huv⟩:=hO.2.2 b (hin b hm)
    rw [hbn] at huv; cases huv
   refine hk _ _ (b :: (fps++fx)) ⟨by simp [h1],hcap,.inr ⟨b,fps++fx,cs++[c],spare,rfl,?_,by rw [hsp,hP],(he.le hV).snoc (r.le hx hV),rfl⟩⟩ ⟨List.nodup_cons.2 ⟨hn,?_⟩,fun b' hb'=>?_,fun b' hb'=>?_⟩ (hle.trans hV)
   ·rw [kset_same]; simp
   ·have:=List.nodup_append.1 hO.1
    exact List.nodup_append.2 ⟨hnd,this.2.1,fun a ha b hb e=>hdis a ha (e ▸ hb)⟩
   ·rcases List.mem_cons.1 hb' with rfl | hb'
    ·exact none_of_le hle hbn
    ·exact hO.2.1 b' (hin b' hb')
   ·rcases List.mem_cons.1 hb' with rfl | hb'
    ·exact⟨_,_,kset_same⟩
    ·obtain⟨u,v,huv⟩:=hO.2.2 b' (hin b' hb')
     exact⟨u,v,hV _ _ huv⟩
  rcases h3 with ⟨ha,hc,rfl,rfl⟩ | ⟨b,fps,cs,post,ha,hbk,hp,he,rfl⟩
  ·exact⟨[],.inl ⟨ha,h1,hc,rfl⟩,rfl,fun b cap spare hb hcap hsp=>by
    have:=hgo [] [] rfl (fun _ h=>by cases h) List.nodup_nil (fun _ h=>by cases h) b cap spare hb hcap hsp
    simpa using this⟩
  ·have hcl:cs.length=l.length:=he.len
   have hfl:(cs.flatMap (Scs.vals sh)).length=s.n*sh.length:=by rw [flat_len,hcl,h1]
   have hnt:∀ cs:List (Scs sh),noTup (cs.flatMap (Scs.vals sh))=true:=fun cs=>by
    induction cs with
    | nil=>rfl
    | cons c cs ih =>
     have hv:=vals_noTup sh c
     unfold noTup at ih hv ⊢
     rw [List.flatMap_cons,List.all_append,hv,ih]; rfl
   refine⟨_,.inr ⟨⟨b,0,none⟩,ha,?_⟩,hnt cs,hgo cs fps he (fun b' hb'=>by simp [hb']) ?_ ?_⟩
   ·simp only [loadV,hbk]
    rw [← hfl]; exact cutv_head
   ·have:=List.nodup_append.1 hO.1
    exact(List.nodup_cons.1 this.1).2
   ·have:=List.nodup_append.1 hO.1
    exact fun b' hb' hx'=>this.2.2 b' (by simp [hb']) b' hx' rfl
def CopyI (e:Rp sh α) (t:TypeId) (V0:Know) (l:List α) (i:Int) (s:SlV) (V:Know):Prop :=
 V0.le V∧∃ (k:Nat) (f:List Nat),i=(k:Int)∧k≤l.length∧GR e t V s (l.take k) f∧Own V0 V f
theorem CopyI.start {e:Rp sh α} {t:TypeId} {V:Know} {l:List α}:CopyI e t V l 0 ⟨none,0,0⟩ V:=⟨Know.le.refl _,0,[],rfl,Nat.zero_le _,by simpa using GR.nil,Own.nil⟩
theorem CopyI.start_made {e:Rp sh α} {t:TypeId} {V0 V:Know} {l:List α} {b cap:Nat} {spare:List Value} (hle:V0.le V) (hb:V b=none) (hs:spare.length=cap*sh.length) :
  CopyI e t V0 l 0 ⟨some ⟨b,0,none⟩,0,cap⟩ (kset V b ([]++spare,(t,(0,0)))):=by
 have hV:=kset_le (x:=([]++spare,(t,(0,0)))) hb
 refine⟨hle.trans hV,0,[b],rfl,Nat.zero_le _,⟨by simp,Nat.zero_le _,.inr ⟨b,[],[],spare,rfl,by rw [kset_same]; simp,by simpa using hs,by simp [Els],rfl⟩⟩,⟨by simp,fun b' hb'=>?_,fun b' hb'=>?_⟩⟩
 ·obtain rfl:b'=b:=by simpa using hb'
  exact none_of_le hle hb
 ·obtain rfl:b'=b:=by simpa using hb'
  exact⟨_,_,kset_same⟩
theorem copy_end {P:Program} {e:Rp sh α} {t:TypeId} {V0 V V2 Vd:Know} {l:List α} {k:Nat} {s:SlV} {c:Scs sh} {fx:List Nat} {bytes:Nat} {kk:SlV→T} {K:Know→List Value→Prop} {Ns:List (List LV→Know→Prop)}
  (h:CopyI e t V0 l (k:Int) s V) (hk:k<l.length) (hle2:V.le V2) (hR:e.R V2 c l[k] fx) (hO:Own V V2 fx) (hP:P.cellsOf t=sh.length)
  (hb:l.length*bytes≤140737488355328) (hl:l.length≤9223372036854775807)
  (hn:∀ s' V3,CopyI e t V0 l ((k+1:Nat):Int) s' V3→(kk s').wp P K V3 Vd Ns) :
  (T.ap s sh.length bytes (Scs.vals sh c) 1 t kk).wp P K V2 Vd Ns:=by
 obtain⟨h1,k',f,he,_,hg,ho⟩:=h
 obtain rfl:k=k':=by omega
 have hlen:(l.take k).length=k:=by simp; omega
 refine ap_row (hg.le hle2) hR (ho.append hO h1 hle2) (h1.trans hle2) hP ?_ (by omega) fun s' V' f' hg' ho' hle'=>hn s' V' ⟨hle',k+1,f',rfl,hk,?_,ho'⟩
 ·rw [hlen]
  exact Nat.le_trans (Nat.mul_le_mul_right _ hk) hb
 ·rw [List.take_succ_eq_append_getElem hk]; exact hg'
theorem CopyI.fin {e:Rp sh α} {t:TypeId} {V0 V:Know} {l:List α} {i:Int} {s:SlV} (h:CopyI e t V0 l i s V) (hl:l.length≤9223372036854775807) (hi:¬ i<(l.length:Int)) :
  V0.le V∧∃ f,LR e V s l f∧Own V0 V f:=by
 obtain⟨h1,k,f,rfl,hk,hg,ho⟩:=h
 obtain rfl:k=l.length:=by omega
 rw [List.take_length] at hg
 exact⟨h1,f,hg.lr hl,ho⟩
theorem CopyI.finG {e:Rp sh α} {t:TypeId} {V0 V:Know} {l:List α} {i:Int} {s:SlV} (h:CopyI e t V0 l i s V) (hi:¬ i<(l.length:Int)) :
  V0.le V∧∃ f,GR e t V s l f∧Own V0 V f:=by
 obtain⟨h1,k,f,rfl,hk,hg,ho⟩:=h
 obtain rfl:k=l.length:=by omega
 rw [List.take_length] at hg
 exact⟨h1,f,hg,ho⟩
end
end Go.Proofs.YtfiakghfncempaaGreatDoor
