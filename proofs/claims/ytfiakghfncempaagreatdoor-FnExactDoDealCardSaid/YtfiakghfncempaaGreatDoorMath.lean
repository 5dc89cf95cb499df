/-
  Natural numbers as lists of limbs, the lowest first.
-/
import Derived.Test.YtfiakghfncempaaGreatDoorEngD
namespace Go.Proofs.YtfiakghfncempaaGreatDoor
open Sx
theorem wrap_i64 {n:Int} (h:-9223372036854775808≤n∧n≤9223372036854775807):IntKind.i64.wrap n=n:=by
 simp only [IntKind.wrap]
 have h2:IntKind.i64.bits=64:=rfl
 have h4:IntKind.i64.signed=true:=rfl
 simp only [h2,h4,Bool.true_and]
 by_cases hn:0≤n
 ·have h3:n % 2 ^ 64=n:=Int.emod_eq_of_lt hn (by omega)
  rw [h3,if_neg (by simp; omega)]
 ·have h3:n % 2 ^ 64=n+2 ^ 64:=by
   rw [← Int.add_emod_right]
   exact Int.emod_eq_of_lt (by omega) (by omega)
  rw [h3,if_pos (by simp; omega)]
  omega
theorem kset_le {V:Know} {b:Nat} {x} (h:V b=none):V.le (kset V b x):=by
 intro k y hk
 simp only [kset]
 by_cases e:k=b
 ·subst e; rw [h] at hk; cases hk
 ·rw [if_neg e]; exact hk
theorem kset_same {V:Know} {b:Nat} {x}:kset V b x b=some x:=by simp [kset]
theorem kset_other {V:Know} {b k:Nat} {x} (h:k≠b):kset V b x k=V k:=by simp [kset,h]
theorem cutv_skip {β:Type} {x y:List β} {o n:Nat}:cutv (x++y) (x.length+o) n=cutv y o n:=by
 simp only [cutv,List.length_append]
 have hd:List.drop (x.length+o) (x++y)=List.drop o y:=by
  rw [← List.drop_drop,List.drop_left]
 by_cases h:o+n≤y.length
 ·rw [if_pos h,if_pos (by omega),hd]
 ·rw [if_neg h,if_neg (by omega)]
theorem cutv_head {β:Type} {x y:List β}:cutv (x++y) 0 x.length=some x:=by
 simp [cutv]
theorem cutv_flat {α β:Type} {f:α→List β} {m:Nat} (hf:∀ a,(f a).length=m):∀ {l:List α} {n:Nat} (h:n<l.length) (r:List β),cutv (l.flatMap f++r) (n*m) m=some (f l[n])
 | a :: l,0,_,r=>by
  have:=cutv_head (x:=f a) (y:=l.flatMap f++r)
  rw [hf] at this
  rw [List.flatMap_cons,List.append_assoc,Nat.zero_mul]
  exact this
 | a :: l,n+1,h,r=>by
  have ih:=cutv_flat hf (l:=l) (n:=n) (by simpa using h) r
  have e:(n+1)*m=(f a).length+n*m:=by rw [hf,Nat.add_mul,Nat.one_mul,Nat.add_comm]
  rw [List.flatMap_cons,List.append_assoc,e,cutv_skip,ih]
  rfl
theorem lp_once {P:Program} {K:Know→List Value→Prop} {V V0:Know} {Ns:List (List LV→Know→Prop)} {sh:List LSh} {init:List LV} {body:LShs sh→T} (y:LShs sh) (hy:init=LShs.lvs sh y)
  (h:∀ N,(body y).wp P K V V (Ns++[N])):(T.lp sh init body).wp P K V V0 Ns:=by
 refine⟨fun y' V'=>y'=y∧V'=V,fun _=>0,⟨y,hy,rfl,rfl⟩,?_⟩
 rintro y' V' ⟨rfl,rfl⟩
 exact h _
end Go.Proofs.YtfiakghfncempaaGreatDoor
namespace Go.Proofs.YtfiakghfncempaaGreatDoor
open Sx
theorem toList_loop (b:ByteArray) (i:Nat) (r:List UInt8) (h:i≤b.size):ByteArray.toList.loop b i r=r.reverse++b.data.toList.drop i:=by
 induction hk:b.size-i generalizing i r with
 | zero =>
  have:i=b.size:=by omega
  subst this
  unfold ByteArray.toList.loop
  rw [if_neg (by omega)]
  have:b.data.toList.drop b.size=[]:=List.drop_of_length_le (by simp)
  rw [this,List.append_nil]
 | succ k ih =>
  unfold ByteArray.toList.loop
  rw [if_pos (by omega),ih (i+1) _ (by omega) (by omega)]
  have hlt:i<b.data.toList.length:=by simp; omega
  rw [List.drop_eq_getElem_cons hlt]
  have hg:b.get! i=b.data.toList[i]:=by
   have:i<b.data.size:=by simpa using hlt
   show b.data[i]! = _
   rw [getElem!_pos b.data i this]; simp
  rw [hg]; simp
theorem toList_data (b:ByteArray):b.toList=b.data.toList:=by
 unfold ByteArray.toList
 rw [toList_loop b 0 [] (by omega)]; simp
theorem toList_inj {a b:ByteArray}:a.toList=b.toList↔a=b:=by
 refine⟨fun h=>?_,fun h=>by rw [h]⟩
 rw [toList_data,toList_data] at h
 obtain⟨⟨l⟩⟩:=a
 obtain⟨⟨m⟩⟩:=b
 simp at h
 subst h; rfl
theorem text_eq {a b:ByteArray}:(a.toList == b.toList)=true↔a=b:=by rw [beq_iff_eq]; exact toList_inj
theorem text_ne {a b:ByteArray}:(a.toList == b.toList)=false↔a≠b:=by
 rw [← Bool.not_eq_true,text_eq]
structure Rp (sh:List Sc) (α:Type) where
 R:Know→Scs sh→α→List Nat→Prop
 tot:α→Nat
 loc:∀ {V V':Know} {c:Scs sh} {x:α} {fp:List Nat},R V c x fp→(∀ b∈fp,V' b=V b)→R V' c x fp
 kn:∀ {V:Know} {c:Scs sh} {x:α} {fp:List Nat},R V c x fp→∀ b∈fp,∃ y,V b=some y
section
variable {sh:List Sc} {α:Type}
theorem Rp.le (r:Rp sh α) {V V':Know} {c:Scs sh} {x:α} {fp:List Nat} (h:r.R V c x fp) (hle:V.le V'):r.R V' c x fp :=
 r.loc h fun b hb=>by obtain⟨y,hy⟩:=r.kn h b hb; rw [hy]; exact hle b y hy
def Els (r:Rp sh α) (V:Know):List (Scs sh)→List α→List Nat→Prop
 | [],[],fp=>fp=[]
 | c :: cs,x :: l,fp=>∃ f g,fp=f++g∧r.R V c x f∧Els r V cs l g
 | _,_,_=>False
theorem Els.loc {r:Rp sh α} {V V':Know}:∀ {cs:List (Scs sh)} {l:List α} {fp:List Nat},Els r V cs l fp→(∀ b∈fp,V' b=V b)→Els r V' cs l fp
 | [],[],_,h,_=>h
 | _ :: _,_ :: _,_,⟨f,g,rfl,h1,h2⟩,hb=>⟨f,g,rfl,r.loc h1 fun b hm=>hb b (by simp [hm]),h2.loc fun b hm=>hb b (by simp [hm])⟩
theorem Els.kn {r:Rp sh α} {V:Know}:∀ {cs:List (Scs sh)} {l:List α} {fp:List Nat},Els r V cs l fp→∀ b∈fp,∃ y,V b=some y
 | [],[],_,h,b,hb=>by
  have h:_=[]:=h
  subst h; cases hb
 | _ :: _,_ :: _,_,⟨f,g,rfl,h1,h2⟩,b,hb=>by
  rcases List.mem_append.1 hb with hb | hb
  ·exact r.kn h1 b hb
  ·exact h2.kn b hb
theorem Els.le {r:Rp sh α} {V V':Know} {cs:List (Scs sh)} {l:List α} {fp:List Nat} (h:Els r V cs l fp) (hle:V.le V'):Els r V' cs l fp :=
 h.loc fun b hb=>by obtain⟨y,hy⟩:=h.kn b hb; rw [hy]; exact hle b y hy
theorem Els.len {r:Rp sh α} {V:Know}:∀ {cs:List (Scs sh)} {l:List α} {fp:List Nat},Els r V cs l fp→cs.length=l.length
 | [],[],_,_=>rfl
 | _ :: _,_ :: _,_,⟨_,_,_,_,h2⟩=>by simp [h2.len]
theorem Els.snoc {r:Rp sh α} {V:Know} {c:Scs sh} {x:α} {f:List Nat} (hx:r.R V c x f):∀ {cs:List (Scs sh)} {l:List α} {fp:List Nat},Els r V cs l fp→Els r V (cs++[c]) (l++[x]) (fp++f)
 | [],[],fp,h=>by
  have h:fp=[]:=h
  subst h
  exact⟨f,[],by simp,hx,rfl⟩
 | _ :: _,_ :: _,_,⟨f',g,rfl,h1,h2⟩=>⟨f',g++f,by simp,h1,h2.snoc hx⟩
theorem Els.at {r:Rp sh α} {V:Know}:∀ {cs:List (Scs sh)} {l:List α} {fp:List Nat},Els r V cs l fp→∀ {i:Nat} (h:i<l.length),∃ (h':i<cs.length) (f:List Nat),r.R V cs[i] l[i] f∧∀ b∈f,b∈fp
 | [],[],_,_,_,h=>by simp at h
 | _ :: _,_ :: _,_,⟨f,g,rfl,h1,h2⟩,0,_=>⟨by simp,f,h1,fun b hb=>by simp [hb]⟩
 | _ :: _,_ :: _,_,⟨f,g,rfl,h1,h2⟩,i+1,h=>by
  obtain⟨h',f',k1,k2⟩:=h2.at (i:=i) (by simpa using h)
  exact⟨by simpa using h',f',k1,fun b hb=>by simp [k2 b hb]⟩
def totE (r:Rp sh α):List α→Nat
 | []=>0
 | x :: l=>r.tot x+totE r l
theorem vals_len:∀ (sh:List Sc) (c:Scs sh),(Scs.vals sh c).length=sh.length
 | [],_=>rfl
 | _ :: r,c=>by simp [Scs.vals,vals_len r c.2]
def LR (r:Rp sh α) (V:Know) (s:SlV) (l:List α) (fp:List Nat):Prop :=
 s.n=l.length∧s.n≤s.c∧s.n≤9223372036854775807 ∧
  ((s.n=0∧(s.a=none→s.c=0)∧fp=[]) ∨
   ∃ b pre post t fps cs,s.a=some ⟨b,List.length pre,none⟩∧V b=some (pre++(cs.flatMap (Scs.vals sh)++post),t)∧Els r V cs l fps∧fp=b :: fps)
theorem LR.loc {r:Rp sh α} {V V':Know} {s:SlV} {l:List α} {fp:List Nat} (h:LR r V s l fp) (hb:∀ b∈fp,V' b=V b):LR r V' s l fp:=by
 obtain⟨h1,h2,h3,h4⟩:=h
 refine⟨h1,h2,h3,?_⟩
 rcases h4 with h4 | ⟨b,pre,post,t,fps,cs,k1,k2,k3,rfl⟩
 ·exact .inl h4
 ·exact .inr ⟨b,pre,post,t,fps,cs,k1,by rw [hb b (by simp),k2],k3.loc fun x hx=>hb x (by simp [hx]),rfl⟩
theorem LR.kn {r:Rp sh α} {V:Know} {s:SlV} {l:List α} {fp:List Nat} (h:LR r V s l fp):∀ b∈fp,∃ y,V b=some y:=by
 obtain⟨h1,h2,h3,h4⟩:=h
 intro b hb
 rcases h4 with ⟨_,_,rfl⟩ | ⟨b',pre,post,t,fps,cs,k1,k2,k3,rfl⟩
 ·cases hb
 ·rcases List.mem_cons.1 hb with rfl | hb
  ·exact⟨_,k2⟩
  ·exact k3.kn b hb
theorem LR.le {r:Rp sh α} {V V':Know} {s:SlV} {l:List α} {fp:List Nat} (h:LR r V s l fp) (hle:V.le V'):LR r V' s l fp :=
 h.loc fun b hb=>by obtain⟨y,hy⟩:=h.kn b hb; rw [hy]; exact hle b y hy
theorem LR.at {r:Rp sh α} {V:Know} {s:SlV} {l:List α} {fp:List Nat} (h:LR r V s l fp) {i:Nat} (hi:i<l.length) :
  ∃ b o c f,s.a=some ⟨b,o,none⟩∧loadV V ((⟨b,o,none⟩:Addr).add (i*sh.length)) sh.length=some (Scs.vals sh c)∧r.R V c l[i] f∧∀ b∈f,b∈fp:=by
 obtain⟨h1,h2,h3,h4⟩:=h
 rcases h4 with ⟨h0,_,_⟩ | ⟨b,pre,post,t,fps,cs,k1,k2,k3,rfl⟩
 ·omega
 ·obtain⟨h',f,g1,g2⟩:=k3.at hi
  refine⟨_,_,cs[i],f,k1,?_,g1,fun b hb=>by simp [g2 b hb]⟩
  simp only [addr_add_eq,loadV,k2]
  rw [cutv_skip]
  exact cutv_flat (vals_len sh) h' post
theorem LR.part {r:Rp sh α} {V:Know} {s:SlV} {l:List α} {fp:List Nat} (h:LR r V s l fp) {i:Nat} (hi:i<l.length) :
  ∃ b a c f,s.a=some ⟨b,a,none⟩∧(∀ (o n:Nat) l',cutv (Scs.vals sh c) o n=some l'→loadV V (((⟨b,a,none⟩:Addr).add (i*sh.length)).add o) n=some l')∧r.R V c l[i] f∧∀ b∈f,b∈fp:=by
 obtain⟨b,a,c,f,h1,h2,h3,h4⟩:=h.at hi
 refine⟨b,a,c,f,h1,fun o n l' hc=>?_,h3,h4⟩
 simp only [addr_add_eq,loadV] at h2 ⊢
 split at h2
 ·rename_i cs t hs hv
  unfold cutv at h2 hc ⊢
  split at h2
  ·rename_i hle
   split at hc
   ·rename_i hle2
    simp only [Option.some.injEq] at h2 hc
    rw [vals_len] at hle2
    rw [if_pos (by omega)]
    simp only [Option.some.injEq]
    rw [← hc,← h2,List.drop_take,List.take_take,List.drop_drop]
    congr 1
    omega
   ·cases hc
  ·cases h2
 ·cases h2
end
def rNil:Rp [] Unit where
 R _ _ _ fp:=fp=[]
 tot _:=0
 loc h _:=h
 kn h b hb:=by subst h; cases hb
def rInt {sh:List Sc} {α:Type} (r:Rp sh α):Rp (.i .i64 :: sh) (Int × α) where
 R V c x fp:=c.1=x.1∧r.R V c.2 x.2 fp
 tot x:=r.tot x.2
 loc h hb:=⟨h.1,r.loc h.2 hb⟩
 kn h:=r.kn h.2
def rBool {sh:List Sc} {α:Type} (r:Rp sh α):Rp (.b :: sh) (Bool × α) where
 R V c x fp:=c.1=x.1∧r.R V c.2 x.2 fp
 tot x:=r.tot x.2
 loc h hb:=⟨h.1,r.loc h.2 hb⟩
 kn h:=r.kn h.2
def rStr {sh:List Sc} {α:Type} (r:Rp sh α):Rp (.s :: sh) (ByteArray × α) where
 R V c x fp:=(c.1=x.1∧x.1.size≤9223372036854775807)∧r.R V c.2 x.2 fp
 tot x:=x.1.size+r.tot x.2
 loc h hb:=⟨h.1,r.loc h.2 hb⟩
 kn h:=r.kn h.2
def rSl {se sh:List Sc} {α β:Type} (e:Rp se α) (r:Rp sh β):Rp (.l :: sh) (List α × β) where
 R V c x fp:=∃ f g,fp=f++g∧LR e V c.1 x.1 f∧r.R V c.2 x.2 g
 tot x:=x.1.length+totE e x.1+r.tot x.2
 loc:=by
  rintro V V' c x fp ⟨f,g,rfl,h1,h2⟩ hb
  exact⟨f,g,rfl,h1.loc fun b hm=>hb b (by simp [hm]),r.loc h2 fun b hm=>hb b (by simp [hm])⟩
 kn:=by
  rintro V c x fp ⟨f,g,rfl,h1,h2⟩ b hb
  rcases List.mem_append.1 hb with hb | hb
  ·exact h1.kn b hb
  ·exact r.kn h2 b hb
def Wr (V:Know) (fp:List Nat):Prop:=∀ b∈fp,∃ c t,V b=some (c,(t,(0,0)))
theorem Wr.le {V V':Know} {fp:List Nat} (h:Wr V fp) (hle:V.le V'):Wr V' fp:=fun b hb=>by obtain⟨c,t,k⟩:=h b hb; exact⟨c,t,hle _ _ k⟩
def Own (V V':Know) (fp:List Nat):Prop:=fp.Nodup∧(∀ b∈fp,V b=none)∧Wr V' fp
theorem Own.nil {V V':Know}:Own V V' []:=⟨List.nodup_nil,(fun _ h=>by cases h),(fun _ h=>by cases h)⟩
theorem none_of_le {V V1:Know} (h:V.le V1) {b:Nat} (hb:V1 b=none):V b=none:=by
 cases hv:V b with
 | none=>rfl
 | some x=>rw [h b x hv] at hb; cases hb
theorem Own.append {V V1 V2:Know} {f g:List Nat} (hf:Own V V1 f) (hg:Own V1 V2 g) (h1:V.le V1) (h2:V1.le V2):Own V V2 (f++g):=by
 refine⟨List.nodup_append.2 ⟨hf.1,hg.1,fun a ha b hb e=>?_⟩,fun b hb=>?_,fun b hb=>?_⟩
 ·subst e
  obtain⟨c,t,k⟩:=hf.2.2 a ha
  rw [hg.2.1 a hb] at k; cases k
 ·rcases List.mem_append.1 hb with hb | hb
  ·exact hf.2.1 b hb
  ·exact none_of_le h1 (hg.2.1 b hb)
 ·rcases List.mem_append.1 hb with hb | hb
  ·exact hf.2.2.le h2 b hb
  ·exact hg.2.2 b hb
theorem Own.post {V V1 V2:Know} {f:List Nat} (hf:Own V V1 f) (h:V1.le V2):Own V V2 f:=⟨hf.1,hf.2.1,hf.2.2.le h⟩
theorem Own.pre {V V1 V2:Know} {f:List Nat} (hf:Own V1 V2 f) (h:V.le V1):Own V V2 f:=⟨hf.1,fun b hb=>none_of_le h (hf.2.1 b hb),hf.2.2⟩
def szr (t:Nat) (left:Int):Int:=if (t:Int)≤left then left-t else -1
theorem szr_add {t u:Nat} {left:Int} (h:(t:Int)≤left):szr (t+u) left=szr u (szr t left):=by
 unfold szr
 rw [if_pos h]
 by_cases h2:(u:Int)≤left-t
 ·rw [if_pos h2,if_pos (by omega)]; omega
 ·rw [if_neg h2,if_neg (by omega)]
theorem szr_neg {t u:Nat} {left:Int} (h:¬ (t:Int)≤left):szr (t+u) left=-1:=by
 unfold szr
 rw [if_neg (by omega)]
theorem szr_lt {t:Nat} {left:Int}:szr t left<0↔¬ (t:Int)≤left:=by
 unfold szr
 by_cases h:(t:Int)≤left
 ·rw [if_pos h]; omega
 ·rw [if_neg h]; omega
theorem szr_ge {t:Nat} {left:Int} (h:(t:Int)≤left):szr t left=left-t:=if_pos h
end Go.Proofs.YtfiakghfncempaaGreatDoor
namespace Go.Proofs.YtfiakghfncempaaGreatDoor
open Sx
section
variable {sh:List Sc} {α:Type}
def EqC (P:Program) (g:Nat) (e:Rp sh α):Prop:=∀ (V:Know) (c d:Scs sh) (x y:α) (f f':List Nat),e.R V c x f→e.R V d y f' →
 CallX P V g [Sh1.val (.g sh) c,Sh1.val (.g sh) d] (fun V' r=>V'=V∧∃ b,r=.bool b∧(b=true↔x=y))
def EqSC (P:Program) (g:Nat) (e:Rp sh α) (ex:List Value:=[]):Prop:=∀ (V:Know) (s s':SlV) (l l':List α) (f f':List Nat),LR e V s l f→LR e V s' l' f' →
 CallX P V g ([Sc.val .l s,Sc.val .l s']++ex) (fun V' r=>V'=V∧∃ b,r=.bool b∧(b=true↔l=l'))
def SzC (P:Program) (g:Nat) (e:Rp sh α):Prop:=∀ (V:Know) (c:Scs sh) (x:α) (f:List Nat) (left:Int),e.R V c x f→0≤left→left≤1048576 →
 CallX P V g [Sh1.val (.g sh) c,.int .i64 left] (fun V' r=>V'=V∧r=.int .i64 (szr (e.tot x) left))
def SzSC (P:Program) (g:Nat) (e:Rp sh α):Prop:=∀ (V:Know) (s:SlV) (l:List α) (f:List Nat) (left:Int),LR e V s l f→0≤left→left≤1048576 →
 CallX P V g [Sc.val .l s,.int .i64 left] (fun V' r=>V'=V∧r=.int .i64 (szr (l.length+totE e l) left))
def ToC (P:Program) (g:Nat) (e:Rp sh α):Prop:=∀ (V:Know) (c:Scs sh) (x:α) (f:List Nat),e.R V c x f→e.tot x≤1048576 →
 CallX P V g [Sh1.val (.g sh) c] (fun V' r=>V.le V'∧∃ c' f',r=Sh1.val (.g sh) c'∧e.R V' c' x f'∧Own V V' f')
def ToSC (P:Program) (g:Nat) (e:Rp sh α):Prop:=∀ (V:Know) (s:SlV) (l:List α) (f:List Nat),LR e V s l f→l.length+totE e l≤1048576 →
 CallX P V g [Sc.val .l s] (fun V' r=>V.le V'∧∃ s' f',r=Sc.val .l s'∧LR e V' s' l f'∧Own V V' f')
end
def tEq (n n':Nat) (body:LShs [.o (.o (.i .i64))]→T):T :=
 .br ((n:Int) != (n':Int)) (.ret [.bool false]) <|
 .lp [.o (.o (.i .i64))] [.v (.int .i64 (0:Int))] fun y =>
 .br (decide (y.fst<(n:Int))) (body y) <|
 .ret [.bool true]
theorem nxt {i n:Nat} (h:i<n) (hn:n≤9223372036854775807):IntKind.i64.wrap ((i:Int)+1)=((i+1:Nat):Int):=by
 rw [wrap_i64 (by omega)]; omega
theorem tEq_wp {α:Type} {P:Program} {body:LShs [.o (.o (.i .i64))]→T} {V V0:Know} {l l':List α} {n n':Nat} (hn:n=l.length) (hn':n'=l'.length) (hsz:n≤9223372036854775807)
  (hbody:∀ (i:Nat) (h:i<l.length) (h':i<l'.length) (K:Know→List Value→Prop) (N:List LV→Know→Prop),(l[i]≠l'[i]→K V [.bool false]) →
   (l[i]=l'[i]→N [.v (.int .i64 (IntKind.i64.wrap ((i:Int)+1)))] V)→(body ((i:Int),())).wp P K V V [N]) :
  (tEq n n' body).wp P (fun V' vs=>V'=V∧∃ b,packed vs=.bool b∧(b=true↔l=l')) V V0 []:=by
 subst hn hn'
 simp only [tEq,T.wp]
 refine⟨fun h=>⟨trivial,false,rfl,?_⟩,fun h=>?_⟩
 ·refine⟨(fun h=>by cases h),(fun e=>?_)⟩
  subst e
  simp at h
 have hlen:l.length=l'.length:=by
  have:¬ (((l.length:Nat):Int)≠((l'.length:Nat):Int)):=by simpa using h
  omega
 refine⟨fun y V'=>V'=V∧∃ i:Nat,y.1=(i:Int)∧i≤l.length∧l.take i=l'.take i,fun y=>((l.length:Int)-(y.1:Int)).toNat,⟨((0:Int),()),rfl,rfl,0,rfl,by omega,by simp⟩,?_⟩
 rintro⟨(i:Int),u⟩ V' ⟨rfl,k,hk,hle,heq⟩
 replace hk:i=(k:Int):=hk
 subst hk
 refine⟨fun h=>?_,fun h=>?_⟩
 ·have h1:k<l.length:=by
   have:(k:Int)<(l.length:Int):=by simpa using h
   omega
  refine hbody k h1 (by omega) _ _ (fun hne=>⟨rfl,false,rfl,⟨(fun h=>by cases h),(fun e=>(hne (by subst e; rfl)).elim)⟩⟩) fun he=>?_
  refine⟨(((k+1:Nat):Int),()),by rw [nxt h1 hsz]; rfl,⟨rfl,k+1,rfl,h1,?_⟩,?_⟩
  ·rw [List.take_succ_eq_append_getElem h1,List.take_succ_eq_append_getElem (by omega),heq,he]
  ·show((l.length:Int)-((k+1:Nat):Int)).toNat<((l.length:Int)-(k:Int)).toNat
   omega
 ·have h1:k=l.length:=by
   have:¬ (k:Int)<(l.length:Int):=by simpa using h
   omega
  subst h1
  refine⟨rfl,true,rfl,fun _=>?_,fun _=>rfl⟩
  rw [List.take_length] at heq
  rw [heq,hlen,List.take_length]
section
variable {sh:List Sc} {α:Type} {P:Program} {e:Rp sh α} {V V0:Know} {s s':SlV} {l l':List α} {f f':List Nat}
def tEqS (g:Nat) (sh:List Sc) (m:Nat) (x0 x1:SlV):T:=tEq x0.n x1.n fun y1 =>
 .rg <| .el x0.a x0.n y1.fst fun y2=>.ld true (y2.add (Int.toNat y1.fst*m)) (.g sh) fun y3 =>
 .el x1.a x1.n y1.fst fun y4=>.ld true (y4.add (Int.toNat y1.fst*m)) (.g sh) fun y5 =>
 .call false g [Sh1.val (.g sh) y3,Sh1.val (.g sh) y5] (.v (.o .b)) fun y6 =>
 .br (!y6) (.ret [.bool false]) <| .nx 0 [.v (.int .i64 (IntKind.i64.wrap (y1.fst+(1:Int))))]
def tEqI (x0 x1:SlV):T:=tEq x0.n x1.n fun y1 =>
 .rg <| .el x0.a x0.n y1.fst fun y2=>.ld true (y2.add (Int.toNat y1.fst*(1:Nat))) (.o (.i .i64)) fun y3 =>
 .el x1.a x1.n y1.fst fun y4=>.ld true (y4.add (Int.toNat y1.fst*(1:Nat))) (.o (.i .i64)) fun y5 =>
 .br (y3 != y5) (.ret [.bool false]) <| .nx 0 [.v (.int .i64 (IntKind.i64.wrap (y1.fst+(1:Int))))]
theorem tEqS_wp {g m:Nat} (hm:m=sh.length) (hg:EqC P g e) (h:LR e V s l f) (h':LR e V s' l' f') :
  (tEqS g sh m s s').wp P (fun V' vs=>V'=V∧∃ b,packed vs=.bool b∧(b=true↔l=l')) V V0 []:=by
 subst hm
 refine tEq_wp h.1 h'.1 (h.2.2.1) fun i hi hi' K N hK hN=>?_
 obtain⟨b1,o1,c1,f1,a1,l1,r1,_⟩:=h.at hi
 obtain⟨b2,o2,c2,f2,a2,l2,r2,_⟩:=h'.at hi'
 have hn1:=h.1
 have hn2:=h'.1
 refine⟨_,a1,by omega,(by omega:(i:Int)<(s.n:Int)),c1,l1,_,a2,by omega,(by omega:(i:Int)<(s'.n:Int)),c2,l2,(hg V _ _ _ _ _ _ r1 r2).mono ?_⟩
 rintro V' r ⟨rfl,b,rfl,hb⟩
 refine⟨fun _=>Know.le.refl _,b,rfl,fun h=>hK fun e=>?_,fun h=>⟨_,rfl,hN (hb.1 ?_)⟩⟩
 ·rw [hb.2 e] at h; cases h
 ·cases b
  ·cases h
  ·rfl
end
abbrev rI:Rp [.i .i64] (Int × Unit):=rInt rNil
theorem LR.int {V:Know} {s:SlV} {l:List (Int × Unit)} {f:List Nat} (h:LR rI V s l f) {i:Nat} (hi:i<l.length) :
  ∃ b o,s.a=some ⟨b,o,none⟩∧loadV V ((⟨b,o,none⟩:Addr).add (i*1)) 1=some [.int .i64 l[i].1]:=by
 obtain⟨b1,o1,c1,f1,a1,l1,r1,_⟩:=h.at hi
 refine⟨b1,o1,a1,?_⟩
 have e:c1.1=l[i].1:=r1.1
 rw [← e]; exact l1
theorem tEqI_wp {P:Program} {V V0:Know} {s s':SlV} {l l':List (Int × Unit)} {f f':List Nat} (h:LR rI V s l f) (h':LR rI V s' l' f') :
  (tEqI s s').wp P (fun V' vs=>V'=V∧∃ b,packed vs=.bool b∧(b=true↔l=l')) V V0 []:=by
 refine tEq_wp h.1 h'.1 (h.2.2.1) fun i hi hi' K N hK hN=>?_
 obtain⟨b1,o1,a1,l1⟩:=h.int hi
 obtain⟨b2,o2,a2,l2⟩:=h'.int hi'
 have hn1:=h.1
 have hn2:=h'.1
 refine⟨_,a1,by omega,(by omega:(i:Int)<(s.n:Int)),l[i].1,l1,_,a2,by omega,(by omega:(i:Int)<(s'.n:Int)),l'[i].1,l2,fun h=>hK fun e=>?_,fun h=>⟨_,rfl,hN ?_⟩⟩
 ·rw [e] at h; simp at h
 ·have:l[i].1=l'[i].1:=by simpa using h
  exact Prod.ext this rfl
def tSzS (g:Nat) (sh:List Sc) (m:Nat) (x0:SlV) (x1:Int):T :=
 .br (decide (IntKind.i64.wrap (x1-(x0.n:Int))<(0:Int))) (.ret [.int .i64 (-1:Int)]) <|
 .lp [.o (.o (.i .i64)),.o (.o (.i .i64))] [.v (.int .i64 (IntKind.i64.wrap (x1-(x0.n:Int)))),.v (.int .i64 (0:Int))] fun y1 =>
 .br (decide (y1.2.fst<(x0.n:Int))) (
  .el x0.a x0.n y1.2.fst fun y2 =>
  .ld false (y2.add (Int.toNat y1.2.fst*m)) (.g sh) fun y3 =>
  .call false g [Sh1.val (.g sh) y3,.int .i64 y1.fst] (.v (.o (.i .i64))) fun y4 =>
  .br (decide (y4<(0:Int))) (.ret [.int .i64 (-1:Int)]) <|
  .nx 0 [.v (.int .i64 y4),.v (.int .i64 (IntKind.i64.wrap (y1.2.fst+(1:Int))))]) <|
 .ret [.int .i64 y1.fst]
theorem totE_drop {sh:List Sc} {α:Type} (e:Rp sh α) {l:List α} {i:Nat} (h:i<l.length):totE e (l.drop i)=e.tot l[i]+totE e (l.drop (i+1)):=by
 rw [List.drop_eq_getElem_cons h]; rfl
theorem tSzS_wp {sh:List Sc} {α:Type} {P:Program} {e:Rp sh α} {V V0:Know} {s:SlV} {l:List α} {f:List Nat} {g m:Nat} {left:Int} (hm:m=sh.length) (hg:SzC P g e) (h:LR e V s l f) (h0:0≤left) (h1:left≤1048576) :
  (tSzS g sh m s left).wp P (fun V' vs=>V'=V∧packed vs=.int .i64 (szr (l.length+totE e l) left)) V V0 []:=by
 subst hm
 have hn:=h.1
 have hb:=h.2.2.1
 have hw:IntKind.i64.wrap (left-(s.n:Int))=left-(l.length:Int):=by rw [wrap_i64 (by omega),hn]
 simp only [tSzS,T.wp]
 rw [hw]
 refine⟨fun hlt=>⟨trivial,?_⟩,fun hge=>?_⟩
 ·have:left-(l.length:Int)<0:=by simpa using hlt
  rw [szr_neg (by omega)]; rfl
 have hle:(l.length:Int)≤left:=by
  have:¬ left-(l.length:Int)<0:=by simpa using hge
  omega
 refine⟨fun y V'=>V'=V∧∃ i:Nat,y.2.1=(i:Int)∧i≤l.length∧0≤(y.1:Int)∧(y.1:Int)≤1048576∧szr (totE e (l.drop i)) y.1=szr (l.length+totE e l) left,
  fun y=>((l.length:Int)-(y.2.1:Int)).toNat,⟨(left-(l.length:Int),(0:Int),()),rfl,rfl,0,rfl,by omega,(by omega:(0:Int)≤left-(l.length:Int)),(by omega:left-(l.length:Int)≤1048576),?_⟩,?_⟩
 ·rw [szr_add hle,szr_ge hle]; rfl
 rintro⟨(k:Int),(i:Int),u⟩ V' ⟨rfl,j,hj,hjl,hk0,hk1,hs⟩
 replace hj:i=(j:Int):=hj
 replace hk0:0≤k:=hk0
 replace hk1:k≤1048576:=hk1
 replace hs:szr (totE e (l.drop j)) k=szr (l.length+totE e l) left:=hs
 subst hj
 refine⟨fun hlt=>?_,fun hge=>?_⟩
 ·have hi:j<l.length:=by
   have:(j:Int)<(s.n:Int):=by simpa using hlt
   omega
  obtain⟨b1,o1,c1,f1,a1,l1,r1,_⟩:=h.at hi
  refine⟨_,a1,(by omega:(0:Int)≤(j:Int)),(by omega:(j:Int)<(s.n:Int)),c1,l1,(hg _ _ _ _ k r1 hk0 hk1).mono ?_⟩
  rintro V' r ⟨rfl,rfl⟩
  rw [totE_drop e hi] at hs
  refine⟨nofun,szr (e.tot l[j]) k,rfl,fun hneg=>⟨rfl,?_⟩,fun hpos=>?_⟩
  ·have:szr (e.tot l[j]) k<0:=by simpa using hneg
   rw [← hs,szr_neg (szr_lt.1 this)]; rfl
  ·have hp:(e.tot l[j]:Int)≤k:=by
    have:¬ szr (e.tot l[j]) k<0:=by simpa using hpos
    exact Decidable.not_not.1 fun h=>this (szr_lt.2 h)
   have hsz:=szr_ge hp
   refine⟨_,rfl,(szr (e.tot l[j]) k,((j+1:Nat):Int),()),by rw [nxt hi (by omega)]; rfl,⟨rfl,j+1,rfl,hi,?_,?_,?_⟩,?_⟩
   ·show 0≤szr (e.tot l[j]) k
    omega
   ·show szr (e.tot l[j]) k≤1048576
    omega
   ·show szr (totE e (l.drop (j+1))) (szr (e.tot l[j]) k)=_
    rw [← szr_add hp]; exact hs
   ·show((l.length:Int)-((j+1:Nat):Int)).toNat<((l.length:Int)-(j:Int)).toNat
    omega
 ·have hi:j=l.length:=by
   have:¬ (j:Int)<(s.n:Int):=by simpa using hge
   omega
  subst hi
  refine⟨rfl,?_⟩
  rw [List.drop_length] at hs
  rw [← hs]
  have:szr 0 k=k:=by unfold szr; rw [if_pos (by omega)]; omega
  show Value.int .i64 k=Value.int .i64 (szr 0 k)
  rw [this]
def tToS (ty:TypeId) (bytes:Nat) (z:List Value) (g:Nat) (sh:List Sc) (m:Nat) (x0:SlV):T :=
 .rq ((0:Int)≤(x0.n:Int)∧(x0.n:Int)≤(x0.n:Int)∧((bytes:Nat):Int)*(x0.n:Int)≤(281474976710656:Int)∧(x0.n:Int)≤(9223372036854775807:Int)) <|
 .lp [.a ty,.o (.o (.i .i64))] [.a ty ((x0.n:Int).toNat) ((madeCells ⟨z⟩ ((x0.n:Int).toNat*m)).toList),.v (.int .i64 (0:Int))] fun y1 =>
 .br (decide (y1.2.fst<(x0.n:Int))) (
  .el x0.a x0.n y1.2.fst fun y2 =>
  .ld false (y2.add (Int.toNat y1.2.fst*m)) (.g sh) fun y3 =>
  .call false g [Sh1.val (.g sh) y3] (.v (.g sh)) fun y4 =>
  .rq ((0:Int)≤y1.2.fst∧y1.2.fst<(y1.1.fst:Int)) <|
  .rq (Int.toNat y1.2.fst*m+(Scs.vals sh y4).length≤y1.1.snd.length) <|
  .nx 0 [.a ty y1.1.fst (setl y1.1.snd (Int.toNat y1.2.fst*m) (Scs.vals sh y4)),.v (.int .i64 (IntKind.i64.wrap (y1.2.fst+(1:Int))))]) <|
 .fz y1.1.fst y1.1.snd ty fun b2 c2 =>
 .ret [.slice (some { block:=b2,off:=0:Addr }) y1.1.fst c2]
def tToI (ty:TypeId) (x0:SlV):T :=
 .rq ((0:Int)≤(x0.n:Int)∧(x0.n:Int)≤(x0.n:Int)∧((8:Nat):Int)*(x0.n:Int)≤(281474976710656:Int)∧(x0.n:Int)≤(9223372036854775807:Int)) <|
 .lp [.a ty,.o (.o (.i .i64))] [.a ty ((x0.n:Int).toNat) ((madeCells ⟨[.int .i64 (0:Int)]⟩ ((x0.n:Int).toNat*(1:Nat))).toList),.v (.int .i64 (0:Int))] fun y1 =>
 .br (decide (y1.2.fst<(x0.n:Int))) (
  .el x0.a x0.n y1.2.fst fun y2 =>
  .ld false (y2.add (Int.toNat y1.2.fst*(1:Nat))) (.o (.i .i64)) fun y3 =>
  .rq ((0:Int)≤y1.2.fst∧y1.2.fst<(y1.1.fst:Int)) <|
  .rq (Int.toNat y1.2.fst*(1:Nat)+[(Sh1.o (.i .i64)).val y3].length≤y1.1.snd.length) <|
  .nx 0 [.a ty y1.1.fst (setl y1.1.snd (Int.toNat y1.2.fst*(1:Nat)) [(Sh1.o (.i .i64)).val y3]),.v (.int .i64 (IntKind.i64.wrap (y1.2.fst+(1:Int))))]) <|
 .fz y1.1.fst y1.1.snd ty fun b2 c2 =>
 .ret [.slice (some { block:=b2,off:=0:Addr }) y1.1.fst c2]
theorem made_len (z:Array Value) (n:Nat):(madeCells z n).toList.length=n:=by
 unfold madeCells
 simp
theorem setl_mid {x y z:List Value} {n:Nat} (h:n=x.length) (_:z.length≤y.length):setl (x++y) n z=x++(z++y.drop z.length):=by
 subst h
 simp only [setl]
 rw [List.take_left,← List.drop_drop,List.drop_left,List.append_assoc]
theorem flat_len {sh:List Sc}:∀ cs:List (Scs sh),(cs.flatMap (Scs.vals sh)).length=cs.length*sh.length
 | []=>by simp
 | c :: cs=>by rw [List.flatMap_cons,List.length_append,vals_len,flat_len cs,List.length_cons,Nat.add_mul,Nat.one_mul,Nat.add_comm]
theorem toLoop {sh:List Sc} {α:Type} {P:Program} {e:Rp sh α} {V V0:Know} {n:Nat} {l:List α} {ty:TypeId} {z:Array Value} {body:LShs [.a ty,.o (.o (.i .i64))]→T}
  (hn:n=l.length) (hsz:n≤9223372036854775807)
  (hbody:∀ (V':Know) (i:Nat) (hi:i<l.length) (ys:List Value) (K:Know→List Value→Prop) (N:List LV→Know→Prop),V.le V'→i*sh.length+sh.length≤ys.length →
   (∀ V2 c f,V'.le V2→e.R V2 c l[i] f→Own V' V2 f→N [.a ty n (setl ys (i*sh.length) (Scs.vals sh c)),.v (.int .i64 (IntKind.i64.wrap ((i:Int)+1)))] V2)→(body ((n,ys),(i:Int),())).wp P K V' V' [N]) :
  (T.lp [.a ty,.o (.o (.i .i64))] [.a ty n ((madeCells z (n*sh.length)).toList),.v (.int .i64 (0:Int))] fun y1 =>
   .br (decide (y1.2.fst<(n:Int))) (body y1) <| .fz y1.1.fst y1.1.snd ty fun b2 c2=>.ret [.slice (some { block:=b2,off:=0:Addr }) y1.1.fst c2]).wp P
   (fun V' vs=>V.le V'∧∃ s' f',packed vs=Sc.val .l s'∧LR e V' s' l f'∧Own V V' f') V V0 []:=by
 subst hn
 simp only [T.wp]
 refine⟨fun y V'=>V.le V'∧∃ (i:Nat) (cs:List (Scs sh)) (fps:List Nat) (rest:List Value),y.2.1=(i:Int)∧i≤l.length∧y.1.1=l.length∧y.1.2=cs.flatMap (Scs.vals sh)++rest∧rest.length=(l.length-i)*sh.length ∧
   Els e V' cs (l.take i) fps∧Own V V' fps,fun y=>((l.length:Int)-(y.2.1:Int)).toNat,
  ⟨((l.length,(madeCells z (l.length*sh.length)).toList),(0:Int),()),rfl,Know.le.refl _,0,[],[],_,rfl,by omega,rfl,rfl,by rw [made_len]; simp,by simp [Els],Own.nil⟩,?_⟩
 rintro⟨⟨n1,ys⟩,(i:Int),u⟩ V' ⟨hle,j,cs,fps,rest,hj,hjl,hn1,hys,hrest,hels,hown⟩
 replace hj:i=(j:Int):=hj
 replace hn1:n1=l.length:=hn1
 replace hys:ys=cs.flatMap (Scs.vals sh)++rest:=hys
 subst hj hn1
 have hcl:cs.length=j:=by rw [hels.len]; simp; omega
 have hfl:(cs.flatMap (Scs.vals sh)).length=j*sh.length:=by
  rw [← hcl]
  exact flat_len cs
 refine⟨fun hlt=>?_,fun hge=>?_⟩
 ·have hi:j<l.length:=by
   have:(j:Int)<(l.length:Int):=by simpa using hlt
   omega
  have hr1:sh.length≤rest.length:=by
   rw [hrest]
   exact Nat.le_mul_of_pos_left _ (by omega)
  refine hbody V' j hi ys _ _ hle (by rw [hys]; simp only [List.length_append]; omega) fun V2 c fc hle2 hR hO=>?_
  refine⟨((l.length,setl ys (j*sh.length) (Scs.vals sh c)),((j+1:Nat):Int),()),by rw [nxt hi hsz]; rfl,⟨hle.trans hle2,j+1,cs++[c],fps++fc,rest.drop sh.length,rfl,hi,rfl,?_,?_,?_,hown.append hO hle hle2⟩,?_⟩
  ·show setl ys (j*sh.length) (Scs.vals sh c)=_
   rw [hys,setl_mid hfl.symm (by rw [vals_len]; exact hr1),vals_len]
   simp
  ·rw [List.length_drop,hrest,← Nat.sub_one_mul]
   congr 1
  ·rw [List.take_succ_eq_append_getElem hi]
   exact(hels.le hle2).snoc hR
  ·show((l.length:Int)-((j+1:Nat):Int)).toNat<((l.length:Int)-(j:Int)).toNat
   omega
 ·have hi:j=l.length:=by
   have:¬ (j:Int)<(l.length:Int):=by simpa using hge
   omega
  subst hi
  have hr0:rest=[]:=List.eq_nil_of_length_eq_zero (by rw [hrest,Nat.sub_self,Nat.zero_mul])
  subst hr0
  rw [List.take_length] at hels
  intro b cap spare hb hcap _
  have hV:=kset_le (x:=(ys++spare,(ty,(0,0)))) hb
  refine⟨hle.trans hV,⟨some ⟨b,0,none⟩,l.length,cap⟩,b :: fps,rfl,⟨rfl,hcap,hsz,.inr ⟨b,[],spare,(ty,(0,0)),fps,cs,rfl,?_,hels.le hV,rfl⟩⟩,?_,?_,?_⟩
  ·rw [kset_same,hys]; simp
  ·refine List.nodup_cons.2 ⟨fun hm=>?_,hown.1⟩
   obtain⟨c,t,hk⟩:=hown.2.2 b hm
   rw [hb] at hk; cases hk
  ·intro b' hb'
   rcases List.mem_cons.1 hb' with rfl | hb'
   ·exact none_of_le hle hb
   ·exact hown.2.1 b' hb'
  ·intro b' hb'
   rcases List.mem_cons.1 hb' with rfl | hb'
   ·exact⟨_,_,kset_same⟩
   ·exact hown.2.2.le hV b' hb'
theorem guard_ok {n bytes:Nat} (h:n≤1048576) (hb:bytes≤4096):(0:Int)≤(n:Int)∧(n:Int)≤(n:Int)∧((bytes:Nat):Int)*(n:Int)≤(281474976710656:Int)∧(n:Int)≤(9223372036854775807:Int):=by
 have h1:bytes*n≤4096*1048576:=Nat.mul_le_mul hb h
 have h2:((bytes:Nat):Int)*(n:Int)=((bytes*n:Nat):Int):=by rw [Int.natCast_mul]
 rw [h2]
 omega
theorem totE_mem {sh:List Sc} {α:Type} (e:Rp sh α) {l:List α} {i:Nat} (h:i<l.length):e.tot l[i]≤totE e l:=by
 induction l generalizing i with
 | nil=>simp at h
 | cons a l ih =>
  cases i with
  | zero=>simp [totE]
  | succ i =>
   have:=ih (i:=i) (by simpa using h)
   simp only [List.getElem_cons_succ,totE]
   omega
theorem tToS_wp {sh:List Sc} {α:Type} {P:Program} {e:Rp sh α} {V V0:Know} {s:SlV} {l:List α} {f:List Nat} {g m bytes:Nat} {ty:TypeId} {z:List Value} (hm:m=sh.length) (hby:bytes≤4096) (hg:ToC P g e) (h:LR e V s l f) (ht:l.length+totE e l≤1048576) :
  (tToS ty bytes z g sh m s).wp P (fun V' vs=>V.le V'∧∃ s' f',packed vs=Sc.val .l s'∧LR e V' s' l f'∧Own V V' f') V V0 []:=by
 subst hm
 have hn:=h.1
 unfold tToS
 refine⟨guard_ok (by omega) hby,?_⟩
 refine toLoop (e:=e) hn h.2.2.1 fun V' i hi ys K N hle hfit hN=>?_
 obtain⟨b1,o1,c1,f1,a1,l1,r1,_⟩:=(h.le hle).at hi
 have htx:=totE_mem e hi
 refine⟨_,a1,(by omega:(0:Int)≤(i:Int)),(by omega:(i:Int)<(s.n:Int)),c1,l1,(hg V' c1 l[i] f1 r1 (by omega)).mono ?_⟩
 rintro V2 r ⟨hle2,c',f',rfl,hR,hO⟩
 refine⟨nofun,c',rfl,⟨(by omega:(0:Int)≤(i:Int)),(by omega:(i:Int)<(s.n:Int))⟩,?_,_,rfl,hN V2 c' f' hle2 hR hO⟩
 rw [vals_len]
 exact hfit
theorem tToI_wp {P:Program} {V V0:Know} {s:SlV} {l:List (Int × Unit)} {f:List Nat} {ty:TypeId} (h:LR rI V s l f) (ht:l.length+totE rI l≤1048576) :
  (tToI ty s).wp P (fun V' vs=>V.le V'∧∃ s' f',packed vs=Sc.val .l s'∧LR rI V' s' l f'∧Own V V' f') V V0 []:=by
 have hn:=h.1
 unfold tToI
 refine⟨guard_ok (by omega) (by omega),?_⟩
 refine toLoop (e:=rI) hn h.2.2.1 fun V' i hi ys K N hle hfit hN=>?_
 obtain⟨b1,o1,a1,l1⟩:=(h.le hle).int hi
 refine⟨_,a1,(by omega:(0:Int)≤(i:Int)),(by omega:(i:Int)<(s.n:Int)),l[i].1,l1,⟨(by omega:(0:Int)≤(i:Int)),(by omega:(i:Int)<(s.n:Int))⟩,hfit,_,rfl,?_⟩
 exact hN V' (l[i].1,()) [] (Know.le.refl _) ⟨rfl,rfl⟩ Own.nil
end Go.Proofs.YtfiakghfncempaaGreatDoor
namespace Go.Proofs.YtfiakghfncempaaGreatDoor
open Sx
abbrev Lim:=Int × Unit
def limb (l:List Lim) (i:Nat):Int:=(l.getD i (0,())).1
def valTo (l:List Lim):Nat→Int
 | 0=>0
 | i+1=>valTo l i+limb l i*1000000000 ^ i
def valN (l:List Lim):Int:=valTo l l.length
def Lims (l:List Lim):Prop:=∀ i,0≤limb l i∧limb l i<1000000000
def Can (l:List Lim):Prop:=Lims l∧(l.length=0∨limb l (l.length-1)≠0)
theorem limb_lt {l:List Lim} {i:Nat} (h:i<l.length):limb l i=l[i].1:=by simp [limb,h]
theorem limb_ge {l:List Lim} {i:Nat} (h:l.length≤i):limb l i=0:=by simp [limb,List.getD_eq_getElem?_getD,List.getElem?_eq_none h]
theorem pw_succ (i:Nat):(1000000000:Int) ^ (i+1)=1000000000*1000000000 ^ i:=by rw [Int.pow_succ,Int.mul_comm]
theorem pw_pos:∀ i:Nat,(0:Int)<1000000000 ^ i
 | 0=>by decide
 | i+1=>by rw [pw_succ]; have:=pw_pos i; omega
theorem valTo_ge {l:List Lim} {i:Nat} (h:l.length≤i):valTo l i=valN l:=by
 induction i with
 | zero =>
  have:l.length=0:=by omega
  rw [valN,this]
 | succ i ih =>
  by_cases e:l.length=i+1
  ·rw [valN,e]
  ·rw [valTo,limb_ge (by omega),ih (by omega)]; simp
theorem mul_pw_nonneg {x:Int} (h:0≤x) (i:Nat):0≤x*1000000000 ^ i:=Int.mul_nonneg h (Int.le_of_lt (pw_pos i))
theorem mul_pw_le {x y:Int} (h:x≤y) (i:Nat):x*1000000000 ^ i≤y*1000000000 ^ i:=Int.mul_le_mul_of_nonneg_right h (Int.le_of_lt (pw_pos i))
theorem valTo_bd {l:List Lim} (h:Lims l):∀ i,0≤valTo l i∧valTo l i<1000000000 ^ i
 | 0=>by simp [valTo]
 | i+1=>by
  have ih:=valTo_bd h i
  have hl:=h i
  have h1:=mul_pw_nonneg hl.1 i
  have h2:=mul_pw_le (show limb l i≤999999999 by omega) i
  rw [valTo,pw_succ]
  constructor
  ·omega
  ·omega
theorem valN_nonneg {l:List Lim} (h:Lims l):0≤valN l:=(valTo_bd h _).1
def cmpAt (l l':List Lim):Nat→Int
 | 0=>0
 | n+1=>if limb l n<limb l' n then -1 else if limb l n > limb l' n then 1 else cmpAt l l' n
def cmpL (l l':List Lim):Int:=if l.length≠l'.length then (if l.length<l'.length then -1 else 1) else cmpAt l l' l.length
def Cmps (c:Int) (x y:Int):Prop:=(c=-1∧x<y)∨(c=0∧x=y)∨(c=1∧y<x)
theorem cmpAt_val {l l':List Lim} (h:Lims l) (h':Lims l'):∀ n,Cmps (cmpAt l l' n) (valTo l n) (valTo l' n)
 | 0=>.inr (.inl ⟨rfl,rfl⟩)
 | n+1=>by
  have ih:=cmpAt_val h h' n
  have b1:=valTo_bd h n
  have b2:=valTo_bd h' n
  unfold cmpAt valTo
  by_cases c1:limb l n<limb l' n
  ·rw [if_pos c1]
   have:=mul_pw_le (show limb l n+1≤limb l' n by omega) n
   rw [Int.add_mul,Int.one_mul] at this
   exact .inl ⟨rfl,by omega⟩
  ·rw [if_neg c1]
   by_cases c2:limb l n > limb l' n
   ·rw [if_pos c2]
    have:=mul_pw_le (show limb l' n+1≤limb l n by omega) n
    rw [Int.add_mul,Int.one_mul] at this
    exact .inr (.inr ⟨rfl,by omega⟩)
   ·rw [if_neg c2]
    have e:limb l n=limb l' n:=by omega
    rw [e]
    rcases ih with ⟨i1,i2⟩ | ⟨i1,i2⟩ | ⟨i1,i2⟩
    ·exact .inl ⟨i1,by omega⟩
    ·exact .inr (.inl ⟨i1,by omega⟩)
    ·exact .inr (.inr ⟨i1,by omega⟩)
theorem pw_mono {i j:Nat} (h:i≤j):(1000000000:Int) ^ i≤1000000000 ^ j:=by
 induction j with
 | zero =>
  have:i=0:=by omega
  subst this; exact Int.le_refl _
 | succ j ih =>
  by_cases e:i=j+1
  ·subst e; exact Int.le_refl _
  ·have:=ih (by omega)
   have:=pw_pos j
   rw [pw_succ]; omega
theorem can_ge {l:List Lim} (h:Can l) (hp:0<l.length):(1000000000:Int) ^ (l.length-1)≤valN l:=by
 obtain⟨k,hk⟩:∃ k,l.length=k+1:=⟨l.length-1,by omega⟩
 have h1:=h.1 k
 have h2:limb l k≠0:=by
  rcases h.2 with h | h
  ·omega
  ·rw [hk] at h; simpa using h
 have h3:=(valTo_bd h.1 k).1
 have h4:=mul_pw_le (show 1≤limb l k by omega) k
 rw [valN,hk,valTo]
 simp only [Nat.add_sub_cancel]
 omega
theorem cmpL_val {l l':List Lim} (h:Can l) (h':Can l'):Cmps (cmpL l l') (valN l) (valN l'):=by
 unfold cmpL
 by_cases e:l.length=l'.length
 ·rw [if_neg (by simpa using e)]
  have:=cmpAt_val h.1 h'.1 l.length
  unfold valN
  rw [← e]; exact this
 ·rw [if_pos e]
  by_cases c:l.length<l'.length
  ·rw [if_pos c]
   have h1:=can_ge h' (by omega)
   have h2:=(valTo_bd h.1 l.length).2
   have h3:=pw_mono (show l.length≤l'.length-1 by omega)
   exact .inl ⟨rfl,by unfold valN at h1 ⊢; omega⟩
  ·rw [if_neg c]
   have h1:=can_ge h (by omega)
   have h2:=(valTo_bd h'.1 l'.length).2
   have h3:=pw_mono (show l'.length≤l.length-1 by omega)
   exact .inr (.inr ⟨rfl,by unfold valN at h1 ⊢; omega⟩)
theorem can_empty {l:List Lim} (h:Can l):l.length=0↔valN l=0:=by
 constructor
 ·intro e; rw [valN,e]; rfl
 ·intro e
  cases hl:l.length with
  | zero=>rfl
  | succ k =>
   have:=can_ge h (by omega)
   have:=pw_pos (l.length-1)
   omega
def tl (l:List Lim):Nat→Nat
 | 0=>0
 | n+1=>if limb l n=0 then tl l n else n+1
def trimL (l:List Lim):List Lim:=l.take (tl l l.length)
theorem tl_le (l:List Lim):∀ n,tl l n≤n
 | 0=>Nat.le_refl _
 | n+1=>by
  have:=tl_le l n
  unfold tl
  split <;> omega
theorem valTo_tl (l:List Lim):∀ n,valTo l (tl l n)=valTo l n
 | 0=>rfl
 | n+1=>by
  unfold tl
  by_cases h:limb l n=0
  ·rw [if_pos h,valTo_tl l n,valTo,h]; simp
  ·rw [if_neg h]
theorem tl_top (l:List Lim):∀ n,tl l n=0∨limb l (tl l n-1)≠0
 | 0=>.inl rfl
 | n+1=>by
  unfold tl
  by_cases h:limb l n=0
  ·rw [if_pos h]; exact tl_top l n
  ·rw [if_neg h]; exact .inr h
theorem limb_take {l:List Lim} {n i:Nat} (h:i<n):limb (l.take n) i=limb l i:=by
 simp [limb,List.getD_eq_getElem?_getD,h]
theorem valTo_take {l:List Lim} {n:Nat}:∀ {i:Nat},i≤n→valTo (l.take n) i=valTo l i
 | 0,_=>rfl
 | i+1,h=>by rw [valTo,valTo,valTo_take (by omega),limb_take (by omega)]
theorem lims_take {l:List Lim} (h:Lims l) (n:Nat):Lims (l.take n):=by
 intro i
 by_cases hi:i<n
 ·rw [limb_take hi]; exact h i
 ·rw [limb_ge (by simp; omega)]; omega
theorem trim_can {l:List Lim} (h:Lims l):Can (trimL l)∧valN (trimL l)=valN l:=by
 have hle:=tl_le l l.length
 have hlen:(trimL l).length=tl l l.length:=by simp [trimL]; omega
 refine⟨⟨lims_take h _,?_⟩,?_⟩
 ·rw [hlen]
  rcases tl_top l l.length with h1 | h1
  ·exact .inl h1
  ·by_cases h0:tl l l.length=0
   ·exact .inl h0
   ·right
    unfold trimL
    rw [limb_take (by omega)]; exact h1
 ·unfold valN
  rw [hlen]
  unfold trimL
  rw [valTo_take (Nat.le_refl _),valTo_tl]
theorem limb_snoc_lt {l:List Lim} {x:Lim} {i:Nat} (h:i<l.length):limb (l++[x]) i=limb l i:=by
 simp [limb,List.getD_eq_getElem?_getD,List.getElem?_append_left h]
theorem limb_snoc {l:List Lim} {x:Lim}:limb (l++[x]) l.length=x.1:=by simp [limb]
theorem valTo_snoc {l:List Lim} {x:Lim}:∀ {i:Nat},i≤l.length→valTo (l++[x]) i=valTo l i
 | 0,_=>rfl
 | i+1,h=>by rw [valTo,valTo,valTo_snoc (by omega),limb_snoc_lt (by omega)]
theorem lims_snoc {l:List Lim} {x:Lim} (h:Lims l) (hx:0≤x.1∧x.1<1000000000):Lims (l++[x]):=by
 intro i
 by_cases h1:i<l.length
 ·rw [limb_snoc_lt h1]; exact h i
 ·by_cases h2:i=l.length
  ·subst h2; rw [limb_snoc]; exact hx
  ·rw [limb_ge (by simp; omega)]; omega
theorem lims_nil:Lims []:=fun i=>by rw [limb_ge (by simp)]; omega
theorem add_step {o a b:List Lim} {c d e:Int} {i:Nat} (ho:o.length=i) (hv:valTo o i+c*1000000000 ^ i=valTo a i+valTo b i) (hs:c+limb a i+limb b i=d+1000000000*e) :
  valTo (o++[(d,())]) (i+1)+e*1000000000 ^ (i+1)=valTo a (i+1)+valTo b (i+1):=by
 subst ho
 rw [valTo,valTo,valTo,valTo_snoc (Nat.le_refl _),limb_snoc,pw_succ]
 have h1:(c+limb a o.length+limb b o.length)*1000000000 ^ o.length=(d+1000000000*e)*1000000000 ^ o.length:=by rw [hs]
 rw [Int.add_mul,Int.add_mul,Int.add_mul,Int.mul_assoc] at h1
 have h2:e*(1000000000*1000000000 ^ o.length)=1000000000*(e*1000000000 ^ o.length):=by rw [← Int.mul_assoc,Int.mul_comm e,Int.mul_assoc]
 show valTo o o.length+d*_+_=_
 omega
theorem sub_step {o a b:List Lim} {c d e:Int} {i:Nat} (ho:o.length=i) (hv:valTo o i=valTo a i-valTo b i+c*1000000000 ^ i) (hs:d=limb a i-c-limb b i+1000000000*e) :
  valTo (o++[(d,())]) (i+1)=valTo a (i+1)-valTo b (i+1)+e*1000000000 ^ (i+1):=by
 subst ho
 rw [valTo,valTo,valTo,valTo_snoc (Nat.le_refl _),limb_snoc,pw_succ]
 have h1:d*1000000000 ^ o.length=(limb a o.length-c-limb b o.length+1000000000*e)*1000000000 ^ o.length:=by rw [hs]
 rw [Int.add_mul,Int.sub_mul,Int.sub_mul,Int.mul_assoc] at h1
 have h2:e*(1000000000*1000000000 ^ o.length)=1000000000*(e*1000000000 ^ o.length):=by rw [← Int.mul_assoc,Int.mul_comm e,Int.mul_assoc]
 show valTo o o.length+d*_=_
 omega
end Go.Proofs.YtfiakghfncempaaGreatDoor
