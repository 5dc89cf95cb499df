/-
  From what a law's row reads of its arguments to rows and lists that lie in memory.
-/
import Derived.Test.YtpdfdkccgkieoaaGreatDoorEngD
import Derived.Test.YtpdfdkccgkieoaaGreatDoorChecked
import Derived.ChangeArms
import Derived.Lib.LaidTab
namespace Go.Proofs.YtpdfdkccgkieoaaGreatDoor
open Sx
theorem wrap_i64 {n:Int} (h:-9223372036854775808≤n∧n≤9223372036854775807):IntKind.i64.wrap n=n:=by
 simp only [IntKind.wrap]
 have h2:IntKind.i64.bits=64:=rfl
 have h4:IntKind.i64.signed=true:=rfl
 simp only [h2,h4,Bool.true_and]
 by_cases hn:0≤n
 ·have h3:n % 2 ^ 64=n:=Int.emod_eq_of_lt hn (by omega)
  rw [h3,if_neg (by simp; omega)]
 ·have h3:n % 2 ^ 64=n+2 ^ 64:=by
   rw [← Int.add_emod_right]
   exact Int.emod_eq_of_lt (by omega) (by omega)
  rw [h3,if_pos (by simp; omega)]
  omega
theorem kset_le {V:Know} {b:Nat} {x} (h:V b=none):V.le (kset V b x):=by
 intro k y hk
 simp only [kset]
 by_cases e:k=b
 ·subst e; rw [h] at hk; cases hk
 ·rw [if_neg e]; exact hk
theorem kset_same {V:Know} {b:Nat} {x}:kset V b x b=some x:=by simp [kset]
theorem kset_other {V:Know} {b k:Nat} {x} (h:k≠b):kset V b x k=V k:=by simp [kset,h]
theorem cutv_skip {β:Type} {x y:List β} {o n:Nat}:cutv (x++y) (x.length+o) n=cutv y o n:=by
 simp only [cutv,List.length_append]
 have hd:List.drop (x.length+o) (x++y)=List.drop o y:=by
  rw [← List.drop_drop,List.drop_left]
 by_cases h:o+n≤y.length
 ·rw [if_pos h,if_pos (by omega),hd]
 ·rw [if_neg h,if_neg (by omega)]
theorem cutv_head {β:Type} {x y:List β}:cutv (x++y) 0 x.length=some x:=by
 simp [cutv]
theorem cutv_flat {α β:Type} {f:α→List β} {m:Nat} (hf:∀ a,(f a).length=m):∀ {l:List α} {n:Nat} (h:n<l.length) (r:List β),cutv (l.flatMap f++r) (n*m) m=some (f l[n])
 | a :: l,0,_,r=>by
  have:=cutv_head (x:=f a) (y:=l.flatMap f++r)
  rw [hf] at this
  rw [List.flatMap_cons,List.append_assoc,Nat.zero_mul]
  exact this
 | a :: l,n+1,h,r=>by
  have ih:=cutv_flat hf (l:=l) (n:=n) (by simpa using h) r
  have e:(n+1)*m=(f a).length+n*m:=by rw [hf,Nat.add_mul,Nat.one_mul,Nat.add_comm]
  rw [List.flatMap_cons,List.append_assoc,e,cutv_skip,ih]
  rfl
end Go.Proofs.YtpdfdkccgkieoaaGreatDoor
namespace Go.Proofs.YtpdfdkccgkieoaaGreatDoor
open Sx
theorem toList_loop (b:ByteArray) (i:Nat) (r:List UInt8) (h:i≤b.size):ByteArray.toList.loop b i r=r.reverse++b.data.toList.drop i:=by
 induction hk:b.size-i generalizing i r with
 | zero =>
  have:i=b.size:=by omega
  subst this
  unfold ByteArray.toList.loop
  rw [if_neg (by omega)]
  have:b.data.toList.drop b.size=[]:=List.drop_of_length_le (by simp)
  rw [this,List.append_nil]
 | succ k ih =>
  unfold ByteArray.toList.loop
  rw [if_pos (by omega),ih (i+1) _ (by omega) (by omega)]
  have hlt:i<b.data.toList.length:=by simp; omega
  rw [List.drop_eq_getElem_cons hlt]
  have hg:b.get! i=b.data.toList[i]:=by
   have:i<b.data.size:=by simpa using hlt
   show b.data[i]! = _
   rw [getElem!_pos b.data i this]; simp
  rw [hg]; simp
theorem toList_data (b:ByteArray):b.toList=b.data.toList:=by
 unfold ByteArray.toList
 rw [toList_loop b 0 [] (by omega)]; simp
theorem toList_inj {a b:ByteArray}:a.toList=b.toList↔a=b:=by
 refine⟨fun h=>?_,fun h=>by rw [h]⟩
 rw [toList_data,toList_data] at h
 obtain⟨⟨l⟩⟩:=a
 obtain⟨⟨m⟩⟩:=b
 simp at h
 subst h; rfl
theorem text_eq {a b:ByteArray}:(a.toList == b.toList)=true↔a=b:=by rw [beq_iff_eq]; exact toList_inj
theorem text_ne {a b:ByteArray}:(a.toList == b.toList)=false↔a≠b:=by
 rw [← Bool.not_eq_true,text_eq]
structure Rp (sh:List Sc) (α:Type) where
 R:Know→Scs sh→α→List Nat→Prop
 tot:α→Nat
 loc:∀ {V V':Know} {c:Scs sh} {x:α} {fp:List Nat},R V c x fp→(∀ b∈fp,V' b=V b)→R V' c x fp
 kn:∀ {V:Know} {c:Scs sh} {x:α} {fp:List Nat},R V c x fp→∀ b∈fp,∃ y,V b=some y
section
variable {sh:List Sc} {α:Type}
theorem Rp.le (r:Rp sh α) {V V':Know} {c:Scs sh} {x:α} {fp:List Nat} (h:r.R V c x fp) (hle:V.le V'):r.R V' c x fp :=
 r.loc h fun b hb=>by obtain⟨y,hy⟩:=r.kn h b hb; rw [hy]; exact hle b y hy
def Els (r:Rp sh α) (V:Know):List (Scs sh)→List α→List Nat→Prop
 | [],[],fp=>fp=[]
 | c :: cs,x :: l,fp=>∃ f g,fp=f++g∧r.R V c x f∧Els r V cs l g
 | _,_,_=>False
theorem Els.loc {r:Rp sh α} {V V':Know}:∀ {cs:List (Scs sh)} {l:List α} {fp:List Nat},Els r V cs l fp→(∀ b∈fp,V' b=V b)→Els r V' cs l fp
 | [],[],_,h,_=>h
 | _ :: _,_ :: _,_,⟨f,g,rfl,h1,h2⟩,hb=>⟨f,g,rfl,r.loc h1 fun b hm=>hb b (by simp [hm]),h2.loc fun b hm=>hb b (by simp [hm])⟩
theorem Els.kn {r:Rp sh α} {V:Know}:∀ {cs:List (Scs sh)} {l:List α} {fp:List Nat},Els r V cs l fp→∀ b∈fp,∃ y,V b=some y
 | [],[],_,h,b,hb=>by
  have h:_=[]:=h
  subst h; cases hb
 | _ :: _,_ :: _,_,⟨f,g,rfl,h1,h2⟩,b,hb=>by
  rcases List.mem_append.1 hb with hb | hb
  ·exact r.kn h1 b hb
  ·exact h2.kn b hb
theorem Els.le {r:Rp sh α} {V V':Know} {cs:List (Scs sh)} {l:List α} {fp:List Nat} (h:Els r V cs l fp) (hle:V.le V'):Els r V' cs l fp :=
 h.loc fun b hb=>by obtain⟨y,hy⟩:=h.kn b hb; rw [hy]; exact hle b y hy
theorem Els.len {r:Rp sh α} {V:Know}:∀ {cs:List (Scs sh)} {l:List α} {fp:List Nat},Els r V cs l fp→cs.length=l.length
 | [],[],_,_=>rfl
 | _ :: _,_ :: _,_,⟨_,_,_,_,h2⟩=>by simp [h2.len]
theorem Els.snoc {r:Rp sh α} {V:Know} {c:Scs sh} {x:α} {f:List Nat} (hx:r.R V c x f):∀ {cs:List (Scs sh)} {l:List α} {fp:List Nat},Els r V cs l fp→Els r V (cs++[c]) (l++[x]) (fp++f)
 | [],[],fp,h=>by
  have h:fp=[]:=h
  subst h
  exact⟨f,[],by simp,hx,rfl⟩
 | _ :: _,_ :: _,_,⟨f',g,rfl,h1,h2⟩=>⟨f',g++f,by simp,h1,h2.snoc hx⟩
theorem Els.at {r:Rp sh α} {V:Know}:∀ {cs:List (Scs sh)} {l:List α} {fp:List Nat},Els r V cs l fp→∀ {i:Nat} (h:i<l.length),∃ (h':i<cs.length) (f:List Nat),r.R V cs[i] l[i] f∧∀ b∈f,b∈fp
 | [],[],_,_,_,h=>by simp at h
 | _ :: _,_ :: _,_,⟨f,g,rfl,h1,h2⟩,0,_=>⟨by simp,f,h1,fun b hb=>by simp [hb]⟩
 | _ :: _,_ :: _,_,⟨f,g,rfl,h1,h2⟩,i+1,h=>by
  obtain⟨h',f',k1,k2⟩:=h2.at (i:=i) (by simpa using h)
  exact⟨by simpa using h',f',k1,fun b hb=>by simp [k2 b hb]⟩
def totE (r:Rp sh α):List α→Nat
 | []=>0
 | x :: l=>r.tot x+totE r l
theorem vals_len:∀ (sh:List Sc) (c:Scs sh),(Scs.vals sh c).length=sh.length
 | [],_=>rfl
 | _ :: r,c=>by simp [Scs.vals,vals_len r c.2]
def LR (r:Rp sh α) (V:Know) (s:SlV) (l:List α) (fp:List Nat):Prop :=
 s.n=l.length∧s.n≤s.c∧s.n≤9223372036854775807 ∧
  ((s.n=0∧(s.a=none→s.c=0)∧fp=[]) ∨
   ∃ b pre post t fps cs,s.a=some ⟨b,List.length pre,none⟩∧V b=some (pre++(cs.flatMap (Scs.vals sh)++post),t)∧Els r V cs l fps∧fp=b :: fps)
theorem LR.loc {r:Rp sh α} {V V':Know} {s:SlV} {l:List α} {fp:List Nat} (h:LR r V s l fp) (hb:∀ b∈fp,V' b=V b):LR r V' s l fp:=by
 obtain⟨h1,h2,h3,h4⟩:=h
 refine⟨h1,h2,h3,?_⟩
 rcases h4 with h4 | ⟨b,pre,post,t,fps,cs,k1,k2,k3,rfl⟩
 ·exact .inl h4
 ·exact .inr ⟨b,pre,post,t,fps,cs,k1,by rw [hb b (by simp),k2],k3.loc fun x hx=>hb x (by simp [hx]),rfl⟩
theorem LR.kn {r:Rp sh α} {V:Know} {s:SlV} {l:List α} {fp:List Nat} (h:LR r V s l fp):∀ b∈fp,∃ y,V b=some y:=by
 obtain⟨h1,h2,h3,h4⟩:=h
 intro b hb
 rcases h4 with ⟨_,_,rfl⟩ | ⟨b',pre,post,t,fps,cs,k1,k2,k3,rfl⟩
 ·cases hb
 ·rcases List.mem_cons.1 hb with rfl | hb
  ·exact⟨_,k2⟩
  ·exact k3.kn b hb
theorem LR.le {r:Rp sh α} {V V':Know} {s:SlV} {l:List α} {fp:List Nat} (h:LR r V s l fp) (hle:V.le V'):LR r V' s l fp :=
 h.loc fun b hb=>by obtain⟨y,hy⟩:=h.kn b hb; rw [hy]; exact hle b y hy
theorem LR.at {r:Rp sh α} {V:Know} {s:SlV} {l:List α} {fp:List Nat} (h:LR r V s l fp) {i:Nat} (hi:i<l.length) :
  ∃ b o c f,s.a=some ⟨b,o,none⟩∧loadV V ((⟨b,o,none⟩:Addr).add (i*sh.length)) sh.length=some (Scs.vals sh c)∧r.R V c l[i] f∧∀ b∈f,b∈fp:=by
 obtain⟨h1,h2,h3,h4⟩:=h
 rcases h4 with ⟨h0,_,_⟩ | ⟨b,pre,post,t,fps,cs,k1,k2,k3,rfl⟩
 ·omega
 ·obtain⟨h',f,g1,g2⟩:=k3.at hi
  refine⟨_,_,cs[i],f,k1,?_,g1,fun b hb=>by simp [g2 b hb]⟩
  simp only [addr_add_eq,loadV,k2]
  rw [cutv_skip]
  exact cutv_flat (vals_len sh) h' post
theorem LR.part {r:Rp sh α} {V:Know} {s:SlV} {l:List α} {fp:List Nat} (h:LR r V s l fp) {i:Nat} (hi:i<l.length) :
  ∃ b a c f,s.a=some ⟨b,a,none⟩∧(∀ (o n:Nat) l',cutv (Scs.vals sh c) o n=some l'→loadV V (((⟨b,a,none⟩:Addr).add (i*sh.length)).add o) n=some l')∧r.R V c l[i] f∧∀ b∈f,b∈fp:=by
 obtain⟨b,a,c,f,h1,h2,h3,h4⟩:=h.at hi
 refine⟨b,a,c,f,h1,fun o n l' hc=>?_,h3,h4⟩
 simp only [addr_add_eq,loadV] at h2 ⊢
 split at h2
 ·rename_i cs t hs hv
  unfold cutv at h2 hc ⊢
  split at h2
  ·rename_i hle
   split at hc
   ·rename_i hle2
    simp only [Option.some.injEq] at h2 hc
    rw [vals_len] at hle2
    rw [if_pos (by omega)]
    simp only [Option.some.injEq]
    rw [← hc,← h2,List.drop_take,List.take_take,List.drop_drop]
    congr 1
    omega
   ·cases hc
  ·cases h2
 ·cases h2
end
def rNil:Rp [] Unit where
 R _ _ _ fp:=fp=[]
 tot _:=0
 loc h _:=h
 kn h b hb:=by subst h; cases hb
def rInt {sh:List Sc} {α:Type} (r:Rp sh α):Rp (.i .i64 :: sh) (Int × α) where
 R V c x fp:=c.1=x.1∧r.R V c.2 x.2 fp
 tot x:=r.tot x.2
 loc h hb:=⟨h.1,r.loc h.2 hb⟩
 kn h:=r.kn h.2
def rBool {sh:List Sc} {α:Type} (r:Rp sh α):Rp (.b :: sh) (Bool × α) where
 R V c x fp:=c.1=x.1∧r.R V c.2 x.2 fp
 tot x:=r.tot x.2
 loc h hb:=⟨h.1,r.loc h.2 hb⟩
 kn h:=r.kn h.2
def rStr {sh:List Sc} {α:Type} (r:Rp sh α):Rp (.s :: sh) (ByteArray × α) where
 R V c x fp:=(c.1=x.1∧x.1.size≤9223372036854775807)∧r.R V c.2 x.2 fp
 tot x:=x.1.size+r.tot x.2
 loc h hb:=⟨h.1,r.loc h.2 hb⟩
 kn h:=r.kn h.2
def rSl {se sh:List Sc} {α β:Type} (e:Rp se α) (r:Rp sh β):Rp (.l :: sh) (List α × β) where
 R V c x fp:=∃ f g,fp=f++g∧LR e V c.1 x.1 f∧r.R V c.2 x.2 g
 tot x:=x.1.length+totE e x.1+r.tot x.2
 loc:=by
  rintro V V' c x fp ⟨f,g,rfl,h1,h2⟩ hb
  exact⟨f,g,rfl,h1.loc fun b hm=>hb b (by simp [hm]),r.loc h2 fun b hm=>hb b (by simp [hm])⟩
 kn:=by
  rintro V c x fp ⟨f,g,rfl,h1,h2⟩ b hb
  rcases List.mem_append.1 hb with hb | hb
  ·exact h1.kn b hb
  ·exact r.kn h2 b hb
def Wr (V:Know) (fp:List Nat):Prop:=∀ b∈fp,∃ c t,V b=some (c,(t,(0,0)))
theorem Wr.le {V V':Know} {fp:List Nat} (h:Wr V fp) (hle:V.le V'):Wr V' fp:=fun b hb=>by obtain⟨c,t,k⟩:=h b hb; exact⟨c,t,hle _ _ k⟩
def Own (V V':Know) (fp:List Nat):Prop:=fp.Nodup∧(∀ b∈fp,V b=none)∧Wr V' fp
theorem Own.nil {V V':Know}:Own V V' []:=⟨List.nodup_nil,(fun _ h=>by cases h),(fun _ h=>by cases h)⟩
theorem none_of_le {V V1:Know} (h:V.le V1) {b:Nat} (hb:V1 b=none):V b=none:=by
 cases hv:V b with
 | none=>rfl
 | some x=>rw [h b x hv] at hb; cases hb
theorem Own.append {V V1 V2:Know} {f g:List Nat} (hf:Own V V1 f) (hg:Own V1 V2 g) (h1:V.le V1) (h2:V1.le V2):Own V V2 (f++g):=by
 refine⟨List.nodup_append.2 ⟨hf.1,hg.1,fun a ha b hb e=>?_⟩,fun b hb=>?_,fun b hb=>?_⟩
 ·subst e
  obtain⟨c,t,k⟩:=hf.2.2 a ha
  rw [hg.2.1 a hb] at k; cases k
 ·rcases List.mem_append.1 hb with hb | hb
  ·exact hf.2.1 b hb
  ·exact none_of_le h1 (hg.2.1 b hb)
 ·rcases List.mem_append.1 hb with hb | hb
  ·exact hf.2.2.le h2 b hb
  ·exact hg.2.2 b hb
theorem Own.post {V V1 V2:Know} {f:List Nat} (hf:Own V V1 f) (h:V1.le V2):Own V V2 f:=⟨hf.1,hf.2.1,hf.2.2.le h⟩
theorem Own.pre {V V1 V2:Know} {f:List Nat} (hf:Own V1 V2 f) (h:V.le V1):Own V V2 f:=⟨hf.1,fun b hb=>none_of_le h (hf.2.1 b hb),hf.2.2⟩
end Go.Proofs.YtpdfdkccgkieoaaGreatDoor
namespace Go.Proofs.YtpdfdkccgkieoaaGreatDoor
open Sx
section
variable {sh:List Sc} {α:Type}
def EqC (P:Program) (g:Nat) (e:Rp sh α):Prop:=∀ (V:Know) (c d:Scs sh) (x y:α) (f f':List Nat),e.R V c x f→e.R V d y f' →
 CallX P V g [Sh1.val (.g sh) c,Sh1.val (.g sh) d] (fun V' r=>V'=V∧∃ b,r=.bool b∧(b=true↔x=y))
def EqSC (P:Program) (g:Nat) (e:Rp sh α) (ex:List Value:=[]):Prop:=∀ (V:Know) (s s':SlV) (l l':List α) (f f':List Nat),LR e V s l f→LR e V s' l' f' →
 CallX P V g ([Sc.val .l s,Sc.val .l s']++ex) (fun V' r=>V'=V∧∃ b,r=.bool b∧(b=true↔l=l'))
def ToC (P:Program) (g:Nat) (e:Rp sh α):Prop:=∀ (V:Know) (c:Scs sh) (x:α) (f:List Nat),e.R V c x f→e.tot x≤1048576 →
 CallX P V g [Sh1.val (.g sh) c] (fun V' r=>V.le V'∧∃ c' f',r=Sh1.val (.g sh) c'∧e.R V' c' x f'∧Own V V' f')
def ToSC (P:Program) (g:Nat) (e:Rp sh α):Prop:=∀ (V:Know) (s:SlV) (l:List α) (f:List Nat),LR e V s l f→l.length+totE e l≤1048576 →
 CallX P V g [Sc.val .l s] (fun V' r=>V.le V'∧∃ s' f',r=Sc.val .l s'∧LR e V' s' l f'∧Own V V' f')
end
def tEq (n n':Nat) (body:LShs [.o (.o (.i .i64))]→T):T :=
 .br ((n:Int) != (n':Int)) (.ret [.bool false]) <|
 .lp [.o (.o (.i .i64))] [.v (.int .i64 (0:Int))] fun y =>
 .br (decide (y.fst<(n:Int))) (body y) <|
 .ret [.bool true]
theorem nxt {i n:Nat} (h:i<n) (hn:n≤9223372036854775807):IntKind.i64.wrap ((i:Int)+1)=((i+1:Nat):Int):=by
 rw [wrap_i64 (by omega)]; omega
theorem tEq_wp {α:Type} {P:Program} {body:LShs [.o (.o (.i .i64))]→T} {V V0:Know} {l l':List α} {n n':Nat} (hn:n=l.length) (hn':n'=l'.length) (hsz:n≤9223372036854775807)
  (hbody:∀ (i:Nat) (h:i<l.length) (h':i<l'.length) (K:Know→List Value→Prop) (N:List LV→Know→Prop),(l[i]≠l'[i]→K V [.bool false]) →
   (l[i]=l'[i]→N [.v (.int .i64 (IntKind.i64.wrap ((i:Int)+1)))] V)→(body ((i:Int),())).wp P K V V [N]) :
  (tEq n n' body).wp P (fun V' vs=>V'=V∧∃ b,packed vs=.bool b∧(b=true↔l=l')) V V0 []:=by
 subst hn hn'
 simp only [tEq,T.wp]
 refine⟨fun h=>⟨trivial,false,rfl,?_⟩,fun h=>?_⟩
 ·refine⟨(fun h=>by cases h),(fun e=>?_)⟩
  subst e
  simp at h
 have hlen:l.length=l'.length:=by
  have:¬ (((l.length:Nat):Int)≠((l'.length:Nat):Int)):=by simpa using h
  omega
 refine⟨fun y V'=>V'=V∧∃ i:Nat,y.1=(i:Int)∧i≤l.length∧l.take i=l'.take i,fun y=>((l.length:Int)-(y.1:Int)).toNat,⟨((0:Int),()),rfl,rfl,0,rfl,by omega,by simp⟩,?_⟩
 rintro⟨(i:Int),u⟩ V' ⟨rfl,k,hk,hle,heq⟩
 replace hk:i=(k:Int):=hk
 subst hk
 refine⟨fun h=>?_,fun h=>?_⟩
 ·have h1:k<l.length:=by
   have:(k:Int)<(l.length:Int):=by simpa using h
   omega
  refine hbody k h1 (by omega) _ _ (fun hne=>⟨rfl,false,rfl,⟨(fun h=>by cases h),(fun e=>(hne (by subst e; rfl)).elim)⟩⟩) fun he=>?_
  refine⟨(((k+1:Nat):Int),()),by rw [nxt h1 hsz]; rfl,⟨rfl,k+1,rfl,h1,?_⟩,?_⟩
  ·rw [List.take_succ_eq_append_getElem h1,List.take_succ_eq_append_getElem (by omega),heq,he]
  ·show((l.length:Int)-((k+1:Nat):Int)).toNat<((l.length:Int)-(k:Int)).toNat
   omega
 ·have h1:k=l.length:=by
   have:¬ (k:Int)<(l.length:Int):=by simpa using h
   omega
  subst h1
  refine⟨rfl,true,rfl,fun _=>?_,fun _=>rfl⟩
  rw [List.take_length] at heq
  rw [heq,hlen,List.take_length]
section
variable {sh:List Sc} {α:Type} {P:Program} {e:Rp sh α} {V V0:Know} {s s':SlV} {l l':List α} {f f':List Nat}
def tEqF (g:Nat) (sh:List Sc) (m:Nat) (x0 x1:SlV):T:=tEq x0.n x1.n fun y1 =>
 .el x0.a x0.n y1.fst fun y2=>.ld false (y2.add (Int.toNat y1.fst*m)) (.g sh) fun y3 =>
 .el x1.a x1.n y1.fst fun y4=>.ld false (y4.add (Int.toNat y1.fst*m)) (.g sh) fun y5 =>
 .call false g [Sh1.val (.g sh) y3,Sh1.val (.g sh) y5] (.v (.o .b)) fun y6 =>
 .br (!y6) (.ret [.bool false]) <| .nx 0 [.v (.int .i64 (IntKind.i64.wrap (y1.fst+(1:Int))))]
def tEqI (x0 x1:SlV):T:=tEq x0.n x1.n fun y1 =>
 .rg <| .el x0.a x0.n y1.fst fun y2=>.ld true (y2.add (Int.toNat y1.fst*(1:Nat))) (.o (.i .i64)) fun y3 =>
 .el x1.a x1.n y1.fst fun y4=>.ld true (y4.add (Int.toNat y1.fst*(1:Nat))) (.o (.i .i64)) fun y5 =>
 .br (y3 != y5) (.ret [.bool false]) <| .nx 0 [.v (.int .i64 (IntKind.i64.wrap (y1.fst+(1:Int))))]
theorem tEqF_wp {g m:Nat} (hm:m=sh.length) (hg:EqC P g e) (h:LR e V s l f) (h':LR e V s' l' f') :
  (tEqF g sh m s s').wp P (fun V' vs=>V'=V∧∃ b,packed vs=.bool b∧(b=true↔l=l')) V V0 []:=by
 subst hm
 refine tEq_wp h.1 h'.1 (h.2.2.1) fun i hi hi' K N hK hN=>?_
 obtain⟨b1,o1,c1,f1,a1,l1,r1,_⟩:=h.at hi
 obtain⟨b2,o2,c2,f2,a2,l2,r2,_⟩:=h'.at hi'
 have hn1:=h.1
 have hn2:=h'.1
 refine⟨_,a1,by omega,(by omega:(i:Int)<(s.n:Int)),c1,l1,_,a2,by omega,(by omega:(i:Int)<(s'.n:Int)),c2,l2,(hg V _ _ _ _ _ _ r1 r2).mono ?_⟩
 rintro V' r ⟨rfl,b,rfl,hb⟩
 refine⟨nofun,b,rfl,fun h=>hK fun e=>?_,fun h=>⟨_,rfl,hN (hb.1 ?_)⟩⟩
 ·rw [hb.2 e] at h; cases h
 ·cases b
  ·cases h
  ·rfl
end
abbrev rI:Rp [.i .i64] (Int × Unit):=rInt rNil
theorem LR.int {V:Know} {s:SlV} {l:List (Int × Unit)} {f:List Nat} (h:LR rI V s l f) {i:Nat} (hi:i<l.length) :
  ∃ b o,s.a=some ⟨b,o,none⟩∧loadV V ((⟨b,o,none⟩:Addr).add (i*1)) 1=some [.int .i64 l[i].1]:=by
 obtain⟨b1,o1,c1,f1,a1,l1,r1,_⟩:=h.at hi
 refine⟨b1,o1,a1,?_⟩
 have e:c1.1=l[i].1:=r1.1
 rw [← e]; exact l1
theorem tEqI_wp {P:Program} {V V0:Know} {s s':SlV} {l l':List (Int × Unit)} {f f':List Nat} (h:LR rI V s l f) (h':LR rI V s' l' f') :
  (tEqI s s').wp P (fun V' vs=>V'=V∧∃ b,packed vs=.bool b∧(b=true↔l=l')) V V0 []:=by
 refine tEq_wp h.1 h'.1 (h.2.2.1) fun i hi hi' K N hK hN=>?_
 obtain⟨b1,o1,a1,l1⟩:=h.int hi
 obtain⟨b2,o2,a2,l2⟩:=h'.int hi'
 have hn1:=h.1
 have hn2:=h'.1
 refine⟨_,a1,by omega,(by omega:(i:Int)<(s.n:Int)),l[i].1,l1,_,a2,by omega,(by omega:(i:Int)<(s'.n:Int)),l'[i].1,l2,fun h=>hK fun e=>?_,fun h=>⟨_,rfl,hN ?_⟩⟩
 ·rw [e] at h; simp at h
 ·have:l[i].1=l'[i].1:=by simpa using h
  exact Prod.ext this rfl
theorem made_len (z:Array Value) (n:Nat):(madeCells z n).toList.length=n:=by
 unfold madeCells
 simp
theorem setl_mid {x y z:List Value} {n:Nat} (h:n=x.length) (_:z.length≤y.length):setl (x++y) n z=x++(z++y.drop z.length):=by
 subst h
 simp only [setl]
 rw [List.take_left,← List.drop_drop,List.drop_left,List.append_assoc]
theorem flat_len {sh:List Sc}:∀ cs:List (Scs sh),(cs.flatMap (Scs.vals sh)).length=cs.length*sh.length
 | []=>by simp
 | c :: cs=>by rw [List.flatMap_cons,List.length_append,vals_len,flat_len cs,List.length_cons,Nat.add_mul,Nat.one_mul,Nat.add_comm]
theorem totE_mem {sh:List Sc} {α:Type} (e:Rp sh α) {l:List α} {i:Nat} (h:i<l.length):e.tot l[i]≤totE e l:=by
 induction l generalizing i with
 | nil=>simp at h
 | cons a l ih =>
  cases i with
  | zero=>simp [totE]
  | succ i =>
   have:=ih (i:=i) (by simpa using h)
   simp only [List.getElem_cons_succ,totE]
   omega
end Go.Proofs.YtpdfdkccgkieoaaGreatDoor
namespace Go.Proofs.YtpdfdkccgkieoaaGreatDoor
open Sx
def knowOf (W:World):Know:=fun b=>match W.heap[b]? with
 | some (.cells c t fr)=>(match c.toList with | [.tuple _]=>none | l=>some (l,(t,fr)))
 | _=>none
theorem knowOf_on (W:World):(knowOf W).on W:=by
 intro b c t h
 unfold knowOf at h
 split at h
 ·rename_i c' t' fr hh
  split at h
  ·cases h
  ·rename_i hne
   simp only [Option.some.injEq,Prod.mk.injEq] at h
   obtain⟨rfl,rfl⟩:=h
   rw [hh]
   unfold objOf
   split
   ·rename_i es he
    exact(hne es he).elim
   ·rfl
 ·cases h
theorem knowOf_eq {W:World} {b:Nat} {c:Array Value} {t:TypeId} {fr:Nat × Nat} (h:W.heap[b]?=some (.cells c t fr)) (hn:∀ es,c.toList≠[.tuple es]):knowOf W b=some (c.toList,(t,fr)):=by
 unfold knowOf
 rw [h]
 simp only
theorem cut_tuple {l l':List Value} {off n:Nat} (h:cutv l off n=some l') (hn:0<n) (ht:noTup l'=true):∀ es,l≠[.tuple es]:=by
 intro es e
 subst e
 unfold cutv at h
 split at h
 ·rename_i hle
  have h1:off=0∧n=1:=by simp at hle; omega
  obtain⟨rfl,rfl⟩:=h1
  simp at h
  subst h
  simp [noTup] at ht
 ·cases h
def Rd {sh:List Sc} {α:Type} (P:Program) (W:World) (t:TypeId) (r:Rp sh α):Prop :=
 ∀ {H:Type} {enc:TypeId × Value→H} {sp:Nat→Bool} {held:Bool} {fuel:Nat} {cs:List Value} {x:DataW H × List MemPlace},DataW.trod enc P W 0 sp held fuel t cs=some x →
  ∃ c a fp,cs=Scs.vals sh c∧r.R (knowOf W) c a fp
section
variable {H:Type} {enc:TypeId × Value→H} {P:Program} {W:World} {sp:Nat→Bool} {held:Bool} {fuel:Nat} {cs:List Value} {x:DataW H × List MemPlace}
theorem cells_cut {b o m:Nat} {c:Array Value} {t:TypeId} {fr:Nat × Nat} {row:List Value} (hm:0<m) (hb:W.heap[b]?=some (.cells c t fr)) (h:W.cells? 0 ⟨b,o,none⟩ m=some row):cutv c.toList o m=some row:=by
 unfold World.cells? at h
 rw [if_pos (Nat.zero_le _)] at h
 have hl:=Go.Lib.mapM_length h
 simp at hl
 have hat:∀ j,j<m→c[o+j]?=row[j]?:=by
  intro j hj
  obtain⟨v,hv,hc⟩:=Go.Lib.mapM_at h j j (by simp [hj])
  rw [addr_add_eq] at hc
  simp only [World.cell?,hb,Option.isSome_none,Bool.false_eq_true,if_false] at hc
  rw [hc,hv]
 unfold cutv
 have hlast:=hat (m-1) (by omega)
 have hlt:o+(m-1)<c.size:=by
  have:(row[m-1]?).isSome=true:=by simp [hl]; omega
  rw [← hlast] at this
  simpa using this
 rw [if_pos (by simp; omega)]
 congr 1
 apply List.ext_getElem?
 intro j
 by_cases hj:j<m
 ·rw [List.getElem?_take_of_lt hj,List.getElem?_drop,Array.getElem?_toList,hat j hj]
 ·rw [List.getElem?_eq_none (by simp; omega),List.getElem?_eq_none (by omega)]
theorem rows_flat {α β:Type} {f:α→List β} {m:Nat} (hf:∀ a,(f a).length=m):∀ {l:List α} {L:List β},(∀ (i:Nat) (h:i<l.length),cutv L (i*m) m=some (f l[i]))→∃ post,L=l.flatMap f++post
 | [],L,_=>⟨L,rfl⟩
 | a :: l,L,h=>by
  have h0:=h 0 (by simp)
  simp only [Nat.zero_mul,List.getElem_cons_zero] at h0
  unfold cutv at h0
  split at h0
  ·rename_i hm
   simp only [List.drop_zero,Option.some.injEq] at h0
   have e:L=f a++L.drop m:=by rw [← h0,List.take_append_drop]
   obtain⟨post,hp⟩:=rows_flat hf (l:=l) (L:=L.drop m) (fun i hi=>by
    have:=h (i+1) (by simpa using hi)
    simp only [List.getElem_cons_succ] at this
    have e2:(i+1)*m=(f a).length+i*m:=by rw [hf,Nat.add_mul,Nat.one_mul,Nat.add_comm]
    rw [e,e2,cutv_skip] at this
    rw [← this])
   exact⟨post,by rw [List.flatMap_cons,List.append_assoc,← hp]; exact e⟩
  ·cases h0
theorem els_of {sh:List Sc} {α:Type} {r:Rp sh α} {V:Know} {Q:Nat→Scs sh→Prop}:∀ (n:Nat),(∀ i,i<n→∃ c a f,Q i c∧r.R V c a f)→∃ cs l fps,List.length l=n∧Els r V cs l fps∧∀ (i:Nat) (h:i<cs.length),Q i cs[i]
 | 0,_=>⟨[],[],[],rfl,rfl,fun i h=>by simp at h⟩
 | n+1,h=>by
  obtain⟨cs,l,fps,h1,h2,h3⟩:=els_of n (fun i hi=>h i (by omega))
  obtain⟨c,a,f,hq,hr⟩:=h n (by omega)
  refine⟨cs++[c],l++[a],fps++f,by simp [h1],h2.snoc hr,fun i hi=>?_⟩
  have hcl:=h2.len
  by_cases hc:i<cs.length
  ·rw [List.getElem_append_left hc]; exact h3 i hc
  ·have:i=n:=by simp at hi; omega
   subst this
   rw [List.getElem_append_right (by omega)]
   simpa using hq
theorem rd_slice {sh:List Sc} {α:Type} {r:Rp sh α} {t e:TypeId} (hr:Rd P W e r) (ht:P.underlying t=some (.slice e)) (hm:P.cellsOf e=sh.length) (hpos:0<sh.length) (h:DataW.trod enc P W 0 sp held fuel t cs=some x) :
  ∃ s l f,cs=[.slice s.a s.n s.c]∧LR r (knowOf W) s l f:=by
 rcases DataW.trod_slice ht h with ⟨rfl,_⟩ | ⟨a,len,cap,elems,rest,n,_,rfl,_,_,hlc,hcap,hel,hall,_⟩
 ·exact⟨⟨none,0,0⟩,[],[],rfl,rfl,Nat.le_refl _,Nat.zero_le _,.inl ⟨rfl,fun _=>rfl,rfl⟩⟩
 ·have hmax:cap≤9223372036854775807:=hcap
  by_cases h0:len=0
  ·subst h0
   exact⟨⟨some a,0,cap⟩,[],[],rfl,rfl,Nat.zero_le _,Nat.zero_le _,.inl ⟨rfl,(fun h=>by cases h),rfl⟩⟩
  rw [hm] at hall
  -- the block
  have hrow:∀ i,i<len→∃ row y,W.cells? 0 (a.add (i*sh.length)) sh.length=some row∧DataW.trod enc P W 0 sp held n e row=some y:=by
   intro i hi
   have:=hall i hi
   have he:elems[i]?=some elems[i]:=by simp [hel,hi]
   rw [he,Option.bind_eq_some_iff] at this
   obtain⟨row,h1,h2⟩:=this
   exact⟨row,_,h1,h2⟩
  obtain⟨row0,y0,hc0,_⟩:=hrow 0 (by omega)
  obtain⟨bk,off,spot⟩:=a
  have hcell:∃ v,W.cell? ⟨bk,off,spot⟩=some v:=by
   unfold World.cells? at hc0
   rw [if_pos (Nat.zero_le _)] at hc0
   obtain⟨v,_,hv⟩:=Go.Lib.mapM_at hc0 0 0 (by simp [hpos])
   refine⟨v,?_⟩
   simpa [Addr.add] using hv
  obtain⟨v,hv⟩:=hcell
  unfold World.cell? at hv
  split at hv
  ·rename_i c ty fr hb
   split at hv
   ·cases hv
   ·rename_i hs
    have hspot:spot=none:=by simpa using hs
    subst hspot
    have hq:∀ i,i<len→∃ (c':Scs sh) (a':α) (f':List Nat),cutv c.toList (off+i*sh.length) sh.length=some (Scs.vals sh c')∧r.R (knowOf W) c' a' f':=by
     intro i hi
     obtain⟨row,y,h1,h2⟩:=hrow i hi
     rw [addr_add_eq] at h1
     obtain⟨c',a',f',rfl,hR⟩:=hr h2
     exact⟨c',a',f',cells_cut hpos hb h1,hR⟩
    obtain⟨cs,l,fps,k1,k2,k3⟩:=els_of (Q:=fun i c'=>cutv c.toList (off+i*sh.length) sh.length=some (Scs.vals sh c')) len hq
    have hoff:off≤c.toList.length:=by
     obtain⟨c',_,_,hc',_⟩:=hq 0 (by omega)
     unfold cutv at hc'
     split at hc'
     ·omega
     ·cases hc'
    have hpre:(c.toList.take off).length=off:=by rw [List.length_take]; omega
    have hflat:∃ post,c.toList.drop off=cs.flatMap (Scs.vals sh)++post:=by
     refine rows_flat (vals_len sh) fun i hi=>?_
     have:=k3 i hi
     rw [← List.take_append_drop off c.toList] at this
     have e2:off+i*sh.length=(c.toList.take off).length+i*sh.length:=by rw [hpre]
     rw [e2,cutv_skip] at this
     exact this
    obtain⟨post,hpost⟩:=hflat
    refine⟨⟨some ⟨bk,off,none⟩,len,cap⟩,l,bk :: fps,rfl,k1.symm,hlc,Nat.le_trans hlc hmax,.inr ⟨bk,c.toList.take off,post,(ty,fr),fps,cs,by rw [hpre],?_,k2,rfl⟩⟩
    obtain⟨c0,_,_,hc0',_⟩:=hq 0 (by omega)
    rw [knowOf_eq hb (cut_tuple hc0' hpos (vals_noTup sh c0)),← hpost,List.take_append_drop]
  ·cases hv
end
end Go.Proofs.YtpdfdkccgkieoaaGreatDoor
