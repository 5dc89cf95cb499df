/-
  The order of texts; a valid ledger is small.
-/
import Derived.Test.YtfiakghfncempaaGreatDoorLedA
import Derived.Test.YtfiakghfncempaaGreatDoorDecM
import Derived.Test.YtfiakghfncempaaGreatDoorTotA
namespace Go.Proofs.YtfiakghfncempaaGreatDoor
open Sx
set_option maxRecDepth 100000
def Goes (n:Bool) (m:List Lim) (sc s:Int) (y:List Lim):Prop:=DecOkP n m sc∧DecOkP n y s∧Same10 m sc y s
def At (n:Bool) (m:List Lim) (sc s:Int) (x:DecD) (e:Bool):Prop:=(e=true∧∃ y,x=(n,y,s,())∧Goes n m sc s y)∨(e=false∧x=(false,[],0,())∧∀ y,¬ Goes n m sc s y)
abbrev decV (n:Bool) (s:SlV) (x:Int):Value:=qv6 (n,s,x,())
def AtPost (V:Know) (n:Bool) (m:List Lim) (sc s:Int):Know→Value→Prop:=fun V' r=>V.le V'∧∃ (x:DecD) (t:SlV) (e:Bool) (f:List Nat),r=.tuple #[decV x.1 t x.2.2.1,.bool e]∧LR rI V' t x.2.1 f∧Own V V' f∧At n m sc s x e
theorem AtPost.split {V V':Know} {n:Bool} {m:List Lim} {sc s:Int} {r:Value} (h:AtPost V n m sc s V' r):∃ y,r=Sh.val (.t [.g [.b,.l,.i .i64],.o .b]) y:=by
 obtain⟨_,x,t,e,_,rfl,_⟩:=h
 exact⟨((x.1,t,x.2.2.1,()),e,()),rfl⟩
end Go.Proofs.YtfiakghfncempaaGreatDoor
namespace Go.Proofs.YtfiakghfncempaaGreatDoor
open Sx
set_option maxRecDepth 100000
end Go.Proofs.YtfiakghfncempaaGreatDoor
namespace Go.Proofs.YtfiakghfncempaaGreatDoor
open Sx
set_option maxRecDepth 100000
def sv (b:Bool) (z:Int):Int:=if b=true then -z else z
theorem redS_small {S D:Int} {x:DRat} {e:Bool} {a b:List Lim} (h:RedS S D x e) (ha:Can a) (hb:Can b) (va:(S.natAbs:Int)=valN a) (vb:D=valN b) (hD:0<D) (la:a.length≤18) (lb:b.length≤18):e=true:=by
 obtain⟨p,q,hR,⟨_,_,he,_⟩ | ⟨hn,_,_⟩⟩:=h
 ·exact he
 ·exfalso
  have hg:=gcd_pos (N:=(S.natAbs:Int)) hD
  have p0:=valN_nonneg hR.1.1
  have q0:=valN_nonneg hR.2.1.1
  have hp:valN p≤valN a:=by
   rw [← va,← hR.2.2.1]
   have:valN p*1≤valN p*(Int.gcd (S.natAbs:Int) D:Int):=Int.mul_le_mul_of_nonneg_left (by omega) p0
   omega
  have hq:valN q≤valN b:=by
   rw [← vb]
   have e:=hR.2.2.2
   have:valN q*1≤valN q*(Int.gcd (S.natAbs:Int) D:Int):=Int.mul_le_mul_of_nonneg_left (by omega) q0
   omega
  have h1:=can_len ha hR.1 hp
  have h2:=can_len hb hR.2.1 hq
  exact hn ⟨by omega,by omega⟩
end Go.Proofs.YtfiakghfncempaaGreatDoor
namespace Go.Proofs.YtfiakghfncempaaGreatDoor
open Sx
theorem bless_irr:∀ x:List UInt8,Op.bytesLess x x=false
 | []=>rfl
 | a :: x=>by rw [Op.bytesLess,bless_irr x]; simp
theorem bless_trans:∀ {x y z:List UInt8},Op.bytesLess x y=true→Op.bytesLess y z=true→Op.bytesLess x z=true
 | _,[],_,h,_=>by simp [Op.bytesLess] at h
 | _,_ :: _,[],_,h=>by simp [Op.bytesLess] at h
 | [],_ :: _,_ :: _,_,_=>rfl
 | a :: x,b :: y,c :: z,h,k=>by
  simp only [Op.bytesLess,Bool.or_eq_true,decide_eq_true_eq,Bool.and_eq_true,beq_iff_eq] at h k ⊢
  rcases h with h | ⟨rfl,h⟩
  ·rcases k with k | ⟨rfl,k⟩
   ·exact .inl (UInt8.lt_trans h k)
   ·exact .inl h
  ·rcases k with k | ⟨rfl,k⟩
   ·exact .inl k
   ·exact .inr ⟨rfl,bless_trans h k⟩
theorem bless_tot:∀ (x y:List UInt8),Op.bytesLess x y=true∨x=y∨Op.bytesLess y x=true
 | [],[]=>.inr (.inl rfl)
 | [],_ :: _=>.inl rfl
 | _ :: _,[]=>.inr (.inr rfl)
 | a :: x,b :: y=>by
  simp only [Op.bytesLess,Bool.or_eq_true,decide_eq_true_eq,Bool.and_eq_true,beq_iff_eq,List.cons.injEq]
  rcases UInt8.lt_or_le a b with h | h
  ·exact .inl (.inl h)
  by_cases e:a=b
  ·subst e
   rcases bless_tot x y with k | k | k
   ·exact .inl (.inr ⟨rfl,k⟩)
   ·exact .inr (.inl ⟨rfl,k⟩)
   ·exact .inr (.inr (.inr ⟨rfl,k⟩))
  ·exact .inr (.inr (.inl (UInt8.lt_of_le_of_ne h (fun q=>e q.symm))))
theorem LessP.irr {a:ByteArray}:¬ LessP a a:=fun h=>by
 unfold LessP at h
 rw [bless_irr] at h; cases h
theorem LessP.trans {a b c:ByteArray} (h:LessP a b) (k:LessP b c):LessP a c:=bless_trans h k
theorem LessP.tot {a b:ByteArray} (h:¬ LessP a b) (k:a≠b):LessP b a:=by
 rcases bless_tot a.toList b.toList with q | q | q
 ·exact absurd q h
 ·exact absurd (toList_inj.1 q) k
 ·exact q
theorem known_mem {x:ByteArray} (h:known x=true):x∈curI.map (·.1):=by
 unfold known curFrom at h
 cases hf:(curI.drop 0).find? (curHas x) with
 | none=>rw [hf] at h; cases h
 | some r =>
  have h1:=List.find?_some hf
  have e:r.1=x:=text_eq.1 h1
  rw [← e]
  exact List.mem_map_of_mem (List.mem_of_find?_eq_some hf)
theorem known_sz3 {x:ByteArray} (h:known x=true):x.size≤3:=by
 have:∀ y∈curI.map (·.1),y.size≤3:=by decide +kernel
 exact this x (known_mem h)
theorem nodup_le {β:Type} [DecidableEq β]:∀ {l m:List β},l.Nodup→(∀ x∈l,x∈m)→l.length≤m.length
 | [],_,_,_=>Nat.zero_le _
 | a :: l,m,nd,h=>by
  obtain⟨n1,n2⟩:=List.nodup_cons.1 nd
  have ha:=h a (by simp)
  have ih:=nodup_le (l:=l) (m:=m.erase a) n2 fun x hx=>(List.mem_erase_of_ne (fun e=>n1 (by rw [← e]; exact hx))).2 (h x (by simp [hx]))
  have:=List.length_erase_of_mem ha
  have hp:=List.length_pos_of_mem ha
  simp only [List.length_cons]
  omega
def Sorted {α:Type} (key:α→ByteArray) (l:List α):Prop:=∀ (i:Nat) (h:i<l.length),0<i→LessP (key (l[i-1]'(by omega))) (key l[i])
theorem Sorted.lt {α:Type} {key:α→ByteArray} {l:List α} (h:Sorted key l):∀ {i j:Nat} (hj:j<l.length) (hij:i<j),LessP (key (l[i]'(by omega))) (key l[j])
 | i,j+1,hj,hij=>by
  have h1:=h (j+1) hj (by omega)
  by_cases e:i=j
  ·subst e; exact h1
  ·exact(Sorted.lt h (i:=i) (j:=j) (by omega) (by omega)).trans h1
theorem Sorted.nodup {α:Type} {key:α→ByteArray} {l:List α} (h:Sorted key l):(l.map key).Nodup:=by
 rw [List.nodup_iff_pairwise_ne]
 rw [List.pairwise_iff_getElem]
 intro i j hi hj hij e
 simp only [List.getElem_map] at e
 have:=h.lt (i:=i) (j:=j) (by simpa using hj) hij
 rw [e] at this
 exact LessP.irr this
theorem rests_sorted {l:List DRest} (h:RestsOkP l):Sorted (·.1) l:=fun i hi h0=>by
 obtain⟨_,_,_,_,q⟩:=h i hi
 exact q h0
theorem rests_len {l:List DRest} (h:RestsOkP l):l.length≤20:=by
 have:=nodup_le (rests_sorted h).nodup (m:=curI.map (·.1)) fun x hx=>by
  obtain⟨i,hi,rfl⟩:=List.mem_iff_getElem.1 hx
  obtain⟨h1,h2,_⟩:=h i (by simpa using hi)
  simp only [List.getElem_map]
  exact known_mem h2
 have e:(curI.map (·.1)).length=20:=rfl
 simpa [e] using this
theorem totE_bound {sh:List Sc} {α:Type} {r:Rp sh α} {n:Nat}:∀ {l:List α},(∀ i (h:i<l.length),r.tot l[i]≤n)→totE r l≤l.length*n
 | [],_=>Nat.zero_le _
 | x :: l,h=>by
  have h0:r.tot x≤n:=h 0 (by simp)
  have ih:=totE_bound (r:=r) (l:=l) (n:=n) fun i hi=>by
   have:=h (i+1) (by simpa using hi)
   simpa using this
  rw [totE,List.length_cons,Nat.add_mul]
  omega
theorem int0:∀ l:List Lim,totE rI l=0
 | []=>rfl
 | _ :: l=>by rw [totE,int0 l]; rfl
theorem money_tot {x:DMoney} (h:MoneyOkP x.1 x.2.1 x.2.2.1):rMoney.tot x≤7:=by
 have e:rMoney.tot x=x.1.size+(x.2.2.1.length+totE rI x.2.2.1+0):=rfl
 rw [e,int0]
 have:=known_sz3 h.1
 have:=h.2.2
 omega
theorem rat_tot {x:DRat} (h:RatOkP x.1 x.2.1 x.2.2.1):rRat.tot x≤36:=by
 have e:rRat.tot x=x.2.1.length+totE rI x.2.1+(x.2.2.1.length+totE rI x.2.2.1+0):=rfl
 rw [e,int0,int0]
 have:=h.2.2.2.1
 have:=h.2.2.2.2.1
 omega
theorem rate_tot {x:DRate} (h:RateOkP x):rRate.tot x≤8:=by
 have e:rRate.tot x=x.1.size+(x.2.1.size+(x.2.2.2.1.length+totE rI x.2.2.2.1+0)):=rfl
 rw [e,int0]
 have:=known_sz3 h.1
 have:=known_sz3 h.2.1
 have:=h.2.2.2.2.2
 omega
theorem rates_tot {x:DRates} (h:RatesOkP x.1 x.2.1):rRates.tot x≤111:=by
 have e:rRates.tot x=x.1.size+(x.2.1.length+totE rRate x.2.1+0):=rfl
 have b:=totE_bound (r:=rRate) (n:=8) (l:=x.2.1) fun i hi=>rate_tot (h.2.2 i hi).2.1
 have:=known_sz3 h.1
 have:=h.2.1
 rw [e]
 omega
theorem book_tot {l:List DAcct} (h:BookOkP l):l.length+totE rAcct l≤240:=by
 have b:=totE_bound (r:=rAcct) (n:=19) (l:=l) fun i hi=>by
  obtain⟨_,q1,q2,_⟩:=h.2 i hi
  have e:rAcct.tot l[i]=l[i].1.size+rMoney.tot l[i].2:=rfl
  have:=money_tot (x:=l[i].2) q2
  have:=q1.2.1
  omega
 have:=h.1
 omega
theorem rests_tot {l:List DRest} (h:RestsOkP l):l.length+totE rRest l≤800:=by
 have b:=totE_bound (r:=rRest) (n:=39) (l:=l) fun i hi=>by
  obtain⟨_,q1,q2,_⟩:=h i hi
  have e:rRest.tot l[i]=l[i].1.size+rRat.tot l[i].2:=rfl
  have:=rat_tot (x:=l[i].2) q2
  have:=known_sz3 q1
  omega
 have:=rests_len h
 omega
theorem ledger_tot {x:DLedger} (h:LedgerOkP x):rLedger.tot x≤4096:=by
 have e:rLedger.tot x=x.1.length+totE rAcct x.1+(x.2.1.length+totE rRest x.2.1+rRates.tot x.2.2):=rfl
 have:=book_tot h.1
 have:=rests_tot h.2.1
 have:=rates_tot (x:=x.2.2) h.2.2
 omega
theorem ledger_elim {V:Know} {c:Scs [.l,.l,.s,.l]} {x:DLedger} {f:List Nat} (h:rLedger.R V c x f):∃ s0 s1 s3 f0 f1 f3,c=(s0,s1,x.2.2.1,s3,())∧LR rAcct V s0 x.1 f0∧LR rRest V s1 x.2.1 f1∧LR rRate V s3 x.2.2.2.1 f3:=by
 obtain⟨c0,c1,c2,c3,cu⟩:=c
 obtain⟨f0,g0,rfl,h0,f1,g1,rfl,h1,⟨e2,_⟩,f3,g3,rfl,h3,_⟩:=h
 replace e2:c2=x.2.2.1:=e2
 subst e2
 exact⟨c0,c1,c3,f0,f1,f3,rfl,h0,h1,h3⟩
end Go.Proofs.YtfiakghfncempaaGreatDoor
