/-
  A ledger's text, line by line. No program in sight.
-/
import Derived.Test.YtagkjnpggkmehaaGreatDoorBytes
import Derived.Test.YtagkjnpggkmehaaGreatDoorRdE
import Derived.Test.YtagkjnpggkmehaaGreatDoorDcS
import Derived.Lib.SplitLaws
namespace Go.Proofs.YtagkjnpggkmehaaGreatDoor
open Sx
theorem bless_irr:∀ x:List UInt8,Op.bytesLess x x=false
 | []=>rfl
 | a :: x=>by rw [Op.bytesLess,bless_irr x]; simp
theorem bless_trans:∀ {x y z:List UInt8},Op.bytesLess x y=true→Op.bytesLess y z=true→Op.bytesLess x z=true
 | _,[],_,h,_=>by simp [Op.bytesLess] at h
 | _,_ :: _,[],_,h=>by simp [Op.bytesLess] at h
 | [],_ :: _,_ :: _,_,_=>rfl
 | a :: x,b :: y,c :: z,h,k=>by
  simp only [Op.bytesLess,Bool.or_eq_true,decide_eq_true_eq,Bool.and_eq_true,beq_iff_eq] at h k ⊢
  rcases h with h | ⟨rfl,h⟩
  ·rcases k with k | ⟨rfl,k⟩
   ·exact .inl (UInt8.lt_trans h k)
   ·exact .inl h
  ·rcases k with k | ⟨rfl,k⟩
   ·exact .inl k
   ·exact .inr ⟨rfl,bless_trans h k⟩
theorem bless_tot:∀ (x y:List UInt8),Op.bytesLess x y=true∨x=y∨Op.bytesLess y x=true
 | [],[]=>.inr (.inl rfl)
 | [],_ :: _=>.inl rfl
 | _ :: _,[]=>.inr (.inr rfl)
 | a :: x,b :: y=>by
  simp only [Op.bytesLess,Bool.or_eq_true,decide_eq_true_eq,Bool.and_eq_true,beq_iff_eq,List.cons.injEq]
  rcases UInt8.lt_or_le a b with h | h
  ·exact .inl (.inl h)
  by_cases e:a=b
  ·subst e
   rcases bless_tot x y with k | k | k
   ·exact .inl (.inr ⟨rfl,k⟩)
   ·exact .inr (.inl ⟨rfl,k⟩)
   ·exact .inr (.inr (.inr ⟨rfl,k⟩))
  ·exact .inr (.inr (.inl (UInt8.lt_of_le_of_ne h (fun q=>e q.symm))))
theorem LessP.irr {a:ByteArray}:¬ LessP a a:=fun h=>by
 unfold LessP at h
 rw [bless_irr] at h; cases h
theorem LessP.trans {a b c:ByteArray} (h:LessP a b) (k:LessP b c):LessP a c:=bless_trans h k
theorem LessP.tot {a b:ByteArray} (h:¬ LessP a b) (k:a≠b):LessP b a:=by
 rcases bless_tot a.toList b.toList with q | q | q
 ·exact absurd q h
 ·exact absurd (toList_inj.1 q) k
 ·exact q
theorem known_mem {x:ByteArray} (h:known x=true):x∈curI.map (·.1):=by
 unfold known curFrom at h
 cases hf:(curI.drop 0).find? (curHas x) with
 | none=>rw [hf] at h; cases h
 | some r =>
  have h1:=List.find?_some hf
  have e:r.1=x:=text_eq.1 h1
  rw [← e]
  exact List.mem_map_of_mem (List.mem_of_find?_eq_some hf)
theorem known_sz3 {x:ByteArray} (h:known x=true):x.size≤3:=by
 have:∀ y∈curI.map (·.1),y.size≤3:=by decide +kernel
 exact this x (known_mem h)
theorem nodup_le {β:Type} [DecidableEq β]:∀ {l m:List β},l.Nodup→(∀ x∈l,x∈m)→l.length≤m.length
 | [],_,_,_=>Nat.zero_le _
 | a :: l,m,nd,h=>by
  obtain⟨n1,n2⟩:=List.nodup_cons.1 nd
  have ha:=h a (by simp)
  have ih:=nodup_le (l:=l) (m:=m.erase a) n2 fun x hx=>(List.mem_erase_of_ne (fun e=>n1 (by rw [← e]; exact hx))).2 (h x (by simp [hx]))
  have:=List.length_erase_of_mem ha
  have hp:=List.length_pos_of_mem ha
  simp only [List.length_cons]
  omega
def Sorted {α:Type} (key:α→ByteArray) (l:List α):Prop:=∀ (i:Nat) (h:i<l.length),0<i→LessP (key (l[i-1]'(by omega))) (key l[i])
theorem Sorted.lt {α:Type} {key:α→ByteArray} {l:List α} (h:Sorted key l):∀ {i j:Nat} (hj:j<l.length) (hij:i<j),LessP (key (l[i]'(by omega))) (key l[j])
 | i,j+1,hj,hij=>by
  have h1:=h (j+1) hj (by omega)
  by_cases e:i=j
  ·subst e; exact h1
  ·exact(Sorted.lt h (i:=i) (j:=j) (by omega) (by omega)).trans h1
theorem Sorted.nodup {α:Type} {key:α→ByteArray} {l:List α} (h:Sorted key l):(l.map key).Nodup:=by
 rw [List.nodup_iff_pairwise_ne]
 rw [List.pairwise_iff_getElem]
 intro i j hi hj hij e
 simp only [List.getElem_map] at e
 have:=h.lt (i:=i) (j:=j) (by simpa using hj) hij
 rw [e] at this
 exact LessP.irr this
theorem rests_sorted {l:List DRest} (h:RestsOkP l):Sorted (·.1) l:=fun i hi h0=>by
 obtain⟨_,_,_,_,q⟩:=h i hi
 exact q h0
theorem rests_len {l:List DRest} (h:RestsOkP l):l.length≤20:=by
 have:=nodup_le (rests_sorted h).nodup (m:=curI.map (·.1)) fun x hx=>by
  obtain⟨i,hi,rfl⟩:=List.mem_iff_getElem.1 hx
  obtain⟨h1,h2,_⟩:=h i (by simpa using hi)
  simp only [List.getElem_map]
  exact known_mem h2
 have e:(curI.map (·.1)).length=20:=rfl
 simpa [e] using this
theorem totE_bound {sh:List Sc} {α:Type} {r:Rp sh α} {n:Nat}:∀ {l:List α},(∀ i (h:i<l.length),r.tot l[i]≤n)→totE r l≤l.length*n
 | [],_=>Nat.zero_le _
 | x :: l,h=>by
  have h0:r.tot x≤n:=h 0 (by simp)
  have ih:=totE_bound (r:=r) (l:=l) (n:=n) fun i hi=>by
   have:=h (i+1) (by simpa using hi)
   simpa using this
  rw [totE,List.length_cons,Nat.add_mul]
  omega
theorem int0:∀ l:List Lim,totE rI l=0
 | []=>rfl
 | _ :: l=>by rw [totE,int0 l]; rfl
theorem money_tot {x:DMoney} (h:MoneyOkP x.1 x.2.1 x.2.2.1):rMoney.tot x≤7:=by
 have e:rMoney.tot x=x.1.size+(x.2.2.1.length+totE rI x.2.2.1+0):=rfl
 rw [e,int0]
 have:=known_sz3 h.1
 have:=h.2.2
 omega
theorem rat_tot {x:DRat} (h:RatOkP x.1 x.2.1 x.2.2.1):rRat.tot x≤36:=by
 have e:rRat.tot x=x.2.1.length+totE rI x.2.1+(x.2.2.1.length+totE rI x.2.2.1+0):=rfl
 rw [e,int0,int0]
 have:=h.2.2.2.1
 have:=h.2.2.2.2.1
 omega
theorem rate_tot {x:DRate} (h:RateOkP x):rRate.tot x≤8:=by
 have e:rRate.tot x=x.1.size+(x.2.1.size+(x.2.2.2.1.length+totE rI x.2.2.2.1+0)):=rfl
 rw [e,int0]
 have:=known_sz3 h.1
 have:=known_sz3 h.2.1
 have:=h.2.2.2.2.2
 omega
theorem rates_tot {x:DRates} (h:RatesOkP x.1 x.2.1):rRates.tot x≤111:=by
 have e:rRates.tot x=x.1.size+(x.2.1.length+totE rRate x.2.1+0):=rfl
 have b:=totE_bound (r:=rRate) (n:=8) (l:=x.2.1) fun i hi=>rate_tot (h.2.2 i hi).2.1
 have:=known_sz3 h.1
 have:=h.2.1
 rw [e]
 omega
theorem book_tot {l:List DAcct} (h:BookOkP l):l.length+totE rAcct l≤240:=by
 have b:=totE_bound (r:=rAcct) (n:=19) (l:=l) fun i hi=>by
  obtain⟨_,q1,q2,_⟩:=h.2 i hi
  have e:rAcct.tot l[i]=l[i].1.size+rMoney.tot l[i].2:=rfl
  have:=money_tot (x:=l[i].2) q2
  have:=q1.2.1
  omega
 have:=h.1
 omega
theorem rests_tot {l:List DRest} (h:RestsOkP l):l.length+totE rRest l≤800:=by
 have b:=totE_bound (r:=rRest) (n:=39) (l:=l) fun i hi=>by
  obtain⟨_,q1,q2,_⟩:=h i hi
  have e:rRest.tot l[i]=l[i].1.size+rRat.tot l[i].2:=rfl
  have:=rat_tot (x:=l[i].2) q2
  have:=known_sz3 q1
  omega
 have:=rests_len h
 omega
theorem ledger_tot {x:DLedger} (h:LedgerOkP x):rLedger.tot x≤4096:=by
 have e:rLedger.tot x=x.1.length+totE rAcct x.1+(x.2.1.length+totE rRest x.2.1+rRates.tot x.2.2):=rfl
 have:=book_tot h.1
 have:=rests_tot h.2.1
 have:=rates_tot (x:=x.2.2) h.2.2
 omega
end Go.Proofs.YtagkjnpggkmehaaGreatDoor
namespace Go.Proofs.YtagkjnpggkmehaaGreatDoor
open Sx Go.RowKit
set_option maxRecDepth 100000
theorem pre_one (c b:UInt8) (l:List UInt8):[c].isPrefixOf (b :: l)=(c == b):=by simp [List.isPrefixOf]
theorem index_none1 {c:UInt8}:∀ {a:List UInt8},c ∉ a→Go.Lib.index a [c]=-1
 | [],_=>by simp [Go.Lib.index]
 | x :: r,h=>by
  have h1:(c == x)=false:=by
   cases hq:c == x with
   | false=>rfl
   | true=>exact absurd (by simp [eq_of_beq hq]) h
  rw [Go.Lib.index,pre_one,h1,index_none1 fun k=>h (List.mem_cons_of_mem _ k)]
  simp
theorem index_at1 {c:UInt8} {b:List UInt8}:∀ {a:List UInt8},c ∉ a→Go.Lib.index (a++c :: b) [c]=a.length
 | [],_=>by rw [List.nil_append,Go.Lib.index,pre_one]; simp
 | x :: r,h=>by
  have h1:(c == x)=false:=by
   cases hq:c == x with
   | false=>rfl
   | true=>exact absurd (by simp [eq_of_beq hq]) h
  rw [List.cons_append,Go.Lib.index,pre_one,h1,index_at1 fun k=>h (List.mem_cons_of_mem _ k)]
  have:((r.length:Int) == -1)=false:=beq_eq_false_iff_ne.2 (by omega)
  simp [this]
theorem cut_one {c:UInt8} {a b:List UInt8} (h:c ∉ a):Go.Lib.cut (a++c :: b) [c]=(a,b,true):=by
 unfold Go.Lib.cut
 rw [index_at1 h,if_pos (by omega),Int.toNat_natCast]
 simp
theorem known_space {c:ByteArray} (h:known c=true):(32:UInt8) ∉ bl c∧(59:UInt8) ∉ bl c∧(10:UInt8) ∉ bl c:=by
 have key:∀ r∈curI,(32:UInt8) ∉ bl r.1∧(59:UInt8) ∉ bl r.1∧(10:UInt8) ∉ bl r.1:=by decide +kernel
 obtain⟨r,hr,e⟩:=List.mem_map.1 (known_mem h)
 rw [← e]
 exact key r hr
theorem ratX_bytes {x:DRat} (h:RatX x):∀ c∈bl (ratX x),NumB c∨c=47:=fun c hc=>by
 have h1:bl (ratX x)=bl (ratT x.1 x.2.1 x.2.2.1):=rfl
 rw [h1] at hc
 unfold ratT at hc
 split at hc
 ·exact .inl (intT_bytes h.1.1.1 c hc)
 ·rw [bl_append,bl_append] at hc
  rcases List.mem_append.1 hc with k | k
  ·rcases List.mem_append.1 k with k | k
   ·exact .inl (intT_bytes h.1.1.1 c k)
   ·exact .inr (by simpa using k)
  ·exact .inl (.inr (natT_dg h.2.1.1 c k))
theorem ratX_no {x:DRat} (h:RatX x):(32:UInt8) ∉ bl (ratX x)∧(59:UInt8) ∉ bl (ratX x)∧(10:UInt8) ∉ bl (ratX x):=by
 refine⟨fun k=>?_,fun k=>?_,fun k=>?_⟩
 all_goals
  rcases ratX_bytes h _ k with (k | k) | k
  ·exact absurd k (by decide)
  ·exact absurd k (by decide)
  ·exact absurd k (by decide)
abbrev restX (x:DRest):ByteArray:=(x.1++(⟨#[32]⟩:ByteArray))++ratX x.2
abbrev ResP (x:DRest):Prop:=known x.1=true∧RatX x.2
theorem restX_bl (x:DRest):bl (restX x)=bl x.1++32 :: bl (ratX x.2):=by
 rw [bl_append,bl_append]
 show(bl x.1++[32])++bl (ratX x.2)=_
 simp
theorem rests_ok {l:List DRest} (h:RestsOkP l):∀ x∈l,ResP x:=fun x hx=>by
 obtain⟨i,hi,rfl⟩:=List.getElem_of_mem hx
 obtain⟨_,h1,h2,_⟩:=h i hi
 exact⟨h1,h2⟩
end Go.Proofs.YtagkjnpggkmehaaGreatDoor
namespace Go.Proofs.YtagkjnpggkmehaaGreatDoor
open Sx
set_option maxRecDepth 100000
theorem loadV_mono {V V':Know} {a:Addr} {k:Nat} {x:List Value} (h:V.le V') (hl:loadV V a k=some x):loadV V' a k=some x:=by
 unfold loadV at hl ⊢
 split at hl
 ·rename_i cs u h1 h2
  rw [h1,h _ _ h2]
  exact hl
 ·cases hl
theorem cI_Cut (V:Know) (s:ByteArray) (hs:s.size≤1048576):CallX Tryz.prog V 198 [.string s] (CutPost V 32 s):=by
 refine CallX.of_fits Tryz.mix (fI_Cut _) fun _=>?_
 simp only [tI_Cut,T.wp]
 refine(cI_CutAt V s 32 hs).mono ?_
 rintro V1 _ ⟨le1,t,f,rfl,L,O⟩
 exact⟨nofun,t,rfl,le1,t,f,rfl,L,O⟩
theorem decT_bytes {n:Bool} {l:List Lim} {q:Int} (a:DecOkP n l q):∀ c∈bl (decT n l q),c=45∨c=46∨Dg c:=by
 have hb:∀ c∈bl (decB l q),c=46∨Dg c:=fun c hc=>by
  have hd:=decP_dg (sc:=q) a.1.1.1 a.2.2.2
  rcases decB_parts a.1.1.1 a.2.1 a.2.2.1 a.2.2.2 with ⟨_,e⟩ | ⟨_,A,B,e,e2,_⟩
  ·rw [e] at hc; exact .inr (hd c hc)
  ·rw [e] at hc
   rw [e2] at hd
   rcases List.mem_append.1 hc with h | h
   ·exact .inr (hd c (by simp [h]))
   ·rcases List.mem_cons.1 h with h | h
    ·exact .inl h
    ·exact .inr (hd c (by simp [h]))
 intro c hc
 cases n with
 | false=>rw [decT_pos] at hc; exact .inr (hb c hc)
 | true =>
  rw [decT_neg] at hc
  rcases List.mem_cons.1 hc with h | h
  ·exact .inl h
  ·exact .inr (hb c h)
theorem decT_no {n:Bool} {l:List Lim} {q:Int} (a:DecOkP n l q) {x:UInt8} (h1:x≠45) (h2:x≠46) (h3:¬ Dg x):x ∉ bl (decT n l q):=fun hx=>by
 rcases decT_bytes a x hx with h | h | h
 ·exact h1 h
 ·exact h2 h
 ·exact h3 h
theorem mon_dec {c:ByteArray} {m:Bool} {l:List Lim} (h:MoneyOkP c m l):DecOkP m l (places c) :=
 ⟨h.2.1,by have:=h.2.2; omega,(places_bd c).1,by have:=(places_bd c).2; omega⟩
theorem moneyT_bl (c:ByteArray) (m:Bool) (l:List Lim):bl (moneyT c m l)=bl c++32 :: bl (decT m l (places c)):=by
 unfold moneyT
 rw [bl_append,bl_append]
 show(bl c++[32])++_=_
 simp
theorem money_cut {c:ByteArray} {m:Bool} {l:List Lim} (h:MoneyOkP c m l):cutB 32 (moneyT c m l)=[(c,()),(decT m l (places c),())]:=by
 refine cutB_eq (moneyT_bl c m l) (by simp) fun x hx=>?_
 rcases List.mem_cons.1 hx with rfl | hx
 ·exact(known_space h.1).1
 ·obtain rfl:x=(decT m l (places c),()):=by simpa using hx
  exact decT_no (mon_dec h) (by decide) (by decide) (by decide)
theorem rateT_bl (r:DRate):bl (rateT r)=bl r.1++32 :: (bl r.2.1++32 :: bl (decT r.2.2.1 r.2.2.2.1 r.2.2.2.2.1)):=by
 unfold rateT
 rw [bl_append,bl_append,bl_append,bl_append]
 show(((bl r.1++[32])++bl r.2.1)++[32])++_=_
 simp
theorem rate_cut {r:DRate} (h:RateOkP r):cutB 32 (rateT r)=[(r.1,()),(r.2.1,()),(decT r.2.2.1 r.2.2.2.1 r.2.2.2.2.1,())]:=by
 refine cutB_eq (rateT_bl r) (by simp) fun x hx=>?_
 rcases List.mem_cons.1 hx with rfl | hx
 ·exact(known_space h.1).1
 rcases List.mem_cons.1 hx with rfl | hx
 ·exact(known_space h.2.1).1
 ·obtain rfl:x=(decT r.2.2.1 r.2.2.2.1 r.2.2.2.2.1,()):=by simpa using hx
  exact decT_no h.2.2.2.1 (by decide) (by decide) (by decide)
theorem cut_two {c:UInt8} {s p q:ByteArray} (h:cutB c s=[(p,()),(q,())]):s.size=p.size+1+q.size:=by
 have:=cutB_join c s
 rw [h] at this
 have:=congrArg List.length this
 rw [bl_len] at this
 have e:(joinC c ([(p,()),(q,())].map fun x=>bl x.1)).length=(bl p++c :: bl q).length:=rfl
 rw [e,List.length_append,List.length_cons,bl_len,bl_len] at this
 omega
theorem cut_three {c:UInt8} {s p q r:ByteArray} (h:cutB c s=[(p,()),(q,()),(r,())]):s.size=p.size+1+q.size+1+r.size:=by
 have:=cutB_join c s
 rw [h] at this
 have:=congrArg List.length this
 rw [bl_len] at this
 have e:(joinC c ([(p,()),(q,()),(r,())].map fun x=>bl x.1)).length=(bl p++c :: (bl q++c :: bl r)).length:=rfl
 rw [e,List.length_append,List.length_cons,List.length_append,List.length_cons,bl_len,bl_len,bl_len] at this
 omega
def MoRes (s:ByteArray) (c:ByteArray) (n:Bool) (o:List Lim) (ok:Bool):Prop :=
 c.size+o.length≤s.size∧∀ c' m l,MoneyOkP c' m l→moneyT c' m l=s→ok=true∧c=c'∧n=m∧o=l
abbrev MoRd (V:Know) (s:ByteArray):Know→Value→Prop:=fun V' r=>V.le V'∧∃ c n t o f ok,r=.tuple #[qv4 (c,n,t,()),.bool ok]∧LR rI V' t o f∧Own V V' f∧MoRes s c n o ok
theorem mo_no {V V':Know} {s:ByteArray} (le:V.le V') (h:∀ c m l,MoneyOkP c m l→moneyT c m l=s→False):MoRd V s V' (packed [qv4 (⟨#[]⟩,false,⟨none,0,0⟩,()),.bool false]) :=
 ⟨le,⟨#[]⟩,false,⟨none,0,0⟩,[],[],false,rfl,lr_none,Own.nil,Nat.zero_le _,fun c m l a b=>(h c m l a b).elim⟩
theorem n_two {t:SlV} {L:List Tx} (h:t.n=L.length):((t.n:Int) != (2:Int))=true→L.length≠2:=fun k e=>by
 have:(t.n:Int)≠2:=by simpa using k
 omega
theorem is_two {t:SlV} {L:List Tx} (h:t.n=L.length) (k:((t.n:Int) != (2:Int))=false):∃ p q,L=[(p,()),(q,())]:=by
 have e:(t.n:Int)=2:=by simpa using k
 match L,h with
 | [p,q],_=>exact⟨p.1,q.1,rfl⟩
 | [],h=>simp at h; omega
 | [_],h=>simp at h; omega
 | _ :: _ :: _ :: _,h=>simp at h; omega
theorem is_three {t:SlV} {L:List Tx} (h:t.n=L.length) (k:((t.n:Int) != (3:Int))=false):∃ p q r,L=[(p,()),(q,()),(r,())]:=by
 have e:(t.n:Int)=3:=by simpa using k
 match L,h with
 | [p,q,r],_=>exact⟨p.1,q.1,r.1,rfl⟩
 | [],h=>simp at h; omega
 | [_],h=>simp at h; omega
 | [_,_],h=>simp at h; omega
 | _ :: _ :: _ :: _ :: _,h=>simp at h; omega
theorem LR.atK {V:Know} {t:SlV} {l:List Tx} {f:List Nat} (h:LR rString V t l f) {i:Nat} {x:Tx} (e:l[i]?=some x):∃ b o,t.a=some ⟨b,o,none⟩∧loadV V ((⟨b,o,none⟩:Addr).add (i*1)) 1=some [.string x.1]:=by
 obtain⟨hi,rfl⟩:=List.getElem?_eq_some_iff.1 e
 obtain⟨⟨b,o,a1,l1⟩,_⟩:=h.txt hi
 exact⟨b,o,a1,l1⟩
theorem cI_TextMoney {V:Know} (hV:HtI V) (s:ByteArray) (hs:s.size≤1048576):CallX Tryz.prog V 131 [.string s] (MoRd V s):=by
 refine CallX.of_fits Tryz.mix (fI_TextMoney _) fun _=>?_
 simp only [tI_TextMoney,T.wp]
 refine(cI_Cut V s hs).mono ?_
 rintro V1 _ ⟨le1,t,f,rfl,L1,O1⟩
 have hn:=L1.1
 refine⟨nofun,t,rfl,fun h2=>mo_no le1 fun c m l a b=>?_,fun h2=>?_⟩
 ·refine n_two hn h2 ?_
  rw [← b,money_cut a]; rfl
 ·obtain⟨p,q,e⟩:=is_two hn h2
  rw [e] at L1 hn
  have hz:=cut_two e
  obtain⟨b,o,ha,ld1⟩:=L1.atK (i:=1) (x:=(q,())) rfl
  obtain⟨b',o',ha',ld0⟩:=L1.atK (i:=0) (x:=(p,())) rfl
  rw [ha] at ha'
  cases ha'
  rw [ha]
  have hn2:(t.n:Int)=2:=by rw [hn]; rfl
  refine⟨_,rfl,by decide,by omega,q,ld1,(cI_TextDec (hV.le le1) q (by omega)).mono ?_⟩
  rintro V2 _ ⟨le2,n,t2,sc,o2,f2,ok,rfl,L2,O2,k1,k2,k3,k4⟩
  have leA:=le1.trans le2
  have get:∀ c m l,MoneyOkP c m l→moneyT c m l=s→ok=true∧p=c∧n=m∧o2=l:=fun c m l a b=>by
   have:=money_cut a
   rw [b,e] at this
   simp only [List.cons.injEq,Prod.mk.injEq,and_true] at this
   obtain⟨rfl,e2⟩:=this
   obtain⟨j1,j2,j3,_⟩:=k4 m l _ (mon_dec a) e2.symm
   exact⟨j1,rfl,j2,j3⟩
  have ld0':loadV V2 ((⟨b,o,none⟩:Addr).add (Int.toNat 0*1)) 1=some [.string p]:=loadV_mono le2 ld0
  refine⟨nofun,((n,t2,sc,()),ok,()),rfl,_,rfl,by decide,by omega,p,ld0',fun hf=>mo_no leA fun c m l a b=>?_,fun ht=>?_⟩
  ·have:=(get c m l a b).1
   have hf':ok=false:=by simpa using hf
   rw [hf'] at this; cases this
  ·have hok:ok=true:=by simpa using ht
   subst hok
   refine(cI_MoneyText (hV.le leA) p n t2 o2 f2 L2 (by omega)).mono ?_
   rintro V3 _ ⟨le3,rfl⟩
   have leB:=leA.trans le3
   refine⟨nofun,_,rfl,fun hne=>mo_no leB fun c m l a b=>?_,fun _=>⟨fun he=>mo_no leB fun c m l a b=>?_,fun _=>⟨leB,p,n,t2,o2,f2,true,rfl,L2.le le3,(O2.post le3).pre le1,by omega,get⟩⟩⟩
   ·obtain⟨_,rfl,rfl,rfl⟩:=get c m l a b
    rw [okT_pos a,b] at hne
    have:(s.toList == s.toList)=true:=text_eq.2 rfl
    rw [this] at hne; cases hne
   ·have hz0:s.size=0:=empty_iff.1 he
    omega
theorem cS_l09Make (V:Know) (c0:ByteArray) (c1:Bool) (c2:SlV) (l:List Lim) (f:List Nat) (h:LR rI V c2 l f) :
  CallX Tryz.prog V 191 [.string c0,qv0 (c1,c2,())] (fun V' r=>V.le V'∧((MoneyOkP c0 c1 l∧r=.tuple #[qv4 (c0,c1,c2,()),.bool true])∨(¬ MoneyOkP c0 c1 l∧r=.tuple #[qv4 (⟨#[]⟩,false,⟨none,0,0⟩,()),.bool false]))):=by
 refine CallX.of_fits Tryz.mix (fS_l09Make _ _) fun _=>?_
 simp only [tS_l09Make,T.wp]
 refine(cS_MoneyOk c0 c1 c2 l f h).mono ?_
 rintro V1 r ⟨le1,e,rfl,he⟩
 refine⟨nofun,e,rfl,fun hf=>⟨le1,.inr ⟨fun k=>?_,rfl⟩⟩,fun ht=>⟨le1,.inl ⟨he.1 (by simpa using ht),rfl⟩⟩⟩
 rw [he.2 k] at hf; cases hf
theorem cS_TextMoney (V:Know) (s:ByteArray) (hs:s.size≤1048576):CallX Tryz.prog V 124 [.string s] (MoRd V s):=by
 refine CallX.of_fits Tryz.mix (fS_TextMoney _) fun _=>?_
 simp only [tS_TextMoney,T.wp]
 refine(cS_Cut V s hs).mono ?_
 rintro V1 _ ⟨le1,t,f,rfl,L1,O1⟩
 have hn:=L1.1
 refine⟨nofun,t,rfl,fun h2=>mo_no le1 fun c m l a b=>?_,fun h2=>?_⟩
 ·refine n_two hn h2 ?_
  rw [← b,money_cut a]; rfl
 ·obtain⟨p,q,e⟩:=is_two hn h2
  rw [e] at L1 hn
  have hz:=cut_two e
  obtain⟨b,o,ha,ld1⟩:=L1.atK (i:=1) (x:=(q,())) rfl
  obtain⟨b',o',ha',ld0⟩:=L1.atK (i:=0) (x:=(p,())) rfl
  rw [ha] at ha'
  cases ha'
  rw [ha]
  have hn2:(t.n:Int)=2:=by rw [hn]; rfl
  refine⟨_,rfl,by decide,by omega,q,ld1,(cS_TextDec V1 q (by omega)).mono ?_⟩
  rintro V2 _ ⟨le2,n,t2,sc,o2,f2,ok,rfl,L2,O2,k1,k2,k3,k4⟩
  have leA:=le1.trans le2
  have get:∀ c m l,MoneyOkP c m l→moneyT c m l=s→ok=true∧p=c∧n=m∧o2=l:=fun c m l a b=>by
   have:=money_cut a
   rw [b,e] at this
   simp only [List.cons.injEq,Prod.mk.injEq,and_true] at this
   obtain⟨rfl,e2⟩:=this
   obtain⟨j1,j2,j3,_⟩:=k4 m l _ (mon_dec a) e2.symm
   exact⟨j1,rfl,j2,j3⟩
  have ld0':loadV V2 ((⟨b,o,none⟩:Addr).add (Int.toNat 0*1)) 1=some [.string p]:=loadV_mono le2 ld0
  refine⟨nofun,((n,t2,sc,()),ok,()),rfl,_,rfl,by decide,by omega,p,ld0',(cS_l09Make V2 p n t2 o2 f2 L2).mono ?_⟩
  rintro V3 _ ⟨le3,⟨hm,rfl⟩ | ⟨hm,rfl⟩⟩
  ·have leB:=leA.trans le3
   refine⟨nofun,((p,n,t2,()),true,()),rfl,fun hf=>mo_no leB fun c m l a b=>?_,fun ht=>⟨nofun,fun _=>?_⟩⟩
   ·have:=(get c m l a b).1
    have hf':ok=false:=by simpa using hf
    rw [hf'] at this; cases this
   ·have hok:ok=true:=by simpa using ht
    subst hok
    refine(cS_MoneyText trivial p n t2 o2 f2 (L2.le le3) (by omega)).mono ?_
    rintro V4 _ ⟨le4,rfl⟩
    have leC:=leB.trans le4
    refine⟨nofun,_,rfl,fun hne=>mo_no leC fun c m l a b=>?_,fun _=>⟨leC,p,n,t2,o2,f2,true,rfl,(L2.le le3).le le4,(O2.post (le3.trans le4)).pre le1,by omega,get⟩⟩
    obtain⟨_,rfl,rfl,rfl⟩:=get c m l a b
    rw [okT_pos a,b] at hne
    have:(s.toList == s.toList)=true:=text_eq.2 rfl
    rw [this] at hne; cases hne
  ·have leB:=leA.trans le3
   have no:∀ c m l,MoneyOkP c m l→moneyT c m l=s→False:=fun c m l a b=>by
    obtain⟨_,rfl,rfl,rfl⟩:=get c m l a b
    exact hm a
   exact⟨nofun,((⟨#[]⟩,false,⟨none,0,0⟩,()),false,()),rfl,fun _=>mo_no leB no,fun _=>⟨fun _=>mo_no leB no,nofun⟩⟩
def RtRes (s:ByteArray) (x:DRate) (ok:Bool):Prop:=x.1.size+x.2.1.size+x.2.2.2.1.length≤s.size∧∀ y:DRate,RateOkP y→rateT y=s→ok=true∧x=y
abbrev RtRd (V:Know) (s:ByteArray):Know→Value→Prop:=fun V' r=>V.le V'∧∃ (x:DRate) (t:SlV) (f:List Nat) (ok:Bool),r=.tuple #[qv6 (x.1,x.2.1,x.2.2.1,t,x.2.2.2.2.1,()),.bool ok]∧LR rI V' t x.2.2.2.1 f∧Own V V' f∧RtRes s x ok
theorem rt_no {V V':Know} {s:ByteArray} (le:V.le V') (h:∀ y:DRate,RateOkP y→rateT y=s→False):RtRd V s V' (packed [qv6 (⟨#[]⟩,⟨#[]⟩,false,⟨none,0,0⟩,(0:Int),()),.bool false]) :=
 ⟨le,(⟨#[]⟩,⟨#[]⟩,false,[],0,()),⟨none,0,0⟩,[],false,rfl,lr_none,Own.nil,Nat.zero_le _,fun y a b=>(h y a b).elim⟩
theorem n_three {t:SlV} {L:List Tx} (h:t.n=L.length):((t.n:Int) != (3:Int))=true→L.length≠3:=fun k e=>by
 have:(t.n:Int)≠3:=by simpa using k
 omega
theorem cI_TextRate {V:Know} (hV:HtI V) (s:ByteArray) (hs:s.size≤1048576):CallX Tryz.prog V 130 [.string s] (RtRd V s):=by
 refine CallX.of_fits Tryz.mix (fI_TextRate _) fun _=>?_
 simp only [tI_TextRate,T.wp]
 refine(cI_Cut V s hs).mono ?_
 rintro V1 _ ⟨le1,t,f,rfl,L1,O1⟩
 have hn:=L1.1
 refine⟨nofun,t,rfl,fun h2=>rt_no le1 fun y a b=>?_,fun h2=>?_⟩
 ·refine n_three hn h2 ?_
  rw [← b,rate_cut a]; rfl
 ·obtain⟨p,q,r,e⟩:=is_three hn h2
  rw [e] at L1 hn
  have hz:=cut_three e
  obtain⟨b,o,ha,ld2⟩:=L1.atK (i:=2) (x:=(r,())) rfl
  obtain⟨b',o',ha',ld0⟩:=L1.atK (i:=0) (x:=(p,())) rfl
  rw [ha] at ha'
  cases ha'
  obtain⟨b',o',ha',ld1⟩:=L1.atK (i:=1) (x:=(q,())) rfl
  rw [ha] at ha'
  cases ha'
  rw [ha]
  have hn2:(t.n:Int)=3:=by rw [hn]; rfl
  refine⟨_,rfl,by decide,by omega,r,ld2,(cI_TextDec (hV.le le1) r (by omega)).mono ?_⟩
  rintro V2 _ ⟨le2,n,t2,sc,o2,f2,ok,rfl,L2,O2,k1,k2,k3,k4⟩
  have leA:=le1.trans le2
  have get:∀ y:DRate,RateOkP y→rateT y=s→ok=true∧((p,q,n,o2,sc,()):DRate)=y:=fun y a b=>by
   have:=rate_cut a
   rw [b,e] at this
   simp only [List.cons.injEq,Prod.mk.injEq,and_true] at this
   obtain⟨e0,e1,e2⟩:=this
   obtain⟨j1,j2,j3,j4⟩:=k4 _ _ _ a.2.2.2.1 e2.symm
   obtain⟨y0,y1,y2,y3,y4,yu⟩:=y
   subst e0 e1 j2 j3 j4
   exact⟨j1,rfl⟩
  have ld0':loadV V2 ((⟨b,o,none⟩:Addr).add (Int.toNat 0*1)) 1=some [.string p]:=loadV_mono le2 ld0
  have ld1':loadV V2 ((⟨b,o,none⟩:Addr).add (Int.toNat 1*1)) 1=some [.string q]:=loadV_mono le2 ld1
  refine⟨nofun,((n,t2,sc,()),ok,()),rfl,_,rfl,by decide,by omega,p,ld0',_,rfl,by decide,by omega,q,ld1',fun hf=>rt_no leA fun y a b=>?_,fun ht=>?_⟩
  ·have:=(get y a b).1
   have hf':ok=false:=by simpa using hf
   rw [hf'] at this; cases this
  ·have hok:ok=true:=by simpa using ht
   subst hok
   refine(cI_RateOk (hV.le leA).c ((p,q,n,o2,sc,()):DRate) t2 f2 L2).mono ?_
   rintro V3 _ ⟨le3,e3,rfl,he3⟩
   have leB:=leA.trans le3
   refine⟨nofun,_,rfl,fun hne=>rt_no leB fun y a b=>?_,fun _=>⟨leB,(p,q,n,o2,sc,()),t2,f2,true,rfl,L2.le le3,(O2.post le3).pre le1,by show p.size+q.size+o2.length≤_; omega,get⟩⟩
   obtain⟨_,rfl⟩:=get y a b
   rw [he3.2 a] at hne; cases hne
theorem cS_TextRate (V:Know) (s:ByteArray) (hs:s.size≤1048576):CallX Tryz.prog V 123 [.string s] (RtRd V s):=by
 refine CallX.of_fits Tryz.mix (fS_TextRate _) fun _=>?_
 simp only [tS_TextRate,T.wp]
 refine(cS_Cut V s hs).mono ?_
 rintro V1 _ ⟨le1,t,f,rfl,L1,O1⟩
 have hn:=L1.1
 refine⟨nofun,t,rfl,fun h2=>rt_no le1 fun y a b=>?_,fun h2=>?_⟩
 ·refine n_three hn h2 ?_
  rw [← b,rate_cut a]; rfl
 ·obtain⟨p,q,r,e⟩:=is_three hn h2
  rw [e] at L1 hn
  have hz:=cut_three e
  obtain⟨b,o,ha,ld2⟩:=L1.atK (i:=2) (x:=(r,())) rfl
  obtain⟨b',o',ha',ld0⟩:=L1.atK (i:=0) (x:=(p,())) rfl
  rw [ha] at ha'
  cases ha'
  obtain⟨b',o',ha',ld1⟩:=L1.atK (i:=1) (x:=(q,())) rfl
  rw [ha] at ha'
  cases ha'
  rw [ha]
  have hn2:(t.n:Int)=3:=by rw [hn]; rfl
  refine⟨_,rfl,by decide,by omega,r,ld2,(cS_TextDec V1 r (by omega)).mono ?_⟩
  rintro V2 _ ⟨le2,n,t2,sc,o2,f2,ok,rfl,L2,O2,k1,k2,k3,k4⟩
  have leA:=le1.trans le2
  have get:∀ y:DRate,RateOkP y→rateT y=s→ok=true∧((p,q,n,o2,sc,()):DRate)=y:=fun y a b=>by
   have:=rate_cut a
   rw [b,e] at this
   simp only [List.cons.injEq,Prod.mk.injEq,and_true] at this
   obtain⟨e0,e1,e2⟩:=this
   obtain⟨j1,j2,j3,j4⟩:=k4 _ _ _ a.2.2.2.1 e2.symm
   obtain⟨y0,y1,y2,y3,y4,yu⟩:=y
   subst e0 e1 j2 j3 j4
   exact⟨j1,rfl⟩
  have ld0':loadV V2 ((⟨b,o,none⟩:Addr).add (Int.toNat 0*1)) 1=some [.string p]:=loadV_mono le2 ld0
  have ld1':loadV V2 ((⟨b,o,none⟩:Addr).add (Int.toNat 1*1)) 1=some [.string q]:=loadV_mono le2 ld1
  refine⟨nofun,((n,t2,sc,()),ok,()),rfl,_,rfl,by decide,by omega,p,ld0',_,rfl,by decide,by omega,q,ld1',fun hf=>rt_no leA fun y a b=>?_,fun ht=>?_⟩
  ·have:=(get y a b).1
   have hf':ok=false:=by simpa using hf
   rw [hf'] at this; cases this
  ·have hok:ok=true:=by simpa using ht
   subst hok
   refine(cS_RateOk trivial ((p,q,n,o2,sc,()):DRate) t2 f2 L2).mono ?_
   rintro V3 _ ⟨le3,e3,rfl,he3⟩
   have leB:=leA.trans le3
   refine⟨nofun,_,rfl,fun hne=>rt_no leB fun y a b=>?_,fun _=>?_⟩
   ·obtain⟨_,rfl⟩:=get y a b
    rw [he3.2 a] at hne; cases hne
   refine(cS_RateText trivial ((p,q,n,o2,sc,()):DRate) t2 f2 (L2.le le3)).mono ?_
   rintro V4 _ ⟨le4,rfl⟩
   have leC:=leB.trans le4
   refine⟨nofun,_,rfl,fun hne=>rt_no leC fun y a b=>?_,fun _=>⟨leC,(p,q,n,o2,sc,()),t2,f2,true,rfl,(L2.le le3).le le4,(O2.post (le3.trans le4)).pre le1,by show p.size+q.size+o2.length≤_; omega,get⟩⟩
   obtain⟨_,rfl⟩:=get y a b
   rw [okT_pos a,b] at hne
   have:(s.toList == s.toList)=true:=text_eq.2 rfl
   rw [this] at hne; cases hne
end Go.Proofs.YtagkjnpggkmehaaGreatDoor
namespace Go.Proofs.YtagkjnpggkmehaaGreatDoor
open Sx
set_option maxRecDepth 100000
inductive LnD
 | p (x:ByteArray)
 | r (x:DRate)
 | a (x:DAcct)
 | x (x:DRest)
noncomputable def lnT:LnD→ByteArray
 | .p x=>(⟨#[112,105,118,111,116,32]⟩:ByteArray)++x
 | .r x=>(⟨#[114,97,116,101,32]⟩:ByteArray)++rateT x
 | .a x=>((⟨#[97,99,99,116,32]⟩:ByteArray)++x.1++(⟨#[32]⟩:ByteArray))++moneyT x.2.1 x.2.2.1 x.2.2.2.1
 | .x x=>((⟨#[114,101,115,116,32]⟩:ByteArray)++x.1++(⟨#[32]⟩:ByteArray))++ratT x.2.1 x.2.2.1 x.2.2.2.1
def LnP:LnD→Prop
 | .p x=>known x=true
 | .r x=>RateOkP x
 | .a x=>WordP x.1∧MoneyOkP x.2.1 x.2.2.1 x.2.2.2.1
 | .x x=>ResP x
def stepL (X:DLedger):LnD→DLedger
 | .p x=>(X.1,X.2.1,x,X.2.2.2.1,())
 | .r x=>(X.1,X.2.1,X.2.2.1,X.2.2.2.1++[x],())
 | .a x=>(X.1++[x],X.2.1,X.2.2.1,X.2.2.2.1,())
 | .x x=>(X.1,X.2.1++[x],X.2.2.1,X.2.2.2.1,())
abbrev emptyL:DLedger:=([],[],⟨#[]⟩,[],())
def itemsL (X:DLedger):List LnD:=.p X.2.2.1 :: (X.2.2.2.1.map .r++(X.1.map .a++X.2.1.map .x))
theorem fold_r:∀ (l:List DRate) (X:DLedger),(l.map LnD.r).foldl stepL X=(X.1,X.2.1,X.2.2.1,X.2.2.2.1++l,())
 | [],X=>by
  obtain⟨a,b,c,d,u⟩:=X
  simp
 | x :: l,X=>by
  rw [List.map_cons,List.foldl_cons,fold_r l]
  simp [stepL]
theorem fold_a:∀ (l:List DAcct) (X:DLedger),(l.map LnD.a).foldl stepL X=(X.1++l,X.2.1,X.2.2.1,X.2.2.2.1,())
 | [],X=>by
  obtain⟨a,b,c,d,u⟩:=X
  simp
 | x :: l,X=>by
  rw [List.map_cons,List.foldl_cons,fold_a l]
  simp [stepL]
theorem fold_x:∀ (l:List DRest) (X:DLedger),(l.map LnD.x).foldl stepL X=(X.1,X.2.1++l,X.2.2.1,X.2.2.2.1,())
 | [],X=>by
  obtain⟨a,b,c,d,u⟩:=X
  simp
 | x :: l,X=>by
  rw [List.map_cons,List.foldl_cons,fold_x l]
  simp [stepL]
theorem fold_items (X:DLedger):(itemsL X).foldl stepL emptyL=X:=by
 obtain⟨a,b,c,d,u⟩:=X
 unfold itemsL
 rw [List.foldl_cons,List.foldl_append,List.foldl_append,fold_r,fold_a,fold_x]
 simp [stepL]
theorem rowsT_bl {α:Type} (g:α→ByteArray):∀ (l:List α) (s:ByteArray),bl (rowsT g l s)=bl s++l.flatMap fun x=>bl (g x)
 | [],s=>by simp [rowsT]
 | x :: l,s=>by
  have:rowsT g (x :: l) s=rowsT g l (s++g x):=rfl
  rw [this,rowsT_bl g l,bl_append,List.flatMap_cons,List.append_assoc]
theorem ledgerT_bl (X:DLedger):bl (ledgerT X)=(itemsL X).flatMap fun it=>bl (lnT it)++[10]:=by
 unfold ledgerT itemsL
 rw [rowsT_bl,rowsT_bl,rowsT_bl,List.flatMap_cons,List.flatMap_append,List.flatMap_append,List.flatMap_map,List.flatMap_map,List.flatMap_map,bl_append]
 have e1:(fun x=>bl (rateRow x))=fun x=>bl (lnT (.r x))++[10]:=by
  funext x
  show bl (rateRow x)=_
  unfold rateRow
  rw [bl_append]; rfl
 have e2:(fun x=>bl (acctRow x))=fun x=>bl (lnT (.a x))++[10]:=by
  funext x
  show bl (acctRow x)=_
  unfold acctRow
  rw [bl_append]; rfl
 have e3:(fun x=>bl (restRow x))=fun x=>bl (lnT (.x x))++[10]:=by
  funext x
  show bl (restRow x)=_
  unfold restRow
  rw [bl_append]; rfl
 rw [e1,e2,e3]
 simp only [List.append_assoc]
 rfl
theorem join_lines (c:UInt8):∀ (l:List (List UInt8)),joinC c (l++[[]])=l.flatMap fun x=>x++[c]
 | []=>rfl
 | x :: l=>by
  rw [List.cons_append,joinC_cons (by simp),join_lines c l,List.flatMap_cons,List.append_assoc]
  rfl
def linesB (s:ByteArray):List Tx:=if (cutB 10 s).getLast?=some (⟨#[]⟩,()) then (cutB 10 s).dropLast else cutB 10 s
theorem word_no10 {s:ByteArray} (h:WordP s) {x:UInt8} (hx:x.toNat<48):x ∉ bl s:=fun k=>by
 obtain⟨i,hi,e⟩:=List.mem_iff_getElem.1 k
 have hl:=bl_len s
 have:=h.2.2.2 i (by omega)
 rw [at0_bl hi,e] at this
 unfold LowerP DigitP at this
 omega
theorem lnT_no {it:LnD} (h:LnP it):(10:UInt8) ∉ bl (lnT it):=by
 cases it with
 | p x =>
  show _ ∉ bl (_++x)
  rw [bl_append]
  intro k
  rcases List.mem_append.1 k with k | k
  ·revert k; decide
  ·exact(known_space h).2.2 k
 | r x =>
  have h:RateOkP x:=h
  show _ ∉ bl (_++rateT x)
  rw [bl_append,rateT_bl]
  intro k
  rcases List.mem_append.1 k with k | k
  ·revert k; decide
  rcases List.mem_append.1 k with k | k
  ·exact(known_space h.1).2.2 k
  rcases List.mem_cons.1 k with k | k
  ·exact absurd k (by decide)
  rcases List.mem_append.1 k with k | k
  ·exact(known_space h.2.1).2.2 k
  rcases List.mem_cons.1 k with k | k
  ·exact absurd k (by decide)
  ·exact decT_no h.2.2.2.1 (by decide) (by decide) (by decide) k
 | a x =>
  have h:WordP x.1∧MoneyOkP x.2.1 x.2.2.1 x.2.2.2.1:=h
  show _ ∉ bl (((_++x.1)++_)++moneyT x.2.1 x.2.2.1 x.2.2.2.1)
  rw [bl_append,bl_append,bl_append,moneyT_bl]
  intro k
  rcases List.mem_append.1 k with k | k
  ·rcases List.mem_append.1 k with k | k
   ·rcases List.mem_append.1 k with k | k
    ·revert k; decide
    ·exact word_no10 h.1 (by decide) k
   ·revert k; decide
  rcases List.mem_append.1 k with k | k
  ·exact(known_space h.2.1).2.2 k
  rcases List.mem_cons.1 k with k | k
  ·exact absurd k (by decide)
  ·exact decT_no (mon_dec h.2) (by decide) (by decide) (by decide) k
 | x x =>
  have h:ResP x:=h
  show _ ∉ bl (((_++x.1)++_)++ratX x.2)
  rw [bl_append,bl_append,bl_append]
  intro k
  rcases List.mem_append.1 k with k | k
  ·rcases List.mem_append.1 k with k | k
   ·rcases List.mem_append.1 k with k | k
    ·revert k; decide
    ·exact(known_space h.1).2.2 k
   ·revert k; decide
  ·exact(ratX_no h.2).2.2 k
theorem items_ok {X:DLedger} (h:LedgerOkP X):∀ it∈itemsL X,LnP it:=by
 obtain⟨⟨_,hA⟩,hX,⟨hp,_,hR⟩⟩:=h
 intro it hit
 rcases List.mem_cons.1 hit with rfl | hit
 ·exact hp
 rcases List.mem_append.1 hit with k | k
 ·obtain⟨x,hx,rfl⟩:=List.mem_map.1 k
  obtain⟨i,hi,rfl⟩:=List.mem_iff_getElem.1 hx
  exact(hR i hi).2.1
 rcases List.mem_append.1 k with k | k
 ·obtain⟨x,hx,rfl⟩:=List.mem_map.1 k
  obtain⟨i,hi,rfl⟩:=List.mem_iff_getElem.1 hx
  obtain⟨_,a,b,_⟩:=hA i hi
  exact⟨a,b⟩
 ·obtain⟨x,hx,rfl⟩:=List.mem_map.1 k
  exact rests_ok hX x hx
noncomputable abbrev lnTx (it:LnD):Tx:=(lnT it,())
theorem ledger_cut {X:DLedger} (h:LedgerOkP X):cutB 10 (ledgerT X)=(itemsL X).map lnTx++[(⟨#[]⟩,())]:=by
 refine cutB_eq ?_ (by simp) fun x hx=>?_
 ·rw [ledgerT_bl,List.map_append,List.map_map]
  have:=join_lines 10 ((itemsL X).map fun it=>bl (lnT it))
  rw [List.flatMap_map] at this
  exact this.symm
 ·rcases List.mem_append.1 hx with k | k
  ·obtain⟨it,hi,rfl⟩:=List.mem_map.1 k
   exact lnT_no (items_ok h it hi)
  ·obtain rfl:x=(⟨#[]⟩,()):=by simpa using k
   exact fun k=>by cases k
theorem ledger_lines {X:DLedger} (h:LedgerOkP X):linesB (ledgerT X)=(itemsL X).map lnTx:=by
 unfold linesB
 rw [ledger_cut h,if_pos (by simp),List.dropLast_concat]
theorem items_len {X:DLedger} (h:LedgerOkP X):(itemsL X).length≤45:=by
 have h1:=h.1.1
 have h2:=h.2.2.2.1
 have h3:=rests_len h.2.1
 unfold itemsL
 rw [List.length_cons,List.length_append,List.length_append,List.length_map,List.length_map,List.length_map]
 omega
theorem lines_mem {s:ByteArray} {x:Tx} (h:x∈linesB s):x∈cutB 10 s:=by
 unfold linesB at h
 split at h
 ·exact List.dropLast_subset _ h
 ·exact h
theorem sum_cutA (c:UInt8):∀ (p l:List UInt8),((cutA c p l).map List.length).sum≤p.length+l.length
 | p,[]=>by simp [cutA]
 | p,b :: l=>by
  rw [cutA]
  split
  ·rw [List.map_cons,List.sum_cons]
   have:=sum_cutA c [] l
   simp only [List.length_nil,List.length_cons] at this ⊢
   omega
  ·have:=sum_cutA c (p++[b]) l
   simp only [List.length_append,List.length_cons,List.length_nil] at this ⊢
   omega
def sumS (l:List Tx):Nat:=(l.map fun x=>x.1.size).sum
theorem sumS_take {l:List Tx} {i:Nat} (h:i<l.length):sumS (l.take (i+1))=sumS (l.take i)+l[i].1.size:=by
 unfold sumS
 have:l.take (i+1)=l.take i++[l[i]]:=by simp
 rw [this,List.map_append,List.sum_append]
 simp
theorem sumS_le (l:List Tx) (i:Nat):sumS (l.take i)≤sumS l:=by
 unfold sumS
 conv=>rhs; rw [← List.take_append_drop i l]
 rw [List.map_append,List.sum_append]
 omega
theorem lines_sum (s:ByteArray):sumS (linesB s)≤s.size:=by
 have h1:sumS (cutB 10 s)≤s.size:=by
  have:=sum_cutA 10 [] (bl s)
  rw [bl_len] at this
  unfold sumS cutB
  rw [List.map_map]
  have e:((fun x:Tx=>x.1.size) ∘ fun l=>(ofL l,()))=List.length:=by
   funext l
   exact of_size l
  rw [e]
  simpa using this
 unfold linesB
 split
 ·rw [List.dropLast_eq_take]
  exact Nat.le_trans (sumS_le _ _) h1
 ·exact h1
end Go.Proofs.YtagkjnpggkmehaaGreatDoor
