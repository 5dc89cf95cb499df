/-
  Draws from bytes: numbers of few limbs, whole numbers and fractions that the reference draws.
-/
import Derived.Test.YtmppmpceccpdlaaGreatDoorCw
import Derived.Test.YtmppmpceccpdlaaGreatDoorSwapM
import Derived.Test.YtmppmpceccpdlaaGreatDoorCuD
namespace Go.Proofs.YtmppmpceccpdlaaGreatDoor
open Sx
set_option maxRecDepth 100000
theorem cI_RatCmp (V:Know) (x y:DRat) (c d:Scs [.b,.l,.l]) (f g:List Nat) (hx:rRat.R V c x f) (hy:rRat.R V d y g) (ox:RatOkP x.1 x.2.1 x.2.2.1) (oy:RatOkP y.1 y.2.1 y.2.2.1) :
  CallX Tryz.prog V 17 [qv0 c,qv0 d] (fun V' r=>V.le V'∧r=.int .i64 (sgn (sval x.1 x.2.1*valN y.2.2.1-sval y.1 y.2.1*valN x.2.2.1))):=by
 refine CallX.of_fits Tryz.mix (fI_RatCmp _ _) fun _=>?_
 obtain⟨s1,s2,g1,g2,rfl,L1,L2,rfl⟩:=rat_elim hx
 obtain⟨t1,t2,k1,k2,rfl,M1,M2,rfl⟩:=rat_elim hy
 simp only [tI_RatCmp,T.wp]
 have z1:=ox.2.2.2.1
 have z2:=ox.2.2.2.2.1
 have z3:=oy.2.2.2.1
 have z4:=oy.2.2.2.2.1
 refine(cI_ratsOk V x.1 s1 s2 y.1 t1 t2 x.2.1 x.2.2.1 y.2.1 y.2.2.1 _ _ _ _ L1 L2 M1 M2 ox oy).mono ?_
 rintro V1 _ ⟨le1,rfl⟩
 refine⟨nofun,true,rfl,nofun,fun _=>(cI_num V1 x.1 s1 s2 t2 x.2.1 [] y.2.2.1 _ [] _ (L1.le le1) (M2.le le1) ox.1.1.1 oy.2.1.1 (by omega) (by omega)).mono ?_⟩
 rintro V2 _ ⟨le2,e2,u2,o2,f2,rfl,L3,C3,v3,n3⟩
 have l2:=le1.trans le2
 refine⟨fun _=>le2,_,rfl,(cI_num V2 y.1 t1 t2 s2 y.2.1 [] x.2.2.1 _ [] _ (M1.le l2) (L2.le l2) oy.1.1.1 ox.2.1.1 (by omega) (by omega)).mono ?_⟩
 rintro V3 _ ⟨le3,e3,u3,o3,f3,rfl,L4,C4,v4,n4⟩
 refine⟨nofun,_,rfl,(cI_intCmp V3 e2 u2 e3 u3 o2 o3 f2 f3 (L3.le le3) L4 C3 C4 (by omega) (by omega)).mono ?_⟩
 rintro V4 _ ⟨le4,rfl⟩
 exact⟨nofun,_,rfl,(l2.trans le3).trans le4,by rw [v3,v4]; rfl⟩
abbrev names4:List ByteArray:=[⟨#[111,107]⟩,⟨#[109,111,110,101,121]⟩,⟨#[114,97,116,101]⟩,⟨#[108,97,114,103,101]⟩]
theorem cI_CvName (V:Know) (c:Int) (h:0≤c∧c≤3):CallX Tryz.prog V 21 [.int .i64 c] (fun V' r=>V.le V'∧∃ n:ByteArray,r=.string n∧n≠⟨#[]⟩):=by
 refine CallX.of_fits Tryz.mix (fI_CvName _) fun _=>?_
 simp only [tI_CvName,T.wp]
 intro b1 c1 sp hb1 hc1 _
 have le1:=kset_le (x:=(names4.map Value.string++sp,((9:TypeId),((0,0):Nat × Nat)))) hb1
 have hL:LR rNs (kset V b1 (names4.map Value.string++sp,((9:TypeId),((0,0):Nat × Nat)))) ⟨some ⟨b1,0,none⟩,4,c1⟩ (names4.map fun n=>(n,())) [b1]:=lr_lit (fps:=[]) (cs:=names4.map fun n=>(n,())) (post:=sp) (t:=(9,(0,0))) (els_ns (by decide)) (by rw [vals_ns]; exact kset_same) rfl hc1 (by decide)
 have key:CallX Tryz.prog (kset V b1 (names4.map Value.string++sp,((9:TypeId),((0,0):Nat × Nat)))) 57 [.int .i64 c,.slice (some ⟨b1,0,none⟩) 4 c1] (fun V' r=>V.le V'∧∃ n:ByteArray,r=.string n∧n≠⟨#[]⟩):=by
  refine CallX.of_fits Tryz.mix (fI_nameAt c ⟨some ⟨b1,0,none⟩,4,c1⟩) fun _=>?_
  simp only [tI_nameAt,T.wp]
  obtain⟨b2,o2,c2,fc,a1,l1,hR,_⟩:=hL.at (i:=c.toNat) (by show c.toNat<4; omega)
  refine⟨fun h0=>?_,fun _=>⟨fun h0=>?_,fun _=>⟨_,a1,h.1,(by omega:c<((4:Nat):Int)),c2.1,l1,le1,_,rfl,?_⟩⟩⟩
  ·have:=of_decide_eq_true h0
   omega
  ·have:c≥((4:Nat):Int):=of_decide_eq_true h0
   omega
  ·have e:c2.1=((names4.map fun n=>(n,()))[c.toNat]'(by show c.toNat<4; omega)).1:=hR.1.1
   have hn:∀ x∈names4.map (fun n=>(n,())),x.1≠(⟨#[]⟩:ByteArray):=by decide +kernel
   rw [e]
   exact hn _ (List.getElem_mem _)
 refine key.mono ?_
 rintro V1 _ ⟨le2,n,rfl,hn⟩
 exact⟨nofun,n,rfl,le2,n,rfl,hn⟩
end Go.Proofs.YtmppmpceccpdlaaGreatDoor
namespace Go.Proofs.YtmppmpceccpdlaaGreatDoor
open Sx
set_option maxRecDepth 100000
theorem cI_RatNeg (V:Know) (x:DRat) (c:Scs [.b,.l,.l]) (f:List Nat) (hx:rRat.R V c x f) (ok:RatOkP x.1 x.2.1 x.2.2.1) :
  CallX Tryz.prog V 91 [qv0 c] (fun V' r=>V.le V'∧∃ d g,r=.tuple #[qv0 d,.bool true]∧rRat.R V' d (!x.1 && decide (0<x.2.1.length),x.2.1,x.2.2.1,()) g):=by
 refine CallX.of_fits Tryz.mix (fI_RatNeg _) fun _=>?_
 obtain⟨s1,s2,g1,g2,rfl,L1,L2,rfl⟩:=rat_elim hx
 simp only [tI_RatNeg,T.wp]
 have z1:=ok.2.2.2.1
 have z2:=ok.2.2.2.2.1
 refine(cI_RatOk V x.1 s1 s2 x.2.1 x.2.2.1 g1 g2 L1 L2).mono ?_
 rintro V1 _ ⟨le1,e,rfl,he⟩
 obtain rfl:e=true:=he.2 ok
 refine⟨nofun,true,rfl,nofun,fun _=>(rI_ratNeg V1 x.1 s1 s2 x.2.1 x.2.2.1 g1 g2 (L1.le le1) (L2.le le1) (by omega) (by omega)).mono ?_⟩
 rintro V2 _ ⟨le2,t,t',g,g',rfl,M1,M2,_⟩
 exact⟨nofun,_,rfl,le1.trans le2,_,_,rfl,rat_mk M1 M2⟩
theorem cL_must (V:Know) (c:Scs [.b,.l,.l]):CallX Tryz.prog V 26 [qv0 c,.bool true] (fun V' r=>V'=V∧r=qv0 c):=by
 refine CallX.of_fits Tryz.mix (fL_must _ _) fun _=>?_
 simp only [tL_must,T.wp]
 exact⟨nofun,fun _=>⟨by trivial,rfl⟩⟩
theorem cL_size (V:Know) (x:DRat) (c:Scs [.b,.l,.l]) (f:List Nat) (hx:rRat.R V c x f) (ok:RatOkP x.1 x.2.1 x.2.2.1) :
  CallX Tryz.prog V 51 [qv0 c] (fun V' r=>V.le V'∧∃ d e g,r=qv0 d∧rRat.R V' d (e,x.2.1,x.2.2.1,()) g∧RatOkP e x.2.1 x.2.2.1∧sval e x.2.1=((sval x.1 x.2.1).natAbs:Int)):=by
 refine CallX.of_fits Tryz.mix (fL_size _) fun _=>?_
 obtain⟨s1,s2,g1,g2,rfl,L1,L2,rfl⟩:=rat_elim hx
 simp only [tL_size,T.wp]
 refine(cI_RatSign V x.1 s1 s2 x.2.1 x.2.2.1 g1 g2 L1 L2 ok).mono ?_
 rintro V1 _ ⟨le1,rfl⟩
 refine⟨nofun,_,rfl,fun hlt=>?_,fun hge=>?_⟩
 ·have h0:sval x.1 x.2.1<0:=by
   have h1:sgn (sval x.1 x.2.1)<0:=of_decide_eq_true hlt
   refine Int.lt_of_not_ge fun k=>?_
   unfold sgn at h1
   by_cases q:sval x.1 x.2.1=0
   ·rw [q] at h1
    revert h1
    decide
   ·have q1:0<sval x.1 x.2.1:=by omega
    simp [show ¬ sval x.1 x.2.1<0 by omega,q] at h1
  refine(cI_RatNeg V1 x (x.1,s1,s2,()) _ (rRat.le hx le1) ok).mono ?_
  rintro V2 _ ⟨le2,d,g,rfl,R2⟩
  refine⟨nofun,(d,true,()),rfl,(cL_must V2 d).mono ?_⟩
  rintro V3 _ ⟨rfl,rfl⟩
  obtain⟨k1,k2⟩:=neg_ok ok
  exact⟨nofun,d,rfl,le1.trans le2,d,_,g,rfl,R2,k1,by rw [k2]; omega⟩
 ·have h0:¬ sval x.1 x.2.1<0:=by
   have:=of_decide_eq_false hge
   intro k
   exact this (by unfold sgn; rw [if_pos k]; decide)
  exact⟨le1,_,x.1,_,rfl,rRat.le hx le1,ok,by omega⟩
theorem cL_small (V:Know) (x:DRat) (c:Scs [.b,.l,.l]) (f:List Nat) (hx:rRat.R V c x f) (ok:RatOkP x.1 x.2.1 x.2.2.1) (hs:((sval x.1 x.2.1).natAbs:Int)<valN x.2.2.1) :
  CallX Tryz.prog V 18 [qv0 c] (fun V' r=>V.le V'∧r=.bool true):=by
 refine CallX.of_fits Tryz.mix (fL_small _) fun _=>?_
 obtain⟨s1,s2,g1,g2,rfl,L1,L2,rfl⟩:=rat_elim hx
 simp only [tL_small,T.wp]
 refine(cS_RatOk V x.1 s1 s2 x.2.1 x.2.2.1 g1 g2 L1 L2).mono ?_
 rintro V1 _ ⟨le1,e,rfl,he⟩
 obtain rfl:e=true:=he.2 ok
 refine⟨nofun,true,rfl,fun _=>?_,nofun⟩
 refine(cL_size V1 x (x.1,s1,s2,()) _ (rRat.le hx le1) ok).mono ?_
 rintro V2 _ ⟨le2,d,e2,g,rfl,R2,ok2,v2⟩
 refine⟨nofun,d,rfl,(cI_IntOf1 V2).mono ?_⟩
 rintro V3 _ ⟨le3,s3,f3,rfl,L3⟩
 have c1:Can [((1:Int),())]:=⟨lims_one (by decide),.inr (by decide)⟩
 refine⟨nofun,(false,s3,()),rfl,(cI_RatInt V3 false s3 _ f3 L3 ⟨⟨c1,by decide⟩,(fun h=>by cases h)⟩).mono ?_⟩
 rintro V4 _ ⟨le4,c4,x4,e4,f4,rfl,R4,_,hx4⟩
 rw [show sval false [((1:Int),())]=1 by decide] at hx4
 obtain rfl:e4=true:=redS_fits (by decide) hx4 (by decide) (by decide)
 refine⟨nofun,(c4,true,()),rfl,(cL_must V4 c4).mono ?_⟩
 rintro V5 _ ⟨rfl,rfl⟩
 obtain⟨v4,p4,_⟩:=redS_val (by decide) hx4
 refine⟨nofun,c4,rfl,(cI_RatCmp V5 (e2,x.2.1,x.2.2.1,()) x4 d c4 _ _ (rRat.le R2 (le3.trans le4)) R4 ok2 (redS_ok (by decide) hx4 rfl)).mono ?_⟩
 rintro V6 _ ⟨le6,rfl⟩
 refine⟨nofun,_,rfl,(le1.trans le2).trans ((le3.trans le4).trans le6),?_⟩
 show Value.bool (decide (sgn (sval e2 x.2.1*valN x4.2.2.1-sval x4.1 x4.2.1*valN x.2.2.1)<0))=_
 rw [Int.mul_one,Int.one_mul] at v4
 rw [v2,v4]
 have hlt:((sval x.1 x.2.1).natAbs:Int)*valN x4.2.2.1<valN x4.2.2.1*valN x.2.2.1:=by
  rw [Int.mul_comm (valN x4.2.2.1)]
  exact Int.mul_lt_mul_of_pos_right hs p4
 rw [show sgn (((sval x.1 x.2.1).natAbs:Int)*valN x4.2.2.1-valN x4.2.2.1*valN x.2.2.1)=-1 by unfold sgn; rw [if_pos (by omega)]]
 rfl
end Go.Proofs.YtmppmpceccpdlaaGreatDoor
namespace Go.Proofs.YtmppmpceccpdlaaGreatDoor
open Sx
set_option maxRecDepth 100000
theorem redS_self {x:DRat} (h:RatOkP x.1 x.2.1 x.2.2.1):RedS (sval x.1 x.2.1) (valN x.2.2.1) x true:=by
 obtain⟨h1,h2,h3,h4,h5,h6⟩:=h
 have e:=sval_abs (c0:=x.1) h1.1.1.1
 have n0:=valN_nonneg h1.1.1.1
 refine⟨x.2.1,x.2.2.1,⟨h1.1.1,h2.1,by rw [e,h6]; omega,by rw [e,h6]; omega⟩,.inl ⟨h5,h4,rfl,?_⟩⟩
 have e2:decide (sval x.1 x.2.1<0)=x.1:=by
  cases hx:x.1 with
  | false=>simp [sval]; omega
  | true =>
   have:=(can_pos h1.1.1).1 (h1.2 hx)
   simp [sval]; omega
 rw [e2]
theorem rnd_floor {n d:Int} (hd:0<d):n≤rndN 2 true n d*d∧rndN 2 false n d*d≤n:=by
 have e:=Int.mul_ediv_add_emod n d
 have h0:=Int.emod_nonneg n (show d≠0 by omega)
 have e2:n / d*d=d*(n / d):=Int.mul_comm _ _
 constructor
 ·by_cases h:0<n % d
  ·rw [rnd_up ⟨h,by simp [awayB]⟩,Int.add_mul,Int.one_mul,e2]
   have h1:=Int.emod_lt_of_pos n hd
   omega
  ·rw [rnd_down (fun k=>h k.1),e2]
   omega
 ·rw [rnd_down (fun k=>by have:=k.2; simp [awayB] at this),e2]
  omega
theorem floor_rest {x y:DRat} {e:Bool} {q:List Lim} (hx:RatOkP x.1 x.2.1 x.2.2.1) (h:RndP 2 x e q) (hl:LeftP x e q y):0≤sval y.1 y.2.1:=by
 have hd:=den_pos hx
 obtain⟨v,p,_⟩:=redS_val hd hl
 obtain⟨h1,h2⟩:=rnd_floor (n:=valN x.2.1) hd
 have hv:=h.2.1
 have h3:0≤sval x.1 x.2.1-sval e q*valN x.2.2.1:=by
  rw [(rnd_len hx h).2.2]
  cases hn:x.1 with
  | false =>
   rw [hn] at hv
   simp only [sval,Bool.false_eq_true,if_false]
   rw [hv]; omega
  | true =>
   rw [hn] at hv
   simp only [sval,if_true]
   rw [Int.neg_mul,hv]; omega
 have h4:0≤sval y.1 y.2.1*valN x.2.2.1:=by
  rw [v]
  exact Int.mul_nonneg h3 (by omega)
 by_cases k:0≤sval y.1 y.2.1
 ·exact k
 ·have:=Int.mul_neg_of_neg_of_pos (show sval y.1 y.2.1<0 by omega) hd
  omega
theorem wealth_ok {x:DLedger} {to:ByteArray} {mo:DMoney} {ra:DRat} {c:Int} (h:WlP x to 2 mo ra c):(0≤c∧c≤3)∧(c=0→LedgerOkP x∧known to=true∧MonsP (x.1.map monOf) (x.1.map monOf).length∧HowsP x.2.2.1 x.2.2.2.1 (x.1.map monOf) to (x.1.map monOf).length ∧
  MoneyOkP mo.1 mo.2.1 mo.2.2.1∧RatOkP ra.1 ra.2.1 ra.2.2.1∧((sval ra.1 ra.2.1).natAbs:Int)<valN ra.2.2.1∧0≤sval ra.1 ra.2.1∧∃ s,RatOkP s.1 s.2.1 s.2.2.1∧Run x.2.2.1 x.2.2.2.1 to (x.1.map monOf) nought s true ∧
  ∀ w y g,RedS (sval mo.2.1 mo.2.2.1) 1 w true→RedS (sval w.1 w.2.1*valN ra.2.2.1+sval ra.1 ra.2.1*valN w.2.2.1) (valN w.2.2.1*valN ra.2.2.1) y g→y=s∧g=true):=by
 rcases h with ⟨_,_,_,k⟩ | ⟨ok,h⟩
 ·exact⟨by omega,fun e=>by omega⟩
 refine⟨convP_code h,fun e=>?_⟩
 subst e
 have G:=ratesG ok.2.2
 obtain⟨v1,v2,v3⟩:=convP_valid h
 rcases h with ⟨_,_,_,k⟩ | ⟨_,_,_,_,k⟩ | ⟨f,w,s,r,okk,o,d⟩ | ⟨_,_,_,_,_,k⟩
 ·exact absurd k (by decide)
 ·exact absurd k (by decide)
 ·have oks:=run_ok G nought_ok r
  obtain⟨e,q,hq,hc⟩:=o
  rcases hc with ⟨hl,rfl,rfl,hL⟩ | ⟨_,rfl,_,_⟩
  ·exact⟨ok,f.1.2.1,f.2,w,v1,v2,left_near oks hq hL,floor_rest oks hq hL,s,oks,r,fun w y g hw hy=>left_sum (den_pos oks) (redS_self oks) hL hw hy⟩
  ·simp at d
 ·exact absurd k (by decide)
end Go.Proofs.YtmppmpceccpdlaaGreatDoor
namespace Go.Proofs.YtmppmpceccpdlaaGreatDoor
open Sx
set_option maxRecDepth 100000
theorem cS_IntOfN (V:Know) (k:Int) (k1:-1000000≤k) (k2:k≤1000000):CallX Tryz.prog V 31 [.int .i64 k] (fun V' r=>V.le V'∧∃ e s o f,r=qv1 (e,s,())∧LR rI V' s o f∧Own V V' f∧IntOkP e o∧sval e o=k∧o.length≤3):=by
 refine CallX.of_fits Tryz.mix (fS_IntOf _) fun _=>?_
 simp only [tS_IntOf,T.wp]
 refine⟨fun hb=>?_,fun _=>⟨fun hb=>?_,fun hb=>?_⟩⟩
 ·have:k=-9223372036854775808:=by simpa using hb
  omega
 ·have hk:k<0:=of_decide_eq_true hb
  rw [wrap_i64 (by omega)]
  refine(cS_NatOf V (0-k) ⟨by omega,by omega⟩).mono ?_
  rintro V1 _ ⟨le1,s1,o1,f1,rfl,L1,_,C1,v1,n1⟩
  refine⟨nofun,s1,rfl,(cS_l04Make V1 true s1 o1 f1 L1 C1 (by omega)).mono ?_⟩
  rintro V2 _ ⟨le2,s2,f2,rfl,L2,O2⟩
  obtain⟨k3,k4⟩:=made_ok (q:=true) C1 (by omega)
  refine⟨nofun,_,rfl,le1.trans le2,_,s2,o1,f2,rfl,L2,O2.pre le1,k3,?_,n1⟩
  rw [k4]
  simp only [sval,if_true]
  omega
 ·have hk:¬ k<0:=of_decide_eq_false hb
  refine(cS_NatOf V k ⟨by omega,by omega⟩).mono ?_
  rintro V1 _ ⟨le1,s1,o1,f1,rfl,L1,_,C1,v1,n1⟩
  refine⟨nofun,s1,rfl,(cS_l04Make V1 false s1 o1 f1 L1 C1 (by omega)).mono ?_⟩
  rintro V2 _ ⟨le2,s2,f2,rfl,L2,O2⟩
  obtain⟨k3,k4⟩:=made_ok (q:=false) C1 (by omega)
  refine⟨nofun,_,rfl,le1.trans le2,_,s2,o1,f2,rfl,L2,O2.pre le1,k3,?_,n1⟩
  rw [k4]
  simp only [sval,Bool.false_eq_true,if_false]
  omega
theorem Dx.fresh {V0 V V':Know} {b:Nat} {s:SlV} (h:Dx V0 b s V V') {k:Nat} (hk:k≠b) (hn:V' k=none):V k=none:=by
 cases hv:V k with
 | none=>rfl
 | some y =>
  have:=h.2 k y (by simpa using hk) hv
  rw [hn] at this
  cases this
theorem els_intD {V:Know}:∀ l:List Lim,Els rI V l l []
 | []=>rfl
 | _ :: l=>⟨[],[],rfl,⟨rfl,rfl⟩,els_intD l⟩
theorem vals_int:∀ l:List Lim,l.flatMap (Scs.vals [.i .i64])=l.map cellI
 | []=>rfl
 | _ :: l=>by
  rw [List.flatMap_cons,vals_int l]
  rfl
theorem lr_cells {V:Know} {b cap:Nat} {l:List Lim} {post:List Value} {t:KTy} (h:V b=some (l.map cellI++post,t)) (hc:l.length≤cap) (hl:l.length≤9223372036854775807):LR rI V ⟨some ⟨b,0,none⟩,l.length,cap⟩ l [b] :=
 lr_lit (sh:=[.i .i64]) (r:=rI) (cs:=l) (fps:=[]) (els_intD l) (by rw [vals_int]; exact h) rfl hc hl
abbrev NatP (V0:Know) (b:Nat) (s:SlV) (V:Know) (n:Int):Know→Value→Prop:=fun V' r=>Dx V0 b s V V'∧∃ b3 cap cs o,r=Sc.val .l ⟨some ⟨b3,0,none⟩,o.length,cap⟩∧V' b3=some (cs,(3,(0,0)))∧cs.length=cap∧LR rI V' ⟨some ⟨b3,0,none⟩,o.length,cap⟩ o [b3]∧b3≠b∧V b3=none∧Can o∧(o.length:Int)≤n
theorem cS_l02Nat {V0 V:Know} {b:Nat} {s:SlV} (hc:Cx V0 b s V) (n:Int) (n0:0≤n) (n1:n≤5):CallX Tryz.prog V 134 [.pointer (some ⟨b,0,none⟩),.int .i64 n] (NatP V0 b s V n):=by
 refine CallX.of_fits Tryz.mix (fS_l02Nat _ _) fun _=>?_
 simp only [tS_l02Nat,T.wp]
 rw [wrap_i64 (by omega)]
 refine(cS_l01Below hc (n+1)).mono ?_
 rintro V1 _ ⟨d1,x,rfl,x0,x1,_⟩
 have hx:=x1 (by omega)
 refine⟨nofun,x,rfl,?_⟩
 refine⟨fun y V'=>Dx V0 b s V V'∧∃ (k:Nat) (l:List Lim),(y.2.1:Int)=(k:Int)∧y.1.1=l.length∧y.1.2=l.map cellI∧((k+l.length:Nat):Int)≤n∧Lims l,fun y _=>(y.2.1:Int).toNat,
  ⟨((0,[]),x,()),rfl,d1,x.toNat,[],(by show x=_; omega),rfl,rfl,(by simp; omega),lims_nil⟩,?_⟩
 rintro⟨⟨(m:Nat),(ys:List Value)⟩,(i:Int),u⟩ V2 ⟨d2,k,l,hi,hm,hy,hk,hl⟩
 replace hi:i=(k:Int):=hi
 replace hm:m=l.length:=hm
 replace hy:ys=l.map cellI:=hy
 subst hi hm hy
 dsimp only
 refine⟨fun hgt=>?_,fun _=>?_⟩
 ·have hk0:0<k:=by
   have:(k:Int) > 0:=of_decide_eq_true hgt
   omega
  refine(cS_l01Below d2.1 1000000000).mono ?_
  rintro V3 _ ⟨d3,y,rfl,y0,y1,_⟩
  have hy1:=y1 (by omega)
  refine⟨nofun,y,rfl,(cS_l01Below d3.1 1000000000).mono ?_⟩
  rintro V4 _ ⟨d4,z,rfl,z0,z1,_⟩
  have hz1:=z1 (by omega)
  refine⟨nofun,z,rfl,fun b5 c5 sp hb5 hc5 _=>?_⟩
  have le5:=kset_le (x:=([Value.int .i64 0,.int .i64 1,.int .i64 2,.int .i64 999999999,.int .i64 500000000,.int .i64 y,.int .i64 z]++sp,((3:TypeId),((0,0):Nat × Nat)))) hb5
  have dd:=(d2.trans d3).trans d4
  have hL:LR rI (kset V4 b5 ([Value.int .i64 0,.int .i64 1,.int .i64 2,.int .i64 999999999,.int .i64 500000000,.int .i64 y,.int .i64 z]++sp,((3:TypeId),((0,0):Nat × Nat)))) ⟨some ⟨b5,0,none⟩,7,c5⟩ (([0,1,2,999999999,500000000,y,z]:List Int).map fun n=>(n,())) [b5] :=
   lr_lit (fps:=[]) (post:=sp) (cs:=([0,1,2,999999999,500000000,y,z]:List Int).map fun n=>(n,())) ⟨[],[],rfl,⟨rfl,rfl⟩,[],[],rfl,⟨rfl,rfl⟩,[],[],rfl,⟨rfl,rfl⟩,[],[],rfl,⟨rfl,rfl⟩,[],[],rfl,⟨rfl,rfl⟩,[],[],rfl,⟨rfl,rfl⟩,[],[],rfl,⟨rfl,rfl⟩,rfl⟩ kset_same rfl hc5 (by simp)
  refine(cS_l01Pick (dd.1.le le5) ⟨some ⟨b5,0,none⟩,7,c5⟩ _ [b5] hL (by simpa using fun e=>dd.1.some hb5 e.symm) (by simp)).mono ?_
  rintro V6 _ ⟨d6,⟨w,wu⟩,hw,rfl⟩
  have hwb:0≤w∧w<1000000000:=by
   simp at hw
   rcases hw with h | h | h | h | h | h | h <;> omega
  have hwr:IntKind.i64.wrap ((k:Int)-1)=((k-1:Nat):Int):=by rw [wrap_i64 (by omega)]; omega
  refine⟨nofun,w,rfl,rfl,⟨rfl,by omega,by omega⟩,_,rfl,((l.length+1,l.map cellI++[Value.int .i64 w]),((k-1:Nat):Int),()),by rw [hwr]; rfl,⟨(dd.trans (dd.1.dx le5)).trans d6,k-1,l++[(w,())],rfl,by simp,by simp [cellI],by simp; omega,?_⟩,by show((k-1:Nat):Int).toNat<(k:Int).toNat; omega⟩
  exact lims_snoc hl hwb
 ·intro b3 c3 sp hb3 hc3 hsp
  have hcell:Tryz.prog.cellsOf 3=1:=by kernel_rfl
  have le3:=kset_le (x:=(l.map cellI++sp,((3:TypeId),((0,0):Nat × Nat)))) hb3
  have d3:=d2.trans (d2.1.dx le3)
  have hlen:(l.map cellI++sp).length=c3:=by
   rw [hcell] at hsp
   simp [hsp]
   omega
  have L3:LR rI (kset V2 b3 (l.map cellI++sp,((3:TypeId),((0,0):Nat × Nat)))) ⟨some ⟨b3,0,none⟩,l.length,c3⟩ l [b3]:=lr_cells kset_same hc3 (by omega)
  refine(cS_l02Trim _ ⟨some ⟨b3,0,none⟩,l.length,c3⟩ l [b3] L3).mono ?_
  rintro V4 _ ⟨rfl,s',rfl,hs',L4⟩
  have ht:=trim_can hl
  have hn4:=L4.1
  have e4:s'=⟨some ⟨b3,0,none⟩,(trimL l).length,c3⟩:=by
   rw [hs'] at hn4 ⊢
   rw [← hn4]
  subst e4
  refine⟨nofun,_,rfl,d3,b3,c3,_,trimL l,rfl,kset_same,hlen,L4,d2.1.some hb3,d2.fresh (d2.1.some hb3) hb3,ht.1,?_⟩
  have:(trimL l).length≤l.length:=by simp [trimL]; omega
  omega
theorem cS_l04Draw {V0 V:Know} {b:Nat} {s:SlV} (hc:Cx V0 b s V) (n:Int) (n0:0≤n) (n1:n≤5):CallX Tryz.prog V 133 [.pointer (some ⟨b,0,none⟩),.int .i64 n]
  (fun V' r=>Dx V0 b s V V'∧∃ e t o g,r=qv1 (e,t,())∧LR rI V' t o g∧(∀ y∈g,y≠b)∧IntOkP e o∧o.length≤5):=by
 refine CallX.of_fits Tryz.mix (fS_l04Draw _ _) fun _=>?_
 simp only [tS_l04Draw,T.wp]
 refine(cS_l01Once hc 3).mono ?_
 rintro V1 _ ⟨d1,e,rfl⟩
 refine⟨nofun,e,rfl,fun _=>(cS_l01Below d1.1 2001).mono ?_,fun _=>(cS_l01Once d1.1 2).mono ?_⟩
 ·rintro V2 _ ⟨d2,x,rfl,x0,x1,_⟩
  have hx:=x1 (by omega)
  refine⟨nofun,x,rfl,?_⟩
  rw [wrap_i64 (by omega)]
  refine(cS_IntOfN V2 (x-1000) (by omega) (by omega)).mono ?_
  rintro V3 _ ⟨le3,e3,t,o,g,rfl,L3,O3,ok3,_,n3⟩
  exact⟨nofun,_,rfl,(d1.trans d2).trans (d2.1.dx le3),e3,t,o,g,rfl,L3,fun y hy=>by simpa using own_off d2.1 O3 y hy,ok3,by omega⟩
 ·rintro V2 _ ⟨d2,e2,rfl⟩
  refine⟨nofun,e2,rfl,(cS_l02Nat d2.1 n n0 n1).mono ?_⟩
  rintro V3 _ ⟨d3,b3,cap,cs,o,rfl,_,_,L3,_,_,C3,n3⟩
  refine⟨nofun,_,rfl,(cS_l04Make V3 e2 _ o [b3] L3 C3 (by omega)).mono ?_⟩
  rintro V4 _ ⟨le4,t,g,rfl,L4,O4⟩
  obtain⟨k1,_⟩:=made_ok (q:=e2) C3 (by omega)
  exact⟨nofun,_,rfl,((d1.trans d2).trans d3).trans (d3.1.dx le4),_,t,o,g,rfl,L4,fun y hy=>by simpa using own_off d3.1 O4 y hy,k1,by omega⟩
theorem cS_RatMakeP (V:Know) (e:Bool) (t u:SlV) (n d:List Lim) (f g:List Nat) (h:LR rI V t n f) (h':LR rI V u d g) (hn:IntOkP e n) (hd:Can d) (hp:0<valN d) (ld:d.length≤50) :
  CallX Tryz.prog V 135 [qv1 (e,t,()),qv1 (false,u,())] (RatPost V (sval e n) (valN d)):=by
 refine CallX.of_fits Tryz.mix (fS_RatMake _ _) fun _=>?_
 simp only [tS_RatMake,T.wp]
 have hl:=hn.1.2
 refine(cS_IntOk V e t n f h).mono ?_
 rintro V1 r ⟨rfl,e1,rfl,he1⟩
 obtain rfl:e1=true:=he1.2 hn
 refine⟨nofun,true,rfl,nofun,fun _=>(cS_IntOk V1 false u d g h').mono ?_⟩
 rintro V2 r ⟨rfl,e2,rfl,he2⟩
 obtain rfl:e2=true:=he2.2 ⟨⟨hd,ld⟩,(fun h=>by cases h)⟩
 refine⟨nofun,true,rfl,nofun,fun _=>(cS_l05Low V2 _ t u n d f g h h' hn.1.1 hd hp (by omega) (by omega)).mono ?_⟩
 rintro V3 _ ⟨le3,c3,x3,e3,f3,rfl,R3,O3,hx⟩
 refine⟨nofun,(c3,e3,()),rfl,le3,c3,x3,e3,f3,rfl,R3,O3,?_⟩
 have eb:(!e == false)=e:=by cases e <;> rfl
 rw [eb] at hx
 exact hx
theorem cS_RatZero (V:Know):CallX Tryz.prog V 136 [] (fun V' r=>V.le V'∧∃ c g,r=qv0 c∧rRat.R V' c nought g∧∀ y∈g,V y=none):=by
 refine CallX.of_fits Tryz.mix fS_RatZero fun _=>?_
 simp only [tS_RatZero,T.wp]
 intro b1 c1 sp hb1 hc1 _
 refine⟨kset_le hb1,(false,⟨none,0,0⟩,⟨some ⟨b1,0,none⟩,1,c1⟩,()),_,rfl,rat_mk lr_nil (one_limb hb1 hc1),fun y hy=>?_⟩
 obtain rfl:y=b1:=by simpa using hy
 exact hb1
end Go.Proofs.YtmppmpceccpdlaaGreatDoor
