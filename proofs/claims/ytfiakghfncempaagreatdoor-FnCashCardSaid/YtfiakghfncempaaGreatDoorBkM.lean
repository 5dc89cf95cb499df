/-
  Accounts, books and remainders as data: accounts found, amounts posted, remainders added.
-/
import Derived.Test.YtfiakghfncempaaGreatDoorCuB
import Derived.Test.YtfiakghfncempaaGreatDoorTxt
namespace Go.Proofs.YtfiakghfncempaaGreatDoor
open Sx
set_option maxRecDepth 100000
theorem ratesOk_put {p:ByteArray} {l:List DRate} {r:DRate} (h:RatesOkP p l) (hr:RateOkP r) (hn:(putR r l).length≤12):RatesOkP p (putR r l):=by
 by_cases c:∃ (i:Nat) (hi:i<l.length),rkey l[i]=rkey r
 ·obtain⟨i,hi,e⟩:=c
  have hj:∀ (j:Nat) (hj:j<l.length),j<i→rkey l[j]≠rkey r:=fun j hj hji e2=>by
   obtain⟨_,_,q⟩:=h.2.2 i hi
   exact q j hj hji (e2.trans e.symm)
  rw [putR_at hi e hj]
  exact ratesOk_set h hr hi e
 ·have hno:∀ (j:Nat) (hj:j<l.length),rkey l[j]≠rkey r:=fun j hj e=>c ⟨j,hj,e⟩
  rw [putR_none hno] at hn ⊢
  exact(ratesOk_snoc h hr hno).2 (by simpa using hn)
theorem putR_mem {r:DRate}:∀ {l:List DRate} {x:DRate},x∈putR r l→x=r∨x∈l
 | [],x,h=>by
  rw [putR] at h
  exact .inl (by simpa using h)
 | y :: l,x,h=>by
  rw [putR] at h
  split at h
  ·rcases List.mem_cons.1 h with h | h
   ·exact .inl h
   ·exact .inr (by simp [h])
  ·rcases List.mem_cons.1 h with h | h
   ·exact .inr (by simp [h])
   ·rcases putR_mem h with h | h
    ·exact .inl h
    ·exact .inr (by simp [h])
def TabS (l:List DRate):Prop:=∀ r∈l,valN r.2.2.2.1≤3000∧r.2.2.2.2.1≤4
abbrev TabP (V0:Know) (b:Nat) (s:SlV) (V:Know):Know→Value→Prop:=fun V' r=>Dx V0 b s V V'∧∃ c p l f,r=qv5 c∧rRates.R V' c (p,l,()) f∧(∀ y∈f,y≠b)∧RatesOkP p l∧TabS l
theorem rate_totD {x:DRate} (h:RateD x):rRate.tot x≤1048576:=by
 have e:rRate.tot x=x.1.size+(x.2.1.size+(x.2.2.2.1.length+totE rI x.2.2.2.1+0)):=rfl
 have h1:=known_sz3 h.2.2.2.1
 have h2:=known_sz3 h.2.2.2.2.1
 have h3:=h.2.2.2.2.2
 rw [e,totE_rI]
 omega
theorem ratesOk_nil {p:ByteArray} (h:known p=true):RatesOkP p []:=⟨h,by decide,fun i hi=>absurd hi (by simp)⟩
theorem rates_mk {V:Know} {p:ByteArray} {t:SlV} {l:List DRate} {f:List Nat} (z:p.size≤9223372036854775807) (h:LR rRate V t l f):rRates.R V (p,t,()) (p,l,()) f:=by
 have e:f=f++[]:=by simp
 rw [e]
 exact rStr.mk z (rSl.mk h rNil.mk)
theorem rates_el {V:Know} {c:Scs [.s,.l]} {x:DRates} {f:List Nat} (h:rRates.R V c x f):∃ t,c=(x.1,t,())∧LR rRate V t x.2.1 f:=by
 obtain⟨c0,c1,cu⟩:=c
 obtain⟨⟨e0,_⟩,g,g',rfl,hs,hN⟩:=h
 replace e0:c0=x.1:=e0
 replace hN:g'=[]:=hN
 subst e0 hN
 rw [List.append_nil]
 exact⟨c1,rfl,hs⟩
theorem cS_l10Table {V0 V:Know} {b:Nat} {s:SlV} (hc:Cx V0 b s V):CallX Tryz.prog V 96 [.pointer (some ⟨b,0,none⟩)] (TabP V0 b s V):=by
 refine CallX.of_fits Tryz.mix (fS_l10Table _) fun _=>?_
 simp only [tS_l10Table,T.wp]
 intro b1 c1 sp hb1 hc1 _
 refine(cS_strLit hc codes3 (by decide) (by decide) (by decide) hb1 hc1).mono ?_
 rintro V1 _ ⟨d1,p0,hp0,rfl⟩
 have hk:∀ n∈codes3,known n=true:=by decide +kernel
 have kp0:=hk p0 hp0
 refine⟨nofun,p0,rfl,(cS_l01Below d1.1 7).mono ?_⟩
 rintro V2 _ ⟨d2,x,rfl,x0,x1,_⟩
 have hx:=x1 (by omega)
 refine⟨nofun,x,rfl,?_⟩
 refine⟨fun y V'=>∃ (k:Nat) (p:ByteArray) (t:SlV) (l:List DRate) (f:List Nat),(y.1:Int)=(k:Int)∧k≤7∧y.2.1=p∧y.2.2.1=t∧Dx V0 b s V V'∧LR rRate V' t l f∧(∀ z∈f,z≠b)∧RatesOkP p l∧TabS l,fun y _=>(y.1:Int).toNat,
  ⟨(x,p0,⟨none,0,0⟩,()),rfl,x.toNat,p0,_,[],[],(by show x=_; omega),by omega,rfl,rfl,d1.trans d2,⟨rfl,Nat.le_refl _,(by decide:0≤9223372036854775807),.inl ⟨rfl,fun _=>rfl,rfl⟩⟩,(fun _ h=>by cases h),ratesOk_nil kp0,(fun _ h=>by cases h)⟩,?_⟩
 rintro⟨(i:Int),y1,y2,yu⟩ V3 ⟨k,p,t,l,f,hi,hk7,e1,e2,d3,L3,hf,ok,td⟩
 replace hi:i=(k:Int):=hi
 replace e1:y1=p:=e1
 replace e2:y2=t:=e2
 subst hi e1 e2
 refine⟨fun hgt=>?_,fun _=>⟨d3,_,y1,l,f,rfl,rates_mk (known_len ok.1) L3,hf,ok,td⟩⟩
 have kpos:0<k:=by
  have:(k:Int) > 0:=of_decide_eq_true hgt
  omega
 have hw:IntKind.i64.wrap ((k:Int)-1)=((k-1:Nat):Int):=by rw [wrap_i64 (by omega)]; omega
 refine(cS_l10Draw d3.1).mono ?_
 rintro V4 _ ⟨d4,c,r,g,rfl,R4,hg,rd⟩
 refine⟨nofun,c,rfl,(cS_l01Once d4.1 2).mono ?_⟩
 rintro V5 _ ⟨d5,e,rfl⟩
 have dd:Dx V0 b s V V5:=(d3.trans d4).trans d5
 have fb:∀ {g:List Nat},(∀ y∈g,y≠b)→∀ y∈g,y ∉ [b]:=fun h y hy=>by simpa using h y hy
 have L5:=L3.but (fb hf) (d4.2.trans d5.2)
 have R5:=rRate.but R4 (fb hg) d5.2
 have put:∀ (c':Scs [.s,.s,.b,.l,.i .i64]) (r':DRate),rRate.R V5 c' r' g→RateD r'→∀ (K:Know→Value→Prop),
   (∀ V6 t6 l6 f6 ok6,V5.le V6→(ok6=true→Dx V0 b s V V6∧LR rRate V6 t6 l6 f6∧(∀ z∈f6,z≠b)∧RatesOkP y1 l6∧TabS l6)→∀ p6,(ok6=true→p6=y1)→K V6 (.tuple #[qv5 (p6,t6,()),.bool ok6])) →
   CallX Tryz.prog V5 151 [qv5 (y1,y2,()),qv6 c'] K:=by
  intro c' r' R' rd' K hK
  have hS5:HcS V5:=trivial
  refine(cS_RatePut hS5 (y1,y2,()) (y1,l,()) f (rates_mk (known_len ok.1) L5) (Nat.le_trans (rates_tot (x:=(y1,l,())) ok) (by decide)) c' r' g R' (rate_totD rd')).mono ?_
  rintro V6 _ ⟨le6,c6,f6,rfl,R6,O6⟩
  obtain⟨t6,rfl,L6⟩:=rates_el R6
  refine hK V6 t6 (putP (y1,l,()) r').1.2.1 f6 _ le6 (fun hok=>?_) _ (fun hok=>?_)
  ·by_cases q:PutOk y1 l r'
   ·rw [putP_ok (x:=(y1,l,())) q] at L6 ⊢
    refine⟨dd.trans (dd.1.dx le6),L6,fun z hz=>by simpa using own_off dd.1 O6 z hz,ratesOk_put q.1 q.2.1 q.2.2,fun z hz=>?_⟩
    rcases putR_mem hz with rfl | hz
    ·exact⟨rd'.2.1,rd'.2.2.1⟩
    ·exact td z hz
   ·rw [putP_no (x:=(y1,l,())) q] at hok
    cases hok
  ·by_cases q:PutOk y1 l r'
   ·rw [putP_ok (x:=(y1,l,())) q]
   ·rw [putP_no (x:=(y1,l,())) q] at hok
    cases hok
 have stay:∀ {V6:Know},V5.le V6→∃ (k':Nat) (p:ByteArray) (t:SlV) (l:List DRate) (f:List Nat),(((k-1:Nat):Int))=(k':Int)∧k'≤7∧y1=p∧y2=t∧Dx V0 b s V V6∧LR rRate V6 t l f∧(∀ z∈f,z≠b)∧RatesOkP p l∧TabS l :=
  fun le6=>⟨k-1,y1,y2,l,f,rfl,by omega,rfl,rfl,dd.trans (dd.1.dx le6),L5.le le6,hf,ok,td⟩
 refine⟨nofun,e,rfl,fun _=>⟨fun _=>?_,fun _=>?_⟩,fun _=>?_⟩
 ·refine put (c.1,y1,c.2.2) (r.1,y1,r.2.2) ⟨R5.1,⟨rfl,known_len ok.1⟩,R5.2.2⟩ ⟨rd.1,rd.2.1,rd.2.2.1,rd.2.2.2.1,ok.1,rd.2.2.2.2.2⟩ _ fun V6 t6 l6 f6 ok6 le6 h6 p6 hp6=>?_
  refine⟨nofun,((p6,t6,()),ok6,()),rfl,fun ht=>?_,fun _=>?_⟩
  ·have ht':ok6=true:=ht
   obtain⟨q1,q2,q3,q4,q5⟩:=h6 ht'
   obtain rfl:=hp6 ht'
   exact⟨_,rfl,(((k-1:Nat):Int),p6,t6,()),by rw [hw]; rfl,⟨k-1,p6,t6,l6,f6,rfl,by omega,rfl,rfl,q1,q2,q3,q4,q5⟩,by show((k-1:Nat):Int).toNat<(k:Int).toNat; omega⟩
  ·exact⟨_,rfl,(((k-1:Nat):Int),y1,y2,()),by rw [hw]; rfl,stay le6,by show((k-1:Nat):Int).toNat<(k:Int).toNat; omega⟩
 all_goals
  refine put c r R5 rd _ fun V6 t6 l6 f6 ok6 le6 h6 p6 hp6=>?_
  refine⟨nofun,((p6,t6,()),ok6,()),rfl,fun ht=>?_,fun _=>?_⟩
  ·have ht':ok6=true:=ht
   obtain⟨q1,q2,q3,q4,q5⟩:=h6 ht'
   obtain rfl:=hp6 ht'
   exact⟨_,rfl,(((k-1:Nat):Int),p6,t6,()),by rw [hw]; rfl,⟨k-1,p6,t6,l6,f6,rfl,by omega,rfl,rfl,q1,q2,q3,q4,q5⟩,by show((k-1:Nat):Int).toNat<(k:Int).toNat; omega⟩
  ·exact⟨_,rfl,(((k-1:Nat):Int),y1,y2,()),by rw [hw]; rfl,stay le6,by show((k-1:Nat):Int).toNat<(k:Int).toNat; omega⟩
end Go.Proofs.YtfiakghfncempaaGreatDoor
namespace Go.Proofs.YtfiakghfncempaaGreatDoor
open Sx
set_option maxRecDepth 100000
theorem LR.masked {sh:List Sc} {α:Type} {r:Rp sh α} {V:Know} {t:SlV} {l:List α} {f:List Nat} {b:Nat} (h:LR r V t l f) (hb:∀ y∈f,y≠b):LR r (mask b V) t l f :=
 h.loc fun y hy=>by unfold mask; rw [if_neg (hb y hy)]
theorem cS_l01New (V:Know) (s:SlV) (l:List (Int × Unit)) (f:List Nat) (h:LR rBy V s l f):CallX Tryz.prog V 40 [Sc.val .l s] (fun V' r=>V.le V'∧∃ b,r=.pointer (some ⟨b,0,none⟩)∧V b=none∧Cx V b s V'):=by
 refine CallX.of_fits Tryz.mix (fS_l01New _) fun _=>?_
 simp only [tS_l01New,T.wp]
 have hn:=h.1
 have h63:=h.2.2.1
 refine⟨fun y V'=>V'=V∧∃ k:Nat,y.2.1=(k:Int)∧k≤l.length,fun y _=>((l.length:Int)-(y.2.1:Int)).toNat,⟨(_,(0:Int),()),rfl,rfl,0,rfl,Nat.zero_le _⟩,?_⟩
 rintro⟨(g:Int),(i:Int),u⟩ V' ⟨rfl,k,hi,hk⟩
 replace hi:i=(k:Int):=hi
 subst hi
 have fin:∀ b2,V' b2=none→(V'.le (kset V' b2 ([Sc.val .l s,.int .i64 0,.int .i64 g],(tyC,(0,0))))∧∃ b,packed [.pointer (some ⟨b2,0,none⟩)]=.pointer (some ⟨b,0,none⟩)∧V' b=none∧Cx V' b s (kset V' b2 ([Sc.val .l s,.int .i64 0,.int .i64 g],(tyC,(0,0))))) :=
  fun b2 hb2=>⟨kset_le hb2,b2,rfl,hb2,kset_le hb2,hb2,⟨0,g,Int.le_refl _,kset_same⟩,l,f,h⟩
 refine⟨fun hlt=>⟨fun _=>?_,fun _=>fin⟩,fun _=>fin⟩
 have hi2:k<l.length:=by
  have:(k:Int)<(s.n:Int):=of_decide_eq_true hlt
  omega
 obtain⟨b1,o1,c1,fc,a1,l1,hR,_⟩:=h.at hi2
 dsimp only
 rw [Int.toNat_natCast]
 refine⟨_,a1,by omega,(by omega:(k:Int)<(s.n:Int)),c1.1,l1,_,rfl,(_,((k+1:Nat):Int),()),by rw [nxt hi2 (by omega)]; rfl,⟨rfl,k+1,rfl,hi2⟩,?_⟩
 show((l.length:Int)-((k+1:Nat):Int)).toNat<((l.length:Int)-(k:Int)).toNat
 omega
theorem cS_MakeMode (V:Know) (s:SlV) (l:List (Int × Unit)) (f:List Nat) (h:LR rBy V s l f):CallX Tryz.prog V 9 [Sc.val .l s] (fun V' r=>V.le V'∧∃ x:Int,r=.int .i64 x∧0≤x∧x≤6):=by
 refine CallX.of_fits Tryz.mix (fS_MakeMode _) fun _=>?_
 simp only [tS_MakeMode,T.wp]
 refine(cS_l01New V s l f h).mono ?_
 rintro V1 _ ⟨le1,b,rfl,hb,c1⟩
 have c1':=c1
 obtain⟨_,_,⟨i,k,hi,hk⟩,_⟩:=c1
 refine⟨nofun,_,rfl,k,ld_at hk 2 1,_,_,rfl,hk,Nat.le_refl 3,?_⟩
 have d2:=kset_cx (h:=IntKind.i64.wrap (k+13)) c1' hi
 refine(cS_l01Below d2.1 7).mono ?_
 rintro V2 _ ⟨d3,x,rfl,x0,x1,_⟩
 have hx:=x1 (by omega)
 exact⟨nofun,x,rfl,d3.1.1,x,rfl,x0,by omega⟩
end Go.Proofs.YtfiakghfncempaaGreatDoor
namespace Go.Proofs.YtfiakghfncempaaGreatDoor
open Sx
set_option maxRecDepth 100000
theorem cS_IntOfN (V:Know) (k:Int) (k1:-1000000≤k) (k2:k≤1000000):CallX Tryz.prog V 149 [.int .i64 k] (fun V' r=>V.le V'∧∃ e s o f,r=qv0 (e,s,())∧LR rI V' s o f∧Own V V' f∧IntOkP e o∧sval e o=k∧o.length≤3):=by
 refine CallX.of_fits Tryz.mix (fS_IntOf _) fun _=>?_
 simp only [tS_IntOf,T.wp]
 refine⟨fun hb=>?_,fun _=>⟨fun hb=>?_,fun hb=>?_⟩⟩
 ·have:k=-9223372036854775808:=by simpa using hb
  omega
 ·have hk:k<0:=of_decide_eq_true hb
  rw [wrap_i64 (by omega)]
  refine(cS_NatOf V (0-k) ⟨by omega,by omega⟩).mono ?_
  rintro V1 _ ⟨le1,s1,o1,f1,rfl,L1,_,C1,v1,n1⟩
  refine⟨nofun,s1,rfl,(cS_l04Make V1 true s1 o1 f1 L1 C1 (by omega)).mono ?_⟩
  rintro V2 _ ⟨le2,s2,f2,rfl,L2,O2⟩
  obtain⟨k3,k4⟩:=made_ok (q:=true) C1 (by omega)
  refine⟨nofun,_,rfl,le1.trans le2,_,s2,o1,f2,rfl,L2,O2.pre le1,k3,?_,n1⟩
  rw [k4]
  simp only [sval,if_true]
  omega
 ·have hk:¬ k<0:=of_decide_eq_false hb
  refine(cS_NatOf V k ⟨by omega,by omega⟩).mono ?_
  rintro V1 _ ⟨le1,s1,o1,f1,rfl,L1,_,C1,v1,n1⟩
  refine⟨nofun,s1,rfl,(cS_l04Make V1 false s1 o1 f1 L1 C1 (by omega)).mono ?_⟩
  rintro V2 _ ⟨le2,s2,f2,rfl,L2,O2⟩
  obtain⟨k3,k4⟩:=made_ok (q:=false) C1 (by omega)
  refine⟨nofun,_,rfl,le1.trans le2,_,s2,o1,f2,rfl,L2,O2.pre le1,k3,?_,n1⟩
  rw [k4]
  simp only [sval,Bool.false_eq_true,if_false]
  omega
theorem Dx.fresh {V0 V V':Know} {b:Nat} {s:SlV} (h:Dx V0 b s V V') {k:Nat} (hk:k≠b) (hn:V' k=none):V k=none:=by
 cases hv:V k with
 | none=>rfl
 | some y =>
  have:=h.2 k y (by simpa using hk) hv
  rw [hn] at this
  cases this
abbrev NatP (V0:Know) (b:Nat) (s:SlV) (V:Know) (n:Int):Know→Value→Prop:=fun V' r=>Dx V0 b s V V'∧∃ b3 cap cs o,r=Sc.val .l ⟨some ⟨b3,0,none⟩,o.length,cap⟩∧V' b3=some (cs,(3,(0,0)))∧cs.length=cap∧LR rI V' ⟨some ⟨b3,0,none⟩,o.length,cap⟩ o [b3]∧b3≠b∧V b3=none∧Can o∧(o.length:Int)≤n
theorem cS_l02Nat {V0 V:Know} {b:Nat} {s:SlV} (hc:Cx V0 b s V) (n:Int) (n0:0≤n) (n1:n≤5):CallX Tryz.prog V 159 [.pointer (some ⟨b,0,none⟩),.int .i64 n] (NatP V0 b s V n):=by
 refine CallX.of_fits Tryz.mix (fS_l02Nat _ _) fun _=>?_
 simp only [tS_l02Nat,T.wp]
 rw [wrap_i64 (by omega)]
 refine(cS_l01Below hc (n+1)).mono ?_
 rintro V1 _ ⟨d1,x,rfl,x0,x1,_⟩
 have hx:=x1 (by omega)
 refine⟨nofun,x,rfl,?_⟩
 refine⟨fun y V'=>Dx V0 b s V V'∧∃ (k:Nat) (l:List Lim),(y.2.1:Int)=(k:Int)∧y.1.1=l.length∧y.1.2=l.map cellI∧((k+l.length:Nat):Int)≤n∧Lims l,fun y _=>(y.2.1:Int).toNat,
  ⟨((0,[]),x,()),rfl,d1,x.toNat,[],(by show x=_; omega),rfl,rfl,(by simp; omega),lims_nil⟩,?_⟩
 rintro⟨⟨(m:Nat),(ys:List Value)⟩,(i:Int),u⟩ V2 ⟨d2,k,l,hi,hm,hy,hk,hl⟩
 replace hi:i=(k:Int):=hi
 replace hm:m=l.length:=hm
 replace hy:ys=l.map cellI:=hy
 subst hi hm hy
 dsimp only
 refine⟨fun hgt=>?_,fun _=>?_⟩
 ·have hk0:0<k:=by
   have:(k:Int) > 0:=of_decide_eq_true hgt
   omega
  refine(cS_l01Below d2.1 1000000000).mono ?_
  rintro V3 _ ⟨d3,y,rfl,y0,y1,_⟩
  have hy1:=y1 (by omega)
  refine⟨nofun,y,rfl,(cS_l01Below d3.1 1000000000).mono ?_⟩
  rintro V4 _ ⟨d4,z,rfl,z0,z1,_⟩
  have hz1:=z1 (by omega)
  refine⟨nofun,z,rfl,fun b5 c5 sp hb5 hc5 _=>?_⟩
  have le5:=kset_le (x:=([Value.int .i64 0,.int .i64 1,.int .i64 2,.int .i64 999999999,.int .i64 500000000,.int .i64 y,.int .i64 z]++sp,((3:TypeId),((0,0):Nat × Nat)))) hb5
  have dd:=(d2.trans d3).trans d4
  have hL:LR rI (kset V4 b5 ([Value.int .i64 0,.int .i64 1,.int .i64 2,.int .i64 999999999,.int .i64 500000000,.int .i64 y,.int .i64 z]++sp,((3:TypeId),((0,0):Nat × Nat)))) ⟨some ⟨b5,0,none⟩,7,c5⟩ (([0,1,2,999999999,500000000,y,z]:List Int).map fun n=>(n,())) [b5] :=
   lr_lit (fps:=[]) (post:=sp) (cs:=([0,1,2,999999999,500000000,y,z]:List Int).map fun n=>(n,())) ⟨[],[],rfl,⟨rfl,rfl⟩,[],[],rfl,⟨rfl,rfl⟩,[],[],rfl,⟨rfl,rfl⟩,[],[],rfl,⟨rfl,rfl⟩,[],[],rfl,⟨rfl,rfl⟩,[],[],rfl,⟨rfl,rfl⟩,[],[],rfl,⟨rfl,rfl⟩,rfl⟩ kset_same rfl hc5 (by simp)
  refine(cS_l01Pick (dd.1.le le5) ⟨some ⟨b5,0,none⟩,7,c5⟩ _ [b5] hL (by simpa using fun e=>dd.1.some hb5 e.symm) (by simp)).mono ?_
  rintro V6 _ ⟨d6,⟨w,wu⟩,hw,rfl⟩
  have hwb:0≤w∧w<1000000000:=by
   simp at hw
   rcases hw with h | h | h | h | h | h | h <;> omega
  have hwr:IntKind.i64.wrap ((k:Int)-1)=((k-1:Nat):Int):=by rw [wrap_i64 (by omega)]; omega
  refine⟨nofun,w,rfl,rfl,⟨rfl,by omega,by omega⟩,_,rfl,((l.length+1,l.map cellI++[Value.int .i64 w]),((k-1:Nat):Int),()),by rw [hwr]; rfl,⟨(dd.trans (dd.1.dx le5)).trans d6,k-1,l++[(w,())],rfl,by simp,by simp [cellI],by simp; omega,?_⟩,by show((k-1:Nat):Int).toNat<(k:Int).toNat; omega⟩
  exact lims_snoc hl hwb
 ·intro b3 c3 sp hb3 hc3 hsp
  have hcell:Tryz.prog.cellsOf 3=1:=by kernel_rfl
  have le3:=kset_le (x:=(l.map cellI++sp,((3:TypeId),((0,0):Nat × Nat)))) hb3
  have d3:=d2.trans (d2.1.dx le3)
  have hlen:(l.map cellI++sp).length=c3:=by
   rw [hcell] at hsp
   simp [hsp]
   omega
  have L3:LR rI (kset V2 b3 (l.map cellI++sp,((3:TypeId),((0,0):Nat × Nat)))) ⟨some ⟨b3,0,none⟩,l.length,c3⟩ l [b3]:=lr_cells kset_same hc3 (by omega)
  refine(cS_l02Trim _ ⟨some ⟨b3,0,none⟩,l.length,c3⟩ l [b3] L3).mono ?_
  rintro V4 _ ⟨rfl,s',rfl,hs',L4⟩
  have ht:=trim_can hl
  have hn4:=L4.1
  have e4:s'=⟨some ⟨b3,0,none⟩,(trimL l).length,c3⟩:=by
   rw [hs'] at hn4 ⊢
   rw [← hn4]
  subst e4
  refine⟨nofun,_,rfl,d3,b3,c3,_,trimL l,rfl,kset_same,hlen,L4,d2.1.some hb3,d2.fresh (d2.1.some hb3) hb3,ht.1,?_⟩
  have:(trimL l).length≤l.length:=by simp [trimL]; omega
  omega
theorem cS_l04Draw {V0 V:Know} {b:Nat} {s:SlV} (hc:Cx V0 b s V) (n:Int) (n0:0≤n) (n1:n≤5):CallX Tryz.prog V 157 [.pointer (some ⟨b,0,none⟩),.int .i64 n]
  (fun V' r=>Dx V0 b s V V'∧∃ e t o g,r=qv0 (e,t,())∧LR rI V' t o g∧(∀ y∈g,y≠b)∧IntOkP e o∧o.length≤5):=by
 refine CallX.of_fits Tryz.mix (fS_l04Draw _ _) fun _=>?_
 simp only [tS_l04Draw,T.wp]
 refine(cS_l01Once hc 3).mono ?_
 rintro V1 _ ⟨d1,e,rfl⟩
 refine⟨nofun,e,rfl,fun _=>(cS_l01Below d1.1 2001).mono ?_,fun _=>(cS_l01Once d1.1 2).mono ?_⟩
 ·rintro V2 _ ⟨d2,x,rfl,x0,x1,_⟩
  have hx:=x1 (by omega)
  refine⟨nofun,x,rfl,?_⟩
  rw [wrap_i64 (by omega)]
  refine(cS_IntOfN V2 (x-1000) (by omega) (by omega)).mono ?_
  rintro V3 _ ⟨le3,e3,t,o,g,rfl,L3,O3,ok3,_,n3⟩
  exact⟨nofun,_,rfl,(d1.trans d2).trans (d2.1.dx le3),e3,t,o,g,rfl,L3,fun y hy=>by simpa using own_off d2.1 O3 y hy,ok3,by omega⟩
 ·rintro V2 _ ⟨d2,e2,rfl⟩
  refine⟨nofun,e2,rfl,(cS_l02Nat d2.1 n n0 n1).mono ?_⟩
  rintro V3 _ ⟨d3,b3,cap,cs,o,rfl,_,_,L3,_,_,C3,n3⟩
  refine⟨nofun,_,rfl,(cS_l04Make V3 e2 _ o [b3] L3 C3 (by omega)).mono ?_⟩
  rintro V4 _ ⟨le4,t,g,rfl,L4,O4⟩
  obtain⟨k1,_⟩:=made_ok (q:=e2) C3 (by omega)
  exact⟨nofun,_,rfl,((d1.trans d2).trans d3).trans (d3.1.dx le4),_,t,o,g,rfl,L4,fun y hy=>by simpa using own_off d3.1 O4 y hy,k1,by omega⟩
theorem cS_RatMakeP (V:Know) (e:Bool) (t u:SlV) (n d:List Lim) (f g:List Nat) (h:LR rI V t n f) (h':LR rI V u d g) (hn:IntOkP e n) (hd:Can d) (hp:0<valN d) (ld:d.length≤50) :
  CallX Tryz.prog V 160 [qv0 (e,t,()),qv0 (false,u,())] (RatPost V (sval e n) (valN d)):=by
 refine CallX.of_fits Tryz.mix (fS_RatMake _ _) fun _=>?_
 simp only [tS_RatMake,T.wp]
 have hl:=hn.1.2
 refine(cS_IntOk V e t n f h).mono ?_
 rintro V1 r ⟨rfl,e1,rfl,he1⟩
 obtain rfl:e1=true:=he1.2 hn
 refine⟨nofun,true,rfl,nofun,fun _=>(cS_IntOk V1 false u d g h').mono ?_⟩
 rintro V2 r ⟨rfl,e2,rfl,he2⟩
 obtain rfl:e2=true:=he2.2 ⟨⟨hd,ld⟩,(fun h=>by cases h)⟩
 refine⟨nofun,true,rfl,nofun,fun _=>(cS_l05Low V2 _ t u n d f g h h' hn.1.1 hd hp (by omega) (by omega)).mono ?_⟩
 rintro V3 _ ⟨le3,c3,x3,e3,f3,rfl,R3,O3,hx⟩
 refine⟨nofun,(c3,e3,()),rfl,le3,c3,x3,e3,f3,rfl,R3,O3,?_⟩
 have eb:(!e == false)=e:=by cases e <;> rfl
 rw [eb] at hx
 exact hx
theorem cS_RatZero (V:Know):CallX Tryz.prog V 161 [] (fun V' r=>V.le V'∧∃ c g,r=qv1 c∧rRat.R V' c nought g∧∀ y∈g,V y=none):=by
 refine CallX.of_fits Tryz.mix fS_RatZero fun _=>?_
 simp only [tS_RatZero,T.wp]
 intro b1 c1 sp hb1 hc1 _
 refine⟨kset_le hb1,(false,⟨none,0,0⟩,⟨some ⟨b1,0,none⟩,1,c1⟩,()),_,rfl,rat_mk lr_nil (one_limb hb1 hc1),fun y hy=>?_⟩
 obtain rfl:y=b1:=by simpa using hy
 exact hb1
end Go.Proofs.YtfiakghfncempaaGreatDoor
namespace Go.Proofs.YtfiakghfncempaaGreatDoor
open Sx
set_option maxRecDepth 100000
def AlikeP (x y:DMoney):Prop:=MoneyOkP x.1 x.2.1 x.2.2.1∧MoneyOkP y.1 y.2.1 y.2.2.1∧x.1=y.1
noncomputable def theOne {α:Type} [Nonempty α] (p:α→Prop):α:=Classical.epsilon p
theorem theOne_eq {α:Type} [Nonempty α] {p:α→Prop} {x:α} (h:p x) (u:∀ y,p y→y=x):theOne p=x:=u _ (Classical.epsilon_spec (p:=p) ⟨x,h⟩)
theorem int_inj {e e':Bool} {o o':List Lim} (h:IntOkP e o) (h':IntOkP e' o') (k:sval e o=sval e' o'):e=e'∧o=o':=by
 have h0:=valN_nonneg h.1.1.1
 have h0':=valN_nonneg h'.1.1.1
 have z:∀ {e:Bool} {o:List Lim},IntOkP e o→e=true→0<valN o:=fun h k=>(can_pos h.1.1).1 (h.2 k)
 unfold sval at k
 cases e <;> cases e' <;> simp only [if_true,if_false,Bool.false_eq_true] at k
 ·exact⟨rfl,can_inj h.1.1 h'.1.1 (by omega)⟩
 ·have:=z h' rfl; omega
 ·have:=z h rfl; omega
 ·exact⟨rfl,can_inj h.1.1 h'.1.1 (by omega)⟩
abbrev nilM:DMoney:=(ByteArray.empty,false,[],())
abbrev MonP (x:DMoney):Prop:=MoneyOkP x.1 x.2.1 x.2.2.1
abbrev svM (x:DMoney):Int:=sval x.2.1 x.2.2.1
def AddP (x y:DMoney) (r:DMoney × Bool):Prop :=
 (r.2=true∧AlikeP x y∧MonP r.1∧r.1.1=x.1∧svM r.1=svM x+svM y) ∨
 (r.2=false∧r.1=nilM∧¬ (AlikeP x y∧∃ z:DMoney,MonP z∧z.1=x.1∧svM z=svM x+svM y))
theorem mon_inj {x y:DMoney} (h:MonP x) (k:MonP y) (e:x.1=y.1) (s:svM x=svM y):x=y:=by
 obtain⟨x0,x1,x2,xu⟩:=x
 obtain⟨y0,y1,y2,yu⟩:=y
 obtain⟨rfl,rfl⟩:=int_inj h.2.1 k.2.1 s
 replace e:x0=y0:=e
 subst e; rfl
theorem addP_inj {x y:DMoney} {r r':DMoney × Bool} (h:AddP x y r) (h':AddP x y r'):r'=r:=by
 obtain⟨z,ok⟩:=r
 obtain⟨z',ok'⟩:=r'
 rcases h with ⟨a,b,c,d,e⟩ | ⟨a,b,c⟩ <;> rcases h' with ⟨a',b',c',d',e'⟩ | ⟨a',b',c'⟩
 ·replace a:ok=true:=a
  replace a':ok'=true:=a'
  subst a a'
  rw [show z'=z from mon_inj c' c (d'.trans d.symm) (e'.trans e.symm)]
 ·exact absurd ⟨b,z,c,d,e⟩ c'
 ·exact absurd ⟨b',z',c',d',e'⟩ c
 ·replace a:ok=false:=a
  replace a':ok'=false:=a'
  replace b:z=nilM:=b
  replace b':z'=nilM:=b'
  subst a a' b b'; rfl
noncomputable def addM (x y:DMoney):DMoney × Bool:=theOne (AddP x y)
theorem addM_eq {x y:DMoney} {r:DMoney × Bool} (h:AddP x y r):addM x y=r:=theOne_eq h fun _ k=>addP_inj h k
def fnd (n:ByteArray):List DAcct→Option Nat
 | []=>none
 | a :: l=>if a.1=n then some 0 else (fnd n l).map (·+1)
theorem fnd_some {n:ByteArray}:∀ {l:List DAcct} {i:Nat} (h:i<l.length),l[i].1=n→(∀ (j:Nat) (hj:j<l.length),j<i→l[j].1≠n)→fnd n l=some i
 | a :: l,0,_,e,_=>by
  have e:a.1=n:=e
  rw [fnd,if_pos e]
 | a :: l,i+1,h,e,hj=>by
  have h0:a.1≠n:=hj 0 (by simp) (by omega)
  rw [fnd,if_neg h0,fnd_some (l:=l) (i:=i) (by simpa using h) (by simpa using e) fun j hj' hji=>by
   have:=hj (j+1) (by simpa using hj') (by omega)
   simpa using this]
  rfl
theorem fnd_none {n:ByteArray}:∀ {l:List DAcct},(∀ (j:Nat) (hj:j<l.length),l[j].1≠n)→fnd n l=none
 | [],_=>rfl
 | a :: l,h=>by
  have h0:a.1≠n:=h 0 (by simp)
  rw [fnd,if_neg h0,fnd_none (l:=l) fun j hj=>by
   have:=h (j+1) (by simpa using hj)
   simpa using this]
  rfl
theorem fnd_at {n:ByteArray}:∀ {l:List DAcct} {i:Nat},fnd n l=some i→∃ h:i<l.length,l[i].1=n
 | a :: l,i,h=>by
  rw [fnd] at h
  split at h
  ·rename_i e
   cases h
   exact⟨by simp,e⟩
  ·cases hf:fnd n l with
   | none=>rw [hf] at h; cases h
   | some j =>
    rw [hf] at h
    cases h
    obtain⟨h1,h2⟩:=fnd_at hf
    exact⟨by simpa using h1,by simpa using h2⟩
def atN (n:ByteArray) (l:List DAcct):Int:=match fnd n l with
 | none=>-1
 | some i=>i
theorem atN_none {n:ByteArray} {l:List DAcct} (h:fnd n l=none):atN n l=-1:=by rw [atN,h]
theorem atN_some {n:ByteArray} {l:List DAcct} {i:Nat} (h:fnd n l=some i):atN n l=i:=by rw [atN,h]
open Classical in
noncomputable def postB (l:List DAcct) (n:ByteArray) (m:DMoney):List DAcct × Bool :=
 if BookOkP l then match fnd n l with
  | none=>([],false)
  | some i=>if (addM (l.getD i (n,nilM)).2 m).2=true then (l.set i ((l.getD i (n,nilM)).1,(addM (l.getD i (n,nilM)).2 m).1),true) else ([],false)
 else ([],false)
theorem postB_no {l:List DAcct} {n:ByteArray} {m:DMoney} (h:¬ BookOkP l):postB l n m=([],false):=if_neg h
theorem postB_none {l:List DAcct} {n:ByteArray} {m:DMoney} (h:fnd n l=none):postB l n m=([],false):=by
 unfold postB
 rw [h]
 simp
theorem getD_at {l:List DAcct} {i:Nat} {d:DAcct} (h:i<l.length):l.getD i d=l[i]:=by
 rw [List.getD_eq_getElem?_getD,List.getElem?_eq_getElem h]; rfl
theorem postB_some {l:List DAcct} {n:ByteArray} {m:DMoney} {i:Nat} (h:BookOkP l) (hf:fnd n l=some i) (hi:i<l.length) {z:DMoney} {ok:Bool} (ha:addM l[i].2 m=(z,ok)) :
  postB l n m=(if ok=true then l.set i (l[i].1,z) else [],ok):=by
 unfold postB
 rw [if_pos h,hf]
 show(if (addM (l.getD i (n,nilM)).2 m).2=true then (l.set i ((l.getD i (n,nilM)).1,(addM (l.getD i (n,nilM)).2 m).1),true) else ([],false))=_
 rw [getD_at hi,ha]
 cases ok <;> rfl
theorem addM_ok {x y z:DMoney} (h:addM x y=(z,true)) (k:∃ r,AddP x y r):MonP z∧z.1=x.1:=by
 obtain⟨r,hr⟩:=k
 have:=(addM_eq hr).symm.trans h
 subst this
 rcases hr with ⟨_,_,h1,h2,_⟩ | ⟨h1,_⟩
 ·exact⟨h1,h2⟩
 ·cases h1
open Classical in
theorem addP_ex (x y:DMoney):∃ r,AddP x y r:=by
 by_cases h:AlikeP x y∧∃ z:DMoney,MonP z∧z.1=x.1∧svM z=svM x+svM y
 ·obtain⟨h1,z,h2,h3,h4⟩:=h
  exact⟨(z,true),.inl ⟨rfl,h1,h2,h3,h4⟩⟩
 ·exact⟨(nilM,false),.inr ⟨rfl,rfl,h⟩⟩
theorem book_set {l:List DAcct} (h:BookOkP l) {i:Nat} (hi:i<l.length) {z:DMoney} (hz:MonP z):BookOkP (l.set i (l[i].1,z)):=by
 have hk:∀ (j:Nat) (hj:j<(l.set i (l[i].1,z)).length),(l.set i (l[i].1,z))[j].1=(l[j]'(by simpa using hj)).1:=fun j hj=>by
  rw [List.getElem_set]
  split
  ·rename_i ij; subst ij; rfl
  ·rfl
 refine⟨by rw [List.length_set]; exact h.1,fun j hj=>?_⟩
 obtain⟨q0,q1,q2,q3⟩:=h.2 j (by simpa using hj)
 refine⟨hj,by rw [hk]; exact q1,?_,fun h0=>by rw [hk,hk]; exact q3 h0⟩
 rw [List.getElem_set]
 split
 ·exact hz
 ·exact q2
theorem postB_ok {l:List DAcct} {n:ByteArray} {m:DMoney} {y:List DAcct} (h:postB l n m=(y,true)):BookOkP y:=by
 by_cases hb:BookOkP l
 ·cases hf:fnd n l with
  | none=>rw [postB_none hf] at h; simp at h
  | some i =>
   obtain⟨hi,_⟩:=fnd_at hf
   obtain⟨⟨z,ok⟩,ha⟩:∃ r,addM l[i].2 m=r:=⟨_,rfl⟩
   rw [postB_some hb hf hi ha] at h
   cases ok with
   | false=>simp at h
   | true =>
    simp only [if_true,Prod.mk.injEq,and_true] at h
    subst h
    exact book_set hb hi (addM_ok ha (addP_ex _ _)).1
 ·rw [postB_no hb] at h; simp at h
abbrev zeroQ (y:DRat):Bool:=sgn (sval y.1 y.2.1) == 0
abbrev lesB (a b:ByteArray):Bool:=Op.bytesLess a.toList b.toList
def addR (cur:ByteArray) (y:DRat) (l:List DRest):List DRest :=
 l.filter (fun x=>lesB x.1 cur)++(if zeroQ y=true then [] else [(cur,y)])++l.filter (fun x=>lesB cur x.1)
def endR (cur:ByteArray) (y:DRat):List DRest→Bool→List DRest→List DRest
 | out,d,[]=>if (!d && !zeroQ y)=true then out++[(cur,y)] else out
 | out,d,x :: l=>if x.1=cur then endR cur y out d l else if (!d && lesB cur x.1 && !zeroQ y)=true then endR cur y (out++[(cur,y)]++[x]) true l else endR cur y (out++[x]) d l
abbrev Up (l:List DRest):Prop:=l.Pairwise fun a b=>LessP a.1 b.1
theorem les_no {a b:ByteArray} (h:LessP a b):lesB b a=false:=by
 cases k:lesB b a with
 | false=>rfl
 | true=>exact absurd (LessP.trans h k) LessP.irr
theorem les_ne {a b:ByteArray} (h:LessP a b):a≠b:=fun e=>by rw [e] at h; exact LessP.irr h
theorem fil_all {α:Type} {p:α→Bool}:∀ {l:List α},(∀ x∈l,p x=true)→l.filter p=l
 | _,h=>List.filter_eq_self.2 h
theorem fil_no {α:Type} {p:α→Bool} {l:List α} (h:∀ x∈l,p x=false):l.filter p=[]:=by
 rw [List.filter_eq_nil_iff]
 intro x hx
 rw [h x hx]; decide
theorem endR_done {cur:ByteArray} {y:DRat}:∀ {l out:List DRest} {d:Bool},(∀ x∈l,LessP cur x.1)→(d=true∨zeroQ y=true)→endR cur y out d l=out++l
 | [],out,d,_,h=>by
  rw [endR,if_neg (by rcases h with h | h <;> simp [h]),List.append_nil]
 | x :: l,out,d,hx,h=>by
  have h1:x.1≠cur:=(les_ne (hx x (by simp))).symm
  rw [endR,if_neg h1,if_neg (by rcases h with h | h <;> simp [h]),endR_done (fun z hz=>hx z (by simp [hz])) h]
  simp
theorem endR_eq {cur:ByteArray} {y:DRat}:∀ {l out:List DRest},Up l→endR cur y out false l=out++addR cur y l
 | [],out,_=>by
  rw [endR]
  unfold addR
  cases zeroQ y <;> simp
 | x :: l,out,h=>by
  obtain⟨h1,h2⟩:=List.pairwise_cons.1 h
  rw [endR]
  by_cases e:x.1=cur
  ·rw [if_pos e,endR_eq h2]
   have k:lesB x.1 cur=false∧lesB cur x.1=false:=by rw [e]; exact⟨bless_irr _,bless_irr _⟩
   unfold addR
   rw [List.filter_cons_of_neg (by simp [k.1]),List.filter_cons_of_neg (by simp [k.2])]
  ·rw [if_neg e]
   by_cases g:LessP cur x.1
   ·have ha:∀ z∈l,LessP cur z.1:=fun z hz=>g.trans (h1 z hz)
    have k1:(x :: l).filter (fun x=>lesB x.1 cur)=[]:=fil_no fun z hz=>by
     rcases List.mem_cons.1 hz with rfl | hz
     ·exact les_no g
     ·exact les_no (ha z hz)
    have k2:(x :: l).filter (fun x=>lesB cur x.1)=x :: l:=fil_all fun z hz=>by
     rcases List.mem_cons.1 hz with rfl | hz
     ·exact g
     ·exact ha z hz
    have gb:lesB cur x.1=true:=g
    unfold addR
    rw [k1,k2]
    cases hz:zeroQ y with
    | true =>
     rw [if_neg (by simp),endR_done ha (.inr hz)]
     simp
    | false =>
     rw [if_pos (by simp [gb]),endR_done ha (.inl rfl)]
     simp
   ·have gb:lesB cur x.1=false:=by cases k:lesB cur x.1 with | false=>rfl | true=>exact absurd k g
    have lb:lesB x.1 cur=true:=LessP.tot g (fun q=>e q.symm)
    rw [if_neg (by simp [gb]),endR_eq h2]
    unfold addR
    rw [List.filter_cons_of_pos (by simp [lb]),List.filter_cons_of_neg (by simp [gb])]
    simp
theorem addR_up {cur:ByteArray} {y:DRat} {l:List DRest} (h:Up l):Up (addR cur y l):=by
 unfold addR
 have a1:=h.filter (fun x:DRest=>lesB x.1 cur)
 have a2:=h.filter (fun x:DRest=>lesB cur x.1)
 refine List.pairwise_append.2 ⟨List.pairwise_append.2 ⟨a1,?_,fun a ha b hb=>?_⟩,a2,fun a ha b hb=>?_⟩
 ·split <;> simp
 ·split at hb
  ·cases hb
  ·rcases List.mem_singleton.1 hb with rfl
   exact(List.mem_filter.1 ha).2
 ·have hb':LessP cur b.1:=(List.mem_filter.1 hb).2
  rcases List.mem_append.1 ha with ha | ha
  ·exact LessP.trans (List.mem_filter.1 ha).2 hb'
  ·split at ha
   ·cases ha
   ·rcases List.mem_singleton.1 ha with rfl
    exact hb'
theorem addR_mem {cur:ByteArray} {y:DRat} {l:List DRest} {x:DRest} (h:x∈addR cur y l):x∈l∨(x=(cur,y)∧zeroQ y=false):=by
 unfold addR at h
 rcases List.mem_append.1 h with h | h
 ·rcases List.mem_append.1 h with h | h
  ·exact .inl (List.mem_filter.1 h).1
  ·split at h
   ·cases h
   ·rename_i k
    exact .inr ⟨List.mem_singleton.1 h,by simpa using k⟩
 ·exact .inl (List.mem_filter.1 h).1
theorem up_rests {l:List DRest} (h:RestsOkP l):Up l:=by
 refine List.pairwise_iff_getElem.2 ?_
 intro i j hi hj hij
 exact(rests_sorted h).lt hj hij
theorem rests_up {l:List DRest} (h:Up l) (k:∀ x∈l,known x.1=true∧RatOkP x.2.1 x.2.2.1 x.2.2.2.1∧sgn (sval x.2.1 x.2.2.1)≠0):RestsOkP l:=fun i hi =>
 ⟨hi,(k _ (List.getElem_mem hi)).1,(k _ (List.getElem_mem hi)).2.1,(k _ (List.getElem_mem hi)).2.2,fun h0=>List.pairwise_iff_getElem.1 h (i-1) i (by omega) hi (by omega)⟩
theorem rests_mem {l:List DRest} (h:RestsOkP l) {x:DRest} (hx:x∈l):known x.1=true∧RatOkP x.2.1 x.2.2.1 x.2.2.2.1∧sgn (sval x.2.1 x.2.2.1)≠0:=by
 obtain⟨i,hi,rfl⟩:=List.getElem_of_mem hx
 obtain⟨_,a,b,c,_⟩:=h i hi
 exact⟨a,b,c⟩
theorem addR_ok {cur:ByteArray} {y:DRat} {l:List DRest} (h:RestsOkP l) (hc:known cur=true) (hy:RatOkP y.1 y.2.1 y.2.2.1):RestsOkP (addR cur y l) :=
 rests_up (addR_up (up_rests h)) fun x hx=>by
  rcases addR_mem hx with hx | ⟨rfl,hz⟩
  ·exact rests_mem h hx
  ·refine⟨hc,hy,fun e=>?_⟩
   have e:sgn (sval y.1 y.2.1)=0:=e
   unfold zeroQ at hz
   rw [e] at hz
   cases hz
def keyB (k:ByteArray) (x:DRest):Bool:=decide (x.1=k)
abbrev rS (x:DRat):Int:=sval x.1 x.2.1
abbrev rD (x:DRat):Int:=valN x.2.2.1
abbrev RatP (x:DRat):Prop:=RatOkP x.1 x.2.1 x.2.2.1
theorem ratP_pos {x:DRat} (h:RatP x):0<rD x:=(can_pos h.2.1.1).1 h.2.2.1
def AddRP (x y:DRat) (r:DRat × Bool):Prop:=RedS (rS x*rD y+rS y*rD x) (rD x*rD y) r.1 r.2
def atR (l:List DRest) (c:ByteArray):DRat:=((l.find? (keyB c)).map (·.2)).getD nought
theorem atR_ok {l:List DRest} (h:RestsOkP l) (c:ByteArray):RatP (atR l c):=by
 unfold atR
 cases hf:l.find? (keyB c) with
 | none=>exact nought_ok
 | some x=>exact(rests_mem h (List.mem_of_find?_eq_some hf)).2.1
end Go.Proofs.YtfiakghfncempaaGreatDoor
