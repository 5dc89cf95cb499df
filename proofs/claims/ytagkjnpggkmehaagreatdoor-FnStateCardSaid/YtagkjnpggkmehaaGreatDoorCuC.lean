/-
  Draws from bytes: tables of rates, two currencies, amounts and modes that the reference makes for the laws.
-/
import Derived.Test.YtagkjnpggkmehaaGreatDoorFracN
import Derived.Test.YtagkjnpggkmehaaGreatDoorTotC
import Derived.Test.YtagkjnpggkmehaaGreatDoorDecM
namespace Go.Proofs.YtagkjnpggkmehaaGreatDoor
open Sx
set_option maxRecDepth 100000
end Go.Proofs.YtagkjnpggkmehaaGreatDoor
namespace Go.Proofs.YtagkjnpggkmehaaGreatDoor
open Sx
set_option maxRecDepth 100000
theorem one_limb {V:Know} {b cp:Nat} {sp:List Value} (hb:V b=none) (hc:1≤cp):LR rI (kset V b ([.int .i64 1]++sp,(3,(0,0)))) ⟨some ⟨b,0,none⟩,1,cp⟩ [((1:Int),())] [b] :=
 (newI (V:=V) (b:=b) (cap:=cp) (o:=[((1:Int),())]) (spare:=sp) (t:=3) hb hc (by decide)).1
theorem known_len {x:ByteArray} (h:known x=true):x.size≤9223372036854775807:=by
 unfold known curFrom at h
 cases hf:(curI.drop 0).find? (curHas x) with
 | none=>rw [hf] at h; cases h
 | some r =>
  have h1:=List.find?_some hf
  have h2:=List.mem_of_find?_eq_some hf
  have h3:∀ r∈curI,r.1.size≤9223372036854775807:=by decide +kernel
  have e:r.1=x:=text_eq.1 h1
  rw [← e]
  exact h3 r (by simpa using h2)
abbrev nought:DRat:=(false,[],[((1:Int),())],())
theorem nought_ok:RatOkP nought.1 nought.2.1 nought.2.2.1:=zero_ok
end Go.Proofs.YtagkjnpggkmehaaGreatDoor
namespace Go.Proofs.YtagkjnpggkmehaaGreatDoor
open Sx
set_option maxRecDepth 100000
theorem cS_strLit {V0 V:Know} {b:Nat} {s:SlV} (hc:Cx V0 b s V) (ns:List ByteArray) (hn:0<ns.length) (hz:∀ n∈ns,n.size≤9223372036854775807) (hl:ns.length≤9223372036854775807) {b1 c1:Nat} {sp:List Value} {u:KTy} (hb1:V b1=none) (hc1:ns.length≤c1) :
  CallX Tryz.prog (kset V b1 (ns.map Value.string++sp,u)) 174 [.pointer (some ⟨b,0,none⟩),.slice (some ⟨b1,0,none⟩) ns.length c1] (fun V' r=>Dx V0 b s V V'∧∃ n∈ns,r=.string n):=by
 have le1:=kset_le (x:=(ns.map Value.string++sp,u)) hb1
 have hL:LR rNs (kset V b1 (ns.map Value.string++sp,u)) ⟨some ⟨b1,0,none⟩,ns.length,c1⟩ (ns.map fun n=>(n,())) [b1]:=lr_lit (fps:=[]) (post:=sp) (t:=u) (els_ns hz) (by rw [vals_ns]; exact kset_same) (by simp) (by simpa using hc1) (by simpa using hl)
 refine(cS_l01Str (hc.le le1) ⟨_,_,_⟩ _ [b1] hL (by simpa using fun e=>hc.some hb1 e.symm) (by simpa using hn)).mono ?_
 rintro V' _ ⟨d,x,hx,rfl⟩
 obtain⟨n,hn,rfl⟩:=List.mem_map.1 hx
 exact⟨(hc.dx le1).trans d,n,hn,rfl⟩
abbrev codes7:List ByteArray:=[⟨#[67,72,70]⟩,⟨#[69,85,82]⟩,⟨#[85,83,68]⟩,⟨#[74,80,89]⟩,⟨#[75,87,68]⟩,⟨#[72,85,70]⟩,⟨#[67,76,70]⟩]
abbrev codes2:List ByteArray:=[⟨#[67,72,70]⟩,⟨#[69,85,82]⟩]
abbrev codes3:List ByteArray:=[⟨#[69,85,82]⟩,⟨#[69,85,82]⟩,⟨#[85,83,68]⟩]
abbrev usd:ByteArray:=⟨#[85,83,68]⟩
theorem cS_l08Cur {V0 V:Know} {b:Nat} {s:SlV} (hc:Cx V0 b s V):CallX Tryz.prog V 99 [.pointer (some ⟨b,0,none⟩)] (fun V' r=>Dx V0 b s V V'∧∃ n,r=.string n∧known n=true):=by
 refine CallX.of_fits Tryz.mix (fS_l08Cur _) fun _=>?_
 simp only [tS_l08Cur,T.wp]
 intro b1 c1 sp hb1 hc1 _
 refine(cS_strLit hc codes7 (by decide) (by decide) (by decide) hb1 hc1).mono ?_
 rintro V1 _ ⟨d,n,hn,rfl⟩
 have hk:∀ n∈codes7,known n=true:=by decide +kernel
 exact⟨nofun,n,rfl,d,n,rfl,hk n hn⟩
def mask (b:Nat) (V:Know):Know:=fun k=>if k=b then none else V k
theorem mask_le (b:Nat) (V:Know):(mask b V).le V:=fun k x h=>by
 unfold mask at h
 split at h
 ·cases h
 ·exact h
theorem mask_but {b:Nat} {V V1 V':Know} (h1:V.le V1) (h:LeBut [b] V1 V'):(mask b V).le V':=fun k x hx=>by
 unfold mask at hx
 split at hx
 ·cases hx
 ·rename_i e
  exact h k x (by simpa using e) (h1 k x hx)
theorem cS_IntOfD (V:Know) (k:Int) (k1:0≤k) (k2:k≤1000000):CallX Tryz.prog V 205 [.int .i64 k] (fun V' r=>V.le V'∧∃ s o f,r=qv0 (false,s,())∧LR rI V' s o f∧Own V V' f∧Can o∧valN o=k∧o.length≤3):=by
 refine CallX.of_fits Tryz.mix (fS_IntOf _) fun _=>?_
 simp only [tS_IntOf,T.wp]
 refine⟨fun hb=>?_,fun _=>⟨fun hb=>?_,fun _=>(cS_NatOf V k ⟨by omega,by omega⟩).mono ?_⟩⟩
 ·have:k=-9223372036854775808:=by simpa using hb
  omega
 ·have:k<0:=of_decide_eq_true hb
  omega
 rintro V1 _ ⟨le1,s1,o1,f1,rfl,L1,_,C1,v1,n1⟩
 refine⟨nofun,s1,rfl,(cS_l04Make V1 false s1 o1 f1 L1 C1 (by omega)).mono ?_⟩
 rintro V2 _ ⟨le2,s2,f2,rfl,L2,O2⟩
 exact⟨nofun,_,rfl,le1.trans le2,s2,o1,f2,rfl,L2,O2.pre le1,C1,v1,n1⟩
theorem own_off {V0 V V1:Know} {b:Nat} {s:SlV} {f:List Nat} (hc:Cx V0 b s V) (O:Own V V1 f):∀ y∈f,y ∉ [b]:=fun y hy k=>by
 obtain rfl:y=b:=by simpa using k
 exact hc.some (O.2.1 y hy) rfl
def RateD (x:DRate):Prop:=x.2.2.1=false∧valN x.2.2.2.1≤3000∧x.2.2.2.2.1≤4∧known x.1=true∧known x.2.1=true∧x.2.2.2.1.length≤3
theorem cS_l10Draw {V0 V:Know} {b:Nat} {s:SlV} (hc:Cx V0 b s V):CallX Tryz.prog V 206 [.pointer (some ⟨b,0,none⟩)] (fun V' r=>Dx V0 b s V V'∧∃ c x f,r=qv5 c∧rRate.R V' c x f∧(∀ y∈f,y≠b)∧RateD x):=by
 refine CallX.of_fits Tryz.mix (fS_l10Draw _) fun _=>?_
 simp only [tS_l10Draw,T.wp]
 refine(cS_l08Cur hc).mono ?_
 rintro V1 _ ⟨d1,n1,rfl,k1⟩
 refine⟨nofun,n1,rfl,(cS_l08Cur d1.1).mono ?_⟩
 rintro V2 _ ⟨d2,n2,rfl,k2⟩
 refine⟨nofun,n2,rfl,?_⟩
 refine⟨fun y V'=>Dx V0 b s V V'∧known y.1=true∧known y.2.1=true,fun y _=>if y.1=y.2.1 then 1 else 0,⟨(n1,n2,()),rfl,d1.trans d2,k1,k2⟩,?_⟩
 rintro⟨(a1:ByteArray),(a2:ByteArray),u⟩ V3 ⟨d3,j1,j2⟩
 replace j1:known a1=true:=j1
 replace j2:known a2=true:=j2
 refine⟨fun he=>?_,fun _=>?_⟩
 ·have e:a1=a2:=text_eq.1 he
  intro b1 c1 sp hb1 hc1 _
  refine(cS_strLit d3.1 codes2 (by decide) (by decide) (by decide) hb1 hc1).mono ?_
  rintro V4 _ ⟨d4,n,hn,rfl⟩
  have hk:∀ n∈codes2,known n=true∧n≠usd:=by decide +kernel
  refine⟨nofun,n,rfl,_,rfl,(n,usd,()),rfl,⟨d3.trans d4,(hk n hn).1,(by decide +kernel:known usd=true)⟩,?_⟩
  show(if n=usd then 1 else 0)<(if a1=a2 then 1 else 0)
  rw [if_neg (hk n hn).2,if_pos e]
  omega
 refine(cS_l01Below d3.1 3000).mono ?_
 rintro V4 _ ⟨d4,x,rfl,x0,x1,_⟩
 have hx:=x1 (by omega)
 refine⟨nofun,x,rfl,?_⟩
 rw [wrap_i64 (by omega)]
 refine(cS_IntOfD V4 (1+x) (by omega) (by omega)).mono ?_
 rintro V5 _ ⟨le5,s5,o5,f5,rfl,L5,O5,C5,v5,n5⟩
 have d5:=(d3.trans d4).trans (d4.1.dx le5)
 refine⟨nofun,_,rfl,mask b V5,mask_le b V5,fun b6 hb6=>?_⟩
 have le6:=kset_le (x:=([Value.int .i64 0,.int .i64 1,.int .i64 2,.int .i64 3,.int .i64 4],((3:TypeId),((0,0):Nat × Nat)))) hb6
 have d6:=d5.trans (d5.1.dx le6)
 have hL:LR rI (kset V5 b6 ([Value.int .i64 0,.int .i64 1,.int .i64 2,.int .i64 3,.int .i64 4],((3:TypeId),((0,0):Nat × Nat)))) ⟨some ⟨b6,0,none⟩,5,5⟩ (([0,1,2,3,4]:List Int).map fun n=>(n,())) [b6]:=lr_lit (fps:=[]) (post:=[]) (cs:=([0,1,2,3,4]:List Int).map fun n=>(n,())) ⟨[],[],rfl,⟨rfl,rfl⟩,[],[],rfl,⟨rfl,rfl⟩,[],[],rfl,⟨rfl,rfl⟩,[],[],rfl,⟨rfl,rfl⟩,[],[],rfl,⟨rfl,rfl⟩,rfl⟩ kset_same rfl (by decide) (by decide)
 refine(cS_l01Pick d6.1 ⟨some ⟨b6,0,none⟩,5,5⟩ _ [b6] hL (by simpa using fun e=>d5.1.some hb6 e.symm) (by decide)).mono ?_
 rintro V7 _ ⟨d7,⟨n,u⟩,hn,rfl⟩
 have hk:n≤4:=by
  simp at hn
  omega
 have L7:=(L5.le le6).but (own_off d4.1 O5) d7.2
 refine⟨mask_but le6 d7.2,n,rfl,d6.trans d7,(a1,a2,false,s5,n,()),(a1,a2,false,o5,n,()),f5++[],rfl,⟨⟨rfl,known_len j1⟩,⟨rfl,known_len j2⟩,rfl,f5,[],rfl,L7,rfl,rfl⟩,fun y hy=>by
  rw [List.append_nil] at hy
  simpa using own_off d4.1 O5 y hy,rfl,by show valN o5≤3000; omega,hk,j1,j2,n5⟩
end Go.Proofs.YtagkjnpggkmehaaGreatDoor
namespace Go.Proofs.YtagkjnpggkmehaaGreatDoor
open Sx
set_option maxRecDepth 100000
theorem ratesOk_put {p:ByteArray} {l:List DRate} {r:DRate} (h:RatesOkP p l) (hr:RateOkP r) (hn:(putR r l).length≤12):RatesOkP p (putR r l):=by
 by_cases c:∃ (i:Nat) (hi:i<l.length),rkey l[i]=rkey r
 ·obtain⟨i,hi,e⟩:=c
  have hj:∀ (j:Nat) (hj:j<l.length),j<i→rkey l[j]≠rkey r:=fun j hj hji e2=>by
   obtain⟨_,_,q⟩:=h.2.2 i hi
   exact q j hj hji (e2.trans e.symm)
  rw [putR_at hi e hj]
  exact ratesOk_set h hr hi e
 ·have hno:∀ (j:Nat) (hj:j<l.length),rkey l[j]≠rkey r:=fun j hj e=>c ⟨j,hj,e⟩
  rw [putR_none hno] at hn ⊢
  exact(ratesOk_snoc h hr hno).2 (by simpa using hn)
theorem putR_mem {r:DRate}:∀ {l:List DRate} {x:DRate},x∈putR r l→x=r∨x∈l
 | [],x,h=>by
  rw [putR] at h
  exact .inl (by simpa using h)
 | y :: l,x,h=>by
  rw [putR] at h
  split at h
  ·rcases List.mem_cons.1 h with h | h
   ·exact .inl h
   ·exact .inr (by simp [h])
  ·rcases List.mem_cons.1 h with h | h
   ·exact .inr (by simp [h])
   ·rcases putR_mem h with h | h
    ·exact .inl h
    ·exact .inr (by simp [h])
def TabS (l:List DRate):Prop:=∀ r∈l,valN r.2.2.2.1≤3000∧r.2.2.2.2.1≤4
abbrev TabP (V0:Know) (b:Nat) (s:SlV) (V:Know):Know→Value→Prop:=fun V' r=>Dx V0 b s V V'∧∃ c p l f,r=qv6 c∧rRates.R V' c (p,l,()) f∧(∀ y∈f,y≠b)∧RatesOkP p l∧TabS l
theorem rate_totD {x:DRate} (h:RateD x):rRate.tot x≤1048576:=by
 have e:rRate.tot x=x.1.size+(x.2.1.size+(x.2.2.2.1.length+totE rI x.2.2.2.1+0)):=rfl
 have h1:=known_sz3 h.2.2.2.1
 have h2:=known_sz3 h.2.2.2.2.1
 have h3:=h.2.2.2.2.2
 rw [e,totE_rI]
 omega
theorem ratesOk_nil {p:ByteArray} (h:known p=true):RatesOkP p []:=⟨h,by decide,fun i hi=>absurd hi (by simp)⟩
theorem rates_mk {V:Know} {p:ByteArray} {t:SlV} {l:List DRate} {f:List Nat} (z:p.size≤9223372036854775807) (h:LR rRate V t l f):rRates.R V (p,t,()) (p,l,()) f:=by
 have e:f=f++[]:=by simp
 rw [e]
 exact rStr.mk z (rSl.mk h rNil.mk)
theorem rates_el {V:Know} {c:Scs [.s,.l]} {x:DRates} {f:List Nat} (h:rRates.R V c x f):∃ t,c=(x.1,t,())∧LR rRate V t x.2.1 f:=by
 obtain⟨c0,c1,cu⟩:=c
 obtain⟨⟨e0,_⟩,g,g',rfl,hs,hN⟩:=h
 replace e0:c0=x.1:=e0
 replace hN:g'=[]:=hN
 subst e0 hN
 rw [List.append_nil]
 exact⟨c1,rfl,hs⟩
theorem cS_l10Table {V0 V:Know} {b:Nat} {s:SlV} (hc:Cx V0 b s V):CallX Tryz.prog V 141 [.pointer (some ⟨b,0,none⟩)] (TabP V0 b s V):=by
 refine CallX.of_fits Tryz.mix (fS_l10Table _) fun _=>?_
 simp only [tS_l10Table,T.wp]
 intro b1 c1 sp hb1 hc1 _
 refine(cS_strLit hc codes3 (by decide) (by decide) (by decide) hb1 hc1).mono ?_
 rintro V1 _ ⟨d1,p0,hp0,rfl⟩
 have hk:∀ n∈codes3,known n=true:=by decide +kernel
 have kp0:=hk p0 hp0
 refine⟨nofun,p0,rfl,(cS_l01Below d1.1 7).mono ?_⟩
 rintro V2 _ ⟨d2,x,rfl,x0,x1,_⟩
 have hx:=x1 (by omega)
 refine⟨nofun,x,rfl,?_⟩
 refine⟨fun y V'=>∃ (k:Nat) (p:ByteArray) (t:SlV) (l:List DRate) (f:List Nat),(y.1:Int)=(k:Int)∧k≤7∧y.2.1=p∧y.2.2.1=t∧Dx V0 b s V V'∧LR rRate V' t l f∧(∀ z∈f,z≠b)∧RatesOkP p l∧TabS l,fun y _=>(y.1:Int).toNat,
  ⟨(x,p0,⟨none,0,0⟩,()),rfl,x.toNat,p0,_,[],[],(by show x=_; omega),by omega,rfl,rfl,d1.trans d2,⟨rfl,Nat.le_refl _,(by decide:0≤9223372036854775807),.inl ⟨rfl,fun _=>rfl,rfl⟩⟩,(fun _ h=>by cases h),ratesOk_nil kp0,(fun _ h=>by cases h)⟩,?_⟩
 rintro⟨(i:Int),y1,y2,yu⟩ V3 ⟨k,p,t,l,f,hi,hk7,e1,e2,d3,L3,hf,ok,td⟩
 replace hi:i=(k:Int):=hi
 replace e1:y1=p:=e1
 replace e2:y2=t:=e2
 subst hi e1 e2
 refine⟨fun hgt=>?_,fun _=>⟨d3,_,y1,l,f,rfl,rates_mk (known_len ok.1) L3,hf,ok,td⟩⟩
 have kpos:0<k:=by
  have:(k:Int) > 0:=of_decide_eq_true hgt
  omega
 have hw:IntKind.i64.wrap ((k:Int)-1)=((k-1:Nat):Int):=by rw [wrap_i64 (by omega)]; omega
 refine(cS_l10Draw d3.1).mono ?_
 rintro V4 _ ⟨d4,c,r,g,rfl,R4,hg,rd⟩
 refine⟨nofun,c,rfl,(cS_l01Once d4.1 2).mono ?_⟩
 rintro V5 _ ⟨d5,e,rfl⟩
 have dd:Dx V0 b s V V5:=(d3.trans d4).trans d5
 have fb:∀ {g:List Nat},(∀ y∈g,y≠b)→∀ y∈g,y ∉ [b]:=fun h y hy=>by simpa using h y hy
 have L5:=L3.but (fb hf) (d4.2.trans d5.2)
 have R5:=rRate.but R4 (fb hg) d5.2
 have put:∀ (c':Scs [.s,.s,.b,.l,.i .i64]) (r':DRate),rRate.R V5 c' r' g→RateD r'→∀ (K:Know→Value→Prop),
   (∀ V6 t6 l6 f6 ok6,V5.le V6→(ok6=true→Dx V0 b s V V6∧LR rRate V6 t6 l6 f6∧(∀ z∈f6,z≠b)∧RatesOkP y1 l6∧TabS l6)→∀ p6,(ok6=true→p6=y1)→K V6 (.tuple #[qv6 (p6,t6,()),.bool ok6])) →
   CallX Tryz.prog V5 207 [qv6 (y1,y2,()),qv5 c'] K:=by
  intro c' r' R' rd' K hK
  have hS5:HcS V5:=trivial
  refine(cS_RatePut hS5 (y1,y2,()) (y1,l,()) f (rates_mk (known_len ok.1) L5) (Nat.le_trans (rates_tot (x:=(y1,l,())) ok) (by decide)) c' r' g R' (rate_totD rd')).mono ?_
  rintro V6 _ ⟨le6,c6,f6,rfl,R6,O6⟩
  obtain⟨t6,rfl,L6⟩:=rates_el R6
  refine hK V6 t6 (putP (y1,l,()) r').1.2.1 f6 _ le6 (fun hok=>?_) _ (fun hok=>?_)
  ·by_cases q:PutOk y1 l r'
   ·rw [putP_ok (x:=(y1,l,())) q] at L6 ⊢
    refine⟨dd.trans (dd.1.dx le6),L6,fun z hz=>by simpa using own_off dd.1 O6 z hz,ratesOk_put q.1 q.2.1 q.2.2,fun z hz=>?_⟩
    rcases putR_mem hz with rfl | hz
    ·exact⟨rd'.2.1,rd'.2.2.1⟩
    ·exact td z hz
   ·rw [putP_no (x:=(y1,l,())) q] at hok
    cases hok
  ·by_cases q:PutOk y1 l r'
   ·rw [putP_ok (x:=(y1,l,())) q]
   ·rw [putP_no (x:=(y1,l,())) q] at hok
    cases hok
 have stay:∀ {V6:Know},V5.le V6→∃ (k':Nat) (p:ByteArray) (t:SlV) (l:List DRate) (f:List Nat),(((k-1:Nat):Int))=(k':Int)∧k'≤7∧y1=p∧y2=t∧Dx V0 b s V V6∧LR rRate V6 t l f∧(∀ z∈f,z≠b)∧RatesOkP p l∧TabS l :=
  fun le6=>⟨k-1,y1,y2,l,f,rfl,by omega,rfl,rfl,dd.trans (dd.1.dx le6),L5.le le6,hf,ok,td⟩
 refine⟨nofun,e,rfl,fun _=>⟨fun _=>?_,fun _=>?_⟩,fun _=>?_⟩
 ·refine put (c.1,y1,c.2.2) (r.1,y1,r.2.2) ⟨R5.1,⟨rfl,known_len ok.1⟩,R5.2.2⟩ ⟨rd.1,rd.2.1,rd.2.2.1,rd.2.2.2.1,ok.1,rd.2.2.2.2.2⟩ _ fun V6 t6 l6 f6 ok6 le6 h6 p6 hp6=>?_
  refine⟨nofun,((p6,t6,()),ok6,()),rfl,fun ht=>?_,fun _=>?_⟩
  ·have ht':ok6=true:=ht
   obtain⟨q1,q2,q3,q4,q5⟩:=h6 ht'
   obtain rfl:=hp6 ht'
   exact⟨_,rfl,(((k-1:Nat):Int),p6,t6,()),by rw [hw]; rfl,⟨k-1,p6,t6,l6,f6,rfl,by omega,rfl,rfl,q1,q2,q3,q4,q5⟩,by show((k-1:Nat):Int).toNat<(k:Int).toNat; omega⟩
  ·exact⟨_,rfl,(((k-1:Nat):Int),y1,y2,()),by rw [hw]; rfl,stay le6,by show((k-1:Nat):Int).toNat<(k:Int).toNat; omega⟩
 all_goals
  refine put c r R5 rd _ fun V6 t6 l6 f6 ok6 le6 h6 p6 hp6=>?_
  refine⟨nofun,((p6,t6,()),ok6,()),rfl,fun ht=>?_,fun _=>?_⟩
  ·have ht':ok6=true:=ht
   obtain⟨q1,q2,q3,q4,q5⟩:=h6 ht'
   obtain rfl:=hp6 ht'
   exact⟨_,rfl,(((k-1:Nat):Int),p6,t6,()),by rw [hw]; rfl,⟨k-1,p6,t6,l6,f6,rfl,by omega,rfl,rfl,q1,q2,q3,q4,q5⟩,by show((k-1:Nat):Int).toNat<(k:Int).toNat; omega⟩
  ·exact⟨_,rfl,(((k-1:Nat):Int),y1,y2,()),by rw [hw]; rfl,stay le6,by show((k-1:Nat):Int).toNat<(k:Int).toNat; omega⟩
end Go.Proofs.YtagkjnpggkmehaaGreatDoor
