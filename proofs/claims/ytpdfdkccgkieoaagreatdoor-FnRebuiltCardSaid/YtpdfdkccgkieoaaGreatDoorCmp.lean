/-
  Amounts of one currency, and their comparison, in the program and in the reference.
-/
import Derived.Test.YtpdfdkccgkieoaaGreatDoorCuB
import Derived.Test.YtpdfdkccgkieoaaGreatDoorRead
import Derived.KernelRfl
import Derived.Test.YtpdfdkccgkieoaaGreatDoorDivE
import Derived.Test.YtpdfdkccgkieoaaGreatDoorStr
namespace Go.Proofs.YtpdfdkccgkieoaaGreatDoor
open Sx
set_option maxRecDepth 100000
theorem ratesOk_put {p:ByteArray} {l:List DRate} {r:DRate} (h:RatesOkP p l) (hr:RateOkP r) (hn:(putR r l).length≤12):RatesOkP p (putR r l):=by
 by_cases c:∃ (i:Nat) (hi:i<l.length),rkey l[i]=rkey r
 ·obtain⟨i,hi,e⟩:=c
  have hj:∀ (j:Nat) (hj:j<l.length),j<i→rkey l[j]≠rkey r:=fun j hj hji e2=>by
   obtain⟨_,_,q⟩:=h.2.2 i hi
   exact q j hj hji (e2.trans e.symm)
  rw [putR_at hi e hj]
  exact ratesOk_set h hr hi e
 ·have hno:∀ (j:Nat) (hj:j<l.length),rkey l[j]≠rkey r:=fun j hj e=>c ⟨j,hj,e⟩
  rw [putR_none hno] at hn ⊢
  exact(ratesOk_snoc h hr hno).2 (by simpa using hn)
theorem putR_mem {r:DRate}:∀ {l:List DRate} {x:DRate},x∈putR r l→x=r∨x∈l
 | [],x,h=>by
  rw [putR] at h
  exact .inl (by simpa using h)
 | y :: l,x,h=>by
  rw [putR] at h
  split at h
  ·rcases List.mem_cons.1 h with h | h
   ·exact .inl h
   ·exact .inr (by simp [h])
  ·rcases List.mem_cons.1 h with h | h
   ·exact .inr (by simp [h])
   ·rcases putR_mem h with h | h
    ·exact .inl h
    ·exact .inr (by simp [h])
def TabS (l:List DRate):Prop:=∀ r∈l,valN r.2.2.2.1≤3000∧r.2.2.2.2.1≤4
abbrev TabP (V0:Know) (b:Nat) (s:SlV) (V:Know):Know→Value→Prop:=fun V' r=>Dx V0 b s V V'∧∃ c p l f,r=qv7 c∧rRates.R V' c (p,l,()) f∧(∀ y∈f,y≠b)∧RatesOkP p l∧TabS l
theorem rate_totD {x:DRate} (h:RateD x):rRate.tot x≤1048576:=by
 have e:rRate.tot x=x.1.size+(x.2.1.size+(x.2.2.2.1.length+totE rI x.2.2.2.1+0)):=rfl
 have h1:=known_sz3 h.2.2.2.1
 have h2:=known_sz3 h.2.2.2.2.1
 have h3:=h.2.2.2.2.2
 rw [e,totE_rI]
 omega
theorem ratesOk_nil {p:ByteArray} (h:known p=true):RatesOkP p []:=⟨h,by decide,fun i hi=>absurd hi (by simp)⟩
theorem rates_mk {V:Know} {p:ByteArray} {t:SlV} {l:List DRate} {f:List Nat} (z:p.size≤9223372036854775807) (h:LR rRate V t l f):rRates.R V (p,t,()) (p,l,()) f:=by
 have e:f=f++[]:=by simp
 rw [e]
 exact rStr.mk z (rSl.mk h rNil.mk)
theorem rates_el {V:Know} {c:Scs [.s,.l]} {x:DRates} {f:List Nat} (h:rRates.R V c x f):∃ t,c=(x.1,t,())∧LR rRate V t x.2.1 f:=by
 obtain⟨c0,c1,cu⟩:=c
 obtain⟨⟨e0,_⟩,g,g',rfl,hs,hN⟩:=h
 replace e0:c0=x.1:=e0
 replace hN:g'=[]:=hN
 subst e0 hN
 rw [List.append_nil]
 exact⟨c1,rfl,hs⟩
theorem cS_l10Table {V0 V:Know} {b:Nat} {s:SlV} (hc:Cx V0 b s V):CallX Tryz.prog V 27 [.pointer (some ⟨b,0,none⟩)] (TabP V0 b s V):=by
 refine CallX.of_fits Tryz.mix (fS_l10Table _) fun _=>?_
 simp only [tS_l10Table,T.wp]
 intro b1 c1 sp hb1 hc1 _
 refine(cS_strLit hc codes3 (by decide) (by decide) (by decide) hb1 hc1).mono ?_
 rintro V1 _ ⟨d1,p0,hp0,rfl⟩
 have hk:∀ n∈codes3,known n=true:=by decide +kernel
 have kp0:=hk p0 hp0
 refine⟨nofun,p0,rfl,(cS_l01Below d1.1 7).mono ?_⟩
 rintro V2 _ ⟨d2,x,rfl,x0,x1,_⟩
 have hx:=x1 (by omega)
 refine⟨nofun,x,rfl,?_⟩
 refine⟨fun y V'=>∃ (k:Nat) (p:ByteArray) (t:SlV) (l:List DRate) (f:List Nat),(y.1:Int)=(k:Int)∧k≤7∧y.2.1=p∧y.2.2.1=t∧Dx V0 b s V V'∧LR rRate V' t l f∧(∀ z∈f,z≠b)∧RatesOkP p l∧TabS l,fun y _=>(y.1:Int).toNat,
  ⟨(x,p0,⟨none,0,0⟩,()),rfl,x.toNat,p0,_,[],[],(by show x=_; omega),by omega,rfl,rfl,d1.trans d2,⟨rfl,Nat.le_refl _,(by decide:0≤9223372036854775807),.inl ⟨rfl,fun _=>rfl,rfl⟩⟩,(fun _ h=>by cases h),ratesOk_nil kp0,(fun _ h=>by cases h)⟩,?_⟩
 rintro⟨(i:Int),y1,y2,yu⟩ V3 ⟨k,p,t,l,f,hi,hk7,e1,e2,d3,L3,hf,ok,td⟩
 replace hi:i=(k:Int):=hi
 replace e1:y1=p:=e1
 replace e2:y2=t:=e2
 subst hi e1 e2
 refine⟨fun hgt=>?_,fun _=>⟨d3,_,y1,l,f,rfl,rates_mk (known_len ok.1) L3,hf,ok,td⟩⟩
 have kpos:0<k:=by
  have:(k:Int) > 0:=of_decide_eq_true hgt
  omega
 have hw:IntKind.i64.wrap ((k:Int)-1)=((k-1:Nat):Int):=by rw [wrap_i64 (by omega)]; omega
 refine(cS_l10Draw d3.1).mono ?_
 rintro V4 _ ⟨d4,c,r,g,rfl,R4,hg,rd⟩
 refine⟨nofun,c,rfl,(cS_l01Once d4.1 2).mono ?_⟩
 rintro V5 _ ⟨d5,e,rfl⟩
 have dd:Dx V0 b s V V5:=(d3.trans d4).trans d5
 have fb:∀ {g:List Nat},(∀ y∈g,y≠b)→∀ y∈g,y ∉ [b]:=fun h y hy=>by simpa using h y hy
 have L5:=L3.but (fb hf) (d4.2.trans d5.2)
 have R5:=rRate.but R4 (fb hg) d5.2
 have put:∀ (c':Scs [.s,.s,.b,.l,.i .i64]) (r':DRate),rRate.R V5 c' r' g→RateD r'→∀ (K:Know→Value→Prop),
   (∀ V6 t6 l6 f6 ok6,V5.le V6→(ok6=true→Dx V0 b s V V6∧LR rRate V6 t6 l6 f6∧(∀ z∈f6,z≠b)∧RatesOkP y1 l6∧TabS l6)→∀ p6,(ok6=true→p6=y1)→K V6 (.tuple #[qv7 (p6,t6,()),.bool ok6])) →
   CallX Tryz.prog V5 60 [qv7 (y1,y2,()),qv6 c'] K:=by
  intro c' r' R' rd' K hK
  have hS5:HcS V5:=trivial
  refine(cS_RatePut hS5 (y1,y2,()) (y1,l,()) f (rates_mk (known_len ok.1) L5) (Nat.le_trans (rates_tot (x:=(y1,l,())) ok) (by decide)) c' r' g R' (rate_totD rd')).mono ?_
  rintro V6 _ ⟨le6,c6,f6,rfl,R6,O6⟩
  obtain⟨t6,rfl,L6⟩:=rates_el R6
  refine hK V6 t6 (putP (y1,l,()) r').1.2.1 f6 _ le6 (fun hok=>?_) _ (fun hok=>?_)
  ·by_cases q:PutOk y1 l r'
   ·rw [putP_ok (x:=(y1,l,())) q] at L6 ⊢
    refine⟨dd.trans (dd.1.dx le6),L6,fun z hz=>by simpa using own_off dd.1 O6 z hz,ratesOk_put q.1 q.2.1 q.2.2,fun z hz=>?_⟩
    rcases putR_mem hz with rfl | hz
    ·exact⟨rd'.2.1,rd'.2.2.1⟩
    ·exact td z hz
   ·rw [putP_no (x:=(y1,l,())) q] at hok
    cases hok
  ·by_cases q:PutOk y1 l r'
   ·rw [putP_ok (x:=(y1,l,())) q]
   ·rw [putP_no (x:=(y1,l,())) q] at hok
    cases hok
 have stay:∀ {V6:Know},V5.le V6→∃ (k':Nat) (p:ByteArray) (t:SlV) (l:List DRate) (f:List Nat),(((k-1:Nat):Int))=(k':Int)∧k'≤7∧y1=p∧y2=t∧Dx V0 b s V V6∧LR rRate V6 t l f∧(∀ z∈f,z≠b)∧RatesOkP p l∧TabS l :=
  fun le6=>⟨k-1,y1,y2,l,f,rfl,by omega,rfl,rfl,dd.trans (dd.1.dx le6),L5.le le6,hf,ok,td⟩
 refine⟨nofun,e,rfl,fun _=>⟨fun _=>?_,fun _=>?_⟩,fun _=>?_⟩
 ·refine put (c.1,y1,c.2.2) (r.1,y1,r.2.2) ⟨R5.1,⟨rfl,known_len ok.1⟩,R5.2.2⟩ ⟨rd.1,rd.2.1,rd.2.2.1,rd.2.2.2.1,ok.1,rd.2.2.2.2.2⟩ _ fun V6 t6 l6 f6 ok6 le6 h6 p6 hp6=>?_
  refine⟨nofun,((p6,t6,()),ok6,()),rfl,fun ht=>?_,fun _=>?_⟩
  ·have ht':ok6=true:=ht
   obtain⟨q1,q2,q3,q4,q5⟩:=h6 ht'
   obtain rfl:=hp6 ht'
   exact⟨_,rfl,(((k-1:Nat):Int),p6,t6,()),by rw [hw]; rfl,⟨k-1,p6,t6,l6,f6,rfl,by omega,rfl,rfl,q1,q2,q3,q4,q5⟩,by show((k-1:Nat):Int).toNat<(k:Int).toNat; omega⟩
  ·exact⟨_,rfl,(((k-1:Nat):Int),y1,y2,()),by rw [hw]; rfl,stay le6,by show((k-1:Nat):Int).toNat<(k:Int).toNat; omega⟩
 all_goals
  refine put c r R5 rd _ fun V6 t6 l6 f6 ok6 le6 h6 p6 hp6=>?_
  refine⟨nofun,((p6,t6,()),ok6,()),rfl,fun ht=>?_,fun _=>?_⟩
  ·have ht':ok6=true:=ht
   obtain⟨q1,q2,q3,q4,q5⟩:=h6 ht'
   obtain rfl:=hp6 ht'
   exact⟨_,rfl,(((k-1:Nat):Int),p6,t6,()),by rw [hw]; rfl,⟨k-1,p6,t6,l6,f6,rfl,by omega,rfl,rfl,q1,q2,q3,q4,q5⟩,by show((k-1:Nat):Int).toNat<(k:Int).toNat; omega⟩
  ·exact⟨_,rfl,(((k-1:Nat):Int),y1,y2,()),by rw [hw]; rfl,stay le6,by show((k-1:Nat):Int).toNat<(k:Int).toNat; omega⟩
end Go.Proofs.YtpdfdkccgkieoaaGreatDoor
namespace Go.Proofs.YtpdfdkccgkieoaaGreatDoor
open Sx
set_option maxRecDepth 100000
theorem cS_l01New (V:Know) (s:SlV) (l:List (Int × Unit)) (f:List Nat) (h:LR rBy V s l f):CallX Tryz.prog V 10 [Sc.val .l s] (fun V' r=>V.le V'∧∃ b,r=.pointer (some ⟨b,0,none⟩)∧V b=none∧Cx V b s V'):=by
 refine CallX.of_fits Tryz.mix (fS_l01New _) fun _=>?_
 simp only [tS_l01New,T.wp]
 have hn:=h.1
 have h63:=h.2.2.1
 refine⟨fun y V'=>V'=V∧∃ k:Nat,y.2.1=(k:Int)∧k≤l.length,fun y _=>((l.length:Int)-(y.2.1:Int)).toNat,⟨(_,(0:Int),()),rfl,rfl,0,rfl,Nat.zero_le _⟩,?_⟩
 rintro⟨(g:Int),(i:Int),u⟩ V' ⟨rfl,k,hi,hk⟩
 replace hi:i=(k:Int):=hi
 subst hi
 have fin:∀ b2,V' b2=none→(V'.le (kset V' b2 ([Sc.val .l s,.int .i64 0,.int .i64 g],(tyC,(0,0))))∧∃ b,packed [.pointer (some ⟨b2,0,none⟩)]=.pointer (some ⟨b,0,none⟩)∧V' b=none∧Cx V' b s (kset V' b2 ([Sc.val .l s,.int .i64 0,.int .i64 g],(tyC,(0,0))))) :=
  fun b2 hb2=>⟨kset_le hb2,b2,rfl,hb2,kset_le hb2,hb2,⟨0,g,Int.le_refl _,kset_same⟩,l,f,h⟩
 refine⟨fun hlt=>⟨fun _=>?_,fun _=>fin⟩,fun _=>fin⟩
 have hi2:k<l.length:=by
  have:(k:Int)<(s.n:Int):=of_decide_eq_true hlt
  omega
 obtain⟨b1,o1,c1,fc,a1,l1,hR,_⟩:=h.at hi2
 dsimp only
 rw [Int.toNat_natCast]
 refine⟨_,a1,by omega,(by omega:(k:Int)<(s.n:Int)),c1.1,l1,_,rfl,(_,((k+1:Nat):Int),()),by rw [nxt hi2 (by omega)]; rfl,⟨rfl,k+1,rfl,hi2⟩,?_⟩
 show((l.length:Int)-((k+1:Nat):Int)).toNat<((l.length:Int)-(k:Int)).toNat
 omega
end Go.Proofs.YtpdfdkccgkieoaaGreatDoor
namespace Go.Proofs.YtpdfdkccgkieoaaGreatDoor
open Sx
theorem rd_By (W:World):Rd Tryz.prog W 5 rBy:=by
 intro H enc sp held fuel cs x h
 obtain⟨n,rfl,_,_⟩:=DataW.trod_int (show Tryz.prog.underlying 5=some (.int .u8) by kernel_rfl) h
 exact⟨(n,()),(n,()),[],rfl,rfl,rfl⟩
end Go.Proofs.YtpdfdkccgkieoaaGreatDoor
namespace Go.Proofs.YtpdfdkccgkieoaaGreatDoor
open Sx
set_option maxRecDepth 100000
def AlikeP (x y:DMoney):Prop:=MoneyOkP x.1 x.2.1 x.2.2.1∧MoneyOkP y.1 y.2.1 y.2.2.1∧x.1=y.1
theorem cS_l09Both {V:Know} (c d:Scs [.s,.b,.l]) (x y:DMoney) (f g:List Nat) (hx:rMoney.R V c x f) (hy:rMoney.R V d y g):CallX Tryz.prog V 150 [qv2 c,qv2 d] (fun V' r=>V.le V'∧∃ e,r=.bool e∧(e=true↔AlikeP x y)):=by
 obtain⟨c0,c1,c2,cu⟩:=c
 obtain⟨d0,d1,d2,du⟩:=d
 obtain⟨x0,x1,x2,xu⟩:=x
 obtain⟨y0,y1,y2,yu⟩:=y
 obtain⟨⟨ec0,zc0⟩,hx⟩:=hx
 replace ec0:c0=x0:=ec0
 subst ec0
 replace zc0:c0.size≤9223372036854775807:=zc0
 obtain⟨ec1,hx⟩:=hx
 replace ec1:c1=x1:=ec1
 subst ec1
 obtain⟨ff2,ffr2,ec2,sc2,hx⟩:=hx
 subst ec2
 replace sc2:LR rI _ c2 x2 ff2:=sc2
 replace hx:_=[]:=hx
 subst hx
 obtain⟨⟨ed0,zd0⟩,hy⟩:=hy
 replace ed0:d0=y0:=ed0
 subst ed0
 replace zd0:d0.size≤9223372036854775807:=zd0
 obtain⟨ed1,hy⟩:=hy
 replace ed1:d1=y1:=ed1
 subst ed1
 obtain⟨gg2,ggr2,ed2,sd2,hy⟩:=hy
 subst ed2
 replace sd2:LR rI _ d2 y2 gg2:=sd2
 replace hy:_=[]:=hy
 subst hy
 refine CallX.of_fits Tryz.mix (fS_l09Both _ _) fun _=>?_
 simp only [tS_l09Both,T.wp]
 refine(cS_MoneyOk c0 c1 c2 x2 _ sc2).mono ?_
 rintro V1 r ⟨hle,e,rfl,he⟩
 refine⟨nofun,e,rfl,fun ht=>?_,fun hf=>⟨hle,false,rfl,⟨(fun h=>by cases h),(fun k=>by rw [he.2 k.1] at hf; cases hf)⟩⟩⟩
 refine(cS_MoneyOk d0 d1 d2 y2 _ (sd2.le hle)).mono ?_
 rintro V2 r ⟨hle2,e2,rfl,he2⟩
 refine⟨nofun,e2,rfl,fun ht2=>⟨hle.trans hle2,_,rfl,⟨fun hd=>⟨he.1 ht,he2.1 ht2,text_eq.1 hd⟩,fun k=>text_eq.2 k.2.2⟩⟩,fun hf=>⟨hle.trans hle2,false,rfl,⟨(fun h=>by cases h),(fun k=>by rw [he2.2 k.2.1] at hf; cases hf)⟩⟩⟩
theorem cI_alike {V:Know} (hV:hasCur V) (c d:Scs [.s,.b,.l]) (x y:DMoney) (f g:List Nat) (hx:rMoney.R V c x f) (hy:rMoney.R V d y g):CallX Tryz.prog V 320 [qv2 c,qv2 d] (fun V' r=>V.le V'∧∃ e,r=.bool e∧(e=true↔AlikeP x y)):=by
 obtain⟨c0,c1,c2,cu⟩:=c
 obtain⟨d0,d1,d2,du⟩:=d
 obtain⟨x0,x1,x2,xu⟩:=x
 obtain⟨y0,y1,y2,yu⟩:=y
 obtain⟨⟨ec0,zc0⟩,hx⟩:=hx
 replace ec0:c0=x0:=ec0
 subst ec0
 replace zc0:c0.size≤9223372036854775807:=zc0
 obtain⟨ec1,hx⟩:=hx
 replace ec1:c1=x1:=ec1
 subst ec1
 obtain⟨ff2,ffr2,ec2,sc2,hx⟩:=hx
 subst ec2
 replace sc2:LR rI _ c2 x2 ff2:=sc2
 replace hx:_=[]:=hx
 subst hx
 obtain⟨⟨ed0,zd0⟩,hy⟩:=hy
 replace ed0:d0=y0:=ed0
 subst ed0
 replace zd0:d0.size≤9223372036854775807:=zd0
 obtain⟨ed1,hy⟩:=hy
 replace ed1:d1=y1:=ed1
 subst ed1
 obtain⟨gg2,ggr2,ed2,sd2,hy⟩:=hy
 subst ed2
 replace sd2:LR rI _ d2 y2 gg2:=sd2
 replace hy:_=[]:=hy
 subst hy
 refine CallX.of_fits Tryz.mix (fI_alike _ _) fun _=>?_
 simp only [tI_alike,T.wp]
 refine(cI_MoneyOk hV c0 c1 c2 x2 _ sc2).mono ?_
 rintro V1 r ⟨hle,e,rfl,he⟩
 refine⟨nofun,e,rfl,fun ht=>?_,fun hf=>⟨hle,false,rfl,⟨(fun h=>by cases h),(fun k=>by rw [he.2 k.1] at hf; cases hf)⟩⟩⟩
 refine(cI_MoneyOk (hV.le hle) d0 d1 d2 y2 _ (sd2.le hle)).mono ?_
 rintro V2 r ⟨hle2,e2,rfl,he2⟩
 refine⟨nofun,e2,rfl,fun ht2=>⟨hle.trans hle2,_,rfl,⟨fun hd=>⟨he.1 ht,he2.1 ht2,text_eq.1 hd⟩,fun k=>text_eq.2 k.2.2⟩⟩,fun hf=>⟨hle.trans hle2,false,rfl,⟨(fun h=>by cases h),(fun k=>by rw [he2.2 k.2.1] at hf; cases hf)⟩⟩⟩
end Go.Proofs.YtpdfdkccgkieoaaGreatDoor
