/-
  Sums of whole numbers and fractions, reductions: the reference; whole numbers as fractions.
-/
import Derived.Test.YtpdfdkccgkieoaaGreatDoorDivG
import Derived.Test.YtpdfdkccgkieoaaGreatDoorLit
namespace Go.Proofs.YtpdfdkccgkieoaaGreatDoor
open Sx
def Red (N D:Int) (p q:List Lim):Prop:=Can p∧Can q∧valN p*(Int.gcd N D:Int)=N∧valN q*(Int.gcd N D:Int)=D
theorem gcd_pos {N D:Int} (hD:0<D):0<(Int.gcd N D:Int):=by
 have:Int.gcd N D≠0:=fun e=>by
  have:=(Int.gcd_eq_zero_iff.1 e).2
  omega
 omega
theorem red_pos {N D:Int} (hD:0<D) {p q:List Lim} (h:Red N D p q):0<valN q:=by
 have hg:=gcd_pos (N:=N) hD
 have h0:=valN_nonneg h.2.1.1
 rcases(show valN q=0∨0<valN q by omega) with e | e
 ·have:=h.2.2.2
  rw [e,Int.zero_mul] at this
  omega
 ·exact e
theorem red_num {N D:Int} (hD:0<D) {p q:List Lim} (h:Red N D p q):0<valN p↔0<N:=by
 have hg:=gcd_pos (N:=N) hD
 have h0:=valN_nonneg h.1.1
 rw [← h.2.2.1]
 constructor
 ·intro k; exact Int.mul_pos k hg
 ·intro k
  rcases(show valN p=0∨0<valN p by omega) with e | e
  ·rw [e,Int.zero_mul] at k; omega
  ·exact e
theorem red_gcd {N D:Int} (hD:0<D) {p q:List Lim} (h:Red N D p q):Int.gcd (valN p) (valN q)=1:=by
 have hg:=gcd_pos (N:=N) hD
 have e:Int.gcd (valN p*(Int.gcd N D:Int)) (valN q*(Int.gcd N D:Int))=Int.gcd (valN p) (valN q)*Int.natAbs (Int.gcd N D:Int):=Int.gcd_mul_right _ _ _
 rw [h.2.2.1,h.2.2.2] at e
 have e2:Int.natAbs (Int.gcd N D:Int)=Int.gcd N D:=Int.natAbs_natCast _
 rw [e2] at e
 have hg':0<Int.gcd N D:=by omega
 have:1*Int.gcd N D=Int.gcd (valN p) (valN q)*Int.gcd N D:=by omega
 exact(Nat.eq_of_mul_eq_mul_right hg' this).symm
theorem exact_quot {n g q r:Int} (hg:0<g) (h:n=q*g+r) (hr:0≤r∧r<g) (hd:g ∣ n):q*g=n:=by
 obtain⟨c,hc⟩:=hd
 have h2:n=c*g+0:=by rw [hc,Int.mul_comm]; omega
 obtain⟨e1,e2⟩:=quot_unique h h2 hr ⟨Int.le_refl _,hg⟩
 omega
theorem gcd_dvd_l (N D:Int):(Int.gcd N D:Int) ∣ N:=Int.gcd_dvd_left ..
theorem gcd_dvd_r (N D:Int):(Int.gcd N D:Int) ∣ D:=Int.gcd_dvd_right ..
end Go.Proofs.YtpdfdkccgkieoaaGreatDoor
namespace Go.Proofs.YtpdfdkccgkieoaaGreatDoor
open Sx
set_option maxRecDepth 100000
theorem lr_nil {V:Know}:LR rI V ⟨none,0,0⟩ [] []:=⟨rfl,Nat.le_refl _,by simp,.inl ⟨rfl,fun _=>rfl,rfl⟩⟩
theorem rat_mk {V:Know} {b:Bool} {s s':SlV} {p q:List Lim} {f g:List Nat} (h:LR rI V s p f) (h':LR rI V s' q g):rRat.R V (b,s,s',()) (b,p,q,()) (f++(g++[])) :=
 ⟨rfl,f,g++[],rfl,h,g,[],rfl,h',rfl⟩
def RedS (S D:Int) (x:DRat) (e:Bool):Prop:=∃ p q,Red (S.natAbs:Int) D p q∧((p.length≤18∧q.length≤18∧e=true∧x=(decide (S<0),p,q,()))∨(¬ (p.length≤18∧q.length≤18)∧e=false∧x=(false,[],[],())))
theorem redS_ok {S D:Int} (hD:0<D) {x:DRat} {e:Bool} (h:RedS S D x e) (he:e=true):RatOkP x.1 x.2.1 x.2.2.1:=by
 obtain⟨p,q,h1,h2⟩:=h
 rcases h2 with ⟨a,b,_,rfl⟩ | ⟨_,c,_⟩
 ·refine⟨⟨⟨h1.1,(by omega:p.length≤50)⟩,fun hn=>?_⟩,⟨h1.2.1,(by omega:q.length≤50)⟩,(can_pos h1.2.1).2 (red_pos hD h1),b,a,red_gcd hD h1⟩
  have hs:S<0:=of_decide_eq_true hn
  exact(can_pos h1.1).2 ((red_num hD h1).2 (by omega))
 ·rw [he] at c; cases c
abbrev RatPost (V:Know) (S D:Int):Know→Value→Prop:=fun V' r=>V.le V'∧∃ c x e f,r=.tuple #[qv5 c,.bool e]∧rRat.R V' c x f∧Own V V' f∧RedS S D x e
theorem sval_abs {c0:Bool} {n:List Lim} (h:Lims n):((sval c0 n).natAbs:Int)=valN n:=by
 have:=valN_nonneg h
 unfold sval
 split <;> omega
theorem sval_neg {c0:Bool} {n:List Lim} (h:Can n) {p:List Lim} (hp:0<p.length↔0<valN n):(c0 && decide (0<p.length))=decide (sval c0 n<0):=by
 have:=valN_nonneg h.1
 cases c0 with
 | false =>
  rw [Bool.false_and]
  exact(decide_eq_false (by unfold sval; simp; omega)).symm
 | true =>
  rw [Bool.true_and]
  exact decide_eq_decide.2 (by rw [hp]; unfold sval; simp)
end Go.Proofs.YtpdfdkccgkieoaaGreatDoor
namespace Go.Proofs.YtpdfdkccgkieoaaGreatDoor
open Sx
set_option maxRecDepth 100000
theorem can_sum {a b o:List Lim} {k M:Nat} (hl:Lims o) (ho:o.length=k) (h1:a.length≤k) (h2:b.length≤k) (hM:M=a.length∨M=b.length) (hk:k≤M+1) (ht:k=M+1→limb o M≠0) (hv:valTo o k=valTo a k+valTo b k) (ca:Can a) (cb:Can b):Can o:=by
 refine⟨hl,?_⟩
 by_cases k0:k=0
 ·exact .inl (by omega)
 refine .inr ?_
 rw [ho]
 by_cases k1:k=M+1
 ·rw [k1]
  exact ht k1
 have kM:k=M:=by omega
 rw [valTo_ge h1,valTo_ge h2] at hv
 have a0:=valN_nonneg ca.1
 have b0:=valN_nonneg cb.1
 have hge:(1000000000:Int) ^ (k-1)≤valN a+valN b:=by
  rcases hM with e | e
  ·have:=can_ge ca (by omega)
   rw [show a.length=k by omega] at this
   omega
  ·have:=can_ge cb (by omega)
   rw [show b.length=k by omega] at this
   omega
 intro hz
 have hs:valTo o k=valTo o (k-1)+limb o (k-1)*1000000000 ^ (k-1):=by
  obtain⟨j,rfl⟩:∃ j,k=j+1:=⟨k-1,by omega⟩
  rfl
 rw [hz,Int.zero_mul] at hs
 have:=(valTo_bd hl (k-1)).2
 omega
theorem cS_l02Add (V:Know) (s s':SlV) (a b:List Lim) (f f':List Nat) (h:LR rI V s a f) (h':LR rI V s' b f') (ha:Lims a) (hb:Lims b) (la:a.length≤1000000) (lb:b.length≤1000000) :
  CallX Tryz.prog V 159 [Sc.val .l s,Sc.val .l s'] (fun V' r=>V.le V'∧∃ s'' o f'',r=Sc.val .l s''∧LR rI V' s'' o f''∧Own V V' f''∧Lims o∧valN o=valN a+valN b∧o.length≤Nat.max a.length b.length+1∧(Can a→Can b→Can o)):=by
 refine CallX.of_fits Tryz.mix (fS_l02Add _ _) fun _=>?_
 have hn:=h.1
 have hn':=h'.1
 have hB:(1000000000:Int)≠0:=by decide
 simp only [tS_l02Add,T.wp]
 obtain⟨M,hM⟩:∃ M,M=Nat.max a.length b.length:=⟨_,rfl⟩
 have hMa:a.length≤M:=by rw [hM]; exact Nat.le_max_left _ _
 have hMb:b.length≤M:=by rw [hM]; exact Nat.le_max_right _ _
 have hMc:M=a.length∨M=b.length:=by
  rcases Nat.le_total a.length b.length with k | k
  ·exact .inr (by rw [hM]; exact Nat.max_eq_right k)
  ·exact .inl (by rw [hM]; exact Nat.max_eq_left k)
 rw [← hM]
 refine⟨fun y V'=>V'=V∧∃ (k:Nat) (o:List Lim),y.2.2.1=(k:Int)∧k≤M+1∧0≤(y.2.1:Int)∧(y.2.1:Int)≤1∧y.1.1=k∧y.1.2=o.map cellI∧o.length=k∧Lims o∧(k=M+1→(y.2.1:Int)=0∧limb o M≠0)∧valTo o k+(y.2.1:Int)*1000000000 ^ k=valTo a k+valTo b k,
  fun y=>((M:Int)+1-(y.2.2.1:Int)).toNat,⟨((0,[]),(0:Int),(0:Int),()),rfl,rfl,0,[],rfl,by omega,(by omega:(0:Int)≤0),(by omega:(0:Int)≤1),rfl,rfl,rfl,lims_nil,fun k=>by omega,rfl⟩,?_⟩
 rintro⟨⟨n1,ys⟩,(c:Int),(i:Int),u⟩ V' ⟨rfl,k,o,hi,hk,hc0,hc1,hn1,hys,hol,hlo,hend,hv⟩
 replace hi:i=(k:Int):=hi
 replace hc0:0≤c:=hc0
 replace hc1:c≤1:=hc1
 replace hn1:n1=k:=hn1
 replace hys:ys=o.map cellI:=hys
 replace hend:k=M+1→c=0∧limb o M≠0:=hend
 replace hv:valTo o k+c*1000000000 ^ k=valTo a k+valTo b k:=hv
 subst hi hn1 hys
 have la1:=ha n1
 have lb1:=hb n1
 have next:n1≤M→(n1=M→0<c)→∀ t:Int,t=c+limb a n1+limb b n1→∃ N,([]++[fun vs V'_1=>∃ y':LShs [.a 3,.o (.o (.i .i64)),.o (.o (.i .i64))],vs=LShs.lvs _ y'∧(V'_1=V'∧∃ (k:Nat) (o:List Lim),y'.2.2.1=(k:Int)∧k≤M+1∧0≤(y'.2.1:Int)∧(y'.2.1:Int)≤1∧y'.1.1=k∧y'.1.2=o.map cellI∧o.length=k∧Lims o∧(k=M+1→(y'.2.1:Int)=0∧limb o M≠0)∧valTo o k+(y'.2.1:Int)*1000000000 ^ k=valTo a k+valTo b k)∧((M:Int)+1-(y'.2.2.1:Int)).toNat<((M:Int)+1-(n1:Int)).toNat]:List (List LV→Know→Prop))[0]?=some N ∧
   N [LV.a 3 (n1+1) (o.map cellI++[.int .i64 (t.tmod (1000000000:Int))]),.v (.int .i64 (IntKind.i64.wrap (t.tdiv (1000000000:Int)))),.v (.int .i64 (IntKind.i64.wrap ((n1:Int)+1)))] V':=by
  intro hkM hcM t ht
  have ht0:0≤t:=by omega
  have htm:t.tmod 1000000000=t % 1000000000:=Int.tmod_eq_emod_of_nonneg ht0
  have htd:t.tdiv 1000000000=t / 1000000000:=Int.tdiv_eq_ediv_of_nonneg ht0
  have hwd:IntKind.i64.wrap (t / 1000000000)=t / 1000000000:=wrap_i64 (by omega)
  have hwi:IntKind.i64.wrap ((n1:Int)+1)=((n1+1:Nat):Int):=by rw [wrap_i64 (by omega)]; omega
  rw [htm,htd,hwi,hwd]
  refine⟨_,rfl,((n1+1,(o++[(t % 1000000000,())]).map cellI),t / 1000000000,((n1+1:Nat):Int),()),?_,⟨rfl,n1+1,o++[(t % 1000000000,())],rfl,by omega,(by omega:(0:Int)≤t / 1000000000),(by omega:t / 1000000000≤1),rfl,rfl,by simp [hol],lims_snoc hlo ⟨(by omega:(0:Int)≤t % 1000000000),(by omega:t % 1000000000<1000000000)⟩,fun e=>?_,?_⟩,?_⟩
  ·simp [LShs.lvs,LSh.lv,Sh1.val,Sc.val,cellI]
  ·have e1:=limb_ge (l:=a) (i:=n1) (by omega)
   have e2:=limb_ge (l:=b) (i:=n1) (by omega)
   have e3:n1=M:=by omega
   have e4:=hcM e3
   refine⟨(by omega:t / 1000000000=0),?_⟩
   have e5:limb (o++[(t % 1000000000,())]) M=t % 1000000000:=by
    rw [show M=o.length by omega,limb_snoc]
   show limb (o++[(t % 1000000000,())]) M≠0
   rw [e5]
   omega
  ·have:=add_step (d:=t % 1000000000) (e:=t / 1000000000) hol hv (by omega)
   exact this
  ·show((M:Int)+1-((n1+1:Nat):Int)).toNat<_
   omega
 have room:n1≤M→∀ v:Int,one [Value.int .i64 v]=true∧(n1+1)*8≤140737488355328∧n1+1≤9223372036854775807:=fun hkM v=>⟨rfl,by omega,by omega⟩
 have e1:IntKind.i64.wrap (c+limb a n1)=c+limb a n1:=wrap_i64 (by omega)
 have e2:IntKind.i64.wrap (c+limb b n1)=c+limb b n1:=wrap_i64 (by omega)
 have e3:IntKind.i64.wrap (c+limb a n1+limb b n1)=c+limb a n1+limb b n1:=wrap_i64 (by omega)
 have ga:(decide ((n1:Int)<(s.n:Int))=true)→∃ b1 o1,s.a=some ⟨b1,o1,none⟩∧loadV V' ((⟨b1,o1,none⟩:Addr).add (n1*1)) 1=some [.int .i64 (limb a n1)]∧n1<a.length:=by
  intro hh
  have hka:n1<a.length:=by
   have:(n1:Int)<(s.n:Int):=of_decide_eq_true hh
   omega
  obtain⟨b1,o1,a1,l1⟩:=h.int hka
  rw [← limb_lt hka] at l1
  exact⟨b1,o1,a1,l1,hka⟩
 have gb:(decide ((n1:Int)<(s'.n:Int))=true)→∃ b1 o1,s'.a=some ⟨b1,o1,none⟩∧loadV V' ((⟨b1,o1,none⟩:Addr).add (n1*1)) 1=some [.int .i64 (limb b n1)]∧n1<b.length:=by
  intro hh
  have hka:n1<b.length:=by
   have:(n1:Int)<(s'.n:Int):=of_decide_eq_true hh
   omega
  obtain⟨b1,o1,a1,l1⟩:=h'.int hka
  rw [← limb_lt hka] at l1
  exact⟨b1,o1,a1,l1,hka⟩
 have na:(decide ((n1:Int)<(s.n:Int))=false)→limb a n1=0:=fun hh=>by
  have:¬ (n1:Int)<(s.n:Int):=of_decide_eq_false hh
  exact limb_ge (by omega)
 have nb:(decide ((n1:Int)<(s'.n:Int))=false)→limb b n1=0:=fun hh=>by
  have:¬ (n1:Int)<(s'.n:Int):=of_decide_eq_false hh
  exact limb_ge (by omega)
 have z0:(0:Int)≤(n1:Int):=by omega
 refine⟨fun h1=>?_,fun h1=>⟨fun h2=>?_,fun h2=>⟨fun h3=>?_,fun h3=>?_⟩⟩⟩
 rotate_left 3
 ·have q1:¬ (n1:Int)<(s.n:Int):=of_decide_eq_false h1
  have q2:¬ (n1:Int)<(s'.n:Int):=of_decide_eq_false h2
  have q3:¬ c > 0:=of_decide_eq_false h3
  have q4:c=0:=by omega
  subst q4
  intro bk cap spare hbk hcap _
  have hcap':n1≤cap:=hcap
  have hk:=newI (V:=V') (b:=bk) (cap:=cap) (o:=o) (spare:=spare) (t:=3) hbk (by omega) (by omega)
  refine⟨kset_le hbk,⟨some ⟨bk,0,none⟩,n1,cap⟩,o,[bk],rfl,by rw [← hol]; exact hk.1,hk.2,hlo,?_,by omega,fun ca cb=>can_sum hlo hol (by omega) (by omega) hMc (by omega) (fun e=>(hend e).2) ?_ ca cb⟩
  rotate_left
  ·rw [Int.zero_mul,Int.add_zero] at hv
   exact hv
  rw [valTo_ge (show a.length≤n1 by omega),valTo_ge (show b.length≤n1 by omega)] at hv
  rw [valN,hol]
  simpa using hv
 ·have hkM:n1≤M:=by
   obtain⟨_,_,_,_,k⟩:=ga h1
   omega
  have hcM':n1=M→0<c:=fun e=>by
   obtain⟨_,_,_,_,k⟩:=ga h1
   omega
  refine⟨fun hxa=>?_,fun hxa=>⟨fun hxb=>?_,fun hxb=>?_⟩⟩
  ·obtain⟨b1,o1,a1,l1,hka⟩:=ga hxa
   refine⟨_,a1,z0,(by omega:(n1:Int)<(s.n:Int)),limb a n1,l1,fun hxb=>?_,fun hxb=>?_⟩
   ·obtain⟨b2,o2,a2,l2,hkb⟩:=gb hxb
    refine⟨_,a2,z0,(by omega:(n1:Int)<(s'.n:Int)),limb b n1,l2,hB,rfl,room hkM _,hB,?_⟩
    have:=next hkM hcM' _ rfl
    rw [← e3,← e1] at this
    exact this
   ·refine⟨hB,rfl,room hkM _,hB,?_⟩
    have:=next hkM hcM' (c+limb a n1) (by rw [nb hxb]; omega)
    rw [← e1] at this
    exact this
  ·obtain⟨b2,o2,a2,l2,hkb⟩:=gb hxb
   refine⟨_,a2,z0,(by omega:(n1:Int)<(s'.n:Int)),limb b n1,l2,hB,rfl,room hkM _,hB,?_⟩
   have:=next hkM hcM' (c+limb b n1) (by rw [na hxa]; omega)
   rw [← e2] at this
   exact this
  ·refine⟨hB,rfl,room hkM _,hB,?_⟩
   exact next hkM hcM' c (by rw [na hxa,nb hxb]; omega)
 ·have hkM:n1≤M:=by
   obtain⟨_,_,_,_,k⟩:=gb h2
   omega
  have hcM':n1=M→0<c:=fun e=>by
   obtain⟨_,_,_,_,k⟩:=gb h2
   omega
  refine⟨fun hxa=>?_,fun hxa=>⟨fun hxb=>?_,fun hxb=>?_⟩⟩
  ·obtain⟨b1,o1,a1,l1,hka⟩:=ga hxa
   refine⟨_,a1,z0,(by omega:(n1:Int)<(s.n:Int)),limb a n1,l1,fun hxb=>?_,fun hxb=>?_⟩
   ·obtain⟨b2,o2,a2,l2,hkb⟩:=gb hxb
    refine⟨_,a2,z0,(by omega:(n1:Int)<(s'.n:Int)),limb b n1,l2,hB,rfl,room hkM _,hB,?_⟩
    have:=next hkM hcM' _ rfl
    rw [← e3,← e1] at this
    exact this
   ·refine⟨hB,rfl,room hkM _,hB,?_⟩
    have:=next hkM hcM' (c+limb a n1) (by rw [nb hxb]; omega)
    rw [← e1] at this
    exact this
  ·obtain⟨b2,o2,a2,l2,hkb⟩:=gb hxb
   refine⟨_,a2,z0,(by omega:(n1:Int)<(s'.n:Int)),limb b n1,l2,hB,rfl,room hkM _,hB,?_⟩
   have:=next hkM hcM' (c+limb b n1) (by rw [na hxa]; omega)
   rw [← e2] at this
   exact this
  ·refine⟨hB,rfl,room hkM _,hB,?_⟩
   exact next hkM hcM' c (by rw [na hxa,nb hxb]; omega)
 ·have hkM:n1≤M:=by
   have hc2:c > 0:=of_decide_eq_true h3
   by_cases e:n1=M+1
   ·have:=(hend e).1
    omega
   ·omega
  have hcM':n1=M→0<c:=fun _=>by
   have hc2:c > 0:=of_decide_eq_true h3
   omega
  refine⟨fun hxa=>?_,fun hxa=>⟨fun hxb=>?_,fun hxb=>?_⟩⟩
  ·obtain⟨b1,o1,a1,l1,hka⟩:=ga hxa
   refine⟨_,a1,z0,(by omega:(n1:Int)<(s.n:Int)),limb a n1,l1,fun hxb=>?_,fun hxb=>?_⟩
   ·obtain⟨b2,o2,a2,l2,hkb⟩:=gb hxb
    refine⟨_,a2,z0,(by omega:(n1:Int)<(s'.n:Int)),limb b n1,l2,hB,rfl,room hkM _,hB,?_⟩
    have:=next hkM hcM' _ rfl
    rw [← e3,← e1] at this
    exact this
   ·refine⟨hB,rfl,room hkM _,hB,?_⟩
    have:=next hkM hcM' (c+limb a n1) (by rw [nb hxb]; omega)
    rw [← e1] at this
    exact this
  ·obtain⟨b2,o2,a2,l2,hkb⟩:=gb hxb
   refine⟨_,a2,z0,(by omega:(n1:Int)<(s'.n:Int)),limb b n1,l2,hB,rfl,room hkM _,hB,?_⟩
   have:=next hkM hcM' (c+limb b n1) (by rw [na hxa]; omega)
   rw [← e2] at this
   exact this
  ·refine⟨hB,rfl,room hkM _,hB,?_⟩
   exact next hkM hcM' c (by rw [na hxa,nb hxb]; omega)
theorem cS_l04MakeL (V:Know) (c0:Bool) (s:SlV) (l:List Lim) (f:List Nat) (h:LR rI V s l f) (hc:Lims l) (hl:l.length≤50) :
  CallX Tryz.prog V 100 [.bool c0,Sc.val .l s] (fun V' r=>V.le V'∧∃ e s' o f',r=qv1 (e,s',())∧LR rI V' s' o f'∧Own V V' f'∧IntOkP e o∧sval e o=sval c0 l∧o.length≤l.length):=by
 refine CallX.of_fits Tryz.mix (fS_l04Make _ _) fun _=>?_
 simp only [tS_l04Make,T.wp]
 refine(cS_l02Cap V s l f h hl).mono ?_
 rintro V1 r ⟨rfl,s1,rfl,hL⟩
 obtain⟨tc,tv⟩:=trim_can hc
 obtain⟨o,ho⟩:∃ o,o=trimL l:=⟨_,rfl⟩
 have hol:o.length≤l.length:=by rw [ho]; unfold trimL; rw [List.length_take]; exact Nat.min_le_right _ _
 rw [← ho] at hL tc tv
 obtain⟨r1,r2⟩:=hL.rdI
 have hn:=hL.1
 obtain⟨ok,ev⟩:=made_ok (q:=c0) tc (by omega)
 have ev2:sval (c0 && decide (0<o.length)) o=sval c0 l:=by
  rw [ev]
  unfold sval
  rw [tv]
 have fin:∀ (q:Bool),q=(c0 && decide (0<o.length))→∀ b cap spare,V1 b=none→0+s1.n≤cap→V1.le (kset V1 b (([]++o.map cellI)++spare,(3,(0,0))))∧∃ e s' o' f',packed [qv1 (q,(⟨some ⟨b,0,none⟩,0+s1.n,cap⟩:SlV),())]=qv1 (e,s',())∧LR rI (kset V1 b (([]++o.map cellI)++spare,(3,(0,0)))) s' o' f'∧Own V1 (kset V1 b (([]++o.map cellI)++spare,(3,(0,0)))) f'∧IntOkP e o'∧sval e o'=sval c0 l∧o'.length≤l.length:=by
  intro q hq b cap spare hb hcap
  have k:=newI (V:=V1) (b:=b) (cap:=cap) (o:=o) (spare:=spare) (t:=3) hb (by omega) (by omega)
  refine⟨kset_le hb,q,⟨some ⟨b,0,none⟩,0+s1.n,cap⟩,o,[b],rfl,?_,k.2,by rw [hq]; exact ok,by rw [hq]; exact ev2,hol⟩
  rw [Nat.zero_add,hn]
  exact k.1
 refine⟨nofun,s1,rfl,fun hneg=>⟨o.map cellI,r1,r2,⟨r2,(by omega:(0+s1.n)*8≤140737488355328),(by omega:0+s1.n≤9223372036854775807)⟩,fun b cap spare hb hcap _=>fin _ ?_ b cap spare hb hcap⟩,fun hpos=>⟨o.map cellI,r1,r2,⟨r2,(by omega:(0+s1.n)*8≤140737488355328),(by omega:0+s1.n≤9223372036854775807)⟩,fun b cap spare hb hcap _=>fin _ ?_ b cap spare hb hcap⟩⟩
 ·have:c0=true:=hneg
  subst this
  show decide ((s1.n:Int) > 0)=(true && decide (0<o.length))
  rw [Bool.true_and]
  exact decide_eq_decide.2 (by omega)
 ·have:c0=false:=hpos
  subst this
  rfl
abbrev IntPost (V:Know) (z:Int) (m:Nat):Know→Value→Prop:=fun V' r=>V.le V'∧∃ e s o f,r=qv1 (e,s,())∧LR rI V' s o f∧Own V V' f∧IntOkP e o∧sval e o=z∧o.length≤m
theorem cS_l04Add (V:Know) (c0:Bool) (c1:SlV) (d0:Bool) (d1:SlV) (a b:List Lim) (f g:List Nat) (h:LR rI V c1 a f) (h':LR rI V d1 b g) (ha:Can a) (hb:Can b) (la:a.length≤49) (lb:b.length≤49) :
  CallX Tryz.prog V 109 [qv1 (c0,c1,()),qv1 (d0,d1,())] (IntPost V (sval c0 a+sval d0 b) 50):=by
 refine CallX.of_fits Tryz.mix (fS_l04Add _ _) fun _=>?_
 simp only [tS_l04Add,T.wp]
 have fin:∀ (q:Bool) {V1:Know} {s1:SlV} {o1:List Lim} {f1:List Nat} (z:Int),V.le V1→LR rI V1 s1 o1 f1→Lims o1→o1.length≤50→sval q o1=z→CallX Tryz.prog V1 100 [.bool q,Sc.val .l s1] (fun V' r=>(false=true→V1.le V')∧∃ y,r=(Sh.v (.g [.b,.l])).val y∧IntPost V z 50 V' (packed [qv1 y])):=by
  intro q V1 s1 o1 f1 z hle hL hl hlen hz
  refine(cS_l04MakeL V1 q s1 o1 f1 hL hl hlen).mono ?_
  rintro V2 r ⟨le2,e,s2,o2,f2,rfl,L2,O2,ok,ev,ln⟩
  exact⟨fun _=>le2,(e,s2,()),rfl,hle.trans le2,e,s2,o2,f2,rfl,L2,O2.pre hle,ok,ev.trans hz,by omega⟩
 refine⟨fun heq=>?_,fun hne=>?_⟩
 ·have hcd:c0=d0:=by simpa using heq
  subst hcd
  refine(cS_l02Add V c1 d1 a b f g h h' ha.1 hb.1 (by omega) (by omega)).mono ?_
  rintro V1 r ⟨hle,s,o,f'',rfl,hL,_,hl,hv,hlen,_⟩
  have hM:Nat.max a.length b.length≤49:=Nat.max_le.2 ⟨la,lb⟩
  refine⟨fun _=>hle,s,rfl,fin c0 _ hle hL hl (by omega) ?_⟩
  unfold sval
  cases c0 <;> simp <;> omega
 ·have hcd:c0=!d0:=by cases c0 <;> cases d0 <;> simp_all
  refine(cS_l02Cmp V c1 d1 a b f g h h').mono ?_
  rintro V0 r ⟨rfl,rfl⟩
  have hcmp:=cmpL_val ha hb
  refine⟨nofun,_,rfl,fun hge=>?_,fun hlt=>?_⟩
  ·have hge':cmpL a b≥0:=of_decide_eq_true hge
   have hv0:valN b≤valN a:=by rcases hcmp with ⟨c,k⟩ | ⟨c,k⟩ | ⟨c,k⟩ <;> omega
   refine(cS_l02Sub V0 c1 d1 a b f g h h' ha.1 hb.1 (by omega) (can_len ha hb hv0) hv0).mono ?_
   rintro V1 r ⟨hle,s,o,f'',rfl,hL,_,hc,hv⟩
   have hb0:=valN_nonneg hb.1
   have hlen:=can_len ha hc (by omega)
   refine⟨fun _=>hle,s,rfl,fin c0 _ hle hL hc.1 (by omega) ?_⟩
   unfold sval
   subst hcd
   cases d0 <;> simp <;> omega
  ·have hlt':¬ cmpL a b≥0:=of_decide_eq_false hlt
   have hv0:valN a≤valN b:=by rcases hcmp with ⟨c,k⟩ | ⟨c,k⟩ | ⟨c,k⟩ <;> omega
   refine(cS_l02Sub V0 d1 c1 b a g f h' h hb.1 ha.1 (by omega) (can_len hb ha hv0) hv0).mono ?_
   rintro V1 r ⟨hle,s,o,f'',rfl,hL,_,hc,hv⟩
   have ha0:=valN_nonneg ha.1
   have hlen:=can_len hb hc (by omega)
   refine⟨fun _=>hle,s,rfl,fin d0 _ hle hL hc.1 (by omega) ?_⟩
   unfold sval
   subst hcd
   cases d0 <;> simp <;> omega
theorem cS_IntAdd (V:Know) (c0:Bool) (c1:SlV) (d0:Bool) (d1:SlV) (a b:List Lim) (f g:List Nat) (h:LR rI V c1 a f) (h':LR rI V d1 b g) (ha:IntOkP c0 a) (hb:IntOkP d0 b) (la:a.length≤49) (lb:b.length≤49) :
  CallX Tryz.prog V 152 [qv1 (c0,c1,()),qv1 (d0,d1,())] (IntPost V (sval c0 a+sval d0 b) 50):=by
 refine CallX.of_fits Tryz.mix (fS_IntAdd _ _) fun _=>?_
 simp only [tS_IntAdd,T.wp]
 refine(cS_IntOk V c0 c1 a f h).mono ?_
 rintro V1 r ⟨rfl,e,rfl,he⟩
 have he:=he.2 ha
 subst he
 refine⟨nofun,true,rfl,nofun,fun _=>(cS_IntOk V1 d0 d1 b g h').mono ?_⟩
 rintro V2 r ⟨rfl,e,rfl,he⟩
 have he:=he.2 hb
 subst he
 refine⟨nofun,true,rfl,nofun,fun _=>(cS_l04Add V2 c0 c1 d0 d1 a b f g h h' ha.1.1 hb.1.1 la lb).mono ?_⟩
 rintro V3 r ⟨le3,e,s,o,f3,rfl,k⟩
 exact⟨nofun,(e,s,()),rfl,le3,e,s,o,f3,rfl,k⟩
end Go.Proofs.YtpdfdkccgkieoaaGreatDoor
namespace Go.Proofs.YtpdfdkccgkieoaaGreatDoor
open Sx
set_option maxRecDepth 100000
theorem cS_l05Gcd (V:Know) (s s':SlV) (a b:List Lim) (f f':List Nat) (h:LR rI V s a f) (h':LR rI V s' b f') (ha:Can a) (hb:Can b) (la:a.length≤900000) (lb:b.length≤900000) :
  CallX Tryz.prog V 161 [Sc.val .l s,Sc.val .l s'] (fun V' ret=>V.le V'∧∃ s g f,ret=Sc.val .l s∧LR rI V' s g f∧Can g∧valN g=(Int.gcd (valN a) (valN b):Int)):=by
 refine CallX.of_fits Tryz.mix (fS_l05Gcd _ _) fun _=>?_
 simp only [tS_l05Gcd,T.wp]
 refine⟨fun y V'=>V.le V'∧∃ (x z:List Lim) (fx fz:List Nat),LR rI V' y.1 x fx∧LR rI V' y.2.1 z fz∧Can x∧Can z∧x.length≤900000∧z.length≤900000∧Int.gcd (valN x) (valN z)=Int.gcd (valN a) (valN b),
  fun y V'=>memN V' y.2.1,⟨(s,s',()),rfl,Know.le.refl _,a,b,f,f',h,h',ha,hb,la,lb,rfl⟩,?_⟩
 rintro⟨s1,s2,u⟩ V' ⟨hle,x,z,fx,fz,hx,hz,cx,cz,lx,lz,hg⟩
 replace hx:LR rI V' s1 x fx:=hx
 replace hz:LR rI V' s2 z fz:=hz
 have hnz:=hz.1
 refine⟨fun hpos=>?_,fun hend=>?_⟩
 ·have hp:0<z.length:=by
   have:(s2.n:Int) > 0:=of_decide_eq_true hpos
   omega
  refine(cS_l03Div V' s1 s2 x z fx fz hx hz cx cz lx hp lz).mono ?_
  rintro V1 _ ⟨hle1,t1,t2,q,r,f1,f2,rfl,hL1,hL2,hO1,hO2,hcq,hcr,hv,hr⟩
  have h0:=valN_nonneg hcr.1
  refine⟨nofun,(t1,t2,()),rfl,_,rfl,(s2,t2,()),rfl,⟨hle.trans hle1,z,r,fz,f2,hz.le hle1,hL2,cz,hcr,lz,?_,?_⟩,?_⟩
  ·have:=can_len cz hcr (by omega)
   omega
  ·rw [gcd_step hv]; exact hg
  ·show memN V1 t2<memN V' s2
   rw [memN_eq hL2,memN_eq hz]
   omega
 ·have hz0:z=[]:=List.eq_nil_of_length_eq_zero (by
   have:¬ (s2.n:Int) > 0:=of_decide_eq_false hend
   omega)
  subst hz0
  refine⟨hle,s1,x,fx,rfl,hx,cx,?_⟩
  rw [← hg,valN_nil]
  have:=valN_nonneg cx.1
  simp
  omega
theorem cS_l05Low (V:Know) (c0:Bool) (s s':SlV) (n d:List Lim) (f g:List Nat) (h:LR rI V s n f) (h':LR rI V s' d g) (hn:Can n) (hd:Can d) (hp:0<valN d) (ln:n.length≤900000) (ld:d.length≤900000) :
  CallX Tryz.prog V 110 [.bool c0,Sc.val .l s,Sc.val .l s'] (RatPost V (sval c0 n) (valN d)):=by
 refine CallX.of_fits Tryz.mix (fS_l05Low _ _ _) fun _=>?_
 simp only [tS_l05Low,T.wp]
 refine(cS_l02Trim V s n f h).mono ?_
 rintro V0 _ ⟨rfl,s0,rfl,-,L0⟩
 rw [trim_id hn] at L0
 refine⟨nofun,s0,rfl,(cS_l02Trim V0 s' d g h').mono ?_⟩
 rintro V0' _ ⟨rfl,s0',rfl,-,L0'⟩
 rw [trim_id hd] at L0'
 have nd:=L0'.1
 have ndp:=(can_pos hd).2 hp
 refine⟨nofun,s0',rfl,fun hz=>?_,fun _=>?_⟩
 ·have:(s0'.n:Int)=0:=by simpa using hz
  omega
 refine(cS_l05Gcd V0' s0 s0' n d f g L0 L0' hn hd ln ld).mono ?_
 rintro V1 _ ⟨le1,s1,gg,f1,rfl,L1,C1,v1⟩
 have hg:=gcd_pos (N:=valN n) hp
 have hgp:0<gg.length:=(can_pos C1).2 (by omega)
 have hgl:gg.length≤900000:=by
  have:=can_len (a:=d) (b:=gg) hd C1 (by
   rw [v1]
   exact Int.le_of_dvd hp (gcd_dvd_r _ _))
  omega
 refine⟨nofun,s1,rfl,(cS_l03Div V1 s0 s1 n gg f f1 (L0.le le1) L1 hn C1 ln hgp hgl).mono ?_⟩
 rintro V2 _ ⟨le2,sq,sr,q,r,f2,f2',rfl,L2,L2',O2,_,C2,C2',v2,b2⟩
 have l2:=le1.trans le2
 refine⟨nofun,(sq,sr,()),rfl,(cS_l03Div V2 s0' s1 d gg g f1 (L0'.le l2) (L1.le le2) hd C1 ld hgp hgl).mono ?_⟩
 rintro V3 _ ⟨le3,tq,tr,q',r',f3,f3',rfl,L3,L3',O3,_,C3,C3',v3,b3⟩
 have l3:=l2.trans le3
 rw [v1] at v2 v3 b2 b3
 have x1:=exact_quot hg v2 ⟨valN_nonneg C2'.1,b2⟩ (gcd_dvd_l _ _)
 have x2:=exact_quot hg v3 ⟨valN_nonneg C3'.1,b3⟩ (gcd_dvd_r _ _)
 have hred:Red ((sval c0 n).natAbs:Int) (valN d) q q':=by
  rw [sval_abs hn.1]
  exact⟨C2,C3,x1,x2⟩
 have n2:=L2.1
 have n3:=L3.1
 have noneP:¬ (q.length≤18∧q'.length≤18)→RatPost V0' (sval c0 n) (valN d) V3 (packed [qv5 (false,(⟨none,0,0⟩:SlV),(⟨none,0,0⟩:SlV),()),.bool false]) :=
  fun hl=>⟨l3,_,(false,[],[],()),false,_,rfl,rat_mk lr_nil lr_nil,Own.nil,q,q',hred,.inr ⟨hl,rfl,rfl⟩⟩
 refine⟨nofun,(tq,tr,()),rfl,fun h1=>noneP fun k=>?_,fun h1=>⟨fun h2=>noneP fun k=>?_,fun h2=>?_⟩⟩
 ·have:(sq.n:Int) > 18:=of_decide_eq_true h1
  omega
 ·have:(tq.n:Int) > 18:=of_decide_eq_true h2
  omega
 have k1:¬ (sq.n:Int) > 18:=of_decide_eq_false h1
 have k2:¬ (tq.n:Int) > 18:=of_decide_eq_false h2
 refine(cS_l04Make V3 c0 sq q f2 (L2.le le3) C2 (by omega)).mono ?_
 rintro V4 _ ⟨le4,s4,f4,rfl,L4,O4⟩
 have L3b:=L3.le le4
 obtain⟨r1,r2⟩:=L3b.rdI
 refine⟨nofun,(c0 && decide (0<q.length),s4,()),rfl,q'.map cellI,r1,r2,⟨r2,(by omega:(0+tq.n)*8≤140737488355328),(by omega:0+tq.n≤9223372036854775807)⟩,?_⟩
 intro b cap spare hb hcap _
 have hcap':0+tq.n≤cap:=hcap
 have k:=newI (V:=V4) (b:=b) (cap:=cap) (o:=q') (spare:=spare) (t:=3) hb (by omega) (by omega)
 have le5:=kset_le (x:=(q'.map cellI++spare,((3:TypeId),((0,0):Nat × Nat)))) hb
 have kL:LR rI (kset V4 b (q'.map cellI++spare,(3,(0,0)))) ⟨some ⟨b,0,none⟩,0+tq.n,cap⟩ q' [b]:=by
  rw [Nat.zero_add,n3]
  exact k.1
 refine⟨(l3.trans le4).trans le5,_,(c0 && decide (0<q.length),q,q',()),true,_,rfl,rat_mk (L4.le le5) kL,?_,q,q',hred,.inl ⟨by omega,by omega,rfl,?_⟩⟩
 ·rw [List.append_nil]
  exact(O4.append k.2 le4 le5).pre l3
 ·rw [sval_neg hn ((can_pos C2).trans (by have:=red_num hp hred; rwa [sval_abs hn.1] at this))]
theorem cS_RatAdd (V:Know) (c0:Bool) (c1 c2:SlV) (d0:Bool) (d1 d2:SlV) (n d m e:List Lim) (f g f' g':List Nat) (h1:LR rI V c1 n f) (h2:LR rI V c2 d g) (h3:LR rI V d1 m f') (h4:LR rI V d2 e g') (hr:RatOkP c0 n d) (hs:RatOkP d0 m e) :
  CallX Tryz.prog V 62 [qv5 (c0,c1,c2,()),qv5 (d0,d1,d2,())] (RatPost V (sval c0 n*valN e+sval d0 m*valN d) (valN d*valN e)):=by
 refine CallX.of_fits Tryz.mix (fS_RatAdd _ _) fun _=>?_
 simp only [tS_RatAdd,T.wp]
 have z1:=hr.2.2.2.1
 have z2:=hr.2.2.2.2.1
 have z3:=hs.2.2.2.1
 have z4:=hs.2.2.2.2.1
 have p1:=(can_pos hr.2.1.1).1 hr.2.2.1
 have p2:=(can_pos hs.2.1.1).1 hs.2.2.1
 refine(cS_RatOk V c0 c1 c2 n d f g h1 h2).mono ?_
 rintro V1 _ ⟨le1,b1,rfl,hb1⟩
 have hb1:=hb1.2 hr
 subst hb1
 refine⟨nofun,true,rfl,nofun,fun _=>(cS_RatOk V1 d0 d1 d2 m e f' g' (h3.le le1) (h4.le le1)).mono ?_⟩
 rintro V2 _ ⟨le2,b2,rfl,hb2⟩
 have hb2:=hb2.2 hs
 subst hb2
 have l2:=le1.trans le2
 refine⟨nofun,true,rfl,nofun,fun _=>(cS_l02Mul V2 c1 d2 n e f g' (h1.le l2) (h4.le l2) hr.1.1.1.1 hs.2.1.1.1 (by omega) (by omega)).mono ?_⟩
 rintro V3 _ ⟨le3,s3,o3,f3,rfl,L3,_,C3,v3⟩
 have n3:=mul_len (a:=n) (b:=e) hs.2.1.1 C3 hr.1.1.1.1 v3
 refine⟨fun _=>le3,s3,rfl,(cS_l04Make V3 c0 s3 o3 f3 L3 C3 (by omega)).mono ?_⟩
 rintro V4 _ ⟨le4,s4,f4,rfl,L4,_⟩
 have l4:=(l2.trans le3).trans le4
 refine⟨fun _=>le4,(c0 && decide (0<o3.length),s4,()),rfl,(cS_l02Mul V4 d1 c2 m d f' g (h3.le l4) (h2.le l4) hs.1.1.1.1 hr.2.1.1.1 (by omega) (by omega)).mono ?_⟩
 rintro V5 _ ⟨le5,s5,o5,f5,rfl,L5,_,C5,v5⟩
 have n5:=mul_len (a:=m) (b:=d) hr.2.1.1 C5 hs.1.1.1.1 v5
 have l5:=l4.trans le5
 refine⟨fun _=>le5,s5,rfl,(cS_l04Make V5 d0 s5 o5 f5 L5 C5 (by omega)).mono ?_⟩
 rintro V6 _ ⟨le6,s6,f6,rfl,L6,_⟩
 have l6:=l5.trans le6
 obtain⟨ok3,e3⟩:=made_ok (q:=c0) C3 (by omega)
 obtain⟨ok5,e5⟩:=made_ok (q:=d0) C5 (by omega)
 refine⟨fun _=>le6,(d0 && decide (0<o5.length),s6,()),rfl,(cS_l04Add V6 _ s4 _ s6 o3 o5 f4 f6 ((L4.le le5).le le6) L6 ok3.1.1 ok5.1.1 (by omega) (by omega)).mono ?_⟩
 rintro V7 _ ⟨le7,e7,s7,o7,f7,rfl,L7,_,ok7,v7,n7⟩
 have l7:=l6.trans le7
 refine⟨nofun,(e7,s7,()),rfl,(cS_l02Mul V7 c2 d2 d e g g' (h2.le l7) (h4.le l7) hr.2.1.1.1 hs.2.1.1.1 (by omega) (by omega)).mono ?_⟩
 rintro V8 _ ⟨le8,s8,o8,f8,rfl,L8,_,C8,v8⟩
 have n8:=mul_len (a:=d) (b:=e) hs.2.1.1 C8 hr.2.1.1.1 v8
 have l8:=l7.trans le8
 refine⟨fun _=>le8,s8,rfl,(cS_l05Low V8 e7 s7 s8 o7 o8 f7 f8 (L7.le le8) L8 ok7.1.1 C8 (by rw [v8]; exact Int.mul_pos p1 p2) (by omega) (by omega)).mono ?_⟩
 rintro V9 _ ⟨le9,c9,x9,e9,f9,rfl,R9,O9,hx⟩
 refine⟨fun _=>le9,(c9,e9,()),rfl,l8.trans le9,c9,x9,e9,f9,rfl,R9,O9.pre l8,?_⟩
 have q1:sval c0 o3=sval c0 n*valN e:=by
  unfold sval
  rw [v3]
  split
  ·rw [Int.neg_mul]
  ·rfl
 have q2:sval d0 o5=sval d0 m*valN d:=by
  unfold sval
  rw [v5]
  split
  ·rw [Int.neg_mul]
  ·rfl
 rw [v7,e3,e5,q1,q2,v8] at hx
 exact hx
end Go.Proofs.YtpdfdkccgkieoaaGreatDoor
