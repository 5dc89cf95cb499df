/-
  Lists that grow at their end, in known memory.
-/
import Derived.Test.YtceoihhldnnenaaGreatDoorPostM
import Derived.Test.YtceoihhldnnenaaGreatDoorEngD
import Derived.Test.YtceoihhldnnenaaGreatDoorChecked
import Derived.Conc.MuLone
import Derived.KernelRfl
import Derived.Test.YtceoihhldnnenaaGreatDoorMath
namespace Go.Proofs.YtceoihhldnnenaaGreatDoor
open Sx
set_option maxRecDepth 100000
theorem can_sum {a b o:List Lim} {k M:Nat} (hl:Lims o) (ho:o.length=k) (h1:a.length≤k) (h2:b.length≤k) (hM:M=a.length∨M=b.length) (hk:k≤M+1) (ht:k=M+1→limb o M≠0) (hv:valTo o k=valTo a k+valTo b k) (ca:Can a) (cb:Can b):Can o:=by
 refine⟨hl,?_⟩
 by_cases k0:k=0
 ·exact .inl (by omega)
 refine .inr ?_
 rw [ho]
 by_cases k1:k=M+1
 ·rw [k1]
  exact ht k1
 have kM:k=M:=by omega
 rw [valTo_ge h1,valTo_ge h2] at hv
 have a0:=valN_nonneg ca.1
 have b0:=valN_nonneg cb.1
 have hge:(1000000000:Int) ^ (k-1)≤valN a+valN b:=by
  rcases hM with e | e
  ·have:=can_ge ca (by omega)
   rw [show a.length=k by omega] at this
   omega
  ·have:=can_ge cb (by omega)
   rw [show b.length=k by omega] at this
   omega
 intro hz
 have hs:valTo o k=valTo o (k-1)+limb o (k-1)*1000000000 ^ (k-1):=by
  obtain⟨j,rfl⟩:∃ j,k=j+1:=⟨k-1,by omega⟩
  rfl
 rw [hz,Int.zero_mul] at hs
 have:=(valTo_bd hl (k-1)).2
 omega
theorem cS_l02Add (V:Know) (s s':SlV) (a b:List Lim) (f f':List Nat) (h:LR rI V s a f) (h':LR rI V s' b f') (ha:Lims a) (hb:Lims b) (la:a.length≤1000000) (lb:b.length≤1000000) :
  CallX Tryz.prog V 140 [Sc.val .l s,Sc.val .l s'] (fun V' r=>V.le V'∧∃ s'' o f'',r=Sc.val .l s''∧LR rI V' s'' o f''∧Own V V' f''∧Lims o∧valN o=valN a+valN b∧o.length≤Nat.max a.length b.length+1∧(Can a→Can b→Can o)):=by
 refine CallX.of_fits Tryz.mix (fS_l02Add _ _) fun _=>?_
 have hn:=h.1
 have hn':=h'.1
 have hB:(1000000000:Int)≠0:=by decide
 simp only [tS_l02Add,T.wp]
 obtain⟨M,hM⟩:∃ M,M=Nat.max a.length b.length:=⟨_,rfl⟩
 have hMa:a.length≤M:=by rw [hM]; exact Nat.le_max_left _ _
 have hMb:b.length≤M:=by rw [hM]; exact Nat.le_max_right _ _
 have hMc:M=a.length∨M=b.length:=by
  rcases Nat.le_total a.length b.length with k | k
  ·exact .inr (by rw [hM]; exact Nat.max_eq_right k)
  ·exact .inl (by rw [hM]; exact Nat.max_eq_left k)
 rw [← hM]
 refine⟨fun y V'=>V'=V∧∃ (k:Nat) (o:List Lim),y.2.2.1=(k:Int)∧k≤M+1∧0≤(y.2.1:Int)∧(y.2.1:Int)≤1∧y.1.1=k∧y.1.2=o.map cellI∧o.length=k∧Lims o∧(k=M+1→(y.2.1:Int)=0∧limb o M≠0)∧valTo o k+(y.2.1:Int)*1000000000 ^ k=valTo a k+valTo b k,
  fun y=>((M:Int)+1-(y.2.2.1:Int)).toNat,⟨((0,[]),(0:Int),(0:Int),()),rfl,rfl,0,[],rfl,by omega,(by omega:(0:Int)≤0),(by omega:(0:Int)≤1),rfl,rfl,rfl,lims_nil,fun k=>by omega,rfl⟩,?_⟩
 rintro⟨⟨n1,ys⟩,(c:Int),(i:Int),u⟩ V' ⟨rfl,k,o,hi,hk,hc0,hc1,hn1,hys,hol,hlo,hend,hv⟩
 replace hi:i=(k:Int):=hi
 replace hc0:0≤c:=hc0
 replace hc1:c≤1:=hc1
 replace hn1:n1=k:=hn1
 replace hys:ys=o.map cellI:=hys
 replace hend:k=M+1→c=0∧limb o M≠0:=hend
 replace hv:valTo o k+c*1000000000 ^ k=valTo a k+valTo b k:=hv
 subst hi hn1 hys
 have la1:=ha n1
 have lb1:=hb n1
 have next:n1≤M→(n1=M→0<c)→∀ t:Int,t=c+limb a n1+limb b n1→∃ N,([]++[fun vs V'_1=>∃ y':LShs [.a 3,.o (.o (.i .i64)),.o (.o (.i .i64))],vs=LShs.lvs _ y'∧(V'_1=V'∧∃ (k:Nat) (o:List Lim),y'.2.2.1=(k:Int)∧k≤M+1∧0≤(y'.2.1:Int)∧(y'.2.1:Int)≤1∧y'.1.1=k∧y'.1.2=o.map cellI∧o.length=k∧Lims o∧(k=M+1→(y'.2.1:Int)=0∧limb o M≠0)∧valTo o k+(y'.2.1:Int)*1000000000 ^ k=valTo a k+valTo b k)∧((M:Int)+1-(y'.2.2.1:Int)).toNat<((M:Int)+1-(n1:Int)).toNat]:List (List LV→Know→Prop))[0]?=some N ∧
   N [LV.a 3 (n1+1) (o.map cellI++[.int .i64 (t.tmod (1000000000:Int))]),.v (.int .i64 (IntKind.i64.wrap (t.tdiv (1000000000:Int)))),.v (.int .i64 (IntKind.i64.wrap ((n1:Int)+1)))] V':=by
  intro hkM hcM t ht
  have ht0:0≤t:=by omega
  have htm:t.tmod 1000000000=t % 1000000000:=Int.tmod_eq_emod_of_nonneg ht0
  have htd:t.tdiv 1000000000=t / 1000000000:=Int.tdiv_eq_ediv_of_nonneg ht0
  have hwd:IntKind.i64.wrap (t / 1000000000)=t / 1000000000:=wrap_i64 (by omega)
  have hwi:IntKind.i64.wrap ((n1:Int)+1)=((n1+1:Nat):Int):=by rw [wrap_i64 (by omega)]; omega
  rw [htm,htd,hwi,hwd]
  refine⟨_,rfl,((n1+1,(o++[(t % 1000000000,())]).map cellI),t / 1000000000,((n1+1:Nat):Int),()),?_,⟨rfl,n1+1,o++[(t % 1000000000,())],rfl,by omega,(by omega:(0:Int)≤t / 1000000000),(by omega:t / 1000000000≤1),rfl,rfl,by simp [hol],lims_snoc hlo ⟨(by omega:(0:Int)≤t % 1000000000),(by omega:t % 1000000000<1000000000)⟩,fun e=>?_,?_⟩,?_⟩
  ·simp [LShs.lvs,LSh.lv,Sh1.val,Sc.val,cellI]
  ·have e1:=limb_ge (l:=a) (i:=n1) (by omega)
   have e2:=limb_ge (l:=b) (i:=n1) (by omega)
   have e3:n1=M:=by omega
   have e4:=hcM e3
   refine⟨(by omega:t / 1000000000=0),?_⟩
   have e5:limb (o++[(t % 1000000000,())]) M=t % 1000000000:=by
    rw [show M=o.length by omega,limb_snoc]
   show limb (o++[(t % 1000000000,())]) M≠0
   rw [e5]
   omega
  ·have:=add_step (d:=t % 1000000000) (e:=t / 1000000000) hol hv (by omega)
   exact this
  ·show((M:Int)+1-((n1+1:Nat):Int)).toNat<_
   omega
 have room:n1≤M→∀ v:Int,one [Value.int .i64 v]=true∧(n1+1)*8≤140737488355328∧n1+1≤9223372036854775807:=fun hkM v=>⟨rfl,by omega,by omega⟩
 have e1:IntKind.i64.wrap (c+limb a n1)=c+limb a n1:=wrap_i64 (by omega)
 have e2:IntKind.i64.wrap (c+limb b n1)=c+limb b n1:=wrap_i64 (by omega)
 have e3:IntKind.i64.wrap (c+limb a n1+limb b n1)=c+limb a n1+limb b n1:=wrap_i64 (by omega)
 have ga:(decide ((n1:Int)<(s.n:Int))=true)→∃ b1 o1,s.a=some ⟨b1,o1,none⟩∧loadV V' ((⟨b1,o1,none⟩:Addr).add (n1*1)) 1=some [.int .i64 (limb a n1)]∧n1<a.length:=by
  intro hh
  have hka:n1<a.length:=by
   have:(n1:Int)<(s.n:Int):=of_decide_eq_true hh
   omega
  obtain⟨b1,o1,a1,l1⟩:=h.int hka
  rw [← limb_lt hka] at l1
  exact⟨b1,o1,a1,l1,hka⟩
 have gb:(decide ((n1:Int)<(s'.n:Int))=true)→∃ b1 o1,s'.a=some ⟨b1,o1,none⟩∧loadV V' ((⟨b1,o1,none⟩:Addr).add (n1*1)) 1=some [.int .i64 (limb b n1)]∧n1<b.length:=by
  intro hh
  have hka:n1<b.length:=by
   have:(n1:Int)<(s'.n:Int):=of_decide_eq_true hh
   omega
  obtain⟨b1,o1,a1,l1⟩:=h'.int hka
  rw [← limb_lt hka] at l1
  exact⟨b1,o1,a1,l1,hka⟩
 have na:(decide ((n1:Int)<(s.n:Int))=false)→limb a n1=0:=fun hh=>by
  have:¬ (n1:Int)<(s.n:Int):=of_decide_eq_false hh
  exact limb_ge (by omega)
 have nb:(decide ((n1:Int)<(s'.n:Int))=false)→limb b n1=0:=fun hh=>by
  have:¬ (n1:Int)<(s'.n:Int):=of_decide_eq_false hh
  exact limb_ge (by omega)
 have z0:(0:Int)≤(n1:Int):=by omega
 refine⟨fun h1=>?_,fun h1=>⟨fun h2=>?_,fun h2=>⟨fun h3=>?_,fun h3=>?_⟩⟩⟩
 rotate_left 3
 ·have q1:¬ (n1:Int)<(s.n:Int):=of_decide_eq_false h1
  have q2:¬ (n1:Int)<(s'.n:Int):=of_decide_eq_false h2
  have q3:¬ c > 0:=of_decide_eq_false h3
  have q4:c=0:=by omega
  subst q4
  intro bk cap spare hbk hcap _
  have hcap':n1≤cap:=hcap
  have hk:=newI (V:=V') (b:=bk) (cap:=cap) (o:=o) (spare:=spare) (t:=3) hbk (by omega) (by omega)
  refine⟨kset_le hbk,⟨some ⟨bk,0,none⟩,n1,cap⟩,o,[bk],rfl,by rw [← hol]; exact hk.1,hk.2,hlo,?_,by omega,fun ca cb=>can_sum hlo hol (by omega) (by omega) hMc (by omega) (fun e=>(hend e).2) ?_ ca cb⟩
  rotate_left
  ·rw [Int.zero_mul,Int.add_zero] at hv
   exact hv
  rw [valTo_ge (show a.length≤n1 by omega),valTo_ge (show b.length≤n1 by omega)] at hv
  rw [valN,hol]
  simpa using hv
 ·have hkM:n1≤M:=by
   obtain⟨_,_,_,_,k⟩:=ga h1
   omega
  have hcM':n1=M→0<c:=fun e=>by
   obtain⟨_,_,_,_,k⟩:=ga h1
   omega
  refine⟨fun hxa=>?_,fun hxa=>⟨fun hxb=>?_,fun hxb=>?_⟩⟩
  ·obtain⟨b1,o1,a1,l1,hka⟩:=ga hxa
   refine⟨_,a1,z0,(by omega:(n1:Int)<(s.n:Int)),limb a n1,l1,fun hxb=>?_,fun hxb=>?_⟩
   ·obtain⟨b2,o2,a2,l2,hkb⟩:=gb hxb
    refine⟨_,a2,z0,(by omega:(n1:Int)<(s'.n:Int)),limb b n1,l2,hB,rfl,room hkM _,hB,?_⟩
    have:=next hkM hcM' _ rfl
    rw [← e3,← e1] at this
    exact this
   ·refine⟨hB,rfl,room hkM _,hB,?_⟩
    have:=next hkM hcM' (c+limb a n1) (by rw [nb hxb]; omega)
    rw [← e1] at this
    exact this
  ·obtain⟨b2,o2,a2,l2,hkb⟩:=gb hxb
   refine⟨_,a2,z0,(by omega:(n1:Int)<(s'.n:Int)),limb b n1,l2,hB,rfl,room hkM _,hB,?_⟩
   have:=next hkM hcM' (c+limb b n1) (by rw [na hxa]; omega)
   rw [← e2] at this
   exact this
  ·refine⟨hB,rfl,room hkM _,hB,?_⟩
   exact next hkM hcM' c (by rw [na hxa,nb hxb]; omega)
 ·have hkM:n1≤M:=by
   obtain⟨_,_,_,_,k⟩:=gb h2
   omega
  have hcM':n1=M→0<c:=fun e=>by
   obtain⟨_,_,_,_,k⟩:=gb h2
   omega
  refine⟨fun hxa=>?_,fun hxa=>⟨fun hxb=>?_,fun hxb=>?_⟩⟩
  ·obtain⟨b1,o1,a1,l1,hka⟩:=ga hxa
   refine⟨_,a1,z0,(by omega:(n1:Int)<(s.n:Int)),limb a n1,l1,fun hxb=>?_,fun hxb=>?_⟩
   ·obtain⟨b2,o2,a2,l2,hkb⟩:=gb hxb
    refine⟨_,a2,z0,(by omega:(n1:Int)<(s'.n:Int)),limb b n1,l2,hB,rfl,room hkM _,hB,?_⟩
    have:=next hkM hcM' _ rfl
    rw [← e3,← e1] at this
    exact this
   ·refine⟨hB,rfl,room hkM _,hB,?_⟩
    have:=next hkM hcM' (c+limb a n1) (by rw [nb hxb]; omega)
    rw [← e1] at this
    exact this
  ·obtain⟨b2,o2,a2,l2,hkb⟩:=gb hxb
   refine⟨_,a2,z0,(by omega:(n1:Int)<(s'.n:Int)),limb b n1,l2,hB,rfl,room hkM _,hB,?_⟩
   have:=next hkM hcM' (c+limb b n1) (by rw [na hxa]; omega)
   rw [← e2] at this
   exact this
  ·refine⟨hB,rfl,room hkM _,hB,?_⟩
   exact next hkM hcM' c (by rw [na hxa,nb hxb]; omega)
 ·have hkM:n1≤M:=by
   have hc2:c > 0:=of_decide_eq_true h3
   by_cases e:n1=M+1
   ·have:=(hend e).1
    omega
   ·omega
  have hcM':n1=M→0<c:=fun _=>by
   have hc2:c > 0:=of_decide_eq_true h3
   omega
  refine⟨fun hxa=>?_,fun hxa=>⟨fun hxb=>?_,fun hxb=>?_⟩⟩
  ·obtain⟨b1,o1,a1,l1,hka⟩:=ga hxa
   refine⟨_,a1,z0,(by omega:(n1:Int)<(s.n:Int)),limb a n1,l1,fun hxb=>?_,fun hxb=>?_⟩
   ·obtain⟨b2,o2,a2,l2,hkb⟩:=gb hxb
    refine⟨_,a2,z0,(by omega:(n1:Int)<(s'.n:Int)),limb b n1,l2,hB,rfl,room hkM _,hB,?_⟩
    have:=next hkM hcM' _ rfl
    rw [← e3,← e1] at this
    exact this
   ·refine⟨hB,rfl,room hkM _,hB,?_⟩
    have:=next hkM hcM' (c+limb a n1) (by rw [nb hxb]; omega)
    rw [← e1] at this
    exact this
  ·obtain⟨b2,o2,a2,l2,hkb⟩:=gb hxb
   refine⟨_,a2,z0,(by omega:(n1:Int)<(s'.n:Int)),limb b n1,l2,hB,rfl,room hkM _,hB,?_⟩
   have:=next hkM hcM' (c+limb b n1) (by rw [na hxa]; omega)
   rw [← e2] at this
   exact this
  ·refine⟨hB,rfl,room hkM _,hB,?_⟩
   exact next hkM hcM' c (by rw [na hxa,nb hxb]; omega)
theorem cS_l04MakeL (V:Know) (c0:Bool) (s:SlV) (l:List Lim) (f:List Nat) (h:LR rI V s l f) (hc:Lims l) (hl:l.length≤50) :
  CallX Tryz.prog V 135 [.bool c0,Sc.val .l s] (fun V' r=>V.le V'∧∃ e s' o f',r=qv0 (e,s',())∧LR rI V' s' o f'∧Own V V' f'∧IntOkP e o∧sval e o=sval c0 l∧o.length≤l.length):=by
 refine CallX.of_fits Tryz.mix (fS_l04Make _ _) fun _=>?_
 simp only [tS_l04Make,T.wp]
 refine(cS_l02Cap V s l f h hl).mono ?_
 rintro V1 r ⟨rfl,s1,rfl,hL⟩
 obtain⟨tc,tv⟩:=trim_can hc
 obtain⟨o,ho⟩:∃ o,o=trimL l:=⟨_,rfl⟩
 have hol:o.length≤l.length:=by rw [ho]; unfold trimL; rw [List.length_take]; exact Nat.min_le_right _ _
 rw [← ho] at hL tc tv
 obtain⟨r1,r2⟩:=hL.rdI
 have hn:=hL.1
 obtain⟨ok,ev⟩:=made_ok (q:=c0) tc (by omega)
 have ev2:sval (c0 && decide (0<o.length)) o=sval c0 l:=by
  rw [ev]
  unfold sval
  rw [tv]
 have fin:∀ (q:Bool),q=(c0 && decide (0<o.length))→∀ b cap spare,V1 b=none→0+s1.n≤cap→V1.le (kset V1 b (([]++o.map cellI)++spare,(3,(0,0))))∧∃ e s' o' f',packed [qv0 (q,(⟨some ⟨b,0,none⟩,0+s1.n,cap⟩:SlV),())]=qv0 (e,s',())∧LR rI (kset V1 b (([]++o.map cellI)++spare,(3,(0,0)))) s' o' f'∧Own V1 (kset V1 b (([]++o.map cellI)++spare,(3,(0,0)))) f'∧IntOkP e o'∧sval e o'=sval c0 l∧o'.length≤l.length:=by
  intro q hq b cap spare hb hcap
  have k:=newI (V:=V1) (b:=b) (cap:=cap) (o:=o) (spare:=spare) (t:=3) hb (by omega) (by omega)
  refine⟨kset_le hb,q,⟨some ⟨b,0,none⟩,0+s1.n,cap⟩,o,[b],rfl,?_,k.2,by rw [hq]; exact ok,by rw [hq]; exact ev2,hol⟩
  rw [Nat.zero_add,hn]
  exact k.1
 refine⟨nofun,s1,rfl,fun hneg=>⟨o.map cellI,r1,r2,⟨r2,(by omega:(0+s1.n)*8≤140737488355328),(by omega:0+s1.n≤9223372036854775807)⟩,fun b cap spare hb hcap _=>fin _ ?_ b cap spare hb hcap⟩,fun hpos=>⟨o.map cellI,r1,r2,⟨r2,(by omega:(0+s1.n)*8≤140737488355328),(by omega:0+s1.n≤9223372036854775807)⟩,fun b cap spare hb hcap _=>fin _ ?_ b cap spare hb hcap⟩⟩
 ·have:c0=true:=hneg
  subst this
  show decide ((s1.n:Int) > 0)=(true && decide (0<o.length))
  rw [Bool.true_and]
  exact decide_eq_decide.2 (by omega)
 ·have:c0=false:=hpos
  subst this
  rfl
abbrev IntPost (V:Know) (z:Int) (m:Nat):Know→Value→Prop:=fun V' r=>V.le V'∧∃ e s o f,r=qv0 (e,s,())∧LR rI V' s o f∧Own V V' f∧IntOkP e o∧sval e o=z∧o.length≤m
theorem cS_l04Add (V:Know) (c0:Bool) (c1:SlV) (d0:Bool) (d1:SlV) (a b:List Lim) (f g:List Nat) (h:LR rI V c1 a f) (h':LR rI V d1 b g) (ha:Can a) (hb:Can b) (la:a.length≤49) (lb:b.length≤49) :
  CallX Tryz.prog V 91 [qv0 (c0,c1,()),qv0 (d0,d1,())] (IntPost V (sval c0 a+sval d0 b) 50):=by
 refine CallX.of_fits Tryz.mix (fS_l04Add _ _) fun _=>?_
 simp only [tS_l04Add,T.wp]
 have fin:∀ (q:Bool) {V1:Know} {s1:SlV} {o1:List Lim} {f1:List Nat} (z:Int),V.le V1→LR rI V1 s1 o1 f1→Lims o1→o1.length≤50→sval q o1=z→CallX Tryz.prog V1 135 [.bool q,Sc.val .l s1] (fun V' r=>(false=true→V1.le V')∧∃ y,r=(Sh.v (.g [.b,.l])).val y∧IntPost V z 50 V' (packed [qv0 y])):=by
  intro q V1 s1 o1 f1 z hle hL hl hlen hz
  refine(cS_l04MakeL V1 q s1 o1 f1 hL hl hlen).mono ?_
  rintro V2 r ⟨le2,e,s2,o2,f2,rfl,L2,O2,ok,ev,ln⟩
  exact⟨fun _=>le2,(e,s2,()),rfl,hle.trans le2,e,s2,o2,f2,rfl,L2,O2.pre hle,ok,ev.trans hz,by omega⟩
 refine⟨fun heq=>?_,fun hne=>?_⟩
 ·have hcd:c0=d0:=by simpa using heq
  subst hcd
  refine(cS_l02Add V c1 d1 a b f g h h' ha.1 hb.1 (by omega) (by omega)).mono ?_
  rintro V1 r ⟨hle,s,o,f'',rfl,hL,_,hl,hv,hlen,_⟩
  have hM:Nat.max a.length b.length≤49:=Nat.max_le.2 ⟨la,lb⟩
  refine⟨fun _=>hle,s,rfl,fin c0 _ hle hL hl (by omega) ?_⟩
  unfold sval
  cases c0 <;> simp <;> omega
 ·have hcd:c0=!d0:=by cases c0 <;> cases d0 <;> simp_all
  refine(cS_l02Cmp V c1 d1 a b f g h h').mono ?_
  rintro V0 r ⟨rfl,rfl⟩
  have hcmp:=cmpL_val ha hb
  refine⟨nofun,_,rfl,fun hge=>?_,fun hlt=>?_⟩
  ·have hge':cmpL a b≥0:=of_decide_eq_true hge
   have hv0:valN b≤valN a:=by rcases hcmp with ⟨c,k⟩ | ⟨c,k⟩ | ⟨c,k⟩ <;> omega
   refine(cS_l02Sub V0 c1 d1 a b f g h h' ha.1 hb.1 (by omega) (can_len ha hb hv0) hv0).mono ?_
   rintro V1 r ⟨hle,s,o,f'',rfl,hL,_,hc,hv⟩
   have hb0:=valN_nonneg hb.1
   have hlen:=can_len ha hc (by omega)
   refine⟨fun _=>hle,s,rfl,fin c0 _ hle hL hc.1 (by omega) ?_⟩
   unfold sval
   subst hcd
   cases d0 <;> simp <;> omega
  ·have hlt':¬ cmpL a b≥0:=of_decide_eq_false hlt
   have hv0:valN a≤valN b:=by rcases hcmp with ⟨c,k⟩ | ⟨c,k⟩ | ⟨c,k⟩ <;> omega
   refine(cS_l02Sub V0 d1 c1 b a g f h' h hb.1 ha.1 (by omega) (can_len hb ha hv0) hv0).mono ?_
   rintro V1 r ⟨hle,s,o,f'',rfl,hL,_,hc,hv⟩
   have ha0:=valN_nonneg ha.1
   have hlen:=can_len hb hc (by omega)
   refine⟨fun _=>hle,s,rfl,fin d0 _ hle hL hc.1 (by omega) ?_⟩
   unfold sval
   subst hcd
   cases d0 <;> simp <;> omega
theorem cS_IntAdd (V:Know) (c0:Bool) (c1:SlV) (d0:Bool) (d1:SlV) (a b:List Lim) (f g:List Nat) (h:LR rI V c1 a f) (h':LR rI V d1 b g) (ha:IntOkP c0 a) (hb:IntOkP d0 b) (la:a.length≤49) (lb:b.length≤49) :
  CallX Tryz.prog V 172 [qv0 (c0,c1,()),qv0 (d0,d1,())] (IntPost V (sval c0 a+sval d0 b) 50):=by
 refine CallX.of_fits Tryz.mix (fS_IntAdd _ _) fun _=>?_
 simp only [tS_IntAdd,T.wp]
 refine(cS_IntOk V c0 c1 a f h).mono ?_
 rintro V1 r ⟨rfl,e,rfl,he⟩
 have he:=he.2 ha
 subst he
 refine⟨nofun,true,rfl,nofun,fun _=>(cS_IntOk V1 d0 d1 b g h').mono ?_⟩
 rintro V2 r ⟨rfl,e,rfl,he⟩
 have he:=he.2 hb
 subst he
 refine⟨nofun,true,rfl,nofun,fun _=>(cS_l04Add V2 c0 c1 d0 d1 a b f g h h' ha.1.1 hb.1.1 la lb).mono ?_⟩
 rintro V3 r ⟨le3,e,s,o,f3,rfl,k⟩
 exact⟨nofun,(e,s,()),rfl,le3,e,s,o,f3,rfl,k⟩
theorem rS_IntNeg (V:Know) (c0:Bool) (c1:SlV) (l:List Lim) (f:List Nat) (h:LR rI V c1 l f) (ok:IntOkP c0 l) :
  CallX Tryz.prog V 92 [qv0 (c0,c1,())] (fun V' r=>V.le V'∧∃ s f',r=qv0 (!c0 && decide (0<l.length),s,())∧LR rI V' s l f'∧Own V V' f'):=by
 refine CallX.of_fits Tryz.mix (fS_IntNeg _) fun _=>?_
 simp only [tS_IntNeg,T.wp]
 refine(cS_IntOk V c0 c1 l f h).mono ?_
 rintro V1 r ⟨rfl,e,rfl,he⟩
 obtain rfl:e=true:=he.2 ok
 refine⟨nofun,true,rfl,nofun,fun _=>(cS_l04Make V1 (!c0) c1 l f h ok.1.1 ok.1.2).mono ?_⟩
 rintro V2 _ ⟨le2,s2,f2,rfl,L2,O2⟩
 exact⟨nofun,_,rfl,le2,s2,f2,rfl,L2,O2⟩
end Go.Proofs.YtceoihhldnnenaaGreatDoor
namespace Go.Proofs.YtceoihhldnnenaaGreatDoor
open Sx
set_option maxRecDepth 100000
abbrev muL:Go.Conc.Locks.MuLink:={ lock:=328,unlock:=329,ilock:=330,iunlock:=331,lockSlow:=336,unlockSlow:=339,disable:=332,enable:=334,acquire:=335,relMerge:=337,cas32:=333,add32:=338,tIMutex:=326,tMutex:=328,tPMutex:=333,tPIMutex:=334,tPI32:=336,tUP:=338,tNoCopy:=324,tU32:=267 }
theorem muLib:Go.Conc.Locks.MuLib Tryz.prog muL :=
 ⟨Tryz.func328,Tryz.func329,Tryz.func330,Tryz.func331,Tryz.func332,Tryz.func334,Tryz.func335,Tryz.func337,Tryz.func333,Tryz.func338,
  by kernel_rfl,fun w=>prun_run (by kernel_rfl) w,fun w=>prun_run (by kernel_rfl) w,fun w=>prun_run (by kernel_rfl) w,fun w=>prun_run (by kernel_rfl) w,
  by kernel_rfl,fun w=>prun_run (by kernel_rfl) w,fun w=>prun_run (by kernel_rfl) w,fun w=>prun_run (by kernel_rfl) w,fun w=>prun_run (by kernel_rfl) w,
  by kernel_rfl,fun w=>prun_run (by kernel_rfl) w,fun w=>prun_run (by kernel_rfl) w,fun w=>prun_run (by kernel_rfl) w,fun w=>prun_run (by kernel_rfl) w,
  by kernel_rfl,fun w=>prun_run (by kernel_rfl) w,fun w=>prun_run (by kernel_rfl) w,fun w=>prun_run (by kernel_rfl) w,fun w=>prun_run (by kernel_rfl) w,
  by kernel_rfl,fun w=>prun_run (by kernel_rfl) w,fun w=>prun_run (by kernel_rfl) w,fun w=>prun_run (by kernel_rfl) w,fun w=>prun_run (by kernel_rfl) w,
  by kernel_rfl,fun w=>prun_run (by kernel_rfl) w,fun w=>prun_run (by kernel_rfl) w,fun w=>prun_run (by kernel_rfl) w,fun w=>prun_run (by kernel_rfl) w,
  by kernel_rfl,fun w=>prun_run (by kernel_rfl) w,fun w=>prun_run (by kernel_rfl) w,fun w=>prun_run (by kernel_rfl) w,fun w=>prun_run (by kernel_rfl) w,
  by kernel_rfl,fun w=>prun_run (by kernel_rfl) w,fun w=>prun_run (by kernel_rfl) w,fun w=>prun_run (by kernel_rfl) w,fun w=>prun_run (by kernel_rfl) w,
  by kernel_rfl⟩
end Go.Proofs.YtceoihhldnnenaaGreatDoor
namespace Go.Proofs.YtceoihhldnnenaaGreatDoor
open Sx
def apD (s:SlV) (sz bytes:Nat) (ys:List Value) (m:Nat) (t:TypeId) (k:SlV→T):T:=.ap s sz bytes ys m t k
theorem ap_d (s:SlV) (sz bytes:Nat) (ys:List Value) (m:Nat) (t:TypeId) (k:SlV→T):T.ap s sz bytes ys m t k=apD s sz bytes ys m t k:=rfl
section
variable {sh:List Sc} {α:Type}
def GR (r:Rp sh α) (t:TypeId) (V:Know) (s:SlV) (l:List α) (f:List Nat):Prop :=
 s.n=l.length∧s.n≤s.c∧((s.a=none∧s.c=0∧l=[]∧f=[]) ∨
  ∃ b fps cs post,s.a=some ⟨b,0,none⟩∧V b=some (cs.flatMap (Scs.vals sh)++post,(t,(0,0)))∧post.length=(s.c-s.n)*sh.length∧Els r V cs l fps∧f=b :: fps)
theorem GR.nil {r:Rp sh α} {t:TypeId} {V:Know}:GR r t V ⟨none,0,0⟩ [] []:=⟨rfl,Nat.le_refl _,.inl ⟨rfl,rfl,rfl,rfl⟩⟩
theorem GR.lr {r:Rp sh α} {t:TypeId} {V:Know} {s:SlV} {l:List α} {f:List Nat} (h:GR r t V s l f) (hn:l.length≤9223372036854775807):LR r V s l f:=by
 obtain⟨h1,h2,h3⟩:=h
 refine⟨h1,h2,by omega,?_⟩
 rcases h3 with ⟨ha,hc,rfl,rfl⟩ | ⟨b,fps,cs,post,ha,hb,hp,he,rfl⟩
 ·exact .inl ⟨h1,fun _=>hc,rfl⟩
 ·exact .inr ⟨b,[],post,_,fps,cs,ha,hb,he,rfl⟩
theorem GR.loc {r:Rp sh α} {t:TypeId} {V V':Know} {s:SlV} {l:List α} {f:List Nat} (h:GR r t V s l f) (hb:∀ b∈f,V' b=V b):GR r t V' s l f:=by
 obtain⟨h1,h2,h3⟩:=h
 refine⟨h1,h2,?_⟩
 rcases h3 with h3 | ⟨b,fps,cs,post,ha,hv,hp,he,rfl⟩
 ·exact .inl h3
 ·exact .inr ⟨b,fps,cs,post,ha,by rw [hb b (by simp),hv],hp,he.loc fun x hx=>hb x (by simp [hx]),rfl⟩
theorem GR.le {r:Rp sh α} {t:TypeId} {V V':Know} {s:SlV} {l:List α} {f:List Nat} (h:GR r t V s l f) (hle:V.le V'):GR r t V' s l f:=by
 obtain⟨h1,h2,h3⟩:=h
 refine⟨h1,h2,?_⟩
 rcases h3 with h3 | ⟨b,fps,cs,post,ha,hb,hp,he,rfl⟩
 ·exact .inl h3
 ·exact .inr ⟨b,fps,cs,post,ha,hle _ _ hb,hp,he.le hle,rfl⟩
theorem ap_row {P:Program} {r:Rp sh α} {t:TypeId} {V0 V Vd:Know} {s:SlV} {l:List α} {f fx:List Nat} {c:Scs sh} {x:α} {bytes:Nat} {k:SlV→T} {K:Know→List Value→Prop} {Ns:List (List LV→Know→Prop)}
  (h:GR r t V s l f) (hx:r.R V c x fx) (hO:Own V0 V (f++fx)) (hle:V0.le V) (hP:P.cellsOf t=sh.length)
  (hb:(l.length+1)*bytes≤140737488355328) (hl:l.length+1≤9223372036854775807)
  (hk:∀ s' V' f',GR r t V' s' (l++[x]) f'→Own V0 V' f'→V0.le V'→(k s').wp P K V' Vd Ns) :
  (T.ap s sh.length bytes (Scs.vals sh c) 1 t k).wp P K V Vd Ns:=by
 obtain⟨h1,h2,h3⟩:=h
 simp only [T.wp]
 refine⟨h2,fun ha=>?_,fun h=>absurd h (by decide),fun _ hroom=>?_,fun _ hroom=>⟨by rw [h1]; exact hb,by rw [h1]; exact hl,?_⟩⟩
 ·rcases h3 with ⟨_,hc,_⟩ | ⟨b,fps,cs,post,ha',_⟩
  ·exact hc
  ·rw [ha] at ha'; cases ha'
 ·rcases h3 with ⟨_,hc,_⟩ | ⟨b,fps,cs,post,ha,hbk,hp,he,rfl⟩
  ·omega
  have hcl:cs.length=l.length:=he.len
  have hfl:(cs.flatMap (Scs.vals sh)).length=s.n*sh.length:=by rw [flat_len,hcl,h1]
  have hpl:sh.length≤post.length:=by
   rw [hp]; exact Nat.le_mul_of_pos_left _ (by omega)
  have hset:setl (cs.flatMap (Scs.vals sh)++post) (s.n*sh.length) (Scs.vals sh c)=(cs++[c]).flatMap (Scs.vals sh)++post.drop sh.length:=by
   rw [setl_mid hfl.symm (by rw [vals_len]; exact hpl),vals_len]
   simp
  have hnd:b ∉ fps∧b ∉ fx:=by
   have:=hO.1
   simp only [List.cons_append,List.nodup_cons,List.mem_append,not_or] at this
   exact this.1
  have hoff:∀ (y:List Value × KTy) (g:List Nat),b ∉ g→∀ b'∈g,kset V b y b'=V b':=fun y g hg b' hb'=>by
   simp only [kset]; rw [if_neg (fun e:b'=b=>hg (by rw [← e]; exact hb'))]
  refine⟨b,_,ha,hbk,?_,?_⟩
  ·rw [List.length_append,hfl,hp,← Nat.add_mul]
   exact Nat.mul_le_mul_right _ (by omega)
  ·rw [hset]
   refine hk _ _ (b :: (fps++fx)) ⟨by simp [h1],by show s.n+1≤s.c; omega,.inr ⟨b,fps++fx,cs++[c],post.drop sh.length,ha,kset_same,?_,?_,rfl⟩⟩ ⟨by simpa using hO.1,by simpa using hO.2.1,?_⟩ ?_
   ·rw [List.length_drop,hp,← Nat.sub_one_mul]
    congr 1
   ·exact(he.loc (hoff _ _ hnd.1)).snoc (r.loc hx (hoff _ _ hnd.2))
   ·intro b' hb'
    rcases List.mem_cons.1 hb' with rfl | hb'
    ·exact⟨_,_,kset_same⟩
    ·have hne:b'≠b:=fun e=>by
      rw [e] at hb'
      rcases List.mem_append.1 hb' with h | h
      ·exact hnd.1 h
      ·exact hnd.2 h
     obtain⟨u,v,huv⟩:=hO.2.2 b' (by simp only [List.cons_append,List.mem_cons]; exact .inr hb')
     exact⟨u,v,by simp only [kset]; rw [if_neg hne]; exact huv⟩
   ·intro b' y hy
    have hne:b'≠b:=fun e=>by
     subst e
     have:=hO.2.1 b' (by simp)
     rw [this] at hy; cases hy
    simp only [kset]; rw [if_neg hne]; exact hle b' y hy
 ·have hgo:∀ (cs:List (Scs sh)) (fps:List Nat),Els r V cs l fps→(∀ b∈fps,b∈f)→fps.Nodup→(∀ b∈fps,b ∉ fx) →
    ∀ b cap spare,V b=none→s.n+1≤cap→spare.length=(cap-(s.n+1))*P.cellsOf t →
    (k ⟨some ⟨b,0,none⟩,s.n+1,cap⟩).wp P K (kset V b ((cs.flatMap (Scs.vals sh)++Scs.vals sh c)++spare,(t,(0,0)))) Vd Ns:=by
   intro cs fps he hsub hnd hdis b cap spare hbn hcap hsp
   have hV:=kset_le (x:=((cs.flatMap (Scs.vals sh)++Scs.vals sh c)++spare,(t,(0,0)))) hbn
   have hin:∀ b'∈fps++fx,b'∈f++fx:=fun b' hb'=>by
    rcases List.mem_append.1 hb' with h | h
    ·exact List.mem_append.2 (.inl (hsub b' h))
    ·exact List.mem_append.2 (.inr h)
   have hn:b ∉ fps++fx:=fun hm=>by
    obtain⟨u,v,huv⟩:=hO.2.2 b (hin b hm)
    rw [hbn] at huv; cases huv
   refine hk _ _ (b :: (fps++fx)) ⟨by simp [h1],hcap,.inr ⟨b,fps++fx,cs++[c],spare,rfl,?_,by rw [hsp,hP],(he.le hV).snoc (r.le hx hV),rfl⟩⟩ ⟨List.nodup_cons.2 ⟨hn,?_⟩,fun b' hb'=>?_,fun b' hb'=>?_⟩ (hle.trans hV)
   ·rw [kset_same]; simp
   ·have:=List.nodup_append.1 hO.1
    exact List.nodup_append.2 ⟨hnd,this.2.1,fun a ha b hb e=>hdis a ha (e ▸ hb)⟩
   ·rcases List.mem_cons.1 hb' with rfl | hb'
    ·exact none_of_le hle hbn
    ·exact hO.2.1 b' (hin b' hb')
   ·rcases List.mem_cons.1 hb' with rfl | hb'
    ·exact⟨_,_,kset_same⟩
    ·obtain⟨u,v,huv⟩:=hO.2.2 b' (hin b' hb')
     exact⟨u,v,hV _ _ huv⟩
  rcases h3 with ⟨ha,hc,rfl,rfl⟩ | ⟨b,fps,cs,post,ha,hbk,hp,he,rfl⟩
  ·exact⟨[],.inl ⟨ha,h1,hc,rfl⟩,rfl,fun b cap spare hb hcap hsp=>by
    have:=hgo [] [] rfl (fun _ h=>by cases h) List.nodup_nil (fun _ h=>by cases h) b cap spare hb hcap hsp
    simpa using this⟩
  ·have hcl:cs.length=l.length:=he.len
   have hfl:(cs.flatMap (Scs.vals sh)).length=s.n*sh.length:=by rw [flat_len,hcl,h1]
   have hnt:∀ cs:List (Scs sh),noTup (cs.flatMap (Scs.vals sh))=true:=fun cs=>by
    induction cs with
    | nil=>rfl
    | cons c cs ih =>
     have hv:=vals_noTup sh c
     unfold noTup at ih hv ⊢
     rw [List.flatMap_cons,List.all_append,hv,ih]; rfl
   refine⟨_,.inr ⟨⟨b,0,none⟩,ha,?_⟩,hnt cs,hgo cs fps he (fun b' hb'=>by simp [hb']) ?_ ?_⟩
   ·simp only [loadV,hbk]
    rw [← hfl]; exact cutv_head
   ·have:=List.nodup_append.1 hO.1
    exact(List.nodup_cons.1 this.1).2
   ·have:=List.nodup_append.1 hO.1
    exact fun b' hb' hx'=>this.2.2 b' (by simp [hb']) b' hx' rfl
def CopyI (e:Rp sh α) (t:TypeId) (V0:Know) (l:List α) (i:Int) (s:SlV) (V:Know):Prop :=
 V0.le V∧∃ (k:Nat) (f:List Nat),i=(k:Int)∧k≤l.length∧GR e t V s (l.take k) f∧Own V0 V f
theorem CopyI.start {e:Rp sh α} {t:TypeId} {V:Know} {l:List α}:CopyI e t V l 0 ⟨none,0,0⟩ V:=⟨Know.le.refl _,0,[],rfl,Nat.zero_le _,by simpa using GR.nil,Own.nil⟩
theorem CopyI.start_made {e:Rp sh α} {t:TypeId} {V0 V:Know} {l:List α} {b cap:Nat} {spare:List Value} (hle:V0.le V) (hb:V b=none) (hs:spare.length=cap*sh.length) :
  CopyI e t V0 l 0 ⟨some ⟨b,0,none⟩,0,cap⟩ (kset V b ([]++spare,(t,(0,0)))):=by
 have hV:=kset_le (x:=([]++spare,(t,(0,0)))) hb
 refine⟨hle.trans hV,0,[b],rfl,Nat.zero_le _,⟨by simp,Nat.zero_le _,.inr ⟨b,[],[],spare,rfl,by rw [kset_same]; simp,by simpa using hs,by simp [Els],rfl⟩⟩,⟨by simp,fun b' hb'=>?_,fun b' hb'=>?_⟩⟩
 ·obtain rfl:b'=b:=by simpa using hb'
  exact none_of_le hle hb
 ·obtain rfl:b'=b:=by simpa using hb'
  exact⟨_,_,kset_same⟩
theorem copy_end {P:Program} {e:Rp sh α} {t:TypeId} {V0 V V2 Vd:Know} {l:List α} {k:Nat} {s:SlV} {c:Scs sh} {fx:List Nat} {bytes:Nat} {kk:SlV→T} {K:Know→List Value→Prop} {Ns:List (List LV→Know→Prop)}
  (h:CopyI e t V0 l (k:Int) s V) (hk:k<l.length) (hle2:V.le V2) (hR:e.R V2 c l[k] fx) (hO:Own V V2 fx) (hP:P.cellsOf t=sh.length)
  (hb:l.length*bytes≤140737488355328) (hl:l.length≤9223372036854775807)
  (hn:∀ s' V3,CopyI e t V0 l ((k+1:Nat):Int) s' V3→(kk s').wp P K V3 Vd Ns) :
  (T.ap s sh.length bytes (Scs.vals sh c) 1 t kk).wp P K V2 Vd Ns:=by
 obtain⟨h1,k',f,he,_,hg,ho⟩:=h
 obtain rfl:k=k':=by omega
 have hlen:(l.take k).length=k:=by simp; omega
 refine ap_row (hg.le hle2) hR (ho.append hO h1 hle2) (h1.trans hle2) hP ?_ (by omega) fun s' V' f' hg' ho' hle'=>hn s' V' ⟨hle',k+1,f',rfl,hk,?_,ho'⟩
 ·rw [hlen]
  exact Nat.le_trans (Nat.mul_le_mul_right _ hk) hb
 ·rw [List.take_succ_eq_append_getElem hk]; exact hg'
theorem CopyI.fin {e:Rp sh α} {t:TypeId} {V0 V:Know} {l:List α} {i:Int} {s:SlV} (h:CopyI e t V0 l i s V) (hl:l.length≤9223372036854775807) (hi:¬ i<(l.length:Int)) :
  V0.le V∧∃ f,LR e V s l f∧Own V0 V f:=by
 obtain⟨h1,k,f,rfl,hk,hg,ho⟩:=h
 obtain rfl:k=l.length:=by omega
 rw [List.take_length] at hg
 exact⟨h1,f,hg.lr hl,ho⟩
theorem CopyI.finG {e:Rp sh α} {t:TypeId} {V0 V:Know} {l:List α} {i:Int} {s:SlV} (h:CopyI e t V0 l i s V) (hi:¬ i<(l.length:Int)) :
  V0.le V∧∃ f,GR e t V s l f∧Own V0 V f:=by
 obtain⟨h1,k,f,rfl,hk,hg,ho⟩:=h
 obtain rfl:k=l.length:=by omega
 rw [List.take_length] at hg
 exact⟨h1,f,hg,ho⟩
end
end Go.Proofs.YtceoihhldnnenaaGreatDoor
