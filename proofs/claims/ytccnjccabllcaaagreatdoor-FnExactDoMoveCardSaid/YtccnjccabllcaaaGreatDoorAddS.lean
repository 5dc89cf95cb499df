/-
  Sums of whole numbers: the reference.
-/
import Derived.Test.YtccnjccabllcaaaGreatDoorLedB
namespace Go.Proofs.YtccnjccabllcaaaGreatDoor
open Sx
set_option maxRecDepth 100000
theorem can_sum {a b o:List Lim} {k M:Nat} (hl:Lims o) (ho:o.length=k) (h1:a.length≤k) (h2:b.length≤k) (hM:M=a.length∨M=b.length) (hk:k≤M+1) (ht:k=M+1→limb o M≠0) (hv:valTo o k=valTo a k+valTo b k) (ca:Can a) (cb:Can b):Can o:=by
 refine⟨hl,?_⟩
 by_cases k0:k=0
 ·exact .inl (by omega)
 refine .inr ?_
 rw [ho]
 by_cases k1:k=M+1
 ·rw [k1]
  exact ht k1
 have kM:k=M:=by omega
 rw [valTo_ge h1,valTo_ge h2] at hv
 have a0:=valN_nonneg ca.1
 have b0:=valN_nonneg cb.1
 have hge:(1000000000:Int) ^ (k-1)≤valN a+valN b:=by
  rcases hM with e | e
  ·have:=can_ge ca (by omega)
   rw [show a.length=k by omega] at this
   omega
  ·have:=can_ge cb (by omega)
   rw [show b.length=k by omega] at this
   omega
 intro hz
 have hs:valTo o k=valTo o (k-1)+limb o (k-1)*1000000000 ^ (k-1):=by
  obtain⟨j,rfl⟩:∃ j,k=j+1:=⟨k-1,by omega⟩
  rfl
 rw [hz,Int.zero_mul] at hs
 have:=(valTo_bd hl (k-1)).2
 omega
theorem cS_l02Add (V:Know) (s s':SlV) (a b:List Lim) (f f':List Nat) (h:LR rI V s a f) (h':LR rI V s' b f') (ha:Lims a) (hb:Lims b) (la:a.length≤1000000) (lb:b.length≤1000000) :
  CallX Tryz.prog V gS_l02Add [Sc.val .l s,Sc.val .l s'] (fun V' r=>V.le V'∧∃ s'' o f'',r=Sc.val .l s''∧LR rI V' s'' o f''∧Own V V' f''∧Lims o∧valN o=valN a+valN b∧o.length≤Nat.max a.length b.length+1∧(Can a→Can b→Can o)):=by
 refine CallX.of_fits Tryz.mix (fS_l02Add _ _) fun _=>?_
 have hn:=h.1
 have hn':=h'.1
 have hB:(1000000000:Int)≠0:=by decide
 simp only [tS_l02Add,T.wp]
 obtain⟨M,hM⟩:∃ M,M=Nat.max a.length b.length:=⟨_,rfl⟩
 have hMa:a.length≤M:=by rw [hM]; exact Nat.le_max_left _ _
 have hMb:b.length≤M:=by rw [hM]; exact Nat.le_max_right _ _
 have hMc:M=a.length∨M=b.length:=by
  rcases Nat.le_total a.length b.length with k | k
  ·exact .inr (by rw [hM]; exact Nat.max_eq_right k)
  ·exact .inl (by rw [hM]; exact Nat.max_eq_left k)
 rw [← hM]
 refine⟨fun y V'=>V'=V∧∃ (k:Nat) (o:List Lim),y.2.2.1=(k:Int)∧k≤M+1∧0≤(y.2.1:Int)∧(y.2.1:Int)≤1∧y.1.1=k∧y.1.2=o.map cellI∧o.length=k∧Lims o∧(k=M+1→(y.2.1:Int)=0∧limb o M≠0)∧valTo o k+(y.2.1:Int)*1000000000 ^ k=valTo a k+valTo b k,
  fun y=>((M:Int)+1-(y.2.2.1:Int)).toNat,⟨((0,[]),(0:Int),(0:Int),()),rfl,rfl,0,[],rfl,by omega,(by omega:(0:Int)≤0),(by omega:(0:Int)≤1),rfl,rfl,rfl,lims_nil,fun k=>by omega,rfl⟩,?_⟩
 rintro⟨⟨n1,ys⟩,(c:Int),(i:Int),u⟩ V' ⟨rfl,k,o,hi,hk,hc0,hc1,hn1,hys,hol,hlo,hend,hv⟩
 replace hi:i=(k:Int):=hi
 replace hc0:0≤c:=hc0
 replace hc1:c≤1:=hc1
 replace hn1:n1=k:=hn1
 replace hys:ys=o.map cellI:=hys
 replace hend:k=M+1→c=0∧limb o M≠0:=hend
 replace hv:valTo o k+c*1000000000 ^ k=valTo a k+valTo b k:=hv
 subst hi hn1 hys
 have la1:=ha n1
 have lb1:=hb n1
 have next:n1≤M→(n1=M→0<c)→∀ t:Int,t=c+limb a n1+limb b n1→∃ N,([]++[fun vs V'_1=>∃ y':LShs [.a 3,.o (.o (.i .i64)),.o (.o (.i .i64))],vs=LShs.lvs _ y'∧(V'_1=V'∧∃ (k:Nat) (o:List Lim),y'.2.2.1=(k:Int)∧k≤M+1∧0≤(y'.2.1:Int)∧(y'.2.1:Int)≤1∧y'.1.1=k∧y'.1.2=o.map cellI∧o.length=k∧Lims o∧(k=M+1→(y'.2.1:Int)=0∧limb o M≠0)∧valTo o k+(y'.2.1:Int)*1000000000 ^ k=valTo a k+valTo b k)∧((M:Int)+1-(y'.2.2.1:Int)).toNat<((M:Int)+1-(n1:Int)).toNat]:List (List LV→Know→Prop))[0]?=some N ∧
   N [LV.a 3 (n1+1) (o.map cellI++[.int .i64 (t.tmod (1000000000:Int))]),.v (.int .i64 (IntKind.i64.wrap (t.tdiv (1000000000:Int)))),.v (.int .i64 (IntKind.i64.wrap ((n1:Int)+1)))] V':=by
  intro hkM hcM t ht
  have ht0:0≤t:=by omega
  have htm:t.tmod 1000000000=t % 1000000000:=Int.tmod_eq_emod_of_nonneg ht0
  have htd:t.tdiv 1000000000=t / 1000000000:=Int.tdiv_eq_ediv_of_nonneg ht0
  have hwd:IntKind.i64.wrap (t / 1000000000)=t / 1000000000:=wrap_i64 (by omega)
  have hwi:IntKind.i64.wrap ((n1:Int)+1)=((n1+1:Nat):Int):=by rw [wrap_i64 (by omega)]; omega
  rw [htm,htd,hwi,hwd]
  refine⟨_,rfl,((n1+1,(o++[(t % 1000000000,())]).map cellI),t / 1000000000,((n1+1:Nat):Int),()),?_,⟨rfl,n1+1,o++[(t % 1000000000,())],rfl,by omega,(by omega:(0:Int)≤t / 1000000000),(by omega:t / 1000000000≤1),rfl,rfl,by simp [hol],lims_snoc hlo ⟨(by omega:(0:Int)≤t % 1000000000),(by omega:t % 1000000000<1000000000)⟩,fun e=>?_,?_⟩,?_⟩
  ·simp [LShs.lvs,LSh.lv,Sh1.val,Sc.val,cellI]
  ·have e1:=limb_ge (l:=a) (i:=n1) (by omega)
   have e2:=limb_ge (l:=b) (i:=n1) (by omega)
   have e3:n1=M:=by omega
   have e4:=hcM e3
   refine⟨(by omega:t / 1000000000=0),?_⟩
   have e5:limb (o++[(t % 1000000000,())]) M=t % 1000000000:=by
    rw [show M=o.length by omega,limb_snoc]
   show limb (o++[(t % 1000000000,())]) M≠0
   rw [e5]
   omega
  ·have:=add_step (d:=t % 1000000000) (e:=t / 1000000000) hol hv (by omega)
   exact this
  ·show((M:Int)+1-((n1+1:Nat):Int)).toNat<_
   omega
 have room:n1≤M→∀ v:Int,one [Value.int .i64 v]=true∧(n1+1)*8≤140737488355328∧n1+1≤9223372036854775807:=fun hkM v=>⟨rfl,by omega,by omega⟩
 have e1:IntKind.i64.wrap (c+limb a n1)=c+limb a n1:=wrap_i64 (by omega)
 have e2:IntKind.i64.wrap (c+limb b n1)=c+limb b n1:=wrap_i64 (by omega)
 have e3:IntKind.i64.wrap (c+limb a n1+limb b n1)=c+limb a n1+limb b n1:=wrap_i64 (by omega)
 have ga:(decide ((n1:Int)<(s.n:Int))=true)→∃ b1 o1,s.a=some ⟨b1,o1,none⟩∧loadV V' ((⟨b1,o1,none⟩:Addr).add (n1*1)) 1=some [.int .i64 (limb a n1)]∧n1<a.length:=by
  intro hh
  have hka:n1<a.length:=by
   have:(n1:Int)<(s.n:Int):=of_decide_eq_true hh
   omega
  obtain⟨b1,o1,a1,l1⟩:=h.int hka
  rw [← limb_lt hka] at l1
  exact⟨b1,o1,a1,l1,hka⟩
 have gb:(decide ((n1:Int)<(s'.n:Int))=true)→∃ b1 o1,s'.a=some ⟨b1,o1,none⟩∧loadV V' ((⟨b1,o1,none⟩:Addr).add (n1*1)) 1=some [.int .i64 (limb b n1)]∧n1<b.length:=by
  intro hh
  have hka:n1<b.length:=by
   have:(n1:Int)<(s'.n:Int):=of_decide_eq_true hh
   omega
  obtain⟨b1,o1,a1,l1⟩:=h'.int hka
  rw [← limb_lt hka] at l1
  exact⟨b1,o1,a1,l1,hka⟩
 have na:(decide ((n1:Int)<(s.n:Int))=false)→limb a n1=0:=fun hh=>by
  have:¬ (n1:Int)<(s.n:Int):=of_decide_eq_false hh
  exact limb_ge (by omega)
 have nb:(decide ((n1:Int)<(s'.n:Int))=false)→limb b n1=0:=fun hh=>by
  have:¬ (n1:Int)<(s'.n:Int):=of_decide_eq_false hh
  exact limb_ge (by omega)
 have z0:(0:Int)≤(n1:Int):=by omega
 refine⟨fun h1=>?_,fun h1=>⟨fun h2=>?_,fun h2=>⟨fun h3=>?_,fun h3=>?_⟩⟩⟩
 rotate_left 3
 ·have q1:¬ (n1:Int)<(s.n:Int):=of_decide_eq_false h1
  have q2:¬ (n1:Int)<(s'.n:Int):=of_decide_eq_false h2
  have q3:¬ c > 0:=of_decide_eq_false h3
  have q4:c=0:=by omega
  subst q4
  intro bk cap spare hbk hcap _
  have hcap':n1≤cap:=hcap
  have hk:=newI (V:=V') (b:=bk) (cap:=cap) (o:=o) (spare:=spare) (t:=3) hbk (by omega) (by omega)
  refine⟨kset_le hbk,⟨some ⟨bk,0,none⟩,n1,cap⟩,o,[bk],rfl,by rw [← hol]; exact hk.1,hk.2,hlo,?_,by omega,fun ca cb=>can_sum hlo hol (by omega) (by omega) hMc (by omega) (fun e=>(hend e).2) ?_ ca cb⟩
  rotate_left
  ·rw [Int.zero_mul,Int.add_zero] at hv
   exact hv
  rw [valTo_ge (show a.length≤n1 by omega),valTo_ge (show b.length≤n1 by omega)] at hv
  rw [valN,hol]
  simpa using hv
 ·have hkM:n1≤M:=by
   obtain⟨_,_,_,_,k⟩:=ga h1
   omega
  have hcM':n1=M→0<c:=fun e=>by
   obtain⟨_,_,_,_,k⟩:=ga h1
   omega
  refine⟨fun hxa=>?_,fun hxa=>⟨fun hxb=>?_,fun hxb=>?_⟩⟩
  ·obtain⟨b1,o1,a1,l1,hka⟩:=ga hxa
   refine⟨_,a1,z0,(by omega:(n1:Int)<(s.n:Int)),limb a n1,l1,fun hxb=>?_,fun hxb=>?_⟩
   ·obtain⟨b2,o2,a2,l2,hkb⟩:=gb hxb
    refine⟨_,a2,z0,(by omega:(n1:Int)<(s'.n:Int)),limb b n1,l2,hB,rfl,room hkM _,hB,?_⟩
    have:=next hkM hcM' _ rfl
    rw [← e3,← e1] at this
    exact this
   ·refine⟨hB,rfl,room hkM _,hB,?_⟩
    have:=next hkM hcM' (c+limb a n1) (by rw [nb hxb]; omega)
    rw [← e1] at this
    exact this
  ·obtain⟨b2,o2,a2,l2,hkb⟩:=gb hxb
   refine⟨_,a2,z0,(by omega:(n1:Int)<(s'.n:Int)),limb b n1,l2,hB,rfl,room hkM _,hB,?_⟩
   have:=next hkM hcM' (c+limb b n1) (by rw [na hxa]; omega)
   rw [← e2] at this
   exact this
  ·refine⟨hB,rfl,room hkM _,hB,?_⟩
   exact next hkM hcM' c (by rw [na hxa,nb hxb]; omega)
 ·have hkM:n1≤M:=by
   obtain⟨_,_,_,_,k⟩:=gb h2
   omega
  have hcM':n1=M→0<c:=fun e=>by
   obtain⟨_,_,_,_,k⟩:=gb h2
   omega
  refine⟨fun hxa=>?_,fun hxa=>⟨fun hxb=>?_,fun hxb=>?_⟩⟩
  ·obtain⟨b1,o1,a1,l1,hka⟩:=ga hxa
   refine⟨_,a1,z0,(by omega:(n1:Int)<(s.n:Int)),limb a n1,l1,fun hxb=>?_,fun hxb=>?_⟩
   ·obtain⟨b2,o2,a2,l2,hkb⟩:=gb hxb
    refine⟨_,a2,z0,(by omega:(n1:Int)<(s'.n:Int)),limb b n1,l2,hB,rfl,room hkM _,hB,?_⟩
    have:=next hkM hcM' _ rfl
    rw [← e3,← e1] at this
    exact this
   ·refine⟨hB,rfl,room hkM _,hB,?_⟩
    have:=next hkM hcM' (c+limb a n1) (by rw [nb hxb]; omega)
    rw [← e1] at this
    exact this
  ·obtain⟨b2,o2,a2,l2,hkb⟩:=gb hxb
   refine⟨_,a2,z0,(by omega:(n1:Int)<(s'.n:Int)),limb b n1,l2,hB,rfl,room hkM _,hB,?_⟩
   have:=next hkM hcM' (c+limb b n1) (by rw [na hxa]; omega)
   rw [← e2] at this
   exact this
  ·refine⟨hB,rfl,room hkM _,hB,?_⟩
   exact next hkM hcM' c (by rw [na hxa,nb hxb]; omega)
 ·have hkM:n1≤M:=by
   have hc2:c > 0:=of_decide_eq_true h3
   by_cases e:n1=M+1
   ·have:=(hend e).1
    omega
   ·omega
  have hcM':n1=M→0<c:=fun _=>by
   have hc2:c > 0:=of_decide_eq_true h3
   omega
  refine⟨fun hxa=>?_,fun hxa=>⟨fun hxb=>?_,fun hxb=>?_⟩⟩
  ·obtain⟨b1,o1,a1,l1,hka⟩:=ga hxa
   refine⟨_,a1,z0,(by omega:(n1:Int)<(s.n:Int)),limb a n1,l1,fun hxb=>?_,fun hxb=>?_⟩
   ·obtain⟨b2,o2,a2,l2,hkb⟩:=gb hxb
    refine⟨_,a2,z0,(by omega:(n1:Int)<(s'.n:Int)),limb b n1,l2,hB,rfl,room hkM _,hB,?_⟩
    have:=next hkM hcM' _ rfl
    rw [← e3,← e1] at this
    exact this
   ·refine⟨hB,rfl,room hkM _,hB,?_⟩
    have:=next hkM hcM' (c+limb a n1) (by rw [nb hxb]; omega)
    rw [← e1] at this
    exact this
  ·obtain⟨b2,o2,a2,l2,hkb⟩:=gb hxb
   refine⟨_,a2,z0,(by omega:(n1:Int)<(s'.n:Int)),limb b n1,l2,hB,rfl,room hkM _,hB,?_⟩
   have:=next hkM hcM' (c+limb b n1) (by rw [na hxa]; omega)
   rw [← e2] at this
   exact this
  ·refine⟨hB,rfl,room hkM _,hB,?_⟩
   exact next hkM hcM' c (by rw [na hxa,nb hxb]; omega)
theorem cS_l04MakeL (V:Know) (c0:Bool) (s:SlV) (l:List Lim) (f:List Nat) (h:LR rI V s l f) (hc:Lims l) (hl:l.length≤50) :
  CallX Tryz.prog V gS_l04Make [.bool c0,Sc.val .l s] (fun V' r=>V.le V'∧∃ e s' o f',r=Sh1.val (.g [.b,.l]) (e,s',())∧LR rI V' s' o f'∧Own V V' f'∧IntOkP e o∧sval e o=sval c0 l∧o.length≤l.length):=by
 refine CallX.of_fits Tryz.mix (fS_l04Make _ _) fun _=>?_
 simp only [tS_l04Make,T.wp]
 refine(cS_l02Cap V s l f h hl).mono ?_
 rintro V1 r ⟨rfl,s1,rfl,hL⟩
 obtain⟨tc,tv⟩:=trim_can hc
 obtain⟨o,ho⟩:∃ o,o=trimL l:=⟨_,rfl⟩
 have hol:o.length≤l.length:=by rw [ho]; unfold trimL; rw [List.length_take]; exact Nat.min_le_right _ _
 rw [← ho] at hL tc tv
 obtain⟨r1,r2⟩:=hL.rdI
 have hn:=hL.1
 obtain⟨ok,ev⟩:=made_ok (q:=c0) tc (by omega)
 have ev2:sval (c0 && decide (0<o.length)) o=sval c0 l:=by
  rw [ev]
  unfold sval
  rw [tv]
 have fin:∀ (q:Bool),q=(c0 && decide (0<o.length))→∀ b cap spare,V1 b=none→0+s1.n≤cap→V1.le (kset V1 b (([]++o.map cellI)++spare,(3,(0,0))))∧∃ e s' o' f',packed [Sh1.val (.g [.b,.l]) (q,(⟨some ⟨b,0,none⟩,0+s1.n,cap⟩:SlV),())]=Sh1.val (.g [.b,.l]) (e,s',())∧LR rI (kset V1 b (([]++o.map cellI)++spare,(3,(0,0)))) s' o' f'∧Own V1 (kset V1 b (([]++o.map cellI)++spare,(3,(0,0)))) f'∧IntOkP e o'∧sval e o'=sval c0 l∧o'.length≤l.length:=by
  intro q hq b cap spare hb hcap
  have k:=newI (V:=V1) (b:=b) (cap:=cap) (o:=o) (spare:=spare) (t:=3) hb (by omega) (by omega)
  refine⟨kset_le hb,q,⟨some ⟨b,0,none⟩,0+s1.n,cap⟩,o,[b],rfl,?_,k.2,by rw [hq]; exact ok,by rw [hq]; exact ev2,hol⟩
  rw [Nat.zero_add,hn]
  exact k.1
 refine⟨nofun,s1,rfl,fun hneg=>⟨o.map cellI,r1,r2,⟨r2,(by omega:(0+s1.n)*8≤140737488355328),(by omega:0+s1.n≤9223372036854775807)⟩,fun b cap spare hb hcap _=>fin _ ?_ b cap spare hb hcap⟩,fun hpos=>⟨o.map cellI,r1,r2,⟨r2,(by omega:(0+s1.n)*8≤140737488355328),(by omega:0+s1.n≤9223372036854775807)⟩,fun b cap spare hb hcap _=>fin _ ?_ b cap spare hb hcap⟩⟩
 ·have:c0=true:=hneg
  subst this
  show decide ((s1.n:Int) > 0)=(true && decide (0<o.length))
  rw [Bool.true_and]
  exact decide_eq_decide.2 (by omega)
 ·have:c0=false:=hpos
  subst this
  rfl
abbrev IntPost (V:Know) (z:Int) (m:Nat):Know→Value→Prop:=fun V' r=>V.le V'∧∃ e s o f,r=Sh1.val (.g [.b,.l]) (e,s,())∧LR rI V' s o f∧Own V V' f∧IntOkP e o∧sval e o=z∧o.length≤m
theorem cS_l04Add (V:Know) (c0:Bool) (c1:SlV) (d0:Bool) (d1:SlV) (a b:List Lim) (f g:List Nat) (h:LR rI V c1 a f) (h':LR rI V d1 b g) (ha:Can a) (hb:Can b) (la:a.length≤49) (lb:b.length≤49) :
  CallX Tryz.prog V gS_l04Add [Sh1.val (.g [.b,.l]) (c0,c1,()),Sh1.val (.g [.b,.l]) (d0,d1,())] (IntPost V (sval c0 a+sval d0 b) 50):=by
 refine CallX.of_fits Tryz.mix (fS_l04Add _ _) fun _=>?_
 simp only [tS_l04Add,T.wp]
 have fin:∀ (q:Bool) {V1:Know} {s1:SlV} {o1:List Lim} {f1:List Nat} (z:Int),V.le V1→LR rI V1 s1 o1 f1→Lims o1→o1.length≤50→sval q o1=z→CallX Tryz.prog V1 gS_l04Make [.bool q,Sc.val .l s1] (fun V' r=>(True→V1.le V')∧∃ y,r=(Sh.v (.g [.b,.l])).val y∧IntPost V z 50 V' (packed [Sh1.val (.g [.b,.l]) y])):=by
  intro q V1 s1 o1 f1 z hle hL hl hlen hz
  refine(cS_l04MakeL V1 q s1 o1 f1 hL hl hlen).mono ?_
  rintro V2 r ⟨le2,e,s2,o2,f2,rfl,L2,O2,ok,ev,ln⟩
  exact⟨fun _=>le2,(e,s2,()),rfl,hle.trans le2,e,s2,o2,f2,rfl,L2,O2.pre hle,ok,ev.trans hz,by omega⟩
 refine⟨fun heq=>?_,fun hne=>?_⟩
 ·have hcd:c0=d0:=by simpa using heq
  subst hcd
  refine(cS_l02Add V c1 d1 a b f g h h' ha.1 hb.1 (by omega) (by omega)).mono ?_
  rintro V1 r ⟨hle,s,o,f'',rfl,hL,_,hl,hv,hlen,_⟩
  have hM:Nat.max a.length b.length≤49:=Nat.max_le.2 ⟨la,lb⟩
  refine⟨fun _=>hle,s,rfl,fin c0 _ hle hL hl (by omega) ?_⟩
  unfold sval
  cases c0 <;> simp <;> omega
 ·have hcd:c0=!d0:=by cases c0 <;> cases d0 <;> simp_all
  refine(cS_l02Cmp V c1 d1 a b f g h h').mono ?_
  rintro V0 r ⟨rfl,rfl⟩
  have hcmp:=cmpL_val ha hb
  refine⟨nofun,_,rfl,fun hge=>?_,fun hlt=>?_⟩
  ·have hge':cmpL a b≥0:=of_decide_eq_true hge
   have hv0:valN b≤valN a:=by rcases hcmp with ⟨c,k⟩ | ⟨c,k⟩ | ⟨c,k⟩ <;> omega
   refine(cS_l02Sub V0 c1 d1 a b f g h h' ha.1 hb.1 (by omega) (can_len ha hb hv0) hv0).mono ?_
   rintro V1 r ⟨hle,s,o,f'',rfl,hL,_,hc,hv⟩
   have hb0:=valN_nonneg hb.1
   have hlen:=can_len ha hc (by omega)
   refine⟨fun _=>hle,s,rfl,fin c0 _ hle hL hc.1 (by omega) ?_⟩
   unfold sval
   subst hcd
   cases d0 <;> simp <;> omega
  ·have hlt':¬ cmpL a b≥0:=of_decide_eq_false hlt
   have hv0:valN a≤valN b:=by rcases hcmp with ⟨c,k⟩ | ⟨c,k⟩ | ⟨c,k⟩ <;> omega
   refine(cS_l02Sub V0 d1 c1 b a g f h' h hb.1 ha.1 (by omega) (can_len hb ha hv0) hv0).mono ?_
   rintro V1 r ⟨hle,s,o,f'',rfl,hL,_,hc,hv⟩
   have ha0:=valN_nonneg ha.1
   have hlen:=can_len hb hc (by omega)
   refine⟨fun _=>hle,s,rfl,fin d0 _ hle hL hc.1 (by omega) ?_⟩
   unfold sval
   subst hcd
   cases d0 <;> simp <;> omega
theorem cS_IntAdd (V:Know) (c0:Bool) (c1:SlV) (d0:Bool) (d1:SlV) (a b:List Lim) (f g:List Nat) (h:LR rI V c1 a f) (h':LR rI V d1 b g) (ha:IntOkP c0 a) (hb:IntOkP d0 b) (la:a.length≤49) (lb:b.length≤49) :
  CallX Tryz.prog V gS_IntAdd [Sh1.val (.g [.b,.l]) (c0,c1,()),Sh1.val (.g [.b,.l]) (d0,d1,())] (IntPost V (sval c0 a+sval d0 b) 50):=by
 refine CallX.of_fits Tryz.mix (fS_IntAdd _ _) fun _=>?_
 simp only [tS_IntAdd,T.wp]
 refine(cS_IntOk V c0 c1 a f h).mono ?_
 rintro V1 r ⟨rfl,e,rfl,he⟩
 have he:=he.2 ha
 subst he
 refine⟨nofun,true,rfl,nofun,fun _=>(cS_IntOk V1 d0 d1 b g h').mono ?_⟩
 rintro V2 r ⟨rfl,e,rfl,he⟩
 have he:=he.2 hb
 subst he
 refine⟨nofun,true,rfl,nofun,fun _=>(cS_l04Add V2 c0 c1 d0 d1 a b f g h h' ha.1.1 hb.1.1 la lb).mono ?_⟩
 rintro V3 r ⟨le3,e,s,o,f3,rfl,k⟩
 exact⟨nofun,(e,s,()),rfl,le3,e,s,o,f3,rfl,k⟩
theorem rS_IntNeg (V:Know) (c0:Bool) (c1:SlV) (l:List Lim) (f:List Nat) (h:LR rI V c1 l f) (ok:IntOkP c0 l) :
  CallX Tryz.prog V gS_IntNeg [Sh1.val (.g [.b,.l]) (c0,c1,())] (fun V' r=>V.le V'∧∃ s f',r=Sh1.val (.g [.b,.l]) (!c0 && decide (0<l.length),s,())∧LR rI V' s l f'∧Own V V' f'):=by
 refine CallX.of_fits Tryz.mix (fS_IntNeg _) fun _=>?_
 simp only [tS_IntNeg,T.wp]
 refine(cS_IntOk V c0 c1 l f h).mono ?_
 rintro V1 r ⟨rfl,e,rfl,he⟩
 obtain rfl:e=true:=he.2 ok
 refine⟨nofun,true,rfl,nofun,fun _=>(cS_l04Make V1 (!c0) c1 l f h ok.1.1 ok.1.2).mono ?_⟩
 rintro V2 _ ⟨le2,s2,f2,rfl,L2,O2⟩
 exact⟨nofun,_,rfl,le2,s2,f2,rfl,L2,O2⟩
end Go.Proofs.YtccnjccabllcaaaGreatDoor
