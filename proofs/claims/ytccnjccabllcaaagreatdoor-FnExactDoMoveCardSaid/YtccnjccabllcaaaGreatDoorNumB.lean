/-
  What the program's functions on lists of limbs give: sum, difference.
-/
import Derived.Test.YtccnjccabllcaaaGreatDoorNum
namespace Go.Proofs.YtccnjccabllcaaaGreatDoor
open Sx
set_option maxRecDepth 100000
theorem cI_natAdd (V:Know) (s s':SlV) (a b:List Lim) (f f':List Nat) (h:LR rI V s a f) (h':LR rI V s' b f') (ha:Lims a) (hb:Lims b) (la:a.length≤1000000) (lb:b.length≤1000000) :
  CallX Tryz.prog V gI_natAdd [Sc.val .l s,Sc.val .l s'] (fun V' r=>V.le V'∧∃ s'' o f'',r=Sc.val .l s''∧LR rI V' s'' o f''∧Own V V' f''∧Can o∧valN o=valN a+valN b∧o.length≤1000001):=by
 refine CallX.of_fits Tryz.mix (fI_natAdd _ _) fun _=>?_
 have hn:=h.1
 have hn':=h'.1
 obtain⟨m,hm,hm1,hm2,hm3⟩:∃ m:Nat,(if (s'.n:Int) > (s.n:Int) then (s'.n:Int) else (s.n:Int))=(m:Int)∧a.length≤m∧b.length≤m∧m≤1000000:=by
  by_cases hgt:(s'.n:Int) > (s.n:Int)
  ·exact⟨s'.n,by rw [if_pos hgt],by omega,by omega,by omega⟩
  ·exact⟨s.n,by rw [if_neg hgt],by omega,by omega,by omega⟩
 simp only [tI_natAdd,T.wp,hm]
 have hw:IntKind.i64.wrap ((m:Int)+1)=(m:Int)+1:=wrap_i64 (by omega)
 rw [hw]
 refine⟨⟨by omega,by omega,by omega,by omega⟩,?_⟩
 refine⟨fun y V'=>V'=V∧∃ (k:Nat) (o:List Lim),y.2.2.1=(k:Int)∧k≤m∧0≤(y.2.1:Int)∧(y.2.1:Int)≤1∧y.1.1=k∧y.1.2=o.map cellI∧o.length=k∧Lims o∧valTo o k+(y.2.1:Int)*1000000000 ^ k=valTo a k+valTo b k,
  fun y=>((m:Int)-(y.2.2.1:Int)).toNat,⟨((0,[]),(0:Int),(0:Int),()),rfl,rfl,0,[],rfl,by omega,by decide,by decide,rfl,rfl,rfl,lims_nil,rfl⟩,?_⟩
 rintro⟨⟨n1,ys⟩,(c:Int),(i:Int),u⟩ V' ⟨rfl,k,o,hi,hk,hc0,hc1,hn1,hys,hol,hlo,hv⟩
 replace hi:i=(k:Int):=hi
 replace hc0:0≤c:=hc0
 replace hc1:c≤1:=hc1
 replace hn1:n1=k:=hn1
 replace hys:ys=o.map cellI:=hys
 replace hv:valTo o k+c*1000000000 ^ k=valTo a k+valTo b k:=hv
 subst hi hn1 hys
 have la1:=ha n1
 have lb1:=hb n1
 refine⟨fun hlt=>?_,fun hge=>?_⟩
 ·have hkm:n1<m:=by
   have:(n1:Int)<(m:Int):=of_decide_eq_true hlt
   omega
  have hwi:IntKind.i64.wrap ((n1:Int)+1)=((n1+1:Nat):Int):=nxt hkm (by omega)
  have next:∀ t:Int,t=c+limb a n1+limb b n1→∃ y':LShs [.a 3,.o (.o (.i .i64)),.o (.o (.i .i64))],
    [LV.a 3 (n1+1) (o.map cellI++[.int .i64 (t.tmod (1000000000:Int))]),.v (.int .i64 (IntKind.i64.wrap (t.tdiv (1000000000:Int)))),.v (.int .i64 (IntKind.i64.wrap ((n1:Int)+1)))]=LShs.lvs _ y' ∧
    (V'=V'∧∃ (k:Nat) (o:List Lim),y'.2.2.1=(k:Int)∧k≤m∧0≤(y'.2.1:Int)∧(y'.2.1:Int)≤1∧y'.1.1=k∧y'.1.2=o.map cellI∧o.length=k∧Lims o∧valTo o k+(y'.2.1:Int)*1000000000 ^ k=valTo a k+valTo b k) ∧
    ((m:Int)-(y'.2.2.1:Int)).toNat<((m:Int)-(n1:Int)).toNat:=by
   intro t ht
   have ht0:0≤t:=by omega
   have htm:t.tmod 1000000000=t % 1000000000:=Int.tmod_eq_emod_of_nonneg ht0
   have htd:t.tdiv 1000000000=t / 1000000000:=Int.tdiv_eq_ediv_of_nonneg ht0
   have hwd:IntKind.i64.wrap (t / 1000000000)=t / 1000000000:=wrap_i64 (by omega)
   rw [htm,htd,hwi,hwd]
   refine⟨((n1+1,(o++[(t % 1000000000,())]).map cellI),t / 1000000000,((n1+1:Nat):Int),()),?_,⟨rfl,n1+1,o++[(t % 1000000000,())],rfl,hkm,(by omega:(0:Int)≤t / 1000000000),(by omega:t / 1000000000≤1),rfl,rfl,by simp [hol],lims_snoc hlo ⟨(by omega:(0:Int)≤t % 1000000000),(by omega:t % 1000000000<1000000000)⟩,?_⟩,?_⟩
   ·simp [LShs.lvs,LSh.lv,Sh1.val,Sc.val,cellI]
   ·have:=add_step (d:=t % 1000000000) (e:=t / 1000000000) hol hv (by omega)
    exact this
   ·show((m:Int)-((n1+1:Nat):Int)).toNat<_
    omega
  have hB:(1000000000:Int)≠0:=by decide
  refine⟨fun hxa=>?_,fun hxa=>?_⟩
  ·have hka:n1<a.length:=by
    have:(n1:Int)<(s.n:Int):=of_decide_eq_true hxa
    omega
   obtain⟨b1,o1,a1,l1⟩:=h.int hka
   have ea:a[n1].1=limb a n1:=(limb_lt hka).symm
   have e1:IntKind.i64.wrap (c+limb a n1)=c+limb a n1:=wrap_i64 (by omega)
   refine⟨_,a1,(by omega:(0:Int)≤(n1:Int)),(by omega:(n1:Int)<(s.n:Int)),limb a n1,by rw [← ea]; exact l1,?_⟩
   show(_→_)∧(_→_)
   refine⟨fun hxb=>?_,fun hxb=>?_⟩
   ·have hkb:n1<b.length:=by
     have:(n1:Int)<(s'.n:Int):=of_decide_eq_true hxb
     omega
    obtain⟨b2,o2,a2,l2⟩:=h'.int hkb
    have eb:b[n1].1=limb b n1:=(limb_lt hkb).symm
    have e2:IntKind.i64.wrap (c+limb a n1+limb b n1)=c+limb a n1+limb b n1:=wrap_i64 (by omega)
    refine⟨_,a2,(by omega:(0:Int)≤(n1:Int)),(by omega:(n1:Int)<(s'.n:Int)),limb b n1,by rw [← eb]; exact l2,hB,rfl,⟨rfl,(by omega:(n1+1)*8≤140737488355328),(by omega:n1+1≤9223372036854775807)⟩,hB,_,rfl,?_⟩
    have:=next _ (rfl:c+limb a n1+limb b n1=_)
    rw [← e2,← e1] at this
    exact this
   ·have hkb:b.length≤n1:=by
     have:¬ (n1:Int)<(s'.n:Int):=of_decide_eq_false hxb
     omega
    refine⟨hB,rfl,⟨rfl,(by omega:(n1+1)*8≤140737488355328),(by omega:n1+1≤9223372036854775807)⟩,hB,_,rfl,?_⟩
    have:=next (c+limb a n1) (by rw [limb_ge hkb]; omega)
    rw [← e1] at this
    exact this
  ·have hka:a.length≤n1:=by
    have:¬ (n1:Int)<(s.n:Int):=of_decide_eq_false hxa
    omega
   refine⟨fun hxb=>?_,fun hxb=>?_⟩
   ·have hkb:n1<b.length:=by
     have:(n1:Int)<(s'.n:Int):=of_decide_eq_true hxb
     omega
    obtain⟨b2,o2,a2,l2⟩:=h'.int hkb
    have eb:b[n1].1=limb b n1:=(limb_lt hkb).symm
    have e2:IntKind.i64.wrap (c+limb b n1)=c+limb b n1:=wrap_i64 (by omega)
    refine⟨_,a2,(by omega:(0:Int)≤(n1:Int)),(by omega:(n1:Int)<(s'.n:Int)),limb b n1,by rw [← eb]; exact l2,hB,rfl,⟨rfl,(by omega:(n1+1)*8≤140737488355328),(by omega:n1+1≤9223372036854775807)⟩,hB,_,rfl,?_⟩
    have:=next (c+limb b n1) (by rw [limb_ge hka]; omega)
    rw [← e2] at this
    exact this
   ·have hkb:b.length≤n1:=by
     have:¬ (n1:Int)<(s'.n:Int):=of_decide_eq_false hxb
     omega
    refine⟨hB,rfl,⟨rfl,(by omega:(n1+1)*8≤140737488355328),(by omega:n1+1≤9223372036854775807)⟩,hB,_,rfl,?_⟩
    exact next c (by rw [limb_ge hka,limb_ge hkb]; omega)
 ·have hkm:n1=m:=by
   have:¬ (n1:Int)<(m:Int):=of_decide_eq_false hge
   omega
  refine⟨rfl,⟨rfl,(by omega:(n1+1)*8≤140737488355328),(by omega:n1+1≤9223372036854775807)⟩,?_⟩
  intro bk cap spare hbk hcap _
  have hcap':n1+1≤cap:=hcap
  have hO:Lims (o++[(c,())]):=lims_snoc hlo ⟨hc0,(by omega:c<1000000000)⟩
  have hk:=newI (V:=V') (b:=bk) (cap:=cap) (o:=o++[(c,())]) (spare:=spare) (t:=3) hbk (by simp [hol]; omega) (by simp [hol]; omega)
  have hlen:(o++[((c:Int),())]).length=n1+1:=by simp [hol]
  have hys:o.map cellI++[(Sh1.o (.i .i64)).val c]=(o++[(c,())]).map cellI:=by simp [Sh1.val,Sc.val,cellI]
  have hle:=kset_le (x:=((o++[((c:Int),())]).map cellI++spare,((3:TypeId),((0,0):Nat × Nat)))) hbk
  obtain⟨hcan,hval⟩:=trim_can hO
  have key:=cI_trim _ _ _ _ hk.1
  rw [hlen] at key
  have e0:kset V' bk (o.map cellI++[(Sh1.o (.i .i64)).val c]++spare,((3:TypeId),((0,0):Nat × Nat)))=kset V' bk ((o++[(c,())]).map cellI++spare,(3,(0,0))):=by rw [hys]
  show CallX _ (kset V' bk (o.map cellI++[(Sh1.o (.i .i64)).val c]++spare,((3:TypeId),((0,0):Nat × Nat)))) _ _ _
  rw [e0]
  refine key.mono ?_
  rintro V2 r ⟨rfl,s2,rfl,hL⟩
  refine⟨nofun,s2,rfl,hle,s2,_,_,rfl,hL,hk.2,hcan,?_,?_⟩
  ·rw [hval,valN,hlen,valTo,valTo_snoc (by omega),← hol,limb_snoc,hol]
   show valTo o n1+c*1000000000 ^ n1=_
   rw [hv,valTo_ge (by omega),valTo_ge (by omega)]
  ·have:=tl_le (o++[((c:Int),())]) (o++[((c:Int),())]).length
   unfold trimL
   rw [List.length_take]
   omega
theorem cI_natSub (V:Know) (s s':SlV) (a b:List Lim) (f f':List Nat) (h:LR rI V s a f) (h':LR rI V s' b f') (ha:Lims a) (hb:Lims b) (la:a.length≤1000000) (lb:b.length≤a.length) (hge0:valN b≤valN a) :
  CallX Tryz.prog V gI_natSub [Sc.val .l s,Sc.val .l s'] (fun V' r=>V.le V'∧∃ s'' o f'',r=Sc.val .l s''∧LR rI V' s'' o f''∧Own V V' f''∧Can o∧valN o=valN a-valN b∧o.length≤1000000):=by
 refine CallX.of_fits Tryz.mix (fI_natSub _ _) fun _=>?_
 have hn:=h.1
 have hn':=h'.1
 simp only [tI_natSub,T.wp]
 refine⟨⟨by omega,by omega,by omega,by omega⟩,?_⟩
 refine⟨fun y V'=>V'=V∧∃ (k:Nat) (o:List Lim) (rest:List Value),y.2.2.1=(k:Int)∧k≤a.length∧0≤(y.2.1:Int)∧(y.2.1:Int)≤1∧y.1.1=a.length∧y.1.2=o.map cellI++rest∧rest.length=a.length-k∧o.length=k∧Lims o∧valTo o k=valTo a k-valTo b k+(y.2.1:Int)*1000000000 ^ k,
  fun y=>((a.length:Int)-(y.2.2.1:Int)).toNat,
  ⟨(((s.n:Int).toNat,(madeCells ⟨[.int .i64 (0:Int)]⟩ ((s.n:Int).toNat*1)).toList),(0:Int),(0:Int),()),rfl,rfl,0,[],_,rfl,by omega,(by omega:(0:Int)≤0),(by omega:(0:Int)≤1),(by omega:(s.n:Int).toNat=a.length),rfl,by rw [made_len]; omega,rfl,lims_nil,rfl⟩,?_⟩
 rintro⟨⟨n1,ys⟩,(c:Int),(i:Int),u⟩ V' ⟨rfl,k,o,rest,hi,hk,hc0,hc1,hn1,hys,hrest,hol,hlo,hv⟩
 replace hi:i=(k:Int):=hi
 replace hc0:0≤c:=hc0
 replace hc1:c≤1:=hc1
 replace hn1:n1=a.length:=hn1
 replace hys:ys=o.map cellI++rest:=hys
 replace hv:valTo o k=valTo a k-valTo b k+c*1000000000 ^ k:=hv
 subst hi hn1 hys
 have la1:=ha k
 have lb1:=hb k
 refine⟨fun hlt=>?_,fun hge=>?_⟩
 ·have hka:k<a.length:=by
   have:(k:Int)<(s.n:Int):=of_decide_eq_true hlt
   omega
  have hwi:IntKind.i64.wrap ((k:Int)+1)=((k+1:Nat):Int):=nxt hka (by omega)
  have hfit:(k:Int).toNat*1+1≤(o.map cellI++rest).length:=by simp [hol]; omega
  have next:∀ t e:Int,t=limb a k-c-limb b k+1000000000*e→0≤t→t<1000000000→0≤e→e≤1→∃ y':LShs [.a 3,.o (.o (.i .i64)),.o (.o (.i .i64))],
    [LV.a 3 a.length (setl (o.map cellI++rest) ((k:Int).toNat*1) [.int .i64 t]),.v (.int .i64 e),.v (.int .i64 (IntKind.i64.wrap ((k:Int)+1)))]=LShs.lvs _ y' ∧
    (V'=V'∧∃ (k:Nat) (o:List Lim) (rest:List Value),y'.2.2.1=(k:Int)∧k≤a.length∧0≤(y'.2.1:Int)∧(y'.2.1:Int)≤1∧y'.1.1=a.length∧y'.1.2=o.map cellI++rest∧rest.length=a.length-k∧o.length=k∧Lims o∧valTo o k=valTo a k-valTo b k+(y'.2.1:Int)*1000000000 ^ k) ∧
    ((a.length:Int)-(y'.2.2.1:Int)).toNat<((a.length:Int)-(k:Int)).toNat:=by
   intro t e ht ht0 ht1 he0 he1
   rw [hwi]
   have hset:setl (o.map cellI++rest) ((k:Int).toNat*1) [.int .i64 t]=(o++[(t,())]).map cellI++rest.drop 1:=by
    rw [setl_mid (by simp [hol]) (by simp; omega)]
    simp [cellI]
   rw [hset]
   refine⟨((a.length,(o++[(t,())]).map cellI++rest.drop 1),e,((k+1:Nat):Int),()),rfl,⟨rfl,k+1,o++[(t,())],rest.drop 1,rfl,hka,he0,he1,rfl,rfl,by simp [hrest]; omega,by simp [hol],lims_snoc hlo ⟨ht0,ht1⟩,sub_step hol hv ht⟩,?_⟩
   show((a.length:Int)-((k+1:Nat):Int)).toNat<_
   omega
  obtain⟨b1,o1,a1,l1⟩:=h.int hka
  have ea:a[k].1=limb a k:=(limb_lt hka).symm
  have e1:IntKind.i64.wrap (limb a k-c)=limb a k-c:=wrap_i64 (by omega)
  refine⟨_,a1,(by omega:(0:Int)≤(k:Int)),(by omega:(k:Int)<(s.n:Int)),limb a k,by rw [← ea]; exact l1,?_⟩
  have hin:(0:Int)≤(k:Int)∧(k:Int)<((a.length:Nat):Int):=⟨by omega,by omega⟩
  show(_→_)∧(_→_)
  rw [e1]
  refine⟨fun hxb=>?_,fun hxb=>?_⟩
  ·have hkb:k<b.length:=by
    have:(k:Int)<(s'.n:Int):=of_decide_eq_true hxb
    omega
   obtain⟨b2,o2,a2,l2⟩:=h'.int hkb
   have eb:b[k].1=limb b k:=(limb_lt hkb).symm
   have e2:IntKind.i64.wrap (limb a k-c-limb b k)=limb a k-c-limb b k:=wrap_i64 (by omega)
   refine⟨_,a2,(by omega:(0:Int)≤(k:Int)),(by omega:(k:Int)<(s'.n:Int)),limb b k,by rw [← eb]; exact l2,?_⟩
   show(_→_)∧(_→_)
   rw [e2]
   refine⟨fun hneg=>?_,fun hpos=>?_⟩
   ·have hneg':limb a k-c-limb b k<0:=of_decide_eq_true hneg
    have e3:IntKind.i64.wrap (limb a k-c-limb b k+1000000000)=limb a k-c-limb b k+1000000000:=wrap_i64 (by omega)
    rw [e3]
    exact⟨hin,hfit,_,rfl,next _ 1 (by omega) (by omega) (by omega) (by omega) (by omega)⟩
   ·have hpos':¬ limb a k-c-limb b k<0:=of_decide_eq_false hpos
    exact⟨hin,hfit,_,rfl,next _ 0 (by omega) (by omega) (by omega) (by omega) (by omega)⟩
  ·have hkb:b.length≤k:=by
    have:¬ (k:Int)<(s'.n:Int):=of_decide_eq_false hxb
    omega
   have z:=limb_ge hkb
   refine⟨fun hneg=>?_,fun hpos=>?_⟩
   ·have hneg':limb a k-c<0:=of_decide_eq_true hneg
    have e3:IntKind.i64.wrap (limb a k-c+1000000000)=limb a k-c+1000000000:=wrap_i64 (by omega)
    rw [e3]
    exact⟨hin,hfit,_,rfl,next _ 1 (by omega) (by omega) (by omega) (by omega) (by omega)⟩
   ·have hpos':¬ limb a k-c<0:=of_decide_eq_false hpos
    exact⟨hin,hfit,_,rfl,next _ 0 (by omega) (by omega) (by omega) (by omega) (by omega)⟩
 ·have hkm:k=a.length:=by
   have:¬ (k:Int)<(s.n:Int):=of_decide_eq_false hge
   omega
  have hr0:rest=[]:=List.eq_nil_of_length_eq_zero (by omega)
  subst hr0
  intro bk cap spare hbk hcap _
  have hcap':a.length≤cap:=hcap
  have hk:=newI (V:=V') (b:=bk) (cap:=cap) (o:=o) (spare:=spare) (t:=3) hbk (by omega) (by omega)
  have hle:=kset_le (x:=(o.map cellI++spare,((3:TypeId),((0,0):Nat × Nat)))) hbk
  obtain⟨hcan,hval⟩:=trim_can hlo
  have key:=cI_trim _ _ _ _ hk.1
  rw [show o.length=a.length by omega] at key
  show CallX _ (kset V' bk (o.map cellI++[]++spare,((3:TypeId),((0,0):Nat × Nat)))) _ _ _
  rw [List.append_nil]
  refine key.mono ?_
  rintro V2 r ⟨rfl,s2,rfl,hL⟩
  refine⟨nofun,s2,rfl,hle,s2,_,_,rfl,hL,hk.2,hcan,?_,?_⟩
  ·rw [hval,valN,show o.length=k by omega,hv]
   have hbd:=valTo_bd hlo k
   rw [hv] at hbd
   rw [valTo_ge (show a.length≤k by omega),valTo_ge (show b.length≤k by omega)] at hbd ⊢
   have hc:c=0:=by
    rcases(show c=0∨c=1 by omega) with hc | hc
    ·exact hc
    ·exfalso
     rw [hc,Int.one_mul] at hbd
     omega
   rw [hc]; simp
  ·have:=tl_le o o.length
   unfold trimL
   rw [List.length_take]
   omega
end Go.Proofs.YtccnjccabllcaaaGreatDoor
