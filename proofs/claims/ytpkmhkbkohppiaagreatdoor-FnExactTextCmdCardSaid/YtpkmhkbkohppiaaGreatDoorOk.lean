/-
  Valid numbers and amounts; sums and comparison of signed numbers, in the program and in the reference.
-/
import Derived.Test.YtpkmhkbkohppiaaGreatDoorDivM
namespace Go.Proofs.YtpkmhkbkohppiaaGreatDoor
open Sx
set_option maxRecDepth 100000
theorem cI_natAdd (V:Know) (s s':SlV) (a b:List Lim) (f f':List Nat) (h:LR rI V s a f) (h':LR rI V s' b f') (ha:Lims a) (hb:Lims b) (la:a.length≤1000000) (lb:b.length≤1000000) :
  CallX Tryz.prog V 218 [Sc.val .l s,Sc.val .l s'] (fun V' r=>V.le V'∧∃ s'' o f'',r=Sc.val .l s''∧LR rI V' s'' o f''∧Own V V' f''∧Can o∧valN o=valN a+valN b∧o.length≤1000001):=by
 refine CallX.of_fits Tryz.mix (fI_natAdd _ _) fun _=>?_
 have hn:=h.1
 have hn':=h'.1
 obtain⟨m,hm,hm1,hm2,hm3⟩:∃ m:Nat,(if (s'.n:Int) > (s.n:Int) then (s'.n:Int) else (s.n:Int))=(m:Int)∧a.length≤m∧b.length≤m∧m≤1000000:=by
  by_cases hgt:(s'.n:Int) > (s.n:Int)
  ·exact⟨s'.n,by rw [if_pos hgt],by omega,by omega,by omega⟩
  ·exact⟨s.n,by rw [if_neg hgt],by omega,by omega,by omega⟩
 simp only [tI_natAdd,T.wp,hm]
 have hw:IntKind.i64.wrap ((m:Int)+1)=(m:Int)+1:=wrap_i64 (by omega)
 rw [hw]
 refine⟨⟨by omega,by omega,by omega,by omega⟩,?_⟩
 refine⟨fun y V'=>V'=V∧∃ (k:Nat) (o:List Lim),y.2.2.1=(k:Int)∧k≤m∧0≤(y.2.1:Int)∧(y.2.1:Int)≤1∧y.1.1=k∧y.1.2=o.map cellI∧o.length=k∧Lims o∧valTo o k+(y.2.1:Int)*1000000000 ^ k=valTo a k+valTo b k,
  fun y=>((m:Int)-(y.2.2.1:Int)).toNat,⟨((0,[]),(0:Int),(0:Int),()),rfl,rfl,0,[],rfl,by omega,by decide,by decide,rfl,rfl,rfl,lims_nil,rfl⟩,?_⟩
 rintro⟨⟨n1,ys⟩,(c:Int),(i:Int),u⟩ V' ⟨rfl,k,o,hi,hk,hc0,hc1,hn1,hys,hol,hlo,hv⟩
 replace hi:i=(k:Int):=hi
 replace hc0:0≤c:=hc0
 replace hc1:c≤1:=hc1
 replace hn1:n1=k:=hn1
 replace hys:ys=o.map cellI:=hys
 replace hv:valTo o k+c*1000000000 ^ k=valTo a k+valTo b k:=hv
 subst hi hn1 hys
 have la1:=ha n1
 have lb1:=hb n1
 refine⟨fun hlt=>?_,fun hge=>?_⟩
 ·have hkm:n1<m:=by
   have:(n1:Int)<(m:Int):=of_decide_eq_true hlt
   omega
  have hwi:IntKind.i64.wrap ((n1:Int)+1)=((n1+1:Nat):Int):=nxt hkm (by omega)
  have next:∀ t:Int,t=c+limb a n1+limb b n1→∃ y':LShs [.a 3,.o (.o (.i .i64)),.o (.o (.i .i64))],
    [LV.a 3 (n1+1) (o.map cellI++[.int .i64 (t.tmod (1000000000:Int))]),.v (.int .i64 (IntKind.i64.wrap (t.tdiv (1000000000:Int)))),.v (.int .i64 (IntKind.i64.wrap ((n1:Int)+1)))]=LShs.lvs _ y' ∧
    (V'=V'∧∃ (k:Nat) (o:List Lim),y'.2.2.1=(k:Int)∧k≤m∧0≤(y'.2.1:Int)∧(y'.2.1:Int)≤1∧y'.1.1=k∧y'.1.2=o.map cellI∧o.length=k∧Lims o∧valTo o k+(y'.2.1:Int)*1000000000 ^ k=valTo a k+valTo b k) ∧
    ((m:Int)-(y'.2.2.1:Int)).toNat<((m:Int)-(n1:Int)).toNat:=by
   intro t ht
   have ht0:0≤t:=by omega
   have htm:t.tmod 1000000000=t % 1000000000:=Int.tmod_eq_emod_of_nonneg ht0
   have htd:t.tdiv 1000000000=t / 1000000000:=Int.tdiv_eq_ediv_of_nonneg ht0
   have hwd:IntKind.i64.wrap (t / 1000000000)=t / 1000000000:=wrap_i64 (by omega)
   rw [htm,htd,hwi,hwd]
   refine⟨((n1+1,(o++[(t % 1000000000,())]).map cellI),t / 1000000000,((n1+1:Nat):Int),()),?_,⟨rfl,n1+1,o++[(t % 1000000000,())],rfl,hkm,(by omega:(0:Int)≤t / 1000000000),(by omega:t / 1000000000≤1),rfl,rfl,by simp [hol],lims_snoc hlo ⟨(by omega:(0:Int)≤t % 1000000000),(by omega:t % 1000000000<1000000000)⟩,?_⟩,?_⟩
   ·simp [LShs.lvs,LSh.lv,Sh1.val,Sc.val,cellI]
   ·have:=add_step (d:=t % 1000000000) (e:=t / 1000000000) hol hv (by omega)
    exact this
   ·show((m:Int)-((n1+1:Nat):Int)).toNat<_
    omega
  have hB:(1000000000:Int)≠0:=by decide
  refine⟨fun hxa=>?_,fun hxa=>?_⟩
  ·have hka:n1<a.length:=by
    have:(n1:Int)<(s.n:Int):=of_decide_eq_true hxa
    omega
   obtain⟨b1,o1,a1,l1⟩:=h.int hka
   have ea:a[n1].1=limb a n1:=(limb_lt hka).symm
   have e1:IntKind.i64.wrap (c+limb a n1)=c+limb a n1:=wrap_i64 (by omega)
   refine⟨_,a1,(by omega:(0:Int)≤(n1:Int)),(by omega:(n1:Int)<(s.n:Int)),limb a n1,by rw [← ea]; exact l1,?_⟩
   show(_→_)∧(_→_)
   refine⟨fun hxb=>?_,fun hxb=>?_⟩
   ·have hkb:n1<b.length:=by
     have:(n1:Int)<(s'.n:Int):=of_decide_eq_true hxb
     omega
    obtain⟨b2,o2,a2,l2⟩:=h'.int hkb
    have eb:b[n1].1=limb b n1:=(limb_lt hkb).symm
    have e2:IntKind.i64.wrap (c+limb a n1+limb b n1)=c+limb a n1+limb b n1:=wrap_i64 (by omega)
    refine⟨_,a2,(by omega:(0:Int)≤(n1:Int)),(by omega:(n1:Int)<(s'.n:Int)),limb b n1,by rw [← eb]; exact l2,hB,rfl,⟨rfl,(by omega:(n1+1)*8≤140737488355328),(by omega:n1+1≤9223372036854775807)⟩,hB,_,rfl,?_⟩
    have:=next _ (rfl:c+limb a n1+limb b n1=_)
    rw [← e2,← e1] at this
    exact this
   ·have hkb:b.length≤n1:=by
     have:¬ (n1:Int)<(s'.n:Int):=of_decide_eq_false hxb
     omega
    refine⟨hB,rfl,⟨rfl,(by omega:(n1+1)*8≤140737488355328),(by omega:n1+1≤9223372036854775807)⟩,hB,_,rfl,?_⟩
    have:=next (c+limb a n1) (by rw [limb_ge hkb]; omega)
    rw [← e1] at this
    exact this
  ·have hka:a.length≤n1:=by
    have:¬ (n1:Int)<(s.n:Int):=of_decide_eq_false hxa
    omega
   refine⟨fun hxb=>?_,fun hxb=>?_⟩
   ·have hkb:n1<b.length:=by
     have:(n1:Int)<(s'.n:Int):=of_decide_eq_true hxb
     omega
    obtain⟨b2,o2,a2,l2⟩:=h'.int hkb
    have eb:b[n1].1=limb b n1:=(limb_lt hkb).symm
    have e2:IntKind.i64.wrap (c+limb b n1)=c+limb b n1:=wrap_i64 (by omega)
    refine⟨_,a2,(by omega:(0:Int)≤(n1:Int)),(by omega:(n1:Int)<(s'.n:Int)),limb b n1,by rw [← eb]; exact l2,hB,rfl,⟨rfl,(by omega:(n1+1)*8≤140737488355328),(by omega:n1+1≤9223372036854775807)⟩,hB,_,rfl,?_⟩
    have:=next (c+limb b n1) (by rw [limb_ge hka]; omega)
    rw [← e2] at this
    exact this
   ·have hkb:b.length≤n1:=by
     have:¬ (n1:Int)<(s'.n:Int):=of_decide_eq_false hxb
     omega
    refine⟨hB,rfl,⟨rfl,(by omega:(n1+1)*8≤140737488355328),(by omega:n1+1≤9223372036854775807)⟩,hB,_,rfl,?_⟩
    exact next c (by rw [limb_ge hka,limb_ge hkb]; omega)
 ·have hkm:n1=m:=by
   have:¬ (n1:Int)<(m:Int):=of_decide_eq_false hge
   omega
  refine⟨rfl,⟨rfl,(by omega:(n1+1)*8≤140737488355328),(by omega:n1+1≤9223372036854775807)⟩,?_⟩
  intro bk cap spare hbk hcap _
  have hcap':n1+1≤cap:=hcap
  have hO:Lims (o++[(c,())]):=lims_snoc hlo ⟨hc0,(by omega:c<1000000000)⟩
  have hk:=newI (V:=V') (b:=bk) (cap:=cap) (o:=o++[(c,())]) (spare:=spare) (t:=3) hbk (by simp [hol]; omega) (by simp [hol]; omega)
  have hlen:(o++[((c:Int),())]).length=n1+1:=by simp [hol]
  have hys:o.map cellI++[(Sh1.o (.i .i64)).val c]=(o++[(c,())]).map cellI:=by simp [Sh1.val,Sc.val,cellI]
  have hle:=kset_le (x:=((o++[((c:Int),())]).map cellI++spare,((3:TypeId),((0,0):Nat × Nat)))) hbk
  obtain⟨hcan,hval⟩:=trim_can hO
  have key:=cI_trim _ _ _ _ hk.1
  rw [hlen] at key
  have e0:kset V' bk (o.map cellI++[(Sh1.o (.i .i64)).val c]++spare,((3:TypeId),((0,0):Nat × Nat)))=kset V' bk ((o++[(c,())]).map cellI++spare,(3,(0,0))):=by rw [hys]
  show CallX _ (kset V' bk (o.map cellI++[(Sh1.o (.i .i64)).val c]++spare,((3:TypeId),((0,0):Nat × Nat)))) _ _ _
  rw [e0]
  refine key.mono ?_
  rintro V2 r ⟨rfl,s2,rfl,hL⟩
  refine⟨nofun,s2,rfl,hle,s2,_,_,rfl,hL,hk.2,hcan,?_,?_⟩
  ·rw [hval,valN,hlen,valTo,valTo_snoc (by omega),← hol,limb_snoc,hol]
   show valTo o n1+c*1000000000 ^ n1=_
   rw [hv,valTo_ge (by omega),valTo_ge (by omega)]
  ·have:=tl_le (o++[((c:Int),())]) (o++[((c:Int),())]).length
   unfold trimL
   rw [List.length_take]
   omega
theorem cI_natSub (V:Know) (s s':SlV) (a b:List Lim) (f f':List Nat) (h:LR rI V s a f) (h':LR rI V s' b f') (ha:Lims a) (hb:Lims b) (la:a.length≤1000000) (lb:b.length≤a.length) (hge0:valN b≤valN a) :
  CallX Tryz.prog V 219 [Sc.val .l s,Sc.val .l s'] (fun V' r=>V.le V'∧∃ s'' o f'',r=Sc.val .l s''∧LR rI V' s'' o f''∧Own V V' f''∧Can o∧valN o=valN a-valN b∧o.length≤1000000):=by
 refine CallX.of_fits Tryz.mix (fI_natSub _ _) fun _=>?_
 have hn:=h.1
 have hn':=h'.1
 simp only [tI_natSub,T.wp]
 refine⟨⟨by omega,by omega,by omega,by omega⟩,?_⟩
 refine⟨fun y V'=>V'=V∧∃ (k:Nat) (o:List Lim) (rest:List Value),y.2.2.1=(k:Int)∧k≤a.length∧0≤(y.2.1:Int)∧(y.2.1:Int)≤1∧y.1.1=a.length∧y.1.2=o.map cellI++rest∧rest.length=a.length-k∧o.length=k∧Lims o∧valTo o k=valTo a k-valTo b k+(y.2.1:Int)*1000000000 ^ k,
  fun y=>((a.length:Int)-(y.2.2.1:Int)).toNat,
  ⟨(((s.n:Int).toNat,(madeCells ⟨[.int .i64 (0:Int)]⟩ ((s.n:Int).toNat*1)).toList),(0:Int),(0:Int),()),rfl,rfl,0,[],_,rfl,by omega,(by omega:(0:Int)≤0),(by omega:(0:Int)≤1),(by omega:(s.n:Int).toNat=a.length),rfl,by rw [made_len]; omega,rfl,lims_nil,rfl⟩,?_⟩
 rintro⟨⟨n1,ys⟩,(c:Int),(i:Int),u⟩ V' ⟨rfl,k,o,rest,hi,hk,hc0,hc1,hn1,hys,hrest,hol,hlo,hv⟩
 replace hi:i=(k:Int):=hi
 replace hc0:0≤c:=hc0
 replace hc1:c≤1:=hc1
 replace hn1:n1=a.length:=hn1
 replace hys:ys=o.map cellI++rest:=hys
 replace hv:valTo o k=valTo a k-valTo b k+c*1000000000 ^ k:=hv
 subst hi hn1 hys
 have la1:=ha k
 have lb1:=hb k
 refine⟨fun hlt=>?_,fun hge=>?_⟩
 ·have hka:k<a.length:=by
   have:(k:Int)<(s.n:Int):=of_decide_eq_true hlt
   omega
  have hwi:IntKind.i64.wrap ((k:Int)+1)=((k+1:Nat):Int):=nxt hka (by omega)
  have hfit:(k:Int).toNat*1+1≤(o.map cellI++rest).length:=by simp [hol]; omega
  have next:∀ t e:Int,t=limb a k-c-limb b k+1000000000*e→0≤t→t<1000000000→0≤e→e≤1→∃ y':LShs [.a 3,.o (.o (.i .i64)),.o (.o (.i .i64))],
    [LV.a 3 a.length (setl (o.map cellI++rest) ((k:Int).toNat*1) [.int .i64 t]),.v (.int .i64 e),.v (.int .i64 (IntKind.i64.wrap ((k:Int)+1)))]=LShs.lvs _ y' ∧
    (V'=V'∧∃ (k:Nat) (o:List Lim) (rest:List Value),y'.2.2.1=(k:Int)∧k≤a.length∧0≤(y'.2.1:Int)∧(y'.2.1:Int)≤1∧y'.1.1=a.length∧y'.1.2=o.map cellI++rest∧rest.length=a.length-k∧o.length=k∧Lims o∧valTo o k=valTo a k-valTo b k+(y'.2.1:Int)*1000000000 ^ k) ∧
    ((a.length:Int)-(y'.2.2.1:Int)).toNat<((a.length:Int)-(k:Int)).toNat:=by
   intro t e ht ht0 ht1 he0 he1
   rw [hwi]
   have hset:setl (o.map cellI++rest) ((k:Int).toNat*1) [.int .i64 t]=(o++[(t,())]).map cellI++rest.drop 1:=by
    rw [setl_mid (by simp [hol]) (by simp; omega)]
    simp [cellI]
   rw [hset]
   refine⟨((a.length,(o++[(t,())]).map cellI++rest.drop 1),e,((k+1:Nat):Int),()),rfl,⟨rfl,k+1,o++[(t,())],rest.drop 1,rfl,hka,he0,he1,rfl,rfl,by simp [hrest]; omega,by simp [hol],lims_snoc hlo ⟨ht0,ht1⟩,sub_step hol hv ht⟩,?_⟩
   show((a.length:Int)-((k+1:Nat):Int)).toNat<_
   omega
  obtain⟨b1,o1,a1,l1⟩:=h.int hka
  have ea:a[k].1=limb a k:=(limb_lt hka).symm
  have e1:IntKind.i64.wrap (limb a k-c)=limb a k-c:=wrap_i64 (by omega)
  refine⟨_,a1,(by omega:(0:Int)≤(k:Int)),(by omega:(k:Int)<(s.n:Int)),limb a k,by rw [← ea]; exact l1,?_⟩
  have hin:(0:Int)≤(k:Int)∧(k:Int)<((a.length:Nat):Int):=⟨by omega,by omega⟩
  show(_→_)∧(_→_)
  rw [e1]
  refine⟨fun hxb=>?_,fun hxb=>?_⟩
  ·have hkb:k<b.length:=by
    have:(k:Int)<(s'.n:Int):=of_decide_eq_true hxb
    omega
   obtain⟨b2,o2,a2,l2⟩:=h'.int hkb
   have eb:b[k].1=limb b k:=(limb_lt hkb).symm
   have e2:IntKind.i64.wrap (limb a k-c-limb b k)=limb a k-c-limb b k:=wrap_i64 (by omega)
   refine⟨_,a2,(by omega:(0:Int)≤(k:Int)),(by omega:(k:Int)<(s'.n:Int)),limb b k,by rw [← eb]; exact l2,?_⟩
   show(_→_)∧(_→_)
   rw [e2]
   refine⟨fun hneg=>?_,fun hpos=>?_⟩
   ·have hneg':limb a k-c-limb b k<0:=of_decide_eq_true hneg
    have e3:IntKind.i64.wrap (limb a k-c-limb b k+1000000000)=limb a k-c-limb b k+1000000000:=wrap_i64 (by omega)
    rw [e3]
    exact⟨hin,hfit,_,rfl,next _ 1 (by omega) (by omega) (by omega) (by omega) (by omega)⟩
   ·have hpos':¬ limb a k-c-limb b k<0:=of_decide_eq_false hpos
    exact⟨hin,hfit,_,rfl,next _ 0 (by omega) (by omega) (by omega) (by omega) (by omega)⟩
  ·have hkb:b.length≤k:=by
    have:¬ (k:Int)<(s'.n:Int):=of_decide_eq_false hxb
    omega
   have z:=limb_ge hkb
   refine⟨fun hneg=>?_,fun hpos=>?_⟩
   ·have hneg':limb a k-c<0:=of_decide_eq_true hneg
    have e3:IntKind.i64.wrap (limb a k-c+1000000000)=limb a k-c+1000000000:=wrap_i64 (by omega)
    rw [e3]
    exact⟨hin,hfit,_,rfl,next _ 1 (by omega) (by omega) (by omega) (by omega) (by omega)⟩
   ·have hpos':¬ limb a k-c<0:=of_decide_eq_false hpos
    exact⟨hin,hfit,_,rfl,next _ 0 (by omega) (by omega) (by omega) (by omega) (by omega)⟩
 ·have hkm:k=a.length:=by
   have:¬ (k:Int)<(s.n:Int):=of_decide_eq_false hge
   omega
  have hr0:rest=[]:=List.eq_nil_of_length_eq_zero (by omega)
  subst hr0
  intro bk cap spare hbk hcap _
  have hcap':a.length≤cap:=hcap
  have hk:=newI (V:=V') (b:=bk) (cap:=cap) (o:=o) (spare:=spare) (t:=3) hbk (by omega) (by omega)
  have hle:=kset_le (x:=(o.map cellI++spare,((3:TypeId),((0,0):Nat × Nat)))) hbk
  obtain⟨hcan,hval⟩:=trim_can hlo
  have key:=cI_trim _ _ _ _ hk.1
  rw [show o.length=a.length by omega] at key
  show CallX _ (kset V' bk (o.map cellI++[]++spare,((3:TypeId),((0,0):Nat × Nat)))) _ _ _
  rw [List.append_nil]
  refine key.mono ?_
  rintro V2 r ⟨rfl,s2,rfl,hL⟩
  refine⟨nofun,s2,rfl,hle,s2,_,_,rfl,hL,hk.2,hcan,?_,?_⟩
  ·rw [hval,valN,show o.length=k by omega,hv]
   have hbd:=valTo_bd hlo k
   rw [hv] at hbd
   rw [valTo_ge (show a.length≤k by omega),valTo_ge (show b.length≤k by omega)] at hbd ⊢
   have hc:c=0:=by
    rcases(show c=0∨c=1 by omega) with hc | hc
    ·exact hc
    ·exfalso
     rw [hc,Int.one_mul] at hbd
     omega
   rw [hc]; simp
  ·have:=tl_le o o.length
   unfold trimL
   rw [List.length_take]
   omega
end Go.Proofs.YtpkmhkbkohppiaaGreatDoor
namespace Go.Proofs.YtpkmhkbkohppiaaGreatDoor
open Sx
set_option maxRecDepth 100000
def NatOkP (l:List Lim):Prop:=Can l∧l.length≤50
def IntOkP (neg:Bool) (l:List Lim):Prop:=NatOkP l∧(neg=true→0<l.length)
def sval (neg:Bool) (l:List Lim):Int:=if neg=true then -valN l else valN l
def sgn (z:Int):Int:=if z<0 then -1 else if z=0 then 0 else 1
def MoneyOkP (cur:ByteArray) (neg:Bool) (l:List Lim):Prop:=known cur=true∧IntOkP neg l∧l.length≤4
theorem lims_iff {l:List Lim}:Lims l↔∀ i,i<l.length→0≤limb l i∧limb l i<1000000000 :=
 ⟨fun h i _=>h i,fun h i=>by
  by_cases hi:i<l.length
  ·exact h i hi
  ·rw [limb_ge (by omega)]; omega⟩
theorem all_wp {P:Program} {K:Know→List Value→Prop} {V V0:Know} {s:SlV} {l:List Lim} {f:List Nat} {p:Int→Prop} {body:LShs [.o (.o (.i .i64))]→T} {tail:T} (h:LR rI V s l f)
  (hbody:∀ (i:Nat) (_:i<l.length) (N:List LV→Know→Prop),(¬ p (limb l i)→K V [.bool false])→(p (limb l i)→N [.v (.int .i64 (IntKind.i64.wrap ((i:Int)+1)))] V)→(body ((i:Int),())).wp P K V V [N])
  (htail:(∀ i,i<l.length→p (limb l i))→∀ N,tail.wp P K V V [N]) (hfalse:(∃ i,i<l.length∧¬ p (limb l i))→K V [.bool false]) :
  (T.lp [.o (.o (.i .i64))] [.v (.int .i64 (0:Int))] fun y=>.br (decide (y.fst<(s.n:Int))) (body y) tail).wp P K V V0 []:=by
 simp only [T.wp]
 have hn:=h.1
 have hb:=h.2.2.1
 refine⟨fun y V'=>V'=V∧∃ i:Nat,y.1=(i:Int)∧i≤l.length∧∀ j,j<i→p (limb l j),fun y=>((l.length:Int)-(y.1:Int)).toNat,⟨((0:Int),()),rfl,rfl,0,rfl,by omega,fun j hj=>by omega⟩,?_⟩
 rintro⟨(i:Int),u⟩ V' ⟨rfl,k,hk,hle,hall⟩
 replace hk:i=(k:Int):=hk
 subst hk
 refine⟨fun hlt=>?_,fun hge=>?_⟩
 ·have h1:k<l.length:=by
   have:(k:Int)<(s.n:Int):=of_decide_eq_true hlt
   omega
  refine hbody k h1 _ (fun hne=>hfalse ⟨k,h1,hne⟩) fun he=>?_
  refine⟨(((k+1:Nat):Int),()),by rw [nxt h1 (by omega)]; rfl,⟨rfl,k+1,rfl,h1,fun j hj=>?_⟩,?_⟩
  ·by_cases e:j=k
   ·subst e; exact he
   ·exact hall j (by omega)
  ·show((l.length:Int)-((k+1:Nat):Int)).toNat<((l.length:Int)-(k:Int)).toNat
   omega
 ·have h1:k=l.length:=by
   have:¬ (k:Int)<(s.n:Int):=of_decide_eq_false hge
   omega
  subst h1
  exact htail hall _
theorem natOk_iff {l:List Lim}:NatOkP l↔(∀ i,i<l.length→0≤limb l i∧limb l i<1000000000)∧l.length≤50∧(l.length=0∨limb l (l.length-1)≠0):=by
 unfold NatOkP Can
 rw [lims_iff]
 exact⟨fun h=>⟨h.1.1,h.2,h.1.2⟩,fun h=>⟨⟨h.1,h.2.2⟩,h.2.1⟩⟩
theorem cS_l01In (V:Know) (x y z:Int):CallX Tryz.prog V 45 [.int .i64 x,.int .i64 y,.int .i64 z] (fun V' r=>V'=V∧r=.bool (decide (y≤x∧x≤z))):=by
 refine CallX.of_fits Tryz.mix (fS_l01In x y z) fun _=>?_
 simp only [tS_l01In,T.wp,packed,decide_eq_true_eq,decide_eq_false_iff_not]
 refine⟨fun h=>⟨by trivial,?_⟩,fun h=>⟨by trivial,?_⟩⟩
 ·congr 1
  exact decide_eq_decide.2 ⟨fun k=>⟨by omega,k⟩,fun k=>k.2⟩
 ·congr 1
  exact(decide_eq_false (by omega)).symm
theorem last_load {V:Know} {s:SlV} {l:List Lim} {f:List Nat} (h:LR rI V s l f) (hp:0<l.length):IntKind.i64.wrap ((s.n:Int)-1)=((l.length-1:Nat):Int) ∧
  ∃ b o,s.a=some ⟨b,o,none⟩∧loadV V ((⟨b,o,none⟩:Addr).add ((l.length-1)*1)) 1=some [.int .i64 (limb l (l.length-1))]:=by
 have hn:=h.1
 have hb:=h.2.2.1
 refine⟨by rw [wrap_i64 (by omega)]; omega,?_⟩
 obtain⟨b,o,a1,l1⟩:=h.int (i:=l.length-1) (by omega)
 exact⟨b,o,a1,by rw [limb_lt (by omega)]; exact l1⟩
theorem cS_NatOk (V:Know) (s:SlV) (l:List Lim) (f:List Nat) (h:LR rI V s l f):CallX Tryz.prog V 125 [Sc.val .l s] (fun V' r=>V'=V∧∃ e,r=.bool e∧(e=true↔NatOkP l)):=by
 refine CallX.of_fits Tryz.mix (fS_NatOk s) fun _=>?_
 unfold tS_NatOk
 have hn:=h.1
 refine all_wp (p:=fun x=>0≤x∧x<1000000000) h (fun i hi N h1 h2=>?_) (fun hall N=>?_) (fun⟨i,hi,hne⟩=>⟨rfl,false,rfl,⟨(fun h=>by cases h),(fun e=>(hne ((natOk_iff.1 e).1 i hi)).elim)⟩⟩)
 ·obtain⟨b,o,a1,l1⟩:=h.int hi
  have e1:l[i].1=limb l i:=(limb_lt hi).symm
  refine⟨_,a1,(by omega:(0:Int)≤(i:Int)),(by omega:(i:Int)<(s.n:Int)),limb l i,by rw [← e1]; exact l1,(cS_l01In V (limb l i) 0 999999999).mono ?_⟩
  rintro V' r ⟨rfl,rfl⟩
  refine⟨nofun,_,rfl,fun hf=>h1 fun hp=>?_,fun ht=>⟨_,rfl,h2 ?_⟩⟩
  ·have:decide (0≤limb l i∧limb l i≤999999999)=true:=decide_eq_true (by omega)
   rw [this] at hf; cases hf
  ·have:0≤limb l i∧limb l i≤999999999:=by simpa using ht
   omega
 ·refine⟨fun hle=>?_,fun hgt=>⟨rfl,false,rfl,⟨(fun h=>by cases h),(fun e=>?_)⟩⟩⟩
  ·have hle':(s.n:Int)≤50:=of_decide_eq_true hle
   refine⟨fun h0=>⟨rfl,true,rfl,⟨fun _=>?_,fun _=>rfl⟩⟩,fun h0=>?_⟩
   ·have:(s.n:Int)=0:=by simpa using h0
    exact natOk_iff.2 ⟨hall,by omega,.inl (by omega)⟩
   ·have h0':¬ (s.n:Int)=0:=by simpa using h0
    obtain⟨hw,b,o,a1,l1⟩:=last_load h (by omega)
    rw [hw]
    refine⟨_,a1,(by omega:(0:Int)≤((l.length-1:Nat):Int)),(by omega:((l.length-1:Nat):Int)<(s.n:Int)),limb l (l.length-1),l1,rfl,_,rfl,⟨fun hb=>?_,fun e=>?_⟩⟩
    ·have:limb l (l.length-1)≠0:=by simpa using hb
     exact natOk_iff.2 ⟨hall,by omega,.inr this⟩
    ·have:=(natOk_iff.1 e).2.2
     have:limb l (l.length-1)≠0:=by
      rcases this with h | h
      ·omega
      ·exact h
     simpa using this
  ·have hgt':¬ (s.n:Int)≤50:=of_decide_eq_false hgt
   have:=(natOk_iff.1 e).2.1
   omega
theorem cI_NatOk (V:Know) (s:SlV) (l:List Lim) (f:List Nat) (h:LR rI V s l f):CallX Tryz.prog V 197 [Sc.val .l s] (fun V' r=>V'=V∧∃ e,r=.bool e∧(e=true↔NatOkP l)):=by
 refine CallX.of_fits Tryz.mix (fI_NatOk s) fun _=>?_
 unfold tI_NatOk
 have hn:=h.1
 have body:∀ (hlen:l.length≤50) (htop:l.length=0∨limb l (l.length-1)≠0),(T.lp [.o (.o (.i .i64))] [.v (.int .i64 (0:Int))] fun y3 =>
   .br (decide (y3.fst<(s.n:Int))) (
    .el (s.a) (s.n) (y3.fst) fun y4=>.ld false (y4.add (Int.toNat y3.fst*(1:Nat))) (.o (.i .i64)) fun y5 =>
    .br (decide (y5<(0:Int))) (.ret [.bool (false)]) <| .br (decide (y5≥(1000000000:Int))) (.ret [.bool (false)]) <|
    .nx 0 [.v (.int .i64 (Go.IntKind.i64.wrap (y3.fst+(1:Int))))]) <| .ret [.bool (true)]).wp Tryz.prog (fun V' vs=>V'=V∧∃ e,packed vs=.bool e∧(e=true↔NatOkP l)) V V []:=by
  intro hlen htop
  refine all_wp (p:=fun x=>0≤x∧x<1000000000) h (fun i hi N h1 h2=>?_) (fun hall N=>⟨rfl,true,rfl,⟨fun _=>natOk_iff.2 ⟨hall,hlen,htop⟩,fun _=>rfl⟩⟩) (fun⟨i,hi,hne⟩=>⟨rfl,false,rfl,⟨(fun h=>by cases h),(fun e=>(hne ((natOk_iff.1 e).1 i hi)).elim)⟩⟩)
  obtain⟨b,o,a1,l1⟩:=h.int hi
  have e1:l[i].1=limb l i:=(limb_lt hi).symm
  refine⟨_,a1,(by omega:(0:Int)≤(i:Int)),(by omega:(i:Int)<(s.n:Int)),limb l i,by rw [← e1]; exact l1,fun hlt=>h1 fun hp=>?_,fun hge=>⟨fun hbig=>h1 fun hp=>?_,fun hsm=>⟨_,rfl,h2 ?_⟩⟩⟩
  ·have:limb l i<0:=of_decide_eq_true hlt
   omega
  ·have:limb l i≥1000000000:=of_decide_eq_true hbig
   omega
  ·have q1:¬ limb l i<0:=of_decide_eq_false hge
   have q2:¬ limb l i≥1000000000:=of_decide_eq_false hsm
   omega
 refine⟨fun hgt=>⟨rfl,false,rfl,⟨(fun h=>by cases h),(fun e=>?_)⟩⟩,fun hle=>?_⟩
 ·have:(s.n:Int) > 50:=of_decide_eq_true hgt
  have:=(natOk_iff.1 e).2.1
  omega
 have hlen:l.length≤50:=by
  have:¬ (s.n:Int) > 50:=of_decide_eq_false hle
  omega
 refine⟨fun hpos=>?_,fun hz=>?_⟩
 ·have hp:(s.n:Int) > 0:=of_decide_eq_true hpos
  obtain⟨hw,b,o,a1,l1⟩:=last_load h (by omega)
  rw [hw]
  refine⟨_,a1,(by omega:(0:Int)≤((l.length-1:Nat):Int)),(by omega:((l.length-1:Nat):Int)<(s.n:Int)),limb l (l.length-1),l1,fun h0=>⟨rfl,false,rfl,⟨(fun h=>by cases h),(fun e=>?_)⟩⟩,fun h0=>?_⟩
  ·have h0':limb l (l.length-1)=0:=by simpa using h0
   rcases(natOk_iff.1 e).2.2 with h1 | h1
   ·omega
   ·exact(h1 h0').elim
  ·have h0':¬ limb l (l.length-1)=0:=by simpa using h0
   exact body hlen (.inr h0')
 ·have hp:¬ (s.n:Int) > 0:=of_decide_eq_false hz
  exact body hlen (.inl (by omega))
theorem cS_IntOk (V:Know) (c0:Bool) (c1:SlV) (l:List Lim) (f:List Nat) (h:LR rI V c1 l f):CallX Tryz.prog V 117 [qv1 (c0,c1,())] (fun V' r=>V'=V∧∃ e,r=.bool e∧(e=true↔IntOkP c0 l)):=by
 refine CallX.of_fits Tryz.mix (fS_IntOk _) fun _=>?_
 simp only [tS_IntOk,T.wp]
 have hn:=h.1
 refine(cS_NatOk V c1 l f h).mono ?_
 rintro V' r ⟨rfl,e,rfl,he⟩
 refine⟨nofun,e,rfl,fun ht=>?_,fun hf=>⟨by trivial,false,rfl,⟨(fun h=>by cases h),(fun k=>by rw [he.2 k.1] at hf; cases hf)⟩⟩⟩
 refine⟨fun hneg=>⟨by trivial,true,rfl,⟨fun _=>⟨he.1 ht,fun hc=>?_⟩,fun _=>rfl⟩⟩,fun hneg=>⟨by trivial,_,rfl,⟨fun hd=>⟨he.1 ht,fun _=>?_⟩,fun k=>?_⟩⟩⟩
 ·rw [hc] at hneg; cases hneg
 ·have:(c1.n:Int) > 0:=of_decide_eq_true hd
  omega
 ·have hc:c0=true:=by simpa using hneg
  have:=k.2 hc
  exact decide_eq_true (by omega)
theorem cI_IntOk (V:Know) (c0:Bool) (c1:SlV) (l:List Lim) (f:List Nat) (h:LR rI V c1 l f):CallX Tryz.prog V 175 [qv1 (c0,c1,())] (fun V' r=>V'=V∧∃ e,r=.bool e∧(e=true↔IntOkP c0 l)):=by
 refine CallX.of_fits Tryz.mix (fI_IntOk _) fun _=>?_
 simp only [tI_IntOk,T.wp]
 have hn:=h.1
 refine(cI_NatOk V c1 l f h).mono ?_
 rintro V' r ⟨rfl,e,rfl,he⟩
 refine⟨nofun,e,rfl,fun ht=>?_,fun hf=>⟨by trivial,false,rfl,⟨(fun h=>by cases h),(fun k=>by rw [he.2 k.1] at hf; cases hf)⟩⟩⟩
 refine⟨fun hneg=>⟨by trivial,true,rfl,⟨fun _=>⟨he.1 ht,fun hc=>?_⟩,fun _=>rfl⟩⟩,fun hneg=>⟨by trivial,_,rfl,⟨fun hd=>⟨he.1 ht,fun _=>?_⟩,fun k=>?_⟩⟩⟩
 ·rw [hc] at hneg; cases hneg
 ·have:(c1.n:Int) > 0:=of_decide_eq_true hd
  omega
 ·have hc:c0=true:=by simpa using hneg
  have:=k.2 hc
  exact decide_eq_true (by omega)
theorem cS_MoneyOk {V:Know} (c0:ByteArray) (c1:Bool) (c2:SlV) (l:List Lim) (f:List Nat) (h:LR rI V c2 l f):CallX Tryz.prog V 83 [qv2 (c0,c1,c2,())] (fun V' r=>V.le V'∧∃ e,r=.bool e∧(e=true↔MoneyOkP c0 c1 l)):=by
 refine CallX.of_fits Tryz.mix (fS_MoneyOk _) fun _=>?_
 simp only [tS_MoneyOk,T.wp]
 refine(cS_CurKnown V c0).mono ?_
 rintro V1 r ⟨hle,rfl⟩
 replace hle:V.le V1:=by first | exact hle | (subst hle; exact Know.le.refl _)
 refine⟨nofun,known c0,rfl,fun hk=>?_,fun hk=>⟨hle,false,rfl,⟨(fun h=>by cases h),(fun k=>by rw [k.1] at hk; cases hk)⟩⟩⟩
 have h1:=h.le hle
 have hn:=h1.1
 refine(cS_IntOk V1 c1 c2 l f h1).mono ?_
 rintro V' r ⟨rfl,e,rfl,he⟩
 refine⟨nofun,e,rfl,fun ht=>⟨hle,_,rfl,⟨fun hd=>⟨hk,he.1 ht,?_⟩,fun k=>?_⟩⟩,fun hf=>⟨hle,false,rfl,⟨(fun h=>by cases h),(fun k=>by rw [he.2 k.2.1] at hf; cases hf)⟩⟩⟩
 ·have:(c2.n:Int)≤4:=of_decide_eq_true hd
  omega
 ·have:=k.2.2
  exact decide_eq_true (by omega)
theorem cI_MoneyOk {V:Know} (hV:hasCur V) (c0:ByteArray) (c1:Bool) (c2:SlV) (l:List Lim) (f:List Nat) (h:LR rI V c2 l f):CallX Tryz.prog V 139 [qv2 (c0,c1,c2,())] (fun V' r=>V.le V'∧∃ e,r=.bool e∧(e=true↔MoneyOkP c0 c1 l)):=by
 refine CallX.of_fits Tryz.mix (fI_MoneyOk _) fun _=>?_
 simp only [tI_MoneyOk,T.wp]
 refine(cI_CurKnown hV c0).mono ?_
 rintro V1 r ⟨hle,rfl⟩
 replace hle:V.le V1:=by first | exact hle | (subst hle; exact Know.le.refl _)
 refine⟨nofun,known c0,rfl,fun hk=>?_,fun hk=>⟨hle,false,rfl,⟨(fun h=>by cases h),(fun k=>by rw [k.1] at hk; cases hk)⟩⟩⟩
 have h1:=h.le hle
 have hn:=h1.1
 refine(cI_IntOk V1 c1 c2 l f h1).mono ?_
 rintro V' r ⟨rfl,e,rfl,he⟩
 refine⟨nofun,e,rfl,fun ht=>⟨hle,_,rfl,⟨fun hd=>⟨hk,he.1 ht,?_⟩,fun k=>?_⟩⟩,fun hf=>⟨hle,false,rfl,⟨(fun h=>by cases h),(fun k=>by rw [he.2 k.2.1] at hf; cases hf)⟩⟩⟩
 ·have:(c2.n:Int)≤4:=of_decide_eq_true hd
  omega
 ·have:=k.2.2
  exact decide_eq_true (by omega)
theorem cI_signed (V:Know) (b:Bool) (s:SlV):CallX Tryz.prog V 157 [.bool b,Sc.val .l s] (fun V' r=>V'=V∧r=qv1 (b && decide ((s.n:Int) > 0),s,())):=by
 refine CallX.of_fits Tryz.mix (fI_signed _ _) fun _=>?_
 simp only [tI_signed,T.wp]
 refine⟨fun h=>⟨by trivial,by rw [h]; rfl⟩,fun h=>⟨by trivial,by rw [h]; rfl⟩⟩
theorem cI_intNeg (V:Know) (c0:Bool) (c1:SlV) (l:List Lim) (f:List Nat) (h:LR rI V c1 l f) (hl:l.length≤1048576) :
  CallX Tryz.prog V 201 [qv1 (c0,c1,())] (fun V' r=>V.le V'∧∃ s f',r=qv1 (!c0 && decide (0<l.length),s,())∧LR rI V' s l f'∧Own V V' f'):=by
 refine CallX.of_fits Tryz.mix (fI_intNeg _) fun _=>?_
 simp only [tI_intNeg,T.wp]
 refine(cI_natCopy V c1 l f h hl).mono ?_
 rintro V1 r ⟨hle,s,f',rfl,hL,hO⟩
 refine⟨fun _=>hle,s,rfl,(cI_signed V1 (!c0) s).mono ?_⟩
 rintro V2 r ⟨rfl,rfl⟩
 refine⟨fun _=>Know.le.refl _,_,rfl,hle,s,f',?_,hL,hO⟩
 have hn:=hL.1
 have:decide ((s.n:Int) > 0)=decide (0<l.length):=decide_eq_decide.2 (by omega)
 show qv1 (!c0 && decide ((s.n:Int) > 0),s,())=_
 rw [this]
theorem can_len {a b:List Lim} (ha:Can a) (hb:Can b) (h:valN b≤valN a):b.length≤a.length:=by
 by_cases e:b.length≤a.length
 ·exact e
 ·have h1:=can_ge hb (by omega)
  have h2:=(valTo_bd ha.1 a.length).2
  have h3:=pw_mono (show a.length≤b.length-1 by omega)
  unfold valN at h h1
  omega
theorem can_pos {l:List Lim} (h:Can l):0<l.length↔0<valN l:=by
 have h1:=can_empty h
 have h2:=valN_nonneg h.1
 omega
theorem cI_intAdd (V:Know) (c0:Bool) (c1:SlV) (d0:Bool) (d1:SlV) (a b:List Lim) (f g:List Nat) (h:LR rI V c1 a f) (h':LR rI V d1 b g) (ha:Can a) (hb:Can b) (la:a.length≤1000000) (lb:b.length≤1000000) :
  CallX Tryz.prog V 200 [qv1 (c0,c1,()),qv1 (d0,d1,())] (fun V' r=>V.le V'∧∃ e s o f',r=qv1 (e,s,())∧LR rI V' s o f'∧Own V V' f'∧Can o∧sval e o=sval c0 a+sval d0 b∧(e=true→0<o.length)∧o.length≤1000001):=by
 refine CallX.of_fits Tryz.mix (fI_intAdd _ _) fun _=>?_
 simp only [tI_intAdd,T.wp]
 have na:=valN_nonneg ha.1
 have nb:=valN_nonneg hb.1
 have fin:∀ (q:Bool) (s:SlV) (o:List Lim),Can o→s.n=o.length→sval (q && decide ((s.n:Int) > 0)) o=sval q o∧((q && decide ((s.n:Int) > 0))=true→0<o.length):=by
  intro q s o hc hn
  have hp:=can_pos hc
  have h0:=valN_nonneg hc.1
  cases q with
  | false=>exact⟨rfl,fun h=>by cases h⟩
  | true =>
   by_cases hz:0<o.length
   ·have:decide ((s.n:Int) > 0)=true:=decide_eq_true (by omega)
    rw [this]
    exact⟨rfl,fun _=>hz⟩
   ·have:decide ((s.n:Int) > 0)=false:=decide_eq_false (by omega)
    rw [this]
    refine⟨?_,fun h=>by cases h⟩
    have:valN o=0:=by omega
    simp [sval,this]
 refine⟨fun heq=>?_,fun hne=>?_⟩
 ·have hcd:c0=d0:=by simpa using heq
  subst hcd
  refine(cI_natAdd V c1 d1 a b f g h h' ha.1 hb.1 la lb).mono ?_
  rintro V1 r ⟨hle,s,o,f'',rfl,hL,hO,hc,hv,hlen⟩
  refine⟨fun _=>hle,s,rfl,(cI_signed V1 c0 s).mono ?_⟩
  rintro V2 r ⟨rfl,rfl⟩
  obtain⟨q1,q2⟩:=fin c0 s o hc hL.1
  refine⟨fun _=>Know.le.refl _,_,rfl,hle,_,s,o,f'',rfl,hL,hO,hc,?_,q2,hlen⟩
  rw [q1]
  unfold sval
  cases c0 <;> simp <;> omega
 ·have hcd:c0=!d0:=by
   cases c0 <;> cases d0 <;> simp_all
  refine(cI_natCmp V c1 d1 a b f g h h').mono ?_
  rintro V0 r ⟨rfl,rfl⟩
  have hcmp:=cmpL_val ha hb
  refine⟨nofun,_,rfl,fun hlt=>?_,fun hge=>?_⟩
  ·have hlt':cmpL a b<0:=of_decide_eq_true hlt
   have hv0:valN a<valN b:=by
    rcases hcmp with ⟨c,k⟩ | ⟨c,k⟩ | ⟨c,k⟩ <;> omega
   refine(cI_natSub V0 d1 c1 b a g f h' h hb.1 ha.1 lb (can_len hb ha (by omega)) (by omega)).mono ?_
   rintro V1 r ⟨hle,s,o,f'',rfl,hL,hO,hc,hv,hlen⟩
   refine⟨fun _=>hle,s,rfl,(cI_signed V1 d0 s).mono ?_⟩
   rintro V2 r ⟨rfl,rfl⟩
   obtain⟨q1,q2⟩:=fin d0 s o hc hL.1
   refine⟨fun _=>Know.le.refl _,_,rfl,hle,_,s,o,f'',rfl,hL,hO,hc,?_,q2,by omega⟩
   rw [q1]
   unfold sval
   subst hcd
   cases d0 <;> simp <;> omega
  ·have hge':¬ cmpL a b<0:=of_decide_eq_false hge
   have hv0:valN b≤valN a:=by
    rcases hcmp with ⟨c,k⟩ | ⟨c,k⟩ | ⟨c,k⟩ <;> omega
   refine(cI_natSub V0 c1 d1 a b f g h h' ha.1 hb.1 la (can_len ha hb hv0) hv0).mono ?_
   rintro V1 r ⟨hle,s,o,f'',rfl,hL,hO,hc,hv,hlen⟩
   refine⟨fun _=>hle,s,rfl,(cI_signed V1 c0 s).mono ?_⟩
   rintro V2 r ⟨rfl,rfl⟩
   obtain⟨q1,q2⟩:=fin c0 s o hc hL.1
   refine⟨fun _=>Know.le.refl _,_,rfl,hle,_,s,o,f'',rfl,hL,hO,hc,?_,q2,by omega⟩
   rw [q1]
   unfold sval
   subst hcd
   cases d0 <;> simp <;> omega
theorem cI_intSign (V:Know) (c0:Bool) (c1:SlV) (l:List Lim) (f:List Nat) (h:LR rI V c1 l f) (hc:Can l):CallX Tryz.prog V 148 [qv1 (c0,c1,())] (fun V' r=>V'=V∧r=.int .i64 (sgn (sval c0 l))):=by
 refine CallX.of_fits Tryz.mix (fI_intSign _) fun _=>?_
 simp only [tI_intSign,T.wp]
 have hn:=h.1
 have h0:=can_empty hc
 have h1:=valN_nonneg hc.1
 refine⟨fun hz=>⟨by trivial,?_⟩,fun hz=>⟨fun hneg=>⟨by trivial,?_⟩,fun hpos=>⟨by trivial,?_⟩⟩⟩
 ·have:(c1.n:Int)=0:=by simpa using hz
  have:valN l=0:=h0.1 (by omega)
  simp [sval,this,sgn,packed]
 ·have:¬ (c1.n:Int)=0:=by simpa using hz
  have:valN l≠0:=fun e=>by have:=h0.2 e; omega
  have hc0:c0=true:=hneg
  subst hc0
  have e:sgn (sval true l)=-1:=by unfold sgn sval; simp; omega
  rw [e]; rfl
 ·have:¬ (c1.n:Int)=0:=by simpa using hz
  have:valN l≠0:=fun e=>by have:=h0.2 e; omega
  have hc0:c0=false:=hpos
  subst hc0
  have e:sgn (sval false l)=1:=by unfold sgn sval; simp; omega
  rw [e]; rfl
theorem cI_intCmp (V:Know) (c0:Bool) (c1:SlV) (d0:Bool) (d1:SlV) (a b:List Lim) (f g:List Nat) (h:LR rI V c1 a f) (h':LR rI V d1 b g) (ha:Can a) (hb:Can b) (la:a.length≤1000000) (lb:b.length≤1000000) :
  CallX Tryz.prog V 179 [qv1 (c0,c1,()),qv1 (d0,d1,())] (fun V' r=>V.le V'∧r=.int .i64 (sgn (sval c0 a-sval d0 b))):=by
 refine CallX.of_fits Tryz.mix (fI_intCmp _ _) fun _=>?_
 simp only [tI_intCmp,T.wp]
 refine(cI_intNeg V d0 d1 b g h' (by omega)).mono ?_
 rintro V1 r ⟨hle,s,f',rfl,hL,hO⟩
 refine⟨fun _=>hle,(!d0 && decide (0<b.length),s,()),rfl,?_⟩
 refine(cI_intAdd V1 c0 c1 (!d0 && decide (0<b.length)) s a b f f' (h.le hle) hL ha hb la lb).mono ?_
 rintro V2 r ⟨hle2,e,s2,o,f2,rfl,hL2,hO2,hc,hv,_,hlen⟩
 refine⟨fun _=>hle2,(e,s2,()),rfl,(cI_intSign V2 e s2 o f2 hL2 hc).mono ?_⟩
 rintro V3 r ⟨rfl,rfl⟩
 refine⟨fun _=>Know.le.refl _,_,rfl,hle.trans hle2,?_⟩
 have hz:=can_pos hb
 have h0:=valN_nonneg hb.1
 have:sval (!d0 && decide (0<b.length)) b=- sval d0 b:=by
  cases d0 with
  | true=>simp [sval]
  | false =>
   by_cases hp:0<b.length
   ·simp [sval,hp]
   ·have:valN b=0:=by omega
    simp [sval,this]
 rw [hv,this,← Int.sub_eq_add_neg]
 rfl
theorem cmp_sgn {x y:Int} {c:Int} (h:Cmps c x y):c=sgn (x-y):=by
 unfold sgn
 rcases h with ⟨rfl,h⟩ | ⟨rfl,h⟩ | ⟨rfl,h⟩
 ·rw [if_pos (by omega)]
 ·rw [if_neg (by omega),if_pos (by omega)]
 ·rw [if_neg (by omega),if_neg (by omega)]
theorem cS_IntCmp (V:Know) (c0:Bool) (c1:SlV) (d0:Bool) (d1:SlV) (a b:List Lim) (f g:List Nat) (h:LR rI V c1 a f) (h':LR rI V d1 b g) (ha:IntOkP c0 a) (hb:IntOkP d0 b) :
  CallX Tryz.prog V 118 [qv1 (c0,c1,()),qv1 (d0,d1,())] (fun V' r=>V'=V∧r=.int .i64 (sgn (sval c0 a-sval d0 b))):=by
 refine CallX.of_fits Tryz.mix (fS_IntCmp _ _) fun _=>?_
 simp only [tS_IntCmp,T.wp]
 have na:=valN_nonneg ha.1.1.1
 have nb:=valN_nonneg hb.1.1.1
 have pa:=can_pos ha.1.1
 have pb:=can_pos hb.1.1
 refine(cS_IntOk V c0 c1 a f h).mono ?_
 rintro V1 r ⟨rfl,e,rfl,he⟩
 have he1:=he.2 ha
 subst he1
 refine⟨nofun,true,rfl,nofun,fun _=>(cS_IntOk V1 d0 d1 b g h').mono ?_⟩
 rintro V2 r ⟨rfl,e,rfl,he2⟩
 have he2:=he2.2 hb
 subst he2
 refine⟨nofun,true,rfl,nofun,fun _=>?_⟩
 have fwd:∀ {K:Know→Value→Prop},(∀ r,r=.int .i64 (sgn (valN a-valN b))→K V2 r)→CallX Tryz.prog V2 150 [Sc.val .l c1,Sc.val .l d1] K:=fun hK=>(cS_l02Cmp V2 c1 d1 a b f g h h').mono (by
  rintro V' r ⟨rfl,rfl⟩
  exact hK _ (by rw [cmp_sgn (cmpL_val ha.1.1 hb.1.1)]))
 have bwd:∀ {K:Know→Value→Prop},(∀ r,r=.int .i64 (sgn (valN b-valN a))→K V2 r)→CallX Tryz.prog V2 150 [Sc.val .l d1,Sc.val .l c1] K:=fun hK=>(cS_l02Cmp V2 d1 c1 b a g f h' h).mono (by
  rintro V' r ⟨rfl,rfl⟩
  exact hK _ (by rw [cmp_sgn (cmpL_val hb.1.1 ha.1.1)]))
 cases c0 with
 | true =>
  have a1:=pa.1 (ha.2 rfl)
  cases d0 with
  | true =>
   refine⟨fun _=>⟨nofun,fun _=>⟨nofun,fun _=>⟨fun _=>bwd ?_,nofun⟩⟩⟩,nofun⟩
   rintro r rfl
   refine⟨nofun,_,rfl,by trivial,?_⟩
   have:sval true a-sval true b=valN b-valN a:=by simp [sval]; omega
   rw [this]; rfl
  | false =>
   refine⟨fun _=>⟨fun _=>⟨by trivial,?_⟩,nofun⟩,nofun⟩
   have:sgn (sval true a-sval false b)=-1:=by unfold sgn sval; simp; omega
   rw [this]; rfl
 | false =>
  cases d0 with
  | true =>
   have b1:=pb.1 (hb.2 rfl)
   refine⟨nofun,fun _=>⟨fun _=>⟨fun _=>⟨by trivial,?_⟩,nofun⟩,nofun⟩⟩
   have:sgn (sval false a-sval true b)=1:=by unfold sgn sval; simp; omega
   rw [this]; rfl
  | false =>
   refine⟨nofun,fun _=>⟨fun _=>⟨nofun,fun _=>⟨nofun,fun _=>fwd ?_⟩⟩,nofun⟩⟩
   rintro r rfl
   exact⟨nofun,_,rfl,by trivial,rfl⟩
end Go.Proofs.YtpkmhkbkohppiaaGreatDoor
