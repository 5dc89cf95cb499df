/-
  DoPut, DoTake and DoMove, in the program and in the reference. DoPut, DoTake and DoMove, in the program and in the reference.
-/
import Derived.Test.YtccnjccabllcaaaGreatDoorLegs
namespace Go.Proofs.YtccnjccabllcaaaGreatDoor
open Sx
set_option maxRecDepth 100000
def PayP (x:DMoney):Prop:=MonP x∧x.2.1=false
abbrev BoolPost (V:Know) (p:Prop):Know→Value→Prop:=fun V' r=>V.le V'∧∃ e,r=.bool e∧(e=true↔p)
theorem cI_payable {V:Know} (hV:HcI V) (c:Scs MonSh) (x:DMoney) (f:List Nat) (h:rMoney.R V c x f):CallX Tryz.prog V gI_payable [Sh1.val (.g [.s,.b,.l]) c] (BoolPost V (PayP x)):=by
 refine CallX.of_fits Tryz.mix (fI_payable _) fun _=>?_
 obtain⟨s,rfl,hl,_⟩:=mon_elim h
 simp only [tI_payable,T.wp]
 refine(cI_MoneyOk hV x.1 x.2.1 s x.2.2.1 f hl).mono ?_
 rintro V1 _ ⟨le1,e,rfl,he⟩
 refine⟨nofun,e,rfl,fun ht=>⟨le1,_,rfl,?_⟩,fun hf=>⟨le1,_,rfl,?_⟩⟩
 ·have:e=true:=ht
  rw [Bool.not_eq_true']
  exact⟨fun k=>⟨he.1 this,k⟩,fun k=>k.2⟩
 ·exact⟨(fun k=>by cases k),(fun k=>by rw [he.2 k.1] at hf; cases hf)⟩
theorem cS_l21Money {V:Know} (c:Scs MonSh) (x:DMoney) (f:List Nat) (h:rMoney.R V c x f):CallX Tryz.prog V gS_l21Money [Sh1.val (.g [.s,.b,.l]) c] (BoolPost V (PayP x)):=by
 refine CallX.of_fits Tryz.mix (fS_l21Money _) fun _=>?_
 obtain⟨s,rfl,hl,_⟩:=mon_elim h
 simp only [tS_l21Money,T.wp]
 refine(cS_MoneyOk x.1 x.2.1 s x.2.2.1 f hl).mono ?_
 rintro V1 _ ⟨le1,e,rfl,he⟩
 refine⟨nofun,e,rfl,fun ht=>⟨le1,_,rfl,?_⟩,fun hf=>⟨le1,_,rfl,?_⟩⟩
 ·have:e=true:=ht
  rw [Bool.not_eq_true']
  exact⟨fun k=>⟨he.1 this,k⟩,fun k=>k.2⟩
 ·exact⟨(fun k=>by cases k),(fun k=>by rw [he.2 k.1] at hf; cases hf)⟩
def negM (x:DMoney):DMoney:=(x.1,(!x.2.1 && decide (0<x.2.2.1.length)),x.2.2.1,())
abbrev MonPost (V:Know) (x:DMoney):Know→Value→Prop:=fun V' v=>V.le V'∧∃ c f,v=Sh1.val (.g [.s,.b,.l]) c∧rMoney.R V' c x f∧Own V V' f
theorem cI_minus (V:Know) (c:Scs MonSh) (x:DMoney) (f:List Nat) (h:rMoney.R V c x f) (hl:x.2.2.1.length≤1048576):CallX Tryz.prog V gI_minus [Sh1.val (.g [.s,.b,.l]) c] (MonPost V (negM x)):=by
 refine CallX.of_fits Tryz.mix (fI_minus _) fun _=>?_
 obtain⟨s,rfl,hl',z⟩:=mon_elim h
 simp only [tI_minus,T.wp]
 refine(cI_intNeg V x.2.1 s x.2.2.1 f hl' hl).mono ?_
 rintro V1 _ ⟨le1,s1,f1,rfl,L1,O1⟩
 exact⟨fun _=>le1,_,rfl,le1,(x.1,_,s1,()),f1,rfl,mon_mk z L1,O1⟩
theorem cS_l21Less (V:Know) (c:Scs MonSh) (x:DMoney) (f:List Nat) (h:rMoney.R V c x f) (ok:MonP x):CallX Tryz.prog V gS_l21Less [Sh1.val (.g [.s,.b,.l]) c] (MonPost V (negM x)):=by
 refine CallX.of_fits Tryz.mix (fS_l21Less _) fun _=>?_
 obtain⟨s,rfl,hl',z⟩:=mon_elim h
 simp only [tS_l21Less,T.wp]
 refine(rS_IntNeg V x.2.1 s x.2.2.1 f hl' ok.2.1).mono ?_
 rintro V1 _ ⟨le1,s1,f1,rfl,L1,O1⟩
 exact⟨fun _=>le1,_,rfl,le1,(x.1,_,s1,()),f1,rfl,mon_mk z L1,O1⟩
theorem cI_areNames (V:Know) (t:SlV) (ns:List (ByteArray × Unit)) (g:List Nat) (hs:LR rNm V t ns g) (hz:∀ i (h:i<ns.length),ns[i].1.size≤9223372036854775807) :
  CallX Tryz.prog V gI_areNames [Sc.val .l t] (BoolPost V (∀ i (h:i<ns.length),WordP ns[i].1)):=by
 refine CallX.of_fits Tryz.mix (fI_areNames _) fun _=>?_
 have hn:=hs.1
 have h63:=hs.2.2.1
 rw [tI_areNames]
 refine each_wp () (fun i=>∀ (h:i<ns.length),WordP ns[i].1) [.bool false] (n:=t.n) h63 (fun V1 i N le1 hi hbad hgo=>?_) (fun V1 le1 hall N=>?_) (fun V1 i le1 hi hne=>?_)
 ·have hi2:i<ns.length:=by omega
  obtain⟨b,o,a1,l1⟩:=nm_at (hs.le le1) hi2
  have e0:(i:Int).toNat=i:=by omega
  simp only [T.wp]
  rw [e0]
  refine⟨_,a1,by omega,by omega,ns[i].1,l1,(cI_IsWord V1 ns[i].1 (hz i hi2)).mono ?_⟩
  rintro V2 _ ⟨rfl,e,rfl,he⟩
  refine⟨nofun,e,rfl,fun hf=>hbad V2 (Know.le.refl _) fun k=>?_,fun ht=>⟨_,rfl,hgo V2 (Know.le.refl _) fun _=>he.1 (by simpa using ht)⟩⟩
  rw [he.2 (k hi2)] at hf; cases hf
 ·exact⟨le1,true,rfl,fun _ i hi=>hall i (by omega) hi,fun _=>rfl⟩
 ·exact⟨le1,false,rfl,(fun k=>by cases k),fun k=>absurd (fun h=>k i h) hne⟩
theorem lr_new {sh:List Sc} {α:Type} {r:Rp sh α} {V:Know} {b n cap:Nat} {cs:List (Scs sh)} {l:List α} {fps:List Nat} {post:List Value} {t:KTy} (h:Els r V cs l fps) (hb:V b=some (cs.flatMap (Scs.vals sh)++post,t)) (hn:n=l.length) (hc:l.length≤cap) (hl:l.length≤9223372036854775807) :
  LR r V ⟨some ⟨b,0,none⟩,n,cap⟩ l (b :: fps):=by
 subst hn
 exact⟨rfl,hc,hl,.inr ⟨b,[],post,t,fps,cs,rfl,by simpa using hb,h,rfl⟩⟩
theorem els_nm {V:Know}:∀ {ns:List ByteArray},(∀ n∈ns,n.size≤9223372036854775807)→Els rNm V (ns.map fun n=>(n,())) (ns.map fun n=>(n,())) []
 | [],_=>rfl
 | n :: ns,h=>⟨[],[],rfl,⟨⟨rfl,h n (by simp)⟩,rfl⟩,els_nm fun m hm=>h m (by simp [hm])⟩
open Classical in
noncomputable def addRun (x:DLedger) (n:ByteArray) (m:DMoney) (take:Bool):DLedger × Int:=if WordP n∧PayP m then legsP x [(n,if take=true then negM m else m)] else (zeroL,1)
theorem addRun_no {x:DLedger} {n:ByteArray} {m:DMoney} {take:Bool} (h:¬ (WordP n∧PayP m)):addRun x n m take=(zeroL,1):=if_neg h
theorem addRun_ok {x:DLedger} {n:ByteArray} {m:DMoney} {take:Bool} (h:WordP n∧PayP m):addRun x n m take=legsP x [(n,if take=true then negM m else m)]:=if_pos h
open Classical in
noncomputable def moveRun (x:DLedger) (a b:ByteArray) (m:DMoney):DLedger × Int:=if (WordP a∧WordP b)∧PayP m then legsP x [(a,negM m),(b,m)] else (zeroL,1)
theorem moveRun_no {x:DLedger} {a b:ByteArray} {m:DMoney} (h:¬ ((WordP a∧WordP b)∧PayP m)):moveRun x a b m=(zeroL,1):=if_neg h
theorem moveRun_ok {x:DLedger} {a b:ByteArray} {m:DMoney} (h:(WordP a∧WordP b)∧PayP m):moveRun x a b m=legsP x [(a,negM m),(b,m)]:=if_pos h
theorem legs_fits {x:DLedger} {c:ByteArray} {legs:List DAcct} (hc:∀ g∈legs,g.2.1=c):legsP x legs=if fitsP x.1 c (legs.map (·.1))≠0 then (zeroL,fitsP x.1 c (legs.map (·.1))) else postP x legs:=by
 have e1:(∃ n∈legs.map (·.1),fnd n x.1=none)↔∃ g∈legs,fnd g.1 x.1=none:=by simp
 have e2:(∃ n∈legs.map (·.1),(balP x.1 n).1≠c)↔∃ g∈legs,(balP x.1 g.1).1≠g.2.1:=by
  constructor
  ·rintro⟨n,hn,hp⟩
   obtain⟨g,hg,rfl⟩:=List.mem_map.1 hn
   exact⟨g,hg,by rw [hc g hg]; exact hp⟩
  ·rintro⟨g,hg,hp⟩
   exact⟨g.1,List.mem_map_of_mem hg,by rw [← hc g hg]; exact hp⟩
 unfold legsP fitsP
 by_cases h1:∃ g∈legs,fnd g.1 x.1=none
 ·rw [if_pos h1,if_pos (e1.2 h1)]; simp
 ·rw [if_neg h1,if_neg (fun k=>h1 (e1.1 k))]
  by_cases h2:∃ g∈legs,(balP x.1 g.1).1≠g.2.1
  ·rw [if_pos h2,if_pos (e2.2 h2)]; simp
  ·rw [if_neg h2,if_neg (fun k=>h2 (e2.1 k))]; simp
theorem postP_ans {x:DLedger} {legs:List DAcct}:(postP x legs).2≠0→(postP x legs).1=zeroL:=by
 unfold postP
 cases postL x.1 legs with
 | none=>intro _; rfl
 | some l=>intro h; exact absurd rfl h
theorem legsP_zero {x:DLedger} {legs:List DAcct}:(legsP x legs).2≠0→(legsP x legs).1=zeroL:=by
 unfold legsP
 split
 ·intro _; rfl
 ·split
  ·intro _; rfl
  ·exact postP_ans
theorem addRun_zero {x:DLedger} {n:ByteArray} {m:DMoney} {take:Bool}:(addRun x n m take).2≠0→(addRun x n m take).1=zeroL:=by
 unfold addRun
 split
 ·exact legsP_zero
 ·intro _; rfl
theorem moveRun_zero {x:DLedger} {a b:ByteArray} {m:DMoney}:(moveRun x a b m).2≠0→(moveRun x a b m).1=zeroL:=by
 unfold moveRun
 split
 ·exact legsP_zero
 ·intro _; rfl
theorem cI_opAdd {V0 V:Know} (hV:HcI V) (c:Scs LedSh) (x:DLedger) (f:List Nat) (h:rLedger.R V c x f) (ht:rLedger.tot x≤1048576) (O:Own V0 V f) (le0:V0.le V) (n:ByteArray) (hz:n.size≤9223372036854775807) (cm:Scs MonSh) (m:DMoney) (g:List Nat) (hm:rMoney.R V cm m g) (take:Bool) :
  CallX Tryz.prog V gI_opAdd__run [Sh1.val (.g [.s,.s,.b,.l,.b]) (n,cm.1,cm.2.1,cm.2.2.1,take,()),Sh1.val (.g [.l,.l,.s,.l]) c] (fun V' v=>V.le V'∧DoPost V0 (addRun x n m take) V' v):=by
 refine CallX.of_fits Tryz.mix (fI_opAdd__run _ _) fun _=>?_
 obtain⟨s,rfl,hl,z0⟩:=mon_elim hm
 simp only [tI_opAdd__run,T.wp]
 refine(cI_IsWord V n hz).mono ?_
 rintro V1 _ ⟨rfl,e1,rfl,he1⟩
 refine⟨nofun,e1,rfl,fun hf=>?_,fun k1=>?_⟩
 ·rw [addRun_no (fun k=>by rw [he1.2 k.1] at hf; cases hf)]
  exact⟨Know.le.refl _,do_zero le0 1⟩
 have w1:=he1.1 (by simpa using k1)
 refine(cI_payable hV (m.1,m.2.1,s,()) m g hm).mono ?_
 rintro V2 _ ⟨le2,e2,rfl,he2⟩
 refine⟨nofun,e2,rfl,fun hf=>?_,fun k2=>?_⟩
 ·rw [addRun_no (fun k=>by rw [he2.2 k.2] at hf; cases hf)]
  exact⟨le2,do_zero (le0.trans le2) 1⟩
 have w2:=he2.1 (by simpa using k2)
 rw [addRun_ok ⟨w1,w2⟩]
 intro b3 c3 sp3 hb3 hc3 _
 have q3:=kset_le (x:=([Value.string n]++sp3,((9:TypeId),((0,0):Nat × Nat)))) hb3
 have l3:=le2.trans q3
 refine(cI_fits _ c x f (rLedger.le h l3) ht m.1 ⟨some ⟨b3,0,none⟩,1,c3⟩ [(n,())] [b3] (lr_new (fps:=[]) (els_nm (ns:=[n]) (fun k hk=>by
  obtain rfl:k=n:=by simpa using hk
  exact hz)) kset_same rfl hc3 (by simp))).mono ?_
 rintro V4 _ ⟨le4,rfl⟩
 have l4:=l3.trans le4
 have hcur:∀ y:DMoney,y.1=m.1→legsP x [(n,y)]=if fitsP x.1 m.1 [n]≠0 then (zeroL,fitsP x.1 m.1 [n]) else postP x [(n,y)]:=fun y hy=>legs_fits (legs:=[(n,y)]) (fun g hg=>by
  obtain rfl:g=(n,y):=by simpa using hg
  exact hy)
 refine⟨nofun,_,rfl,fun hne=>?_,fun he=>?_⟩
 ·have hne':fitsP x.1 m.1 [n]≠0:=by simpa using hne
  rw [hcur _ (by cases take <;> rfl),if_pos hne']
  exact⟨l4,do_zero (le0.trans l4) _⟩
 have he':¬ fitsP x.1 m.1 [n]≠0:=by simpa using he
 rw [hcur _ (by cases take <;> rfl),if_neg he']
 have fin:∀ {V5:Know} {cy:Scs MonSh} {y:DMoney} {fy:List Nat},V1.le V5→rMoney.R V5 cy y fy→∀ b cp sp,V5 b=none→1≤cp→CallX Tryz.prog (kset V5 b ([.string n,.string cy.1,.bool cy.2.1,.slice cy.2.2.1.a cy.2.2.1.n cy.2.2.1.c]++sp,(111,(0,0)))) gI_post [Sh1.val (.g [.l,.l,.s,.l]) c,.slice (some ⟨b,0,none⟩) 1 cp] (fun V' v=>V5.le V'∧DoPost V0 (postP x [(n,y)]) V' v):=by
  intro V5 cy y fy l5 hy b cp sp hb hcp
  have q:=kset_le (x:=([Value.string n,.string cy.1,.bool cy.2.1,.slice cy.2.2.1.a cy.2.2.1.n cy.2.2.1.c]++sp,((111:TypeId),((0,0):Nat × Nat)))) hb
  have l6:=l5.trans q
  have hel:Els rAcct _ [((n,cy):Scs [.s,.s,.b,.l])] [((n,y):DAcct)] (fy++[]):=⟨fy,[],rfl,⟨⟨rfl,hz⟩,rMoney.le hy q⟩,rfl⟩
  refine(cI_post (V0:=V0) (hV.le l6) c x f (rLedger.le h l6) (O.post l6) (le0.trans l6) ⟨some ⟨b,0,none⟩,1,cp⟩ [(n,y)] _ (lr_new hel kset_same rfl hcp (by simp))).mono ?_
  rintro V7 _ ⟨le7,h7⟩
  exact⟨q.trans le7,h7⟩
 refine⟨fun htk=>?_,fun htk=>?_⟩
 ·have htk':take=true:=htk
  subst htk'
  refine(cI_minus V4 (m.1,m.2.1,s,()) m g (rMoney.le hm l4) (by have:=w2.1.2.2; omega)).mono ?_
  rintro V5 _ ⟨le5,cy,fy,rfl,Ry,_⟩
  have l5:=l4.trans le5
  refine⟨nofun,cy,rfl,fun b cp sp hb hcp _=>(fin l5 Ry b cp sp hb hcp).mono ?_⟩
  rintro V6 _ ⟨le6,le06,c6,f6,rfl,R6,O6⟩
  exact⟨nofun,(c6,_,()),rfl,l5.trans le6,le06,c6,f6,rfl,R6,O6⟩
 ·have htk':take=false:=htk
  subst htk'
  intro b cp sp hb hcp _
  refine(fin l4 (rMoney.le hm l4) b cp sp hb hcp).mono ?_
  rintro V6 _ ⟨le6,le06,c6,f6,rfl,R6,O6⟩
  exact⟨nofun,(c6,_,()),rfl,l4.trans le6,le06,c6,f6,rfl,R6,O6⟩
theorem cI_opMove {V0 V:Know} (hV:HcI V) (c:Scs LedSh) (x:DLedger) (f:List Nat) (h:rLedger.R V c x f) (ht:rLedger.tot x≤1048576) (O:Own V0 V f) (le0:V0.le V) (a b:ByteArray) (ha:a.size≤9223372036854775807) (hb:b.size≤9223372036854775807) (cm:Scs MonSh) (m:DMoney) (g:List Nat) (hm:rMoney.R V cm m g) :
  CallX Tryz.prog V gI_opMove__run [Sh1.val (.g [.s,.s,.s,.b,.l]) (a,b,cm.1,cm.2.1,cm.2.2.1,()),Sh1.val (.g [.l,.l,.s,.l]) c] (fun V' v=>V.le V'∧DoPost V0 (moveRun x a b m) V' v):=by
 refine CallX.of_fits Tryz.mix (fI_opMove__run _ _) fun _=>?_
 obtain⟨s,rfl,hl,z0⟩:=mon_elim hm
 simp only [tI_opMove__run,T.wp]
 have hsz:∀ k∈[a,b],k.size≤9223372036854775807:=fun k hk=>by
  simp only [List.mem_cons,List.not_mem_nil,or_false] at hk
  rcases hk with rfl | rfl
  ·exact ha
  ·exact hb
 intro b1 c1 sp1 hb1 hc1 _
 have q1:=kset_le (x:=([Value.string a,Value.string b]++sp1,((9:TypeId),((0,0):Nat × Nat)))) hb1
 refine(cI_areNames _ ⟨some ⟨b1,0,none⟩,2,c1⟩ [(a,()),(b,())] [b1] (lr_new (fps:=[]) (els_nm (ns:=[a,b]) hsz) kset_same rfl hc1 (by simp)) (fun i hi=>by
  match i,hi with
  | 0,_=>exact ha
  | 1,_=>exact hb)).mono ?_
 rintro V1 _ ⟨le1,e1,rfl,he1⟩
 have l1:=q1.trans le1
 refine⟨nofun,e1,rfl,fun hf=>?_,fun k1=>?_⟩
 ·rw [moveRun_no (fun k=>by
   rw [he1.2 (fun i hi=>by
    match i,hi with
    | 0,_=>exact k.1.1
    | 1,_=>exact k.1.2)] at hf
   cases hf)]
  exact⟨l1,do_zero (le0.trans l1) 1⟩
 have w1:=he1.1 (by simpa using k1)
 have wa:WordP a:=w1 0 (by simp)
 have wb:WordP b:=w1 1 (by simp)
 refine(cI_payable (hV.le l1) (m.1,m.2.1,s,()) m g (rMoney.le hm l1)).mono ?_
 rintro V2 _ ⟨le2,e2,rfl,he2⟩
 have l2:=l1.trans le2
 refine⟨nofun,e2,rfl,fun hf=>?_,fun k2=>?_⟩
 ·rw [moveRun_no (fun k=>by rw [he2.2 k.2] at hf; cases hf)]
  exact⟨l2,do_zero (le0.trans l2) 1⟩
 have w2:=he2.1 (by simpa using k2)
 rw [moveRun_ok ⟨⟨wa,wb⟩,w2⟩]
 intro b3 c3 sp3 hb3 hc3 _
 have q3:=kset_le (x:=([Value.string a,Value.string b]++sp3,((9:TypeId),((0,0):Nat × Nat)))) hb3
 have l3:=l2.trans q3
 refine(cI_fits _ c x f (rLedger.le h l3) ht m.1 ⟨some ⟨b3,0,none⟩,2,c3⟩ [(a,()),(b,())] [b3] (lr_new (fps:=[]) (els_nm (ns:=[a,b]) hsz) kset_same rfl hc3 (by simp))).mono ?_
 rintro V4 _ ⟨le4,rfl⟩
 have l4:=l3.trans le4
 have hcur:legsP x [(a,negM m),(b,m)]=if fitsP x.1 m.1 [a,b]≠0 then (zeroL,fitsP x.1 m.1 [a,b]) else postP x [(a,negM m),(b,m)]:=legs_fits (legs:=[(a,negM m),(b,m)]) (fun g hg=>by
  simp only [List.mem_cons,List.not_mem_nil,or_false] at hg
  rcases hg with rfl | rfl <;> rfl)
 refine⟨nofun,_,rfl,fun hne=>?_,fun he=>?_⟩
 ·have hne':fitsP x.1 m.1 [a,b]≠0:=by simpa using hne
  rw [hcur,if_pos hne']
  exact⟨l4,do_zero (le0.trans l4) _⟩
 have he':¬ fitsP x.1 m.1 [a,b]≠0:=by simpa using he
 rw [hcur,if_neg he']
 refine(cI_minus V4 (m.1,m.2.1,s,()) m g (rMoney.le hm l4) (by have:=w2.1.2.2; omega)).mono ?_
 rintro V5 _ ⟨le5,cy,fy,rfl,Ry,_⟩
 have l5:=l4.trans le5
 refine⟨fun _=>le5,cy,rfl,fun b7 hb7=>?_⟩
 have q7:=kset_le (x:=([Value.string a,.string cy.1,.bool cy.2.1,Sc.val .l cy.2.2.1,.string b,.string m.1,.bool m.2.1,Sc.val .l s],((111:TypeId),((0,0):Nat × Nat)))) hb7
 have l7:=l5.trans q7
 have hel:Els rAcct _ [((a,cy):Scs [.s,.s,.b,.l]),((b,m.1,m.2.1,s,()):Scs [.s,.s,.b,.l])] [((a,negM m):DAcct),(b,m)] (fy++(g++[])):=⟨fy,g++[],rfl,⟨⟨rfl,ha⟩,rMoney.le Ry q7⟩,g,[],rfl,⟨⟨rfl,hb⟩,rMoney.le hm l7⟩,rfl⟩
 refine(cI_post (V0:=V0) (hV.le l7) c x f (rLedger.le h l7) (O.post l7) (le0.trans l7) ⟨some ⟨b7,0,none⟩,2,2⟩ [(a,negM m),(b,m)] _ (lr_new (post:=[]) hel (by rw [kset_same]; rfl) rfl (by simp) (by simp))).mono ?_
 rintro V8 _ ⟨le8,le08,c8,f8,rfl,R8,O8⟩
 exact⟨fun _=>le8,(c8,_,()),rfl,l7.trans le8,le08,c8,f8,rfl,R8,O8⟩
theorem cI_perfAdd {V:Know} (hV:HcI V) (c:Scs LedSh) (x:DLedger) (f:List Nat) (h:rLedger.R V c x f) (ht:rLedger.tot x≤1048576) (n:ByteArray) (hz:n.size≤9223372036854775807) (cm:Scs MonSh) (m:DMoney) (g:List Nat) (hm:rMoney.R V cm m g) (take:Bool) :
  CallX Tryz.prog V gI_perform [Sh1.val (.g [.l,.l,.s,.l]) c,.iface 115 (Sh1.val (.g [.s,.s,.b,.l,.b]) (n,cm.1,cm.2.1,cm.2.2.1,take,()))] (DoPost V (perfP x (addRun x n m take))) :=
 CallX.of_fits Tryz.mix (fI_perform_opAdd c (n,cm.1,cm.2.1,cm.2.2.1,take,())) fun _=>perf_wp (g:=gI_opAdd__run) (o:=Sh1.val (.g [.s,.s,.b,.l,.b]) (n,cm.1,cm.2.1,cm.2.2.1,take,())) hV h ht (fun _ _ c1 f1 le1 R1 O1=>cI_opAdd (hV.le le1) c1 x f1 R1 ht O1 le1 n hz cm m g (rMoney.le hm le1) take) addRun_zero
theorem cI_DoPut {V:Know} (hV:HcI V) (c:Scs LedSh) (x:DLedger) (f:List Nat) (h:rLedger.R V c x f) (ht:rLedger.tot x≤1048576) (n:ByteArray) (hz:n.size≤9223372036854775807) (cm:Scs MonSh) (m:DMoney) (g:List Nat) (hm:rMoney.R V cm m g) :
  CallX Tryz.prog V gI_DoPut [Sh1.val (.g [.l,.l,.s,.l]) c,.string n,Sh1.val (.g [.s,.b,.l]) cm] (DoPost V (perfP x (addRun x n m false))):=by
 refine CallX.of_fits Tryz.mix (fI_DoPut _ _ _) fun _=>?_
 simp only [tI_DoPut,T.wp]
 refine(cI_perfAdd hV c x f h ht n hz cm m g hm false).mono ?_
 rintro V1 _ ⟨le1,c1,f1,rfl,R1,O1⟩
 exact⟨nofun,(c1,_,()),rfl,le1,c1,f1,rfl,R1,O1⟩
theorem cI_DoTake {V:Know} (hV:HcI V) (c:Scs LedSh) (x:DLedger) (f:List Nat) (h:rLedger.R V c x f) (ht:rLedger.tot x≤1048576) (n:ByteArray) (hz:n.size≤9223372036854775807) (cm:Scs MonSh) (m:DMoney) (g:List Nat) (hm:rMoney.R V cm m g) :
  CallX Tryz.prog V gI_DoTake [Sh1.val (.g [.l,.l,.s,.l]) c,.string n,Sh1.val (.g [.s,.b,.l]) cm] (DoPost V (perfP x (addRun x n m true))):=by
 refine CallX.of_fits Tryz.mix (fI_DoTake _ _ _) fun _=>?_
 simp only [tI_DoTake,T.wp]
 refine(cI_perfAdd hV c x f h ht n hz cm m g hm true).mono ?_
 rintro V1 _ ⟨le1,c1,f1,rfl,R1,O1⟩
 exact⟨nofun,(c1,_,()),rfl,le1,c1,f1,rfl,R1,O1⟩
theorem cI_DoMove {V:Know} (hV:HcI V) (c:Scs LedSh) (x:DLedger) (f:List Nat) (h:rLedger.R V c x f) (ht:rLedger.tot x≤1048576) (a b:ByteArray) (ha:a.size≤9223372036854775807) (hb:b.size≤9223372036854775807) (cm:Scs MonSh) (m:DMoney) (g:List Nat) (hm:rMoney.R V cm m g) :
  CallX Tryz.prog V gI_DoMove [Sh1.val (.g [.l,.l,.s,.l]) c,.string a,.string b,Sh1.val (.g [.s,.b,.l]) cm] (DoPost V (perfP x (moveRun x a b m))):=by
 refine CallX.of_fits Tryz.mix (fI_DoMove _ _ _ _) fun _=>?_
 simp only [tI_DoMove,T.wp]
 have key:CallX Tryz.prog V gI_perform [Sh1.val (.g [.l,.l,.s,.l]) c,.iface 120 (Sh1.val (.g [.s,.s,.s,.b,.l]) (a,b,cm.1,cm.2.1,cm.2.2.1,()))] (DoPost V (perfP x (moveRun x a b m))) :=
  CallX.of_fits Tryz.mix (fI_perform_opMove c (a,b,cm.1,cm.2.1,cm.2.2.1,())) fun _=>perf_wp (g:=gI_opMove__run) (o:=Sh1.val (.g [.s,.s,.s,.b,.l]) (a,b,cm.1,cm.2.1,cm.2.2.1,())) hV h ht (fun ok V1 c1 f1 le1 R1 O1=>cI_opMove (hV.le le1) c1 x f1 R1 ht O1 le1 a b ha hb cm m g (rMoney.le hm le1)) moveRun_zero
 refine key.mono ?_
 rintro V1 _ ⟨le1,c1,f1,rfl,R1,O1⟩
 exact⟨nofun,(c1,_,()),rfl,le1,c1,f1,rfl,R1,O1⟩
theorem legsP_acct {x:DLedger} {legs:List DAcct} (h:∃ g∈legs,fnd g.1 x.1=none):legsP x legs=(zeroL,3):=if_pos h
theorem legsP_match {x:DLedger} {legs:List DAcct} (h:¬ ∃ g∈legs,fnd g.1 x.1=none) (k:∃ g∈legs,(balP x.1 g.1).1≠g.2.1):legsP x legs=(zeroL,5):=(if_neg h).trans (if_pos k)
theorem legsP_post {x:DLedger} {legs:List DAcct} (h:¬ ∃ g∈legs,fnd g.1 x.1=none) (k:¬ ∃ g∈legs,(balP x.1 g.1).1≠g.2.1):legsP x legs=postP x legs:=(if_neg h).trans (if_neg k)
theorem legs_ex {p:DAcct→Prop} {legs:List DAcct}:(∃ g∈legs,p g)↔∃ (i:Nat) (h:i<legs.length),p legs[i]:=by
 constructor
 ·rintro⟨g,hg,hp⟩
  obtain⟨i,hi,rfl⟩:=List.mem_iff_getElem.1 hg
  exact⟨i,hi,hp⟩
 ·rintro⟨i,hi,hp⟩
  exact⟨_,List.getElem_mem hi,hp⟩
theorem cS_l21Legs {V:Know} (_:HcS V) (c:Scs LedSh) (x:DLedger) (f:List Nat) (h:rLedger.R V c x f) (ht:rLedger.tot x≤1048576) (t:SlV) (legs:List DAcct) (g:List Nat) (hs:LR rAcct V t legs g) :
  CallX Tryz.prog V gS_l21Legs [Sh1.val (.g [.l,.l,.s,.l]) c,Sc.val .l t] (DoS V (legsP x legs)):=by
 refine CallX.of_fits Tryz.mix (fS_l21Legs _ _) fun _=>?_
 obtain⟨s0,s1,s3,f0,f1,f3,rfl,L0,_,_⟩:=ledger_elim h
 have hn:=hs.1
 have hn0:=L0.1
 have h63:=hs.2.2.1
 rw [tS_l21Legs]
 refine each_wp (rest:=[.o (.o .l),.o (.o .l),.o (.o .s),.o (.o .l)]) (⟨none,0,0⟩,⟨none,0,0⟩,ByteArray.empty,⟨none,0,0⟩,()) (fun i=>∀ (h:i<legs.length),fnd legs[i].1 x.1≠none) [Sh1.val (.g [.l,.l,.s,.l]) zeroLC,.int .i64 3] (n:=t.n) h63 (fun V1 i N le1 hi hbad hgo=>?_) (fun V1 le1 hall N1=>?_) (fun V1 i le1 hi hne=>?_)
 ·have hi2:i<legs.length:=by omega
  obtain⟨b,o,cl,fc,a1,l1,hR,_⟩:=(hs.le le1).at hi2
  have en:cl.1=legs[i].1:=hR.1.1
  have e0:(i:Int).toNat=i:=by omega
  simp only [T.wp]
  rw [e0]
  refine⟨_,a1,by omega,by omega,cl,l1,(cS_AcctAt V1 s0 x.1 f0 (L0.le le1) cl.1).mono ?_⟩
  rintro V2 _ ⟨le2,rfl⟩
  rw [en]
  refine⟨nofun,_,rfl,fun hlt=>hbad V2 le2 fun k=>k hi2 (at_neg.1 (of_decide_eq_true hlt)),fun hge=>⟨_,rfl,hgo V2 le2 fun _ k=>(of_decide_eq_false hge) (at_neg.2 k)⟩⟩
 rotate_left
 ·have hf:fnd (legs[i]'(by omega)).1 x.1=none:=Decidable.not_not.1 fun k=>hne fun _=>k
  rw [legsP_acct (legs_ex.2 ⟨i,by omega,hf⟩)]
  exact doS_zero le1 3
 have hacct:¬ ∃ g∈legs,fnd g.1 x.1=none:=fun k=>by
  obtain⟨i,hi,e⟩:=legs_ex.1 k
  exact hall i (by omega) hi e
 refine each_wp (rest:=[.o (.o .l),.o (.o .l),.o (.o .s),.o (.o .l)]) (⟨none,0,0⟩,⟨none,0,0⟩,ByteArray.empty,⟨none,0,0⟩,()) (fun i=>∀ (h:i<legs.length),(balP x.1 legs[i].1).1=legs[i].2.1) [Sh1.val (.g [.l,.l,.s,.l]) zeroLC,.int .i64 5] (n:=t.n) h63 (fun V2 i N le2 hi hbad hgo=>?_) (fun V2 le2 hall2 N2=>?_) (fun V2 i le2 hi hne=>?_)
 ·have hi2:i<legs.length:=by omega
  have l2:=le1.trans le2
  obtain⟨b,o,cl,fc,a1,l1,hR,_⟩:=(hs.le l2).at hi2
  have en:cl.1=legs[i].1:=hR.1.1
  have ec:cl.2.1=legs[i].2.1:=hR.2.1.1
  have e0:(i:Int).toNat=i:=by omega
  simp only [T.wp]
  rw [e0]
  refine⟨_,a1,by omega,by omega,cl,l1,(cS_AcctAt V2 s0 x.1 f0 (L0.le l2) cl.1).mono ?_⟩
  rintro V3 _ ⟨le3,rfl⟩
  rw [en,ec]
  obtain⟨j,hj,hfj,hat,_⟩:=at_some (n:=legs[i].1) (l:=x.1) (fun k=>hall i (by omega) hi2 (at_neg.1 k))
  have e1:(j:Int).toNat=j:=by omega
  rw [hat]
  obtain⟨b2,o2,c2,fc2,a2,l2',hR2,_⟩:=(L0.le l2).at hj
  have e2:c2.2.1=x.1[j].2.1:=hR2.2.1.1
  refine⟨fun _=>le3,(j:Int),rfl,?_⟩
  rw [e1]
  refine⟨_,a2,by omega,(by show(j:Int)<(s0.n:Int); omega),c2.2.1,?_,fun hne=>hbad V3 le3 fun k=>?_,fun he=>⟨_,rfl,hgo V3 le3 fun _=>?_⟩⟩
  ·rw [if_pos trivial]
   exact load_part (load_part l2' (o:=1) (n:=3) rfl) (o:=0) (n:=1) rfl
  ·have:=text_eq.2 (e2.trans ((congrArg (·.1) (balP_some hfj hj)).symm.trans (k hi2)))
   rw [this] at hne; cases hne
  ·rw [balP_some hfj hj]
   exact e2.symm.trans (text_eq.1 (by simpa using he))
 rotate_left
 ·have l2:=le1.trans le2
  rw [legsP_match hacct (legs_ex.2 ⟨i,by omega,fun k=>hne fun _=>k⟩)]
  exact doS_zero l2 5
 have hcur:¬ ∃ g∈legs,(balP x.1 g.1).1≠g.2.1:=fun k=>by
  obtain⟨i,hi,e⟩:=legs_ex.1 k
  exact e (hall2 i (by omega) hi)
 have l2:=le1.trans le2
 rw [legsP_post hacct hcur]
 simp only [T.wp]
 refine(kS_l20Copy V2 _ x f (rLedger.le h l2) ht).mono ?_
 rintro V3 _ ⟨le3,c3,f3',rfl,R3⟩
 have l3:=l2.trans le3
 obtain⟨x0,x1,x2,x3,xu⟩:=x
 obtain⟨q0,q1,q2,q3,qu⟩:=c3
 obtain⟨k0,k0',rfl,r0,R3⟩:=R3
 obtain⟨k1,k1',rfl,r1,R3⟩:=R3
 obtain⟨⟨e2,z2⟩,R3⟩:=R3
 replace e2:q2=x2:=e2
 obtain⟨k3,k3',rfl,r3,hN⟩:=R3
 replace r0:LR rAcct V3 q0 x0 k0:=r0
 replace r1:LR rRest V3 q1 x1 k1:=r1
 replace r3:LR rRate V3 q3 x3 k3:=r3
 subst e2
 refine⟨nofun,(q0,q1,q2,q3,()),rfl,?_⟩
 refine⟨fun y V'=>V3.le V'∧y.2.1=⟨none,0,0⟩∧y.2.2.1=⟨none,0,0⟩∧y.2.2.2.1=ByteArray.empty∧y.2.2.2.2.1=⟨none,0,0⟩∧y.2.2.2.2.2.2=(q1,q2,q3,())∧∃ (k:Nat) (lk:List DAcct) (fk:List Nat),y.1=(k:Int)∧k≤legs.length∧LR rAcct V' y.2.2.2.2.2.1 lk fk∧postL x0 legs=postL lk (legs.drop k),
  fun y _=>((legs.length:Int)-(y.1:Int)).toNat,⟨((0:Int),⟨none,0,0⟩,⟨none,0,0⟩,ByteArray.empty,⟨none,0,0⟩,q0,q1,q2,q3,()),rfl,Know.le.refl _,rfl,rfl,rfl,rfl,rfl,0,x0,k0,rfl,Nat.zero_le _,r0,by simp⟩,?_⟩
 rintro⟨(i:Int),y1,y2,y3,y4,sk,y5,y6,y7,yu⟩ V4 ⟨le4,hy1,hy2,hy3,hy4,hy,k,lk,fk,hk,hkl,Lk,hp⟩
 replace hk:i=(k:Int):=hk
 replace hy1:y1=(⟨none,0,0⟩:SlV):=hy1
 replace hy2:y2=(⟨none,0,0⟩:SlV):=hy2
 replace hy3:y3=ByteArray.empty:=hy3
 replace hy4:y4=(⟨none,0,0⟩:SlV):=hy4
 subst hk hy1 hy2 hy3 hy4
 replace hy:(y5,y6,y7,yu)=(q1,q2,q3,()):=hy
 simp only [Prod.mk.injEq,and_true] at hy
 obtain⟨rfl,rfl,rfl⟩:=hy
 replace Lk:LR rAcct V4 sk lk fk:=Lk
 have l4:=l3.trans le4
 have e0:(k:Int).toNat=k:=by omega
 refine⟨fun hlt=>?_,fun hge=>?_⟩
 ·have hi:k<legs.length:=by
   have:(k:Int)<(t.n:Int):=of_decide_eq_true hlt
   omega
  obtain⟨b,o,cl,fc,a1,l1,hR,_⟩:=(hs.le l4).at hi
  dsimp only
  rw [e0]
  have en:cl.1=legs[k].1:=hR.1.1
  refine⟨_,a1,by omega,(by show(k:Int)<(t.n:Int); omega),cl,l1,(cS_BookPost (V:=V4) trivial sk lk fk Lk cl.1 cl.2 legs[k].2 fc hR.2).mono ?_⟩
  rintro V5 _ ⟨le5,s5,f5,rfl,L5,_⟩
  rw [en] at L5 ⊢
  obtain⟨⟨l',ok⟩,hpb⟩:∃ r,postB lk legs[k].1 legs[k].2=r:=⟨_,rfl⟩
  rw [hpb] at L5 ⊢
  rw [List.drop_eq_getElem_cons hi,postL_cons hpb] at hp
  refine⟨nofun,((s5,()),ok,()),rfl,fun hf=>?_,fun hT=>?_⟩
  ·have:ok=false:=by simpa using hf
   subst this
   rw [postP,hp]
   exact doS_zero (l4.trans le5) 8
  ·have:ok=true:=by simpa using hT
   subst this
   refine⟨_,rfl,(((k+1:Nat):Int),⟨none,0,0⟩,⟨none,0,0⟩,ByteArray.empty,⟨none,0,0⟩,s5,y5,y6,y7,()),by rw [nxt hi (by omega)]; rfl,⟨le4.trans le5,rfl,rfl,rfl,rfl,rfl,k+1,l',f5,rfl,hi,L5,hp⟩,?_⟩
   show((legs.length:Int)-((k+1:Nat):Int)).toNat<((legs.length:Int)-(k:Int)).toNat
   omega
 ·have hi:k=legs.length:=by
   have:¬ (k:Int)<(t.n:Int):=of_decide_eq_false hge
   omega
  subst hi
  rw [List.drop_length,postL] at hp
  rw [postP,hp]
  exact⟨l4,(sk,y5,y6,y7,()),fk++(k1++k3),rfl,ledger_mk (x:=(lk,x1,y6,x3,())) Lk (r1.le le4) rfl z2 (r3.le le4)⟩
theorem cS_DoPut {V:Know} (hV:HcS V) (c:Scs LedSh) (x:DLedger) (f:List Nat) (h:rLedger.R V c x f) (ht:rLedger.tot x≤1048576) (n:ByteArray) (hz:n.size≤9223372036854775807) (cm:Scs MonSh) (m:DMoney) (g:List Nat) (hm:rMoney.R V cm m g) :
  CallX Tryz.prog V gS_DoPut [Sh1.val (.g [.l,.l,.s,.l]) c,.string n,Sh1.val (.g [.s,.b,.l]) cm] (DoS V (perfP x (addRun x n m false))):=by
 refine CallX.of_fits Tryz.mix (fS_DoPut _ _ _) fun _=>?_
 obtain⟨s,rfl,hl,z0⟩:=mon_elim hm
 simp only [tS_DoPut,T.wp]
 refine(cS_LedgerOk hV c x f h).mono ?_
 rintro V1 _ ⟨le1,e1,rfl,he1⟩
 refine⟨nofun,e1,rfl,fun hf=>?_,fun k1=>?_⟩
 ·rw [perfP_no (fun k=>by rw [he1.2 k] at hf; cases hf)]
  exact doS_zero le1 1
 rw [perfP_ok (he1.1 (by simpa using k1))]
 refine(cS_IsWord V1 n hz).mono ?_
 rintro V2 _ ⟨rfl,e2,rfl,he2⟩
 refine⟨nofun,e2,rfl,fun hf=>?_,fun k2=>?_⟩
 ·rw [addRun_no (fun k=>by rw [he2.2 k.1] at hf; cases hf)]
  exact doS_zero le1 1
 refine(cS_l21Money (m.1,m.2.1,s,()) m g (rMoney.le hm le1)).mono ?_
 rintro V3 _ ⟨le3,e3,rfl,he3⟩
 have l3:=le1.trans le3
 refine⟨nofun,e3,rfl,fun hf=>?_,fun k3=>?_⟩
 ·rw [addRun_no (fun k=>by rw [he3.2 k.2] at hf; cases hf)]
  exact doS_zero l3 1
 rw [addRun_ok ⟨he2.1 (by simpa using k2),he3.1 (by simpa using k3)⟩]
 intro b cp sp hb hcp _
 have q:=kset_le (x:=([Value.string n,.string m.1,.bool m.2.1,Sc.val .l s]++sp,((111:TypeId),((0,0):Nat × Nat)))) hb
 have l4:=l3.trans q
 have hel:Els rAcct _ [((n,m.1,m.2.1,s,()):Scs [.s,.s,.b,.l])] [((n,m):DAcct)] (g++[]):=⟨g,[],rfl,⟨⟨rfl,hz⟩,rMoney.le hm l4⟩,rfl⟩
 refine(cS_l21Legs (hV.le l4) c x f (rLedger.le h l4) ht ⟨some ⟨b,0,none⟩,1,cp⟩ [(n,m)] _ (lr_new hel kset_same rfl hcp (by simp))).mono ?_
 rintro V5 _ ⟨le5,c5,f5,rfl,R5⟩
 exact⟨nofun,(c5,_,()),rfl,l4.trans le5,c5,f5,rfl,R5⟩
theorem cS_DoTake {V:Know} (hV:HcS V) (c:Scs LedSh) (x:DLedger) (f:List Nat) (h:rLedger.R V c x f) (ht:rLedger.tot x≤1048576) (n:ByteArray) (hz:n.size≤9223372036854775807) (cm:Scs MonSh) (m:DMoney) (g:List Nat) (hm:rMoney.R V cm m g) :
  CallX Tryz.prog V gS_DoTake [Sh1.val (.g [.l,.l,.s,.l]) c,.string n,Sh1.val (.g [.s,.b,.l]) cm] (DoS V (perfP x (addRun x n m true))):=by
 refine CallX.of_fits Tryz.mix (fS_DoTake _ _ _) fun _=>?_
 obtain⟨s,rfl,hl,z0⟩:=mon_elim hm
 simp only [tS_DoTake,T.wp]
 refine(cS_LedgerOk hV c x f h).mono ?_
 rintro V1 _ ⟨le1,e1,rfl,he1⟩
 refine⟨nofun,e1,rfl,fun hf=>?_,fun k1=>?_⟩
 ·rw [perfP_no (fun k=>by rw [he1.2 k] at hf; cases hf)]
  exact doS_zero le1 1
 rw [perfP_ok (he1.1 (by simpa using k1))]
 refine(cS_IsWord V1 n hz).mono ?_
 rintro V2 _ ⟨rfl,e2,rfl,he2⟩
 refine⟨nofun,e2,rfl,fun hf=>?_,fun k2=>?_⟩
 ·rw [addRun_no (fun k=>by rw [he2.2 k.1] at hf; cases hf)]
  exact doS_zero le1 1
 refine(cS_l21Money (m.1,m.2.1,s,()) m g (rMoney.le hm le1)).mono ?_
 rintro V3 _ ⟨le3,e3,rfl,he3⟩
 have l3:=le1.trans le3
 refine⟨nofun,e3,rfl,fun hf=>?_,fun k3=>?_⟩
 ·rw [addRun_no (fun k=>by rw [he3.2 k.2] at hf; cases hf)]
  exact doS_zero l3 1
 have w3:=he3.1 (by simpa using k3)
 rw [addRun_ok ⟨he2.1 (by simpa using k2),w3⟩]
 refine(cS_l21Less V3 (m.1,m.2.1,s,()) m g (rMoney.le hm l3) w3.1).mono ?_
 rintro V4 _ ⟨le4,cy,fy,rfl,Ry,_⟩
 have l4:=l3.trans le4
 refine⟨fun _=>le4,cy,rfl,fun b hb=>?_⟩
 have q:=kset_le (x:=([Value.string n,.string cy.1,.bool cy.2.1,Sc.val .l cy.2.2.1],((111:TypeId),((0,0):Nat × Nat)))) hb
 have l5:=l4.trans q
 have hel:Els rAcct _ [((n,cy):Scs [.s,.s,.b,.l])] [((n,negM m):DAcct)] (fy++[]):=⟨fy,[],rfl,⟨⟨rfl,hz⟩,rMoney.le Ry q⟩,rfl⟩
 refine(cS_l21Legs (hV.le l5) c x f (rLedger.le h l5) ht ⟨some ⟨b,0,none⟩,1,1⟩ [(n,negM m)] _ (lr_new (post:=[]) hel (by rw [kset_same]; rfl) rfl (by simp) (by simp))).mono ?_
 rintro V6 _ ⟨le6,c6,f6,rfl,R6⟩
 exact⟨fun _=>le6,(c6,_,()),rfl,l5.trans le6,c6,f6,rfl,R6⟩
theorem cS_DoMove {V:Know} (hV:HcS V) (c:Scs LedSh) (x:DLedger) (f:List Nat) (h:rLedger.R V c x f) (ht:rLedger.tot x≤1048576) (a b:ByteArray) (ha:a.size≤9223372036854775807) (hb:b.size≤9223372036854775807) (cm:Scs MonSh) (m:DMoney) (g:List Nat) (hm:rMoney.R V cm m g) :
  CallX Tryz.prog V gS_DoMove [Sh1.val (.g [.l,.l,.s,.l]) c,.string a,.string b,Sh1.val (.g [.s,.b,.l]) cm] (DoS V (perfP x (moveRun x a b m))):=by
 refine CallX.of_fits Tryz.mix (fS_DoMove _ _ _ _) fun _=>?_
 obtain⟨s,rfl,hl,z0⟩:=mon_elim hm
 simp only [tS_DoMove,T.wp]
 refine(cS_LedgerOk hV c x f h).mono ?_
 rintro V1 _ ⟨le1,e1,rfl,he1⟩
 refine⟨nofun,e1,rfl,fun hf=>?_,fun k1=>?_⟩
 ·rw [perfP_no (fun k=>by rw [he1.2 k] at hf; cases hf)]
  exact doS_zero le1 1
 rw [perfP_ok (he1.1 (by simpa using k1))]
 refine(cS_IsWord V1 a ha).mono ?_
 rintro V2 _ ⟨rfl,e2,rfl,he2⟩
 refine⟨nofun,e2,rfl,fun hf=>?_,fun k2=>?_⟩
 ·rw [moveRun_no (fun k=>by rw [he2.2 k.1.1] at hf; cases hf)]
  exact doS_zero le1 1
 refine(cS_IsWord V2 b hb).mono ?_
 rintro V3 _ ⟨rfl,e4,rfl,he4⟩
 refine⟨nofun,e4,rfl,fun hf=>?_,fun k4=>?_⟩
 ·rw [moveRun_no (fun k=>by rw [he4.2 k.1.2] at hf; cases hf)]
  exact doS_zero le1 1
 refine(cS_l21Money (m.1,m.2.1,s,()) m g (rMoney.le hm le1)).mono ?_
 rintro V4 _ ⟨le3,e3,rfl,he3⟩
 have l3:=le1.trans le3
 refine⟨nofun,e3,rfl,fun hf=>?_,fun k3=>?_⟩
 ·rw [moveRun_no (fun k=>by rw [he3.2 k.2] at hf; cases hf)]
  exact doS_zero l3 1
 have w3:=he3.1 (by simpa using k3)
 rw [moveRun_ok ⟨⟨he2.1 (by simpa using k2),he4.1 (by simpa using k4)⟩,w3⟩]
 refine(cS_l21Less V4 (m.1,m.2.1,s,()) m g (rMoney.le hm l3) w3.1).mono ?_
 rintro V5 _ ⟨le5,cy,fy,rfl,Ry,_⟩
 have l5:=l3.trans le5
 refine⟨fun _=>le5,cy,rfl,fun b7 hb7=>?_⟩
 have q7:=kset_le (x:=([Value.string a,.string cy.1,.bool cy.2.1,Sc.val .l cy.2.2.1,.string b,.string m.1,.bool m.2.1,Sc.val .l s],((111:TypeId),((0,0):Nat × Nat)))) hb7
 have l7:=l5.trans q7
 have hel:Els rAcct _ [((a,cy):Scs [.s,.s,.b,.l]),((b,m.1,m.2.1,s,()):Scs [.s,.s,.b,.l])] [((a,negM m):DAcct),(b,m)] (fy++(g++[])):=⟨fy,g++[],rfl,⟨⟨rfl,ha⟩,rMoney.le Ry q7⟩,g,[],rfl,⟨⟨rfl,hb⟩,rMoney.le hm l7⟩,rfl⟩
 refine(cS_l21Legs (hV.le l7) c x f (rLedger.le h l7) ht ⟨some ⟨b7,0,none⟩,2,2⟩ [(a,negM m),(b,m)] _ (lr_new (post:=[]) hel (by rw [kset_same]; rfl) rfl (by simp) (by simp))).mono ?_
 rintro V8 _ ⟨le8,c8,f8,rfl,R8⟩
 exact⟨fun _=>le8,(c8,_,()),rfl,l7.trans le8,c8,f8,rfl,R8⟩
end Go.Proofs.YtccnjccabllcaaaGreatDoor
