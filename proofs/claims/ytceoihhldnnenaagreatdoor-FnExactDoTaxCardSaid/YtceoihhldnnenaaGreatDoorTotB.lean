/-
  Sums of whole numbers and fractions, reductions: the reference; whole numbers as fractions.
-/
import Derived.Test.YtceoihhldnnenaaGreatDoorLegs
import Derived.Test.YtceoihhldnnenaaGreatDoorDivG
import Derived.Test.YtceoihhldnnenaaGreatDoorPostM
import Derived.Test.YtceoihhldnnenaaGreatDoorGrow
namespace Go.Proofs.YtceoihhldnnenaaGreatDoor
open Sx
set_option maxRecDepth 100000
def PayP (x:DMoney):Prop:=MonP x∧x.2.1=false
abbrev BoolPost (V:Know) (p:Prop):Know→Value→Prop:=fun V' r=>V.le V'∧∃ e,r=.bool e∧(e=true↔p)
theorem cI_payable {V:Know} (hV:HcI V) (c:Scs MonSh) (x:DMoney) (f:List Nat) (h:rMoney.R V c x f):CallX Tryz.prog V 300 [qv2 c] (BoolPost V (PayP x)):=by
 refine CallX.of_fits Tryz.mix (fI_payable _) fun _=>?_
 obtain⟨s,rfl,hl,_⟩:=mon_elim h
 simp only [tI_payable,T.wp]
 refine(cI_MoneyOk hV x.1 x.2.1 s x.2.2.1 f hl).mono ?_
 rintro V1 _ ⟨le1,e,rfl,he⟩
 refine⟨nofun,e,rfl,fun ht=>⟨le1,_,rfl,?_⟩,fun hf=>⟨le1,_,rfl,?_⟩⟩
 ·have:e=true:=ht
  rw [Bool.not_eq_true']
  exact⟨fun k=>⟨he.1 this,k⟩,fun k=>k.2⟩
 ·exact⟨(fun k=>by cases k),(fun k=>by rw [he.2 k.1] at hf; cases hf)⟩
theorem cS_l21Money {V:Know} (c:Scs MonSh) (x:DMoney) (f:List Nat) (h:rMoney.R V c x f):CallX Tryz.prog V 63 [qv2 c] (BoolPost V (PayP x)):=by
 refine CallX.of_fits Tryz.mix (fS_l21Money _) fun _=>?_
 obtain⟨s,rfl,hl,_⟩:=mon_elim h
 simp only [tS_l21Money,T.wp]
 refine(cS_MoneyOk x.1 x.2.1 s x.2.2.1 f hl).mono ?_
 rintro V1 _ ⟨le1,e,rfl,he⟩
 refine⟨nofun,e,rfl,fun ht=>⟨le1,_,rfl,?_⟩,fun hf=>⟨le1,_,rfl,?_⟩⟩
 ·have:e=true:=ht
  rw [Bool.not_eq_true']
  exact⟨fun k=>⟨he.1 this,k⟩,fun k=>k.2⟩
 ·exact⟨(fun k=>by cases k),(fun k=>by rw [he.2 k.1] at hf; cases hf)⟩
def negM (x:DMoney):DMoney:=(x.1,(!x.2.1 && decide (0<x.2.2.1.length)),x.2.2.1,())
abbrev MonPost (V:Know) (x:DMoney):Know→Value→Prop:=fun V' v=>V.le V'∧∃ c f,v=qv2 c∧rMoney.R V' c x f∧Own V V' f
theorem cI_minus (V:Know) (c:Scs MonSh) (x:DMoney) (f:List Nat) (h:rMoney.R V c x f) (hl:x.2.2.1.length≤1048576):CallX Tryz.prog V 305 [qv2 c] (MonPost V (negM x)):=by
 refine CallX.of_fits Tryz.mix (fI_minus _) fun _=>?_
 obtain⟨s,rfl,hl',z⟩:=mon_elim h
 simp only [tI_minus,T.wp]
 refine(cI_intNeg V x.2.1 s x.2.2.1 f hl' hl).mono ?_
 rintro V1 _ ⟨le1,s1,f1,rfl,L1,O1⟩
 exact⟨fun _=>le1,_,rfl,le1,(x.1,_,s1,()),f1,rfl,mon_mk z L1,O1⟩
theorem cS_l21Less (V:Know) (c:Scs MonSh) (x:DMoney) (f:List Nat) (h:rMoney.R V c x f) (ok:MonP x):CallX Tryz.prog V 67 [qv2 c] (MonPost V (negM x)):=by
 refine CallX.of_fits Tryz.mix (fS_l21Less _) fun _=>?_
 obtain⟨s,rfl,hl',z⟩:=mon_elim h
 simp only [tS_l21Less,T.wp]
 refine(rS_IntNeg V x.2.1 s x.2.2.1 f hl' ok.2.1).mono ?_
 rintro V1 _ ⟨le1,s1,f1,rfl,L1,O1⟩
 exact⟨fun _=>le1,_,rfl,le1,(x.1,_,s1,()),f1,rfl,mon_mk z L1,O1⟩
theorem cI_areNames (V:Know) (t:SlV) (ns:List (ByteArray × Unit)) (g:List Nat) (hs:LR rNm V t ns g) (hz:∀ i (h:i<ns.length),ns[i].1.size≤9223372036854775807) :
  CallX Tryz.prog V 299 [Sc.val .l t] (BoolPost V (∀ i (h:i<ns.length),WordP ns[i].1)):=by
 refine CallX.of_fits Tryz.mix (fI_areNames _) fun _=>?_
 have hn:=hs.1
 have h63:=hs.2.2.1
 rw [tI_areNames]
 refine each_wp () (fun i=>∀ (h:i<ns.length),WordP ns[i].1) [.bool false] (n:=t.n) h63 (fun V1 i N le1 hi hbad hgo=>?_) (fun V1 le1 hall N=>?_) (fun V1 i le1 hi hne=>?_)
 ·have hi2:i<ns.length:=by omega
  obtain⟨b,o,a1,l1⟩:=nm_at (hs.le le1) hi2
  have e0:(i:Int).toNat=i:=by omega
  simp only [T.wp]
  rw [e0]
  refine⟨_,a1,by omega,by omega,ns[i].1,l1,(cI_IsWord V1 ns[i].1 (hz i hi2)).mono ?_⟩
  rintro V2 _ ⟨rfl,e,rfl,he⟩
  refine⟨nofun,e,rfl,fun hf=>hbad V2 (Know.le.refl _) fun k=>?_,fun ht=>⟨_,rfl,hgo V2 (Know.le.refl _) fun _=>he.1 (by simpa using ht)⟩⟩
  rw [he.2 (k hi2)] at hf; cases hf
 ·exact⟨le1,true,rfl,fun _ i hi=>hall i (by omega) hi,fun _=>rfl⟩
 ·exact⟨le1,false,rfl,(fun k=>by cases k),fun k=>absurd (fun h=>k i h) hne⟩
theorem lr_new {sh:List Sc} {α:Type} {r:Rp sh α} {V:Know} {b n cap:Nat} {cs:List (Scs sh)} {l:List α} {fps:List Nat} {post:List Value} {t:KTy} (h:Els r V cs l fps) (hb:V b=some (cs.flatMap (Scs.vals sh)++post,t)) (hn:n=l.length) (hc:l.length≤cap) (hl:l.length≤9223372036854775807) :
  LR r V ⟨some ⟨b,0,none⟩,n,cap⟩ l (b :: fps):=by
 subst hn
 exact⟨rfl,hc,hl,.inr ⟨b,[],post,t,fps,cs,rfl,by simpa using hb,h,rfl⟩⟩
theorem els_nm {V:Know}:∀ {ns:List ByteArray},(∀ n∈ns,n.size≤9223372036854775807)→Els rNm V (ns.map fun n=>(n,())) (ns.map fun n=>(n,())) []
 | [],_=>rfl
 | n :: ns,h=>⟨[],[],rfl,⟨⟨rfl,h n (by simp)⟩,rfl⟩,els_nm fun m hm=>h m (by simp [hm])⟩
theorem legs_fits {x:DLedger} {c:ByteArray} {legs:List DAcct} (hc:∀ g∈legs,g.2.1=c):legsP x legs=if fitsP x.1 c (legs.map (·.1))≠0 then (zeroL,fitsP x.1 c (legs.map (·.1))) else postP x legs:=by
 have e1:(∃ n∈legs.map (·.1),fnd n x.1=none)↔∃ g∈legs,fnd g.1 x.1=none:=by simp
 have e2:(∃ n∈legs.map (·.1),(balP x.1 n).1≠c)↔∃ g∈legs,(balP x.1 g.1).1≠g.2.1:=by
  constructor
  ·rintro⟨n,hn,hp⟩
   obtain⟨g,hg,rfl⟩:=List.mem_map.1 hn
   exact⟨g,hg,by rw [hc g hg]; exact hp⟩
  ·rintro⟨g,hg,hp⟩
   exact⟨g.1,List.mem_map_of_mem hg,by rw [← hc g hg]; exact hp⟩
 unfold legsP fitsP
 by_cases h1:∃ g∈legs,fnd g.1 x.1=none
 ·rw [if_pos h1,if_pos (e1.2 h1)]; simp
 ·rw [if_neg h1,if_neg (fun k=>h1 (e1.1 k))]
  by_cases h2:∃ g∈legs,(balP x.1 g.1).1≠g.2.1
  ·rw [if_pos h2,if_pos (e2.2 h2)]; simp
  ·rw [if_neg h2,if_neg (fun k=>h2 (e2.1 k))]; simp
theorem postP_ans {x:DLedger} {legs:List DAcct}:(postP x legs).2≠0→(postP x legs).1=zeroL:=by
 unfold postP
 cases postL x.1 legs with
 | none=>intro _; rfl
 | some l=>intro h; exact absurd rfl h
theorem legsP_acct {x:DLedger} {legs:List DAcct} (h:∃ g∈legs,fnd g.1 x.1=none):legsP x legs=(zeroL,3):=if_pos h
theorem legsP_match {x:DLedger} {legs:List DAcct} (h:¬ ∃ g∈legs,fnd g.1 x.1=none) (k:∃ g∈legs,(balP x.1 g.1).1≠g.2.1):legsP x legs=(zeroL,5):=(if_neg h).trans (if_pos k)
theorem legsP_post {x:DLedger} {legs:List DAcct} (h:¬ ∃ g∈legs,fnd g.1 x.1=none) (k:¬ ∃ g∈legs,(balP x.1 g.1).1≠g.2.1):legsP x legs=postP x legs:=(if_neg h).trans (if_neg k)
theorem legs_ex {p:DAcct→Prop} {legs:List DAcct}:(∃ g∈legs,p g)↔∃ (i:Nat) (h:i<legs.length),p legs[i]:=by
 constructor
 ·rintro⟨g,hg,hp⟩
  obtain⟨i,hi,rfl⟩:=List.mem_iff_getElem.1 hg
  exact⟨i,hi,hp⟩
 ·rintro⟨i,hi,hp⟩
  exact⟨_,List.getElem_mem hi,hp⟩
theorem cS_l21Legs {V:Know} (_:HcS V) (c:Scs LedSh) (x:DLedger) (f:List Nat) (h:rLedger.R V c x f) (ht:rLedger.tot x≤1048576) (t:SlV) (legs:List DAcct) (g:List Nat) (hs:LR rAcct V t legs g) :
  CallX Tryz.prog V 66 [qv3 c,Sc.val .l t] (DoS V (legsP x legs)):=by
 refine CallX.of_fits Tryz.mix (fS_l21Legs _ _) fun _=>?_
 obtain⟨s0,s1,s3,f0,f1,f3,rfl,L0,_,_⟩:=ledger_elim h
 have hn:=hs.1
 have hn0:=L0.1
 have h63:=hs.2.2.1
 rw [tS_l21Legs]
 refine each_wp (rest:=[.o (.o .l),.o (.o .l),.o (.o .s),.o (.o .l)]) (⟨none,0,0⟩,⟨none,0,0⟩,ByteArray.empty,⟨none,0,0⟩,()) (fun i=>∀ (h:i<legs.length),fnd legs[i].1 x.1≠none) [qv3 zeroLC,.int .i64 3] (n:=t.n) h63 (fun V1 i N le1 hi hbad hgo=>?_) (fun V1 le1 hall N1=>?_) (fun V1 i le1 hi hne=>?_)
 ·have hi2:i<legs.length:=by omega
  obtain⟨b,o,cl,fc,a1,l1,hR,_⟩:=(hs.le le1).at hi2
  have en:cl.1=legs[i].1:=hR.1.1
  have e0:(i:Int).toNat=i:=by omega
  simp only [T.wp]
  rw [e0]
  refine⟨_,a1,by omega,by omega,cl,l1,(cS_AcctAt V1 s0 x.1 f0 (L0.le le1) cl.1).mono ?_⟩
  rintro V2 _ ⟨le2,rfl⟩
  rw [en]
  refine⟨nofun,_,rfl,fun hlt=>hbad V2 le2 fun k=>k hi2 (at_neg.1 (of_decide_eq_true hlt)),fun hge=>⟨_,rfl,hgo V2 le2 fun _ k=>(of_decide_eq_false hge) (at_neg.2 k)⟩⟩
 rotate_left
 ·have hf:fnd (legs[i]'(by omega)).1 x.1=none:=Decidable.not_not.1 fun k=>hne fun _=>k
  rw [legsP_acct (legs_ex.2 ⟨i,by omega,hf⟩)]
  exact doS_zero le1 3
 have hacct:¬ ∃ g∈legs,fnd g.1 x.1=none:=fun k=>by
  obtain⟨i,hi,e⟩:=legs_ex.1 k
  exact hall i (by omega) hi e
 refine each_wp (rest:=[.o (.o .l),.o (.o .l),.o (.o .s),.o (.o .l)]) (⟨none,0,0⟩,⟨none,0,0⟩,ByteArray.empty,⟨none,0,0⟩,()) (fun i=>∀ (h:i<legs.length),(balP x.1 legs[i].1).1=legs[i].2.1) [qv3 zeroLC,.int .i64 5] (n:=t.n) h63 (fun V2 i N le2 hi hbad hgo=>?_) (fun V2 le2 hall2 N2=>?_) (fun V2 i le2 hi hne=>?_)
 ·have hi2:i<legs.length:=by omega
  have l2:=le1.trans le2
  obtain⟨b,o,cl,fc,a1,l1,hR,_⟩:=(hs.le l2).at hi2
  have en:cl.1=legs[i].1:=hR.1.1
  have ec:cl.2.1=legs[i].2.1:=hR.2.1.1
  have e0:(i:Int).toNat=i:=by omega
  simp only [T.wp]
  rw [e0]
  refine⟨_,a1,by omega,by omega,cl,l1,(cS_AcctAt V2 s0 x.1 f0 (L0.le l2) cl.1).mono ?_⟩
  rintro V3 _ ⟨le3,rfl⟩
  rw [en,ec]
  obtain⟨j,hj,hfj,hat,_⟩:=at_some (n:=legs[i].1) (l:=x.1) (fun k=>hall i (by omega) hi2 (at_neg.1 k))
  have e1:(j:Int).toNat=j:=by omega
  rw [hat]
  obtain⟨b2,o2,c2,fc2,a2,l2',hR2,_⟩:=(L0.le l2).at hj
  have e2:c2.2.1=x.1[j].2.1:=hR2.2.1.1
  refine⟨fun _=>le3,(j:Int),rfl,?_⟩
  rw [e1]
  refine⟨_,a2,by omega,(by show(j:Int)<(s0.n:Int); omega),c2.2.1,?_,fun hne=>hbad V3 le3 fun k=>?_,fun he=>⟨_,rfl,hgo V3 le3 fun _=>?_⟩⟩
  ·rw [if_pos trivial]
   exact load_part (load_part l2' (o:=1) (n:=3) rfl) (o:=0) (n:=1) rfl
  ·have:=text_eq.2 (e2.trans ((congrArg (·.1) (balP_some hfj hj)).symm.trans (k hi2)))
   rw [this] at hne; cases hne
  ·rw [balP_some hfj hj]
   exact e2.symm.trans (text_eq.1 (by simpa using he))
 rotate_left
 ·have l2:=le1.trans le2
  rw [legsP_match hacct (legs_ex.2 ⟨i,by omega,fun k=>hne fun _=>k⟩)]
  exact doS_zero l2 5
 have hcur:¬ ∃ g∈legs,(balP x.1 g.1).1≠g.2.1:=fun k=>by
  obtain⟨i,hi,e⟩:=legs_ex.1 k
  exact e (hall2 i (by omega) hi)
 have l2:=le1.trans le2
 rw [legsP_post hacct hcur]
 simp only [T.wp]
 refine(kS_l20Copy V2 _ x f (rLedger.le h l2) ht).mono ?_
 rintro V3 _ ⟨le3,c3,f3',rfl,R3⟩
 have l3:=l2.trans le3
 obtain⟨x0,x1,x2,x3,xu⟩:=x
 obtain⟨q0,q1,q2,q3,qu⟩:=c3
 obtain⟨k0,k0',rfl,r0,R3⟩:=R3
 obtain⟨k1,k1',rfl,r1,R3⟩:=R3
 obtain⟨⟨e2,z2⟩,R3⟩:=R3
 replace e2:q2=x2:=e2
 obtain⟨k3,k3',rfl,r3,hN⟩:=R3
 replace r0:LR rAcct V3 q0 x0 k0:=r0
 replace r1:LR rRest V3 q1 x1 k1:=r1
 replace r3:LR rRate V3 q3 x3 k3:=r3
 subst e2
 refine⟨nofun,(q0,q1,q2,q3,()),rfl,?_⟩
 refine⟨fun y V'=>V3.le V'∧y.2.1=⟨none,0,0⟩∧y.2.2.1=⟨none,0,0⟩∧y.2.2.2.1=ByteArray.empty∧y.2.2.2.2.1=⟨none,0,0⟩∧y.2.2.2.2.2.2=(q1,q2,q3,())∧∃ (k:Nat) (lk:List DAcct) (fk:List Nat),y.1=(k:Int)∧k≤legs.length∧LR rAcct V' y.2.2.2.2.2.1 lk fk∧postL x0 legs=postL lk (legs.drop k),
  fun y _=>((legs.length:Int)-(y.1:Int)).toNat,⟨((0:Int),⟨none,0,0⟩,⟨none,0,0⟩,ByteArray.empty,⟨none,0,0⟩,q0,q1,q2,q3,()),rfl,Know.le.refl _,rfl,rfl,rfl,rfl,rfl,0,x0,k0,rfl,Nat.zero_le _,r0,by simp⟩,?_⟩
 rintro⟨(i:Int),y1,y2,y3,y4,sk,y5,y6,y7,yu⟩ V4 ⟨le4,hy1,hy2,hy3,hy4,hy,k,lk,fk,hk,hkl,Lk,hp⟩
 replace hk:i=(k:Int):=hk
 replace hy1:y1=(⟨none,0,0⟩:SlV):=hy1
 replace hy2:y2=(⟨none,0,0⟩:SlV):=hy2
 replace hy3:y3=ByteArray.empty:=hy3
 replace hy4:y4=(⟨none,0,0⟩:SlV):=hy4
 subst hk hy1 hy2 hy3 hy4
 replace hy:(y5,y6,y7,yu)=(q1,q2,q3,()):=hy
 simp only [Prod.mk.injEq,and_true] at hy
 obtain⟨rfl,rfl,rfl⟩:=hy
 replace Lk:LR rAcct V4 sk lk fk:=Lk
 have l4:=l3.trans le4
 have e0:(k:Int).toNat=k:=by omega
 refine⟨fun hlt=>?_,fun hge=>?_⟩
 ·have hi:k<legs.length:=by
   have:(k:Int)<(t.n:Int):=of_decide_eq_true hlt
   omega
  obtain⟨b,o,cl,fc,a1,l1,hR,_⟩:=(hs.le l4).at hi
  dsimp only
  rw [e0]
  have en:cl.1=legs[k].1:=hR.1.1
  refine⟨_,a1,by omega,(by show(k:Int)<(t.n:Int); omega),cl,l1,(cS_BookPost (V:=V4) trivial sk lk fk Lk cl.1 cl.2 legs[k].2 fc hR.2).mono ?_⟩
  rintro V5 _ ⟨le5,s5,f5,rfl,L5,_⟩
  rw [en] at L5 ⊢
  obtain⟨⟨l',ok⟩,hpb⟩:∃ r,postB lk legs[k].1 legs[k].2=r:=⟨_,rfl⟩
  rw [hpb] at L5 ⊢
  rw [List.drop_eq_getElem_cons hi,postL_cons hpb] at hp
  refine⟨nofun,((s5,()),ok,()),rfl,fun hf=>?_,fun hT=>?_⟩
  ·have:ok=false:=by simpa using hf
   subst this
   rw [postP,hp]
   exact doS_zero (l4.trans le5) 8
  ·have:ok=true:=by simpa using hT
   subst this
   refine⟨_,rfl,(((k+1:Nat):Int),⟨none,0,0⟩,⟨none,0,0⟩,ByteArray.empty,⟨none,0,0⟩,s5,y5,y6,y7,()),by rw [nxt hi (by omega)]; rfl,⟨le4.trans le5,rfl,rfl,rfl,rfl,rfl,k+1,l',f5,rfl,hi,L5,hp⟩,?_⟩
   show((legs.length:Int)-((k+1:Nat):Int)).toNat<((legs.length:Int)-(k:Int)).toNat
   omega
 ·have hi:k=legs.length:=by
   have:¬ (k:Int)<(t.n:Int):=of_decide_eq_false hge
   omega
  subst hi
  rw [List.drop_length,postL] at hp
  rw [postP,hp]
  exact⟨l4,(sk,y5,y6,y7,()),fk++(k1++k3),rfl,ledger_mk (x:=(lk,x1,y6,x3,())) Lk (r1.le le4) rfl z2 (r3.le le4)⟩
end Go.Proofs.YtceoihhldnnenaaGreatDoor
namespace Go.Proofs.YtceoihhldnnenaaGreatDoor
open Sx
def Red (N D:Int) (p q:List Lim):Prop:=Can p∧Can q∧valN p*(Int.gcd N D:Int)=N∧valN q*(Int.gcd N D:Int)=D
theorem gcd_pos {N D:Int} (hD:0<D):0<(Int.gcd N D:Int):=by
 have:Int.gcd N D≠0:=fun e=>by
  have:=(Int.gcd_eq_zero_iff.1 e).2
  omega
 omega
theorem red_inj {N D:Int} (hD:0<D) {p q p' q':List Lim} (h:Red N D p q) (h':Red N D p' q'):p=p'∧q=q':=by
 have hg:=gcd_pos (N:=N) hD
 refine⟨can_inj h.1 h'.1 ?_,can_inj h.2.1 h'.2.1 ?_⟩
 ·exact Int.eq_of_mul_eq_mul_right (by omega) (h.2.2.1.trans h'.2.2.1.symm)
 ·exact Int.eq_of_mul_eq_mul_right (by omega) (h.2.2.2.trans h'.2.2.2.symm)
theorem red_pos {N D:Int} (hD:0<D) {p q:List Lim} (h:Red N D p q):0<valN q:=by
 have hg:=gcd_pos (N:=N) hD
 have h0:=valN_nonneg h.2.1.1
 rcases(show valN q=0∨0<valN q by omega) with e | e
 ·have:=h.2.2.2
  rw [e,Int.zero_mul] at this
  omega
 ·exact e
theorem red_num {N D:Int} (hD:0<D) {p q:List Lim} (h:Red N D p q):0<valN p↔0<N:=by
 have hg:=gcd_pos (N:=N) hD
 have h0:=valN_nonneg h.1.1
 rw [← h.2.2.1]
 constructor
 ·intro k; exact Int.mul_pos k hg
 ·intro k
  rcases(show valN p=0∨0<valN p by omega) with e | e
  ·rw [e,Int.zero_mul] at k; omega
  ·exact e
theorem red_gcd {N D:Int} (hD:0<D) {p q:List Lim} (h:Red N D p q):Int.gcd (valN p) (valN q)=1:=by
 have hg:=gcd_pos (N:=N) hD
 have e:Int.gcd (valN p*(Int.gcd N D:Int)) (valN q*(Int.gcd N D:Int))=Int.gcd (valN p) (valN q)*Int.natAbs (Int.gcd N D:Int):=Int.gcd_mul_right _ _ _
 rw [h.2.2.1,h.2.2.2] at e
 have e2:Int.natAbs (Int.gcd N D:Int)=Int.gcd N D:=Int.natAbs_natCast _
 rw [e2] at e
 have hg':0<Int.gcd N D:=by omega
 have:1*Int.gcd N D=Int.gcd (valN p) (valN q)*Int.gcd N D:=by omega
 exact(Nat.eq_of_mul_eq_mul_right hg' this).symm
theorem exact_quot {n g q r:Int} (hg:0<g) (h:n=q*g+r) (hr:0≤r∧r<g) (hd:g ∣ n):q*g=n:=by
 obtain⟨c,hc⟩:=hd
 have h2:n=c*g+0:=by rw [hc,Int.mul_comm]; omega
 obtain⟨e1,e2⟩:=quot_unique h h2 hr ⟨Int.le_refl _,hg⟩
 omega
theorem gcd_dvd_l (N D:Int):(Int.gcd N D:Int) ∣ N:=Int.gcd_dvd_left ..
theorem gcd_dvd_r (N D:Int):(Int.gcd N D:Int) ∣ D:=Int.gcd_dvd_right ..
end Go.Proofs.YtceoihhldnnenaaGreatDoor
namespace Go.Proofs.YtceoihhldnnenaaGreatDoor
open Sx
set_option maxRecDepth 100000
theorem lr_nil {V:Know}:LR rI V ⟨none,0,0⟩ [] []:=⟨rfl,Nat.le_refl _,by simp,.inl ⟨rfl,fun _=>rfl,rfl⟩⟩
theorem rat_mk {V:Know} {b:Bool} {s s':SlV} {p q:List Lim} {f g:List Nat} (h:LR rI V s p f) (h':LR rI V s' q g):rRat.R V (b,s,s',()) (b,p,q,()) (f++(g++[])) :=
 ⟨rfl,f,g++[],rfl,h,g,[],rfl,h',rfl⟩
def RedS (S D:Int) (x:DRat) (e:Bool):Prop:=∃ p q,Red (S.natAbs:Int) D p q∧((p.length≤18∧q.length≤18∧e=true∧x=(decide (S<0),p,q,()))∨(¬ (p.length≤18∧q.length≤18)∧e=false∧x=(false,[],[],())))
theorem redS_inj {S D:Int} (hD:0<D) {x x':DRat} {e e':Bool} (h:RedS S D x e) (h':RedS S D x' e'):x=x'∧e=e':=by
 obtain⟨p,q,h1,h2⟩:=h
 obtain⟨p',q',h1',h2'⟩:=h'
 obtain⟨rfl,rfl⟩:=red_inj hD h1 h1'
 rcases h2 with ⟨a,b,c,d⟩ | ⟨a,c,d⟩
 ·rcases h2' with ⟨_,_,c',d'⟩ | ⟨a',_,_⟩
  ·exact⟨d.trans d'.symm,c.trans c'.symm⟩
  ·exact absurd ⟨a,b⟩ a'
 ·rcases h2' with ⟨a',b',_,_⟩ | ⟨_,c',d'⟩
  ·exact absurd ⟨a',b'⟩ a
  ·exact⟨d.trans d'.symm,c.trans c'.symm⟩
theorem redS_ok {S D:Int} (hD:0<D) {x:DRat} {e:Bool} (h:RedS S D x e) (he:e=true):RatOkP x.1 x.2.1 x.2.2.1:=by
 obtain⟨p,q,h1,h2⟩:=h
 rcases h2 with ⟨a,b,_,rfl⟩ | ⟨_,c,_⟩
 ·refine⟨⟨⟨h1.1,(by omega:p.length≤50)⟩,fun hn=>?_⟩,⟨h1.2.1,(by omega:q.length≤50)⟩,(can_pos h1.2.1).2 (red_pos hD h1),b,a,red_gcd hD h1⟩
  have hs:S<0:=of_decide_eq_true hn
  exact(can_pos h1.1).2 ((red_num hD h1).2 (by omega))
 ·rw [he] at c; cases c
abbrev RatPost (V:Know) (S D:Int):Know→Value→Prop:=fun V' r=>V.le V'∧∃ c x e f,r=.tuple #[qv1 c,.bool e]∧rRat.R V' c x f∧Own V V' f∧RedS S D x e
theorem sval_abs {c0:Bool} {n:List Lim} (h:Lims n):((sval c0 n).natAbs:Int)=valN n:=by
 have:=valN_nonneg h
 unfold sval
 split <;> omega
theorem sval_neg {c0:Bool} {n:List Lim} (h:Can n) {p:List Lim} (hp:0<p.length↔0<valN n):(c0 && decide (0<p.length))=decide (sval c0 n<0):=by
 have:=valN_nonneg h.1
 cases c0 with
 | false =>
  rw [Bool.false_and]
  exact(decide_eq_false (by unfold sval; simp; omega)).symm
 | true =>
  rw [Bool.true_and]
  exact decide_eq_decide.2 (by rw [hp]; unfold sval; simp)
theorem cI_reduce (V:Know) (c0:Bool) (s s':SlV) (n d:List Lim) (f g:List Nat) (h:LR rI V s n f) (h':LR rI V s' d g) (hn:Can n) (hd:Can d) (hp:0<valN d) (ln:n.length≤900000) (ld:d.length≤900000) :
  CallX Tryz.prog V 263 [qv0 (c0,s,()),Sc.val .l s'] (RatPost V (sval c0 n) (valN d)):=by
 refine CallX.of_fits Tryz.mix (fI_reduce _ _) fun _=>?_
 simp only [tI_reduce,T.wp]
 refine(cI_natGcd V s s' n d f g h h' hn hd ln ld).mono ?_
 rintro V1 _ ⟨le1,s1,gg,f1,rfl,L1,O1,C1,v1⟩
 have hg:=gcd_pos (N:=valN n) hp
 have hgp:0<gg.length:=(can_pos C1).2 (by omega)
 refine⟨nofun,s1,rfl,(cI_natDiv V1 s s1 n gg f f1 (h.le le1) L1 hn C1 ln hgp).mono ?_⟩
 rintro V2 _ ⟨le2,sq,sr,q,r,f2,f2',rfl,L2,L2',O2,_,C2,C2',v2,b2⟩
 have l2:=le1.trans le2
 refine⟨nofun,(sq,sr,()),rfl,(cI_natDiv V2 s' s1 d gg g f1 (h'.le l2) (L1.le le2) hd C1 ld hgp).mono ?_⟩
 rintro V3 _ ⟨le3,tq,tr,q',r',f3,f3',rfl,L3,L3',O3,_,C3,C3',v3,b3⟩
 have l3:=l2.trans le3
 rw [v1] at v2 v3 b2 b3
 have x1:=exact_quot hg v2 ⟨valN_nonneg C2'.1,b2⟩ (gcd_dvd_l _ _)
 have x2:=exact_quot hg v3 ⟨valN_nonneg C3'.1,b3⟩ (gcd_dvd_r _ _)
 have hred:Red ((sval c0 n).natAbs:Int) (valN d) q q':=by
  rw [sval_abs hn.1]
  exact⟨C2,C3,x1,x2⟩
 have n2:=L2.1
 have n3:=L3.1
 have none:¬ (q.length≤18∧q'.length≤18)→RatPost V (sval c0 n) (valN d) V3 (packed [qv1 (false,(⟨none,0,0⟩:SlV),(⟨none,0,0⟩:SlV),()),.bool false]) :=
  fun hl=>⟨l3,_,(false,[],[],()),false,_,rfl,rat_mk lr_nil lr_nil,Own.nil,q,q',hred,.inr ⟨hl,rfl,rfl⟩⟩
 refine⟨nofun,(tq,tr,()),rfl,fun h1=>none fun k=>?_,fun h1=>⟨fun h2=>none fun k=>?_,fun h2=>?_⟩⟩
 ·have:(sq.n:Int) > 18:=of_decide_eq_true h1
  omega
 ·have:(tq.n:Int) > 18:=of_decide_eq_true h2
  omega
 have k1:¬ (sq.n:Int) > 18:=of_decide_eq_false h1
 have k2:¬ (tq.n:Int) > 18:=of_decide_eq_false h2
 refine(cI_signed V3 c0 sq).mono ?_
 rintro V4 _ ⟨rfl,rfl⟩
 refine⟨nofun,(c0 && decide ((sq.n:Int) > 0),sq,()),rfl,l3,_,(c0 && decide ((sq.n:Int) > 0),q,q',()),true,_,rfl,rat_mk (L2.le le3) L3,?_,q,q',hred,.inl ⟨by omega,by omega,rfl,?_⟩⟩
 ·rw [List.append_nil]
  exact(O2.append O3 le2 le3).pre le1
 ·have e:decide ((sq.n:Int) > 0)=decide (0<q.length):=decide_eq_decide.2 (by omega)
  rw [e,sval_neg hn ((can_pos C2).trans (by have:=red_num hp hred; rwa [sval_abs hn.1] at this))]
theorem cI_num (V:Know) (c0:Bool) (s t s':SlV) (n _ b:List Lim) (f _ f':List Nat) (h:LR rI V s n f) (h':LR rI V s' b f') (hn:Can n) (hb:Can b) (ln:n.length≤1000000) (lb:b.length≤1000000) :
  CallX Tryz.prog V 239 [qv1 (c0,s,t,()),Sc.val .l s'] (fun V' r=>V.le V'∧∃ e so o fo,r=qv0 (e,so,())∧LR rI V' so o fo∧Can o∧sval e o=sval c0 n*valN b∧o.length≤n.length+b.length):=by
 refine CallX.of_fits Tryz.mix (fI_Rat__num _ _) fun _=>?_
 simp only [tI_Rat__num,T.wp]
 refine(cI_natMul V s s' n b f f' h h' hn.1 hb.1 ln lb).mono ?_
 rintro V1 _ ⟨le1,s1,o,bk,rfl,nw,_,C1,v1,_⟩
 have L1:=nw.lr
 have n1:=L1.1
 refine⟨fun _=>le1,s1,rfl,(cI_signed V1 c0 s1).mono ?_⟩
 rintro V2 _ ⟨rfl,rfl⟩
 refine⟨fun _=>Know.le.refl _,(c0 && decide ((s1.n:Int) > 0),s1,()),rfl,le1,c0 && decide ((s1.n:Int) > 0),s1,o,_,rfl,L1,C1,?_,mul_len hb C1 hn.1 v1⟩
 have e:decide ((s1.n:Int) > 0)=decide (0<o.length):=decide_eq_decide.2 (by omega)
 rw [e]
 have hz:=can_pos C1
 have h0:=valN_nonneg C1.1
 have e2:sval (c0 && decide (0<o.length)) o=sval c0 o:=by
  by_cases hp:0<o.length
  ·simp [hp]
  ·have:valN o=0:=by omega
   unfold sval
   cases c0 <;> simp [this]
 rw [e2]
 unfold sval
 rw [v1]
 split
 ·rw [Int.neg_mul]
 ·rfl
theorem cI_ratsOk (V:Know) (c0:Bool) (c1 c2:SlV) (d0:Bool) (d1 d2:SlV) (n d m e:List Lim) (f g f' g':List Nat) (h1:LR rI V c1 n f) (h2:LR rI V c2 d g) (h3:LR rI V d1 m f') (h4:LR rI V d2 e g') (hr:RatOkP c0 n d) (hs:RatOkP d0 m e) :
  CallX Tryz.prog V 274 [qv1 (c0,c1,c2,()),qv1 (d0,d1,d2,())] (fun V' r=>V.le V'∧r=.bool true):=by
 refine CallX.of_fits Tryz.mix (fI_ratsOk _ _) fun _=>?_
 simp only [tI_ratsOk,T.wp]
 refine(cI_RatOk V c0 c1 c2 n d f g h1 h2).mono ?_
 rintro V1 _ ⟨le1,b1,rfl,hb1⟩
 have hb1:=hb1.2 hr
 subst hb1
 refine⟨nofun,true,rfl,fun _=>(cI_RatOk V1 d0 d1 d2 m e f' g' (h3.le le1) (h4.le le1)).mono ?_,nofun⟩
 rintro V2 _ ⟨le2,b2,rfl,hb2⟩
 have hb2:=hb2.2 hs
 subst hb2
 exact⟨nofun,true,rfl,le1.trans le2,rfl⟩
theorem cI_RatAdd (V:Know) (c0:Bool) (c1 c2:SlV) (d0:Bool) (d1 d2:SlV) (n d m e:List Lim) (f g f' g':List Nat) (h1:LR rI V c1 n f) (h2:LR rI V c2 d g) (h3:LR rI V d1 m f') (h4:LR rI V d2 e g') (hr:RatOkP c0 n d) (hs:RatOkP d0 m e) :
  CallX Tryz.prog V 264 [qv1 (c0,c1,c2,()),qv1 (d0,d1,d2,())] (RatPost V (sval c0 n*valN e+sval d0 m*valN d) (valN d*valN e)):=by
 refine CallX.of_fits Tryz.mix (fI_RatAdd _ _) fun _=>?_
 simp only [tI_RatAdd,T.wp]
 have z1:=hr.2.2.2.1
 have z2:=hr.2.2.2.2.1
 have z3:=hs.2.2.2.1
 have z4:=hs.2.2.2.2.1
 have p1:=(can_pos hr.2.1.1).1 hr.2.2.1
 have p2:=(can_pos hs.2.1.1).1 hs.2.2.1
 refine(cI_ratsOk V c0 c1 c2 d0 d1 d2 n d m e f g f' g' h1 h2 h3 h4 hr hs).mono ?_
 rintro V1 _ ⟨le1,rfl⟩
 refine⟨nofun,true,rfl,nofun,fun _=>(cI_num V1 c0 c1 c2 d2 n d e f g g' (h1.le le1) (h4.le le1) hr.1.1.1 hs.2.1.1 (by omega) (by omega)).mono ?_⟩
 rintro V2 _ ⟨le2,e2,s2,o2,f2,rfl,L2,C2,v2,b2⟩
 have l2:=le1.trans le2
 refine⟨fun _=>le2,(e2,s2,()),rfl,(cI_num V2 d0 d1 d2 c2 m e d f' g' g (h3.le l2) (h2.le l2) hs.1.1.1 hr.2.1.1 (by omega) (by omega)).mono ?_⟩
 rintro V3 _ ⟨le3,e3,s3,o3,f3,rfl,L3,C3,v3,b3⟩
 have l3:=l2.trans le3
 refine⟨fun _=>le3,(e3,s3,()),rfl,(cI_intAdd V3 e2 s2 e3 s3 o2 o3 f2 f3 (L2.le le3) L3 C2 C3 (by omega) (by omega)).mono ?_⟩
 rintro V4 _ ⟨le4,e4,s4,o4,f4,rfl,L4,O4,C4,v4,_,n4⟩
 have l4:=l3.trans le4
 refine⟨fun _=>le4,(e4,s4,()),rfl,(cI_natMul V4 c2 d2 d e g g' (h2.le l4) (h4.le l4) hr.2.1.1.1 hs.2.1.1.1 (by omega) (by omega)).mono ?_⟩
 rintro V5 _ ⟨le5,s5,o5,b5,rfl,nw,_,C5,v5,_⟩
 have l5:=l4.trans le5
 have n5:=mul_len (a:=d) (b:=e) hs.2.1.1 C5 hr.2.1.1.1 v5
 have n4b:o4.length≤100:=by
  by_cases k:o4.length≤100
  ·exact k
  ·exfalso
   have g1:=can_ge C4 (by omega)
   have g2:=(valTo_bd C2.1 o2.length).2
   have g3:=(valTo_bd C3.1 o3.length).2
   have g4:=pw_mono (show o2.length≤40 by omega)
   have g5:=pw_mono (show o3.length≤40 by omega)
   have g6:=pw_mono (show 41≤o4.length-1 by omega)
   have g7:(1000000000:Int) ^ 41=1000000000*1000000000 ^ 40:=pw_succ 40
   have g8:=pw_pos 40
   have a2:valN o2<1000000000 ^ 40:=by
    have:valN o2<1000000000 ^ o2.length:=g2
    omega
   have a3:valN o3<1000000000 ^ 40:=by
    have:valN o3<1000000000 ^ o3.length:=g3
    omega
   have q2:=sval_abs (c0:=e2) C2.1
   have q3:=sval_abs (c0:=e3) C3.1
   have q4:=sval_abs (c0:=e4) C4.1
   omega
 refine⟨fun _=>le5,s5,rfl,(cI_reduce V5 e4 s4 s5 o4 o5 f4 [b5] (L4.le le5) nw.lr C4 C5 (by rw [v5]; exact Int.mul_pos p1 p2) (by omega) (by omega)).mono ?_⟩
 rintro V6 _ ⟨le6,c6,x6,e6,f6,rfl,R6,O6,hx⟩
 refine⟨fun _=>le6,(c6,e6,()),rfl,l5.trans le6,c6,x6,e6,f6,rfl,R6,O6.pre l5,?_⟩
 rw [v4,v2,v3,v5] at hx
 exact hx
end Go.Proofs.YtceoihhldnnenaaGreatDoor
namespace Go.Proofs.YtceoihhldnnenaaGreatDoor
open Sx
set_option maxRecDepth 100000
theorem cS_l05Gcd (V:Know) (s s':SlV) (a b:List Lim) (f f':List Nat) (h:LR rI V s a f) (h':LR rI V s' b f') (ha:Can a) (hb:Can b) (la:a.length≤900000) (lb:b.length≤900000) :
  CallX Tryz.prog V 179 [Sc.val .l s,Sc.val .l s'] (fun V' ret=>V.le V'∧∃ s g f,ret=Sc.val .l s∧LR rI V' s g f∧Can g∧valN g=(Int.gcd (valN a) (valN b):Int)):=by
 refine CallX.of_fits Tryz.mix (fS_l05Gcd _ _) fun _=>?_
 simp only [tS_l05Gcd,T.wp]
 refine⟨fun y V'=>V.le V'∧∃ (x z:List Lim) (fx fz:List Nat),LR rI V' y.1 x fx∧LR rI V' y.2.1 z fz∧Can x∧Can z∧x.length≤900000∧z.length≤900000∧Int.gcd (valN x) (valN z)=Int.gcd (valN a) (valN b),
  fun y V'=>memN V' y.2.1,⟨(s,s',()),rfl,Know.le.refl _,a,b,f,f',h,h',ha,hb,la,lb,rfl⟩,?_⟩
 rintro⟨s1,s2,u⟩ V' ⟨hle,x,z,fx,fz,hx,hz,cx,cz,lx,lz,hg⟩
 replace hx:LR rI V' s1 x fx:=hx
 replace hz:LR rI V' s2 z fz:=hz
 have hnz:=hz.1
 refine⟨fun hpos=>?_,fun hend=>?_⟩
 ·have hp:0<z.length:=by
   have:(s2.n:Int) > 0:=of_decide_eq_true hpos
   omega
  refine(cS_l03Div V' s1 s2 x z fx fz hx hz cx cz lx hp lz).mono ?_
  rintro V1 _ ⟨hle1,t1,t2,q,r,f1,f2,rfl,hL1,hL2,hO1,hO2,hcq,hcr,hv,hr⟩
  have h0:=valN_nonneg hcr.1
  refine⟨nofun,(t1,t2,()),rfl,_,rfl,(s2,t2,()),rfl,⟨hle.trans hle1,z,r,fz,f2,hz.le hle1,hL2,cz,hcr,lz,?_,?_⟩,?_⟩
  ·have:=can_len cz hcr (by omega)
   omega
  ·rw [gcd_step hv]; exact hg
  ·show memN V1 t2<memN V' s2
   rw [memN_eq hL2,memN_eq hz]
   omega
 ·have hz0:z=[]:=List.eq_nil_of_length_eq_zero (by
   have:¬ (s2.n:Int) > 0:=of_decide_eq_false hend
   omega)
  subst hz0
  refine⟨hle,s1,x,fx,rfl,hx,cx,?_⟩
  rw [← hg,valN_nil]
  have:=valN_nonneg cx.1
  simp
  omega
theorem cS_l05Low (V:Know) (c0:Bool) (s s':SlV) (n d:List Lim) (f g:List Nat) (h:LR rI V s n f) (h':LR rI V s' d g) (hn:Can n) (hd:Can d) (hp:0<valN d) (ln:n.length≤900000) (ld:d.length≤900000) :
  CallX Tryz.prog V 134 [.bool c0,Sc.val .l s,Sc.val .l s'] (RatPost V (sval c0 n) (valN d)):=by
 refine CallX.of_fits Tryz.mix (fS_l05Low _ _ _) fun _=>?_
 simp only [tS_l05Low,T.wp]
 refine(cS_l02Trim V s n f h).mono ?_
 rintro V0 _ ⟨rfl,s0,rfl,-,L0⟩
 rw [trim_id hn] at L0
 refine⟨nofun,s0,rfl,(cS_l02Trim V0 s' d g h').mono ?_⟩
 rintro V0' _ ⟨rfl,s0',rfl,-,L0'⟩
 rw [trim_id hd] at L0'
 have nd:=L0'.1
 have ndp:=(can_pos hd).2 hp
 refine⟨nofun,s0',rfl,fun hz=>?_,fun _=>?_⟩
 ·have:(s0'.n:Int)=0:=by simpa using hz
  omega
 refine(cS_l05Gcd V0' s0 s0' n d f g L0 L0' hn hd ln ld).mono ?_
 rintro V1 _ ⟨le1,s1,gg,f1,rfl,L1,C1,v1⟩
 have hg:=gcd_pos (N:=valN n) hp
 have hgp:0<gg.length:=(can_pos C1).2 (by omega)
 have hgl:gg.length≤900000:=by
  have:=can_len (a:=d) (b:=gg) hd C1 (by
   rw [v1]
   exact Int.le_of_dvd hp (gcd_dvd_r _ _))
  omega
 refine⟨nofun,s1,rfl,(cS_l03Div V1 s0 s1 n gg f f1 (L0.le le1) L1 hn C1 ln hgp hgl).mono ?_⟩
 rintro V2 _ ⟨le2,sq,sr,q,r,f2,f2',rfl,L2,L2',O2,_,C2,C2',v2,b2⟩
 have l2:=le1.trans le2
 refine⟨nofun,(sq,sr,()),rfl,(cS_l03Div V2 s0' s1 d gg g f1 (L0'.le l2) (L1.le le2) hd C1 ld hgp hgl).mono ?_⟩
 rintro V3 _ ⟨le3,tq,tr,q',r',f3,f3',rfl,L3,L3',O3,_,C3,C3',v3,b3⟩
 have l3:=l2.trans le3
 rw [v1] at v2 v3 b2 b3
 have x1:=exact_quot hg v2 ⟨valN_nonneg C2'.1,b2⟩ (gcd_dvd_l _ _)
 have x2:=exact_quot hg v3 ⟨valN_nonneg C3'.1,b3⟩ (gcd_dvd_r _ _)
 have hred:Red ((sval c0 n).natAbs:Int) (valN d) q q':=by
  rw [sval_abs hn.1]
  exact⟨C2,C3,x1,x2⟩
 have n2:=L2.1
 have n3:=L3.1
 have noneP:¬ (q.length≤18∧q'.length≤18)→RatPost V0' (sval c0 n) (valN d) V3 (packed [qv1 (false,(⟨none,0,0⟩:SlV),(⟨none,0,0⟩:SlV),()),.bool false]) :=
  fun hl=>⟨l3,_,(false,[],[],()),false,_,rfl,rat_mk lr_nil lr_nil,Own.nil,q,q',hred,.inr ⟨hl,rfl,rfl⟩⟩
 refine⟨nofun,(tq,tr,()),rfl,fun h1=>noneP fun k=>?_,fun h1=>⟨fun h2=>noneP fun k=>?_,fun h2=>?_⟩⟩
 ·have:(sq.n:Int) > 18:=of_decide_eq_true h1
  omega
 ·have:(tq.n:Int) > 18:=of_decide_eq_true h2
  omega
 have k1:¬ (sq.n:Int) > 18:=of_decide_eq_false h1
 have k2:¬ (tq.n:Int) > 18:=of_decide_eq_false h2
 refine(cS_l04Make V3 c0 sq q f2 (L2.le le3) C2 (by omega)).mono ?_
 rintro V4 _ ⟨le4,s4,f4,rfl,L4,O4⟩
 have L3b:=L3.le le4
 obtain⟨r1,r2⟩:=L3b.rdI
 refine⟨nofun,(c0 && decide (0<q.length),s4,()),rfl,q'.map cellI,r1,r2,⟨r2,(by omega:(0+tq.n)*8≤140737488355328),(by omega:0+tq.n≤9223372036854775807)⟩,?_⟩
 intro b cap spare hb hcap _
 have hcap':0+tq.n≤cap:=hcap
 have k:=newI (V:=V4) (b:=b) (cap:=cap) (o:=q') (spare:=spare) (t:=3) hb (by omega) (by omega)
 have le5:=kset_le (x:=(q'.map cellI++spare,((3:TypeId),((0,0):Nat × Nat)))) hb
 have kL:LR rI (kset V4 b (q'.map cellI++spare,(3,(0,0)))) ⟨some ⟨b,0,none⟩,0+tq.n,cap⟩ q' [b]:=by
  rw [Nat.zero_add,n3]
  exact k.1
 refine⟨(l3.trans le4).trans le5,_,(c0 && decide (0<q.length),q,q',()),true,_,rfl,rat_mk (L4.le le5) kL,?_,q,q',hred,.inl ⟨by omega,by omega,rfl,?_⟩⟩
 ·rw [List.append_nil]
  exact(O4.append k.2 le4 le5).pre l3
 ·rw [sval_neg hn ((can_pos C2).trans (by have:=red_num hp hred; rwa [sval_abs hn.1] at this))]
theorem cS_RatAdd (V:Know) (c0:Bool) (c1 c2:SlV) (d0:Bool) (d1 d2:SlV) (n d m e:List Lim) (f g f' g':List Nat) (h1:LR rI V c1 n f) (h2:LR rI V c2 d g) (h3:LR rI V d1 m f') (h4:LR rI V d2 e g') (hr:RatOkP c0 n d) (hs:RatOkP d0 m e) :
  CallX Tryz.prog V 93 [qv1 (c0,c1,c2,()),qv1 (d0,d1,d2,())] (RatPost V (sval c0 n*valN e+sval d0 m*valN d) (valN d*valN e)):=by
 refine CallX.of_fits Tryz.mix (fS_RatAdd _ _) fun _=>?_
 simp only [tS_RatAdd,T.wp]
 have z1:=hr.2.2.2.1
 have z2:=hr.2.2.2.2.1
 have z3:=hs.2.2.2.1
 have z4:=hs.2.2.2.2.1
 have p1:=(can_pos hr.2.1.1).1 hr.2.2.1
 have p2:=(can_pos hs.2.1.1).1 hs.2.2.1
 refine(cS_RatOk V c0 c1 c2 n d f g h1 h2).mono ?_
 rintro V1 _ ⟨le1,b1,rfl,hb1⟩
 have hb1:=hb1.2 hr
 subst hb1
 refine⟨nofun,true,rfl,nofun,fun _=>(cS_RatOk V1 d0 d1 d2 m e f' g' (h3.le le1) (h4.le le1)).mono ?_⟩
 rintro V2 _ ⟨le2,b2,rfl,hb2⟩
 have hb2:=hb2.2 hs
 subst hb2
 have l2:=le1.trans le2
 refine⟨nofun,true,rfl,nofun,fun _=>(cS_l02Mul V2 c1 d2 n e f g' (h1.le l2) (h4.le l2) hr.1.1.1.1 hs.2.1.1.1 (by omega) (by omega)).mono ?_⟩
 rintro V3 _ ⟨le3,s3,o3,f3,rfl,L3,_,C3,v3⟩
 have n3:=mul_len (a:=n) (b:=e) hs.2.1.1 C3 hr.1.1.1.1 v3
 refine⟨fun _=>le3,s3,rfl,(cS_l04Make V3 c0 s3 o3 f3 L3 C3 (by omega)).mono ?_⟩
 rintro V4 _ ⟨le4,s4,f4,rfl,L4,_⟩
 have l4:=(l2.trans le3).trans le4
 refine⟨fun _=>le4,(c0 && decide (0<o3.length),s4,()),rfl,(cS_l02Mul V4 d1 c2 m d f' g (h3.le l4) (h2.le l4) hs.1.1.1.1 hr.2.1.1.1 (by omega) (by omega)).mono ?_⟩
 rintro V5 _ ⟨le5,s5,o5,f5,rfl,L5,_,C5,v5⟩
 have n5:=mul_len (a:=m) (b:=d) hr.2.1.1 C5 hs.1.1.1.1 v5
 have l5:=l4.trans le5
 refine⟨fun _=>le5,s5,rfl,(cS_l04Make V5 d0 s5 o5 f5 L5 C5 (by omega)).mono ?_⟩
 rintro V6 _ ⟨le6,s6,f6,rfl,L6,_⟩
 have l6:=l5.trans le6
 obtain⟨ok3,e3⟩:=made_ok (q:=c0) C3 (by omega)
 obtain⟨ok5,e5⟩:=made_ok (q:=d0) C5 (by omega)
 refine⟨fun _=>le6,(d0 && decide (0<o5.length),s6,()),rfl,(cS_l04Add V6 _ s4 _ s6 o3 o5 f4 f6 ((L4.le le5).le le6) L6 ok3.1.1 ok5.1.1 (by omega) (by omega)).mono ?_⟩
 rintro V7 _ ⟨le7,e7,s7,o7,f7,rfl,L7,_,ok7,v7,n7⟩
 have l7:=l6.trans le7
 refine⟨nofun,(e7,s7,()),rfl,(cS_l02Mul V7 c2 d2 d e g g' (h2.le l7) (h4.le l7) hr.2.1.1.1 hs.2.1.1.1 (by omega) (by omega)).mono ?_⟩
 rintro V8 _ ⟨le8,s8,o8,f8,rfl,L8,_,C8,v8⟩
 have n8:=mul_len (a:=d) (b:=e) hs.2.1.1 C8 hr.2.1.1.1 v8
 have l8:=l7.trans le8
 refine⟨fun _=>le8,s8,rfl,(cS_l05Low V8 e7 s7 s8 o7 o8 f7 f8 (L7.le le8) L8 ok7.1.1 C8 (by rw [v8]; exact Int.mul_pos p1 p2) (by omega) (by omega)).mono ?_⟩
 rintro V9 _ ⟨le9,c9,x9,e9,f9,rfl,R9,O9,hx⟩
 refine⟨fun _=>le9,(c9,e9,()),rfl,l8.trans le9,c9,x9,e9,f9,rfl,R9,O9.pre l8,?_⟩
 have q1:sval c0 o3=sval c0 n*valN e:=by
  unfold sval
  rw [v3]
  split
  ·rw [Int.neg_mul]
  ·rfl
 have q2:sval d0 o5=sval d0 m*valN d:=by
  unfold sval
  rw [v5]
  split
  ·rw [Int.neg_mul]
  ·rfl
 rw [v7,e3,e5,q1,q2,v8] at hx
 exact hx
end Go.Proofs.YtceoihhldnnenaaGreatDoor
