/-
  An amount shared by weights, in the program and in the reference; the amounts of a deal.
-/
import Derived.Test.YtfiakghfncempaaGreatDoorLegs
import Derived.Test.YtfiakghfncempaaGreatDoorShO
import Derived.Test.YtfiakghfncempaaGreatDoorChg
namespace Go.Proofs.YtfiakghfncempaaGreatDoor
open Sx
set_option maxRecDepth 100000
def PayP (x:DMoney):Prop:=MonP x∧x.2.1=false
abbrev BoolPost (V:Know) (p:Prop):Know→Value→Prop:=fun V' r=>V.le V'∧∃ e,r=.bool e∧(e=true↔p)
theorem cI_payable {V:Know} (hV:HcI V) (c:Scs MonSh) (x:DMoney) (f:List Nat) (h:rMoney.R V c x f):CallX Tryz.prog V 302 [qv2 c] (BoolPost V (PayP x)):=by
 refine CallX.of_fits Tryz.mix (fI_payable _) fun _=>?_
 obtain⟨s,rfl,hl,_⟩:=mon_elim h
 simp only [tI_payable,T.wp]
 refine(cI_MoneyOk hV x.1 x.2.1 s x.2.2.1 f hl).mono ?_
 rintro V1 _ ⟨le1,e,rfl,he⟩
 refine⟨nofun,e,rfl,fun ht=>⟨le1,_,rfl,?_⟩,fun hf=>⟨le1,_,rfl,?_⟩⟩
 ·have:e=true:=ht
  rw [Bool.not_eq_true']
  exact⟨fun k=>⟨he.1 this,k⟩,fun k=>k.2⟩
 ·exact⟨(fun k=>by cases k),(fun k=>by rw [he.2 k.1] at hf; cases hf)⟩
theorem cS_l21Money {V:Know} (c:Scs MonSh) (x:DMoney) (f:List Nat) (h:rMoney.R V c x f):CallX Tryz.prog V 74 [qv2 c] (BoolPost V (PayP x)):=by
 refine CallX.of_fits Tryz.mix (fS_l21Money _) fun _=>?_
 obtain⟨s,rfl,hl,_⟩:=mon_elim h
 simp only [tS_l21Money,T.wp]
 refine(cS_MoneyOk x.1 x.2.1 s x.2.2.1 f hl).mono ?_
 rintro V1 _ ⟨le1,e,rfl,he⟩
 refine⟨nofun,e,rfl,fun ht=>⟨le1,_,rfl,?_⟩,fun hf=>⟨le1,_,rfl,?_⟩⟩
 ·have:e=true:=ht
  rw [Bool.not_eq_true']
  exact⟨fun k=>⟨he.1 this,k⟩,fun k=>k.2⟩
 ·exact⟨(fun k=>by cases k),(fun k=>by rw [he.2 k.1] at hf; cases hf)⟩
def negM (x:DMoney):DMoney:=(x.1,(!x.2.1 && decide (0<x.2.2.1.length)),x.2.2.1,())
abbrev MonPost (V:Know) (x:DMoney):Know→Value→Prop:=fun V' v=>V.le V'∧∃ c f,v=qv2 c∧rMoney.R V' c x f∧Own V V' f
theorem cI_minus (V:Know) (c:Scs MonSh) (x:DMoney) (f:List Nat) (h:rMoney.R V c x f) (hl:x.2.2.1.length≤1048576):CallX Tryz.prog V 306 [qv2 c] (MonPost V (negM x)):=by
 refine CallX.of_fits Tryz.mix (fI_minus _) fun _=>?_
 obtain⟨s,rfl,hl',z⟩:=mon_elim h
 simp only [tI_minus,T.wp]
 refine(cI_intNeg V x.2.1 s x.2.2.1 f hl' hl).mono ?_
 rintro V1 _ ⟨le1,s1,f1,rfl,L1,O1⟩
 exact⟨fun _=>le1,_,rfl,le1,(x.1,_,s1,()),f1,rfl,mon_mk z L1,O1⟩
theorem cS_l21Less (V:Know) (c:Scs MonSh) (x:DMoney) (f:List Nat) (h:rMoney.R V c x f) (ok:MonP x):CallX Tryz.prog V 77 [qv2 c] (MonPost V (negM x)):=by
 refine CallX.of_fits Tryz.mix (fS_l21Less _) fun _=>?_
 obtain⟨s,rfl,hl',z⟩:=mon_elim h
 simp only [tS_l21Less,T.wp]
 refine(rS_IntNeg V x.2.1 s x.2.2.1 f hl' ok.2.1).mono ?_
 rintro V1 _ ⟨le1,s1,f1,rfl,L1,O1⟩
 exact⟨fun _=>le1,_,rfl,le1,(x.1,_,s1,()),f1,rfl,mon_mk z L1,O1⟩
theorem cI_areNames (V:Know) (t:SlV) (ns:List (ByteArray × Unit)) (g:List Nat) (hs:LR rNm V t ns g) (hz:∀ i (h:i<ns.length),ns[i].1.size≤9223372036854775807) :
  CallX Tryz.prog V 301 [Sc.val .l t] (BoolPost V (∀ i (h:i<ns.length),WordP ns[i].1)):=by
 refine CallX.of_fits Tryz.mix (fI_areNames _) fun _=>?_
 have hn:=hs.1
 have h63:=hs.2.2.1
 rw [tI_areNames]
 refine each_wp () (fun i=>∀ (h:i<ns.length),WordP ns[i].1) [.bool false] (n:=t.n) h63 (fun V1 i N le1 hi hbad hgo=>?_) (fun V1 le1 hall N=>?_) (fun V1 i le1 hi hne=>?_)
 ·have hi2:i<ns.length:=by omega
  obtain⟨b,o,a1,l1⟩:=nm_at (hs.le le1) hi2
  have e0:(i:Int).toNat=i:=by omega
  simp only [T.wp]
  rw [e0]
  refine⟨_,a1,by omega,by omega,ns[i].1,l1,(cI_IsWord V1 ns[i].1 (hz i hi2)).mono ?_⟩
  rintro V2 _ ⟨rfl,e,rfl,he⟩
  refine⟨nofun,e,rfl,fun hf=>hbad V2 (Know.le.refl _) fun k=>?_,fun ht=>⟨_,rfl,hgo V2 (Know.le.refl _) fun _=>he.1 (by simpa using ht)⟩⟩
  rw [he.2 (k hi2)] at hf; cases hf
 ·exact⟨le1,true,rfl,fun _ i hi=>hall i (by omega) hi,fun _=>rfl⟩
 ·exact⟨le1,false,rfl,(fun k=>by cases k),fun k=>absurd (fun h=>k i h) hne⟩
theorem lr_new {sh:List Sc} {α:Type} {r:Rp sh α} {V:Know} {b n cap:Nat} {cs:List (Scs sh)} {l:List α} {fps:List Nat} {post:List Value} {t:KTy} (h:Els r V cs l fps) (hb:V b=some (cs.flatMap (Scs.vals sh)++post,t)) (hn:n=l.length) (hc:l.length≤cap) (hl:l.length≤9223372036854775807) :
  LR r V ⟨some ⟨b,0,none⟩,n,cap⟩ l (b :: fps):=by
 subst hn
 exact⟨rfl,hc,hl,.inr ⟨b,[],post,t,fps,cs,rfl,by simpa using hb,h,rfl⟩⟩
theorem legs_fits {x:DLedger} {c:ByteArray} {legs:List DAcct} (hc:∀ g∈legs,g.2.1=c):legsP x legs=if fitsP x.1 c (legs.map (·.1))≠0 then (zeroL,fitsP x.1 c (legs.map (·.1))) else postP x legs:=by
 have e1:(∃ n∈legs.map (·.1),fnd n x.1=none)↔∃ g∈legs,fnd g.1 x.1=none:=by simp
 have e2:(∃ n∈legs.map (·.1),(balP x.1 n).1≠c)↔∃ g∈legs,(balP x.1 g.1).1≠g.2.1:=by
  constructor
  ·rintro⟨n,hn,hp⟩
   obtain⟨g,hg,rfl⟩:=List.mem_map.1 hn
   exact⟨g,hg,by rw [hc g hg]; exact hp⟩
  ·rintro⟨g,hg,hp⟩
   exact⟨g.1,List.mem_map_of_mem hg,by rw [← hc g hg]; exact hp⟩
 unfold legsP fitsP
 by_cases h1:∃ g∈legs,fnd g.1 x.1=none
 ·rw [if_pos h1,if_pos (e1.2 h1)]; simp
 ·rw [if_neg h1,if_neg (fun k=>h1 (e1.1 k))]
  by_cases h2:∃ g∈legs,(balP x.1 g.1).1≠g.2.1
  ·rw [if_pos h2,if_pos (e2.2 h2)]; simp
  ·rw [if_neg h2,if_neg (fun k=>h2 (e2.1 k))]; simp
theorem postP_ans {x:DLedger} {legs:List DAcct}:(postP x legs).2≠0→(postP x legs).1=zeroL:=by
 unfold postP
 cases postL x.1 legs with
 | none=>intro _; rfl
 | some l=>intro h; exact absurd rfl h
theorem legsP_acct {x:DLedger} {legs:List DAcct} (h:∃ g∈legs,fnd g.1 x.1=none):legsP x legs=(zeroL,3):=if_pos h
theorem legsP_match {x:DLedger} {legs:List DAcct} (h:¬ ∃ g∈legs,fnd g.1 x.1=none) (k:∃ g∈legs,(balP x.1 g.1).1≠g.2.1):legsP x legs=(zeroL,5):=(if_neg h).trans (if_pos k)
theorem legsP_post {x:DLedger} {legs:List DAcct} (h:¬ ∃ g∈legs,fnd g.1 x.1=none) (k:¬ ∃ g∈legs,(balP x.1 g.1).1≠g.2.1):legsP x legs=postP x legs:=(if_neg h).trans (if_neg k)
theorem legs_ex {p:DAcct→Prop} {legs:List DAcct}:(∃ g∈legs,p g)↔∃ (i:Nat) (h:i<legs.length),p legs[i]:=by
 constructor
 ·rintro⟨g,hg,hp⟩
  obtain⟨i,hi,rfl⟩:=List.mem_iff_getElem.1 hg
  exact⟨i,hi,hp⟩
 ·rintro⟨i,hi,hp⟩
  exact⟨_,List.getElem_mem hi,hp⟩
theorem cS_l21Legs {V:Know} (_:HcS V) (c:Scs LedSh) (x:DLedger) (f:List Nat) (h:rLedger.R V c x f) (ht:rLedger.tot x≤1048576) (t:SlV) (legs:List DAcct) (g:List Nat) (hs:LR rAcct V t legs g) :
  CallX Tryz.prog V 78 [qv3 c,Sc.val .l t] (DoS V (legsP x legs)):=by
 refine CallX.of_fits Tryz.mix (fS_l21Legs _ _) fun _=>?_
 obtain⟨s0,s1,s3,f0,f1,f3,rfl,L0,_,_⟩:=ledger_elim h
 have hn:=hs.1
 have hn0:=L0.1
 have h63:=hs.2.2.1
 rw [tS_l21Legs]
 refine each_wp (rest:=[.o (.o .l),.o (.o .l),.o (.o .s),.o (.o .l)]) (⟨none,0,0⟩,⟨none,0,0⟩,ByteArray.empty,⟨none,0,0⟩,()) (fun i=>∀ (h:i<legs.length),fnd legs[i].1 x.1≠none) [qv3 zeroLC,.int .i64 3] (n:=t.n) h63 (fun V1 i N le1 hi hbad hgo=>?_) (fun V1 le1 hall N1=>?_) (fun V1 i le1 hi hne=>?_)
 ·have hi2:i<legs.length:=by omega
  obtain⟨b,o,cl,fc,a1,l1,hR,_⟩:=(hs.le le1).at hi2
  have en:cl.1=legs[i].1:=hR.1.1
  have e0:(i:Int).toNat=i:=by omega
  simp only [T.wp]
  rw [e0]
  refine⟨_,a1,by omega,by omega,cl,l1,(cS_AcctAt V1 s0 x.1 f0 (L0.le le1) cl.1).mono ?_⟩
  rintro V2 _ ⟨le2,rfl⟩
  rw [en]
  refine⟨nofun,_,rfl,fun hlt=>hbad V2 le2 fun k=>k hi2 (at_neg.1 (of_decide_eq_true hlt)),fun hge=>⟨_,rfl,hgo V2 le2 fun _ k=>(of_decide_eq_false hge) (at_neg.2 k)⟩⟩
 rotate_left
 ·have hf:fnd (legs[i]'(by omega)).1 x.1=none:=Decidable.not_not.1 fun k=>hne fun _=>k
  rw [legsP_acct (legs_ex.2 ⟨i,by omega,hf⟩)]
  exact doS_zero le1 3
 have hacct:¬ ∃ g∈legs,fnd g.1 x.1=none:=fun k=>by
  obtain⟨i,hi,e⟩:=legs_ex.1 k
  exact hall i (by omega) hi e
 refine each_wp (rest:=[.o (.o .l),.o (.o .l),.o (.o .s),.o (.o .l)]) (⟨none,0,0⟩,⟨none,0,0⟩,ByteArray.empty,⟨none,0,0⟩,()) (fun i=>∀ (h:i<legs.length),(balP x.1 legs[i].1).1=legs[i].2.1) [qv3 zeroLC,.int .i64 5] (n:=t.n) h63 (fun V2 i N le2 hi hbad hgo=>?_) (fun V2 le2 hall2 N2=>?_) (fun V2 i le2 hi hne=>?_)
 ·have hi2:i<legs.length:=by omega
  have l2:=le1.trans le2
  obtain⟨b,o,cl,fc,a1,l1,hR,_⟩:=(hs.le l2).at hi2
  have en:cl.1=legs[i].1:=hR.1.1
  have ec:cl.2.1=legs[i].2.1:=hR.2.1.1
  have e0:(i:Int).toNat=i:=by omega
  simp only [T.wp]
  rw [e0]
  refine⟨_,a1,by omega,by omega,cl,l1,(cS_AcctAt V2 s0 x.1 f0 (L0.le l2) cl.1).mono ?_⟩
  rintro V3 _ ⟨le3,rfl⟩
  rw [en,ec]
  obtain⟨j,hj,hfj,hat,_⟩:=at_some (n:=legs[i].1) (l:=x.1) (fun k=>hall i (by omega) hi2 (at_neg.1 k))
  have e1:(j:Int).toNat=j:=by omega
  rw [hat]
  obtain⟨b2,o2,c2,fc2,a2,l2',hR2,_⟩:=(L0.le l2).at hj
  have e2:c2.2.1=x.1[j].2.1:=hR2.2.1.1
  refine⟨fun _=>le3,(j:Int),rfl,?_⟩
  rw [e1]
  refine⟨_,a2,by omega,(by show(j:Int)<(s0.n:Int); omega),c2.2.1,?_,fun hne=>hbad V3 le3 fun k=>?_,fun he=>⟨_,rfl,hgo V3 le3 fun _=>?_⟩⟩
  ·rw [if_pos trivial]
   exact load_part (load_part l2' (o:=1) (n:=3) rfl) (o:=0) (n:=1) rfl
  ·have:=text_eq.2 (e2.trans ((congrArg (·.1) (balP_some hfj hj)).symm.trans (k hi2)))
   rw [this] at hne; cases hne
  ·rw [balP_some hfj hj]
   exact e2.symm.trans (text_eq.1 (by simpa using he))
 rotate_left
 ·have l2:=le1.trans le2
  rw [legsP_match hacct (legs_ex.2 ⟨i,by omega,fun k=>hne fun _=>k⟩)]
  exact doS_zero l2 5
 have hcur:¬ ∃ g∈legs,(balP x.1 g.1).1≠g.2.1:=fun k=>by
  obtain⟨i,hi,e⟩:=legs_ex.1 k
  exact e (hall2 i (by omega) hi)
 have l2:=le1.trans le2
 rw [legsP_post hacct hcur]
 simp only [T.wp]
 refine(kS_l20Copy V2 _ x f (rLedger.le h l2) ht).mono ?_
 rintro V3 _ ⟨le3,c3,f3',rfl,R3⟩
 have l3:=l2.trans le3
 obtain⟨x0,x1,x2,x3,xu⟩:=x
 obtain⟨q0,q1,q2,q3,qu⟩:=c3
 obtain⟨k0,k0',rfl,r0,R3⟩:=R3
 obtain⟨k1,k1',rfl,r1,R3⟩:=R3
 obtain⟨⟨e2,z2⟩,R3⟩:=R3
 replace e2:q2=x2:=e2
 obtain⟨k3,k3',rfl,r3,hN⟩:=R3
 replace r0:LR rAcct V3 q0 x0 k0:=r0
 replace r1:LR rRest V3 q1 x1 k1:=r1
 replace r3:LR rRate V3 q3 x3 k3:=r3
 subst e2
 refine⟨nofun,(q0,q1,q2,q3,()),rfl,?_⟩
 refine⟨fun y V'=>V3.le V'∧y.2.1=⟨none,0,0⟩∧y.2.2.1=⟨none,0,0⟩∧y.2.2.2.1=ByteArray.empty∧y.2.2.2.2.1=⟨none,0,0⟩∧y.2.2.2.2.2.2=(q1,q2,q3,())∧∃ (k:Nat) (lk:List DAcct) (fk:List Nat),y.1=(k:Int)∧k≤legs.length∧LR rAcct V' y.2.2.2.2.2.1 lk fk∧postL x0 legs=postL lk (legs.drop k),
  fun y _=>((legs.length:Int)-(y.1:Int)).toNat,⟨((0:Int),⟨none,0,0⟩,⟨none,0,0⟩,ByteArray.empty,⟨none,0,0⟩,q0,q1,q2,q3,()),rfl,Know.le.refl _,rfl,rfl,rfl,rfl,rfl,0,x0,k0,rfl,Nat.zero_le _,r0,by simp⟩,?_⟩
 rintro⟨(i:Int),y1,y2,y3,y4,sk,y5,y6,y7,yu⟩ V4 ⟨le4,hy1,hy2,hy3,hy4,hy,k,lk,fk,hk,hkl,Lk,hp⟩
 replace hk:i=(k:Int):=hk
 replace hy1:y1=(⟨none,0,0⟩:SlV):=hy1
 replace hy2:y2=(⟨none,0,0⟩:SlV):=hy2
 replace hy3:y3=ByteArray.empty:=hy3
 replace hy4:y4=(⟨none,0,0⟩:SlV):=hy4
 subst hk hy1 hy2 hy3 hy4
 replace hy:(y5,y6,y7,yu)=(q1,q2,q3,()):=hy
 simp only [Prod.mk.injEq,and_true] at hy
 obtain⟨rfl,rfl,rfl⟩:=hy
 replace Lk:LR rAcct V4 sk lk fk:=Lk
 have l4:=l3.trans le4
 have e0:(k:Int).toNat=k:=by omega
 refine⟨fun hlt=>?_,fun hge=>?_⟩
 ·have hi:k<legs.length:=by
   have:(k:Int)<(t.n:Int):=of_decide_eq_true hlt
   omega
  obtain⟨b,o,cl,fc,a1,l1,hR,_⟩:=(hs.le l4).at hi
  dsimp only
  rw [e0]
  have en:cl.1=legs[k].1:=hR.1.1
  refine⟨_,a1,by omega,(by show(k:Int)<(t.n:Int); omega),cl,l1,(cS_BookPost (V:=V4) trivial sk lk fk Lk cl.1 cl.2 legs[k].2 fc hR.2).mono ?_⟩
  rintro V5 _ ⟨le5,s5,f5,rfl,L5,_⟩
  rw [en] at L5 ⊢
  obtain⟨⟨l',ok⟩,hpb⟩:∃ r,postB lk legs[k].1 legs[k].2=r:=⟨_,rfl⟩
  rw [hpb] at L5 ⊢
  rw [List.drop_eq_getElem_cons hi,postL_cons hpb] at hp
  refine⟨nofun,((s5,()),ok,()),rfl,fun hf=>?_,fun hT=>?_⟩
  ·have:ok=false:=by simpa using hf
   subst this
   rw [postP,hp]
   exact doS_zero (l4.trans le5) 8
  ·have:ok=true:=by simpa using hT
   subst this
   refine⟨_,rfl,(((k+1:Nat):Int),⟨none,0,0⟩,⟨none,0,0⟩,ByteArray.empty,⟨none,0,0⟩,s5,y5,y6,y7,()),by rw [nxt hi (by omega)]; rfl,⟨le4.trans le5,rfl,rfl,rfl,rfl,rfl,k+1,l',f5,rfl,hi,L5,hp⟩,?_⟩
   show((legs.length:Int)-((k+1:Nat):Int)).toNat<((legs.length:Int)-(k:Int)).toNat
   omega
 ·have hi:k=legs.length:=by
   have:¬ (k:Int)<(t.n:Int):=of_decide_eq_false hge
   omega
  subst hi
  rw [List.drop_length,postL] at hp
  rw [postP,hp]
  exact⟨l4,(sk,y5,y6,y7,()),fk++(k1++k3),rfl,ledger_mk (x:=(lk,x1,y6,x3,())) Lk (r1.le le4) rfl z2 (r3.le le4)⟩
end Go.Proofs.YtfiakghfncempaaGreatDoor
namespace Go.Proofs.YtfiakghfncempaaGreatDoor
open Sx
set_option maxRecDepth 100000
theorem do_inj {x x':DLedger} {n n':Int} {y:DLedger × Int} (h:(x,n)=y) (h':(x',n')=y):x=x'∧n=n':=by
 have:=h.trans h'.symm
 simpa using this
def Ans (y:DLedger × Int):Prop:=(y.2=0∧LedgerOkP y.1)∨(y.2≠0∧y.1=zeroL)
theorem ans_perf {x:DLedger} {y:DLedger × Int} (h:LedgerOkP x→Ans y):Ans (perfP x y):=by
 by_cases k:LedgerOkP x
 ·rw [perfP_ok k]; exact h k
 ·rw [perfP_no k]; exact .inr ⟨by decide,rfl⟩
theorem ans_tot {y:DLedger × Int} (h:Ans y) {x:DLedger} {n:Int} (e:(x,n)=y):rLedger.tot x≤1048576:=by
 subst e
 rcases h with ⟨_,h⟩ | ⟨_,h⟩
 ·exact Nat.le_trans (ledger_tot h) (by decide)
 ·replace h:x=zeroL:=h
  subst h; decide
abbrev UI (V:Know) (y:DLedger × Int):Know→Value→Prop:=fun V' v=>V.le V'∧∃ c x f n,v=.tuple #[qv3 c,.int .i64 n]∧rLedger.R V' c x f∧Own V V' f∧(x,n)=y
abbrev US (V:Know) (y:DLedger × Int):Know→Value→Prop:=fun V' v=>V.le V'∧∃ c x f n,v=.tuple #[qv3 c,.int .i64 n]∧rLedger.R V' c x f∧True∧(x,n)=y
theorem doPost_u {V V':Know} {y:DLedger × Int} {v:Value} (h:DoPost V y V' v):UI V y V' v:=by
 obtain⟨le,c,f,e,R,O⟩:=h
 exact⟨le,c,_,f,_,e,R,O,rfl⟩
theorem doS_u {V V':Know} {y:DLedger × Int} {v:Value} (h:DoS V y V' v):US V y V' v:=by
 obtain⟨le,c,f,e,R⟩:=h
 exact⟨le,c,_,f,_,e,R,trivial,rfl⟩
end Go.Proofs.YtfiakghfncempaaGreatDoor
namespace Go.Proofs.YtfiakghfncempaaGreatDoor
open Sx
set_option maxRecDepth 100000
theorem addM_ok {x y z:DMoney} (h:addM x y=(z,true)) (k:∃ r,AddP x y r):MonP z∧z.1=x.1:=by
 obtain⟨r,hr⟩:=k
 have:=(addM_eq hr).symm.trans h
 subst this
 rcases hr with ⟨_,_,h1,h2,_⟩ | ⟨h1,_⟩
 ·exact⟨h1,h2⟩
 ·cases h1
open Classical in
theorem addP_ex (x y:DMoney):∃ r,AddP x y r:=by
 by_cases h:AlikeP x y∧∃ z:DMoney,MonP z∧z.1=x.1∧svM z=svM x+svM y
 ·obtain⟨h1,z,h2,h3,h4⟩:=h
  exact⟨(z,true),.inl ⟨rfl,h1,h2,h3,h4⟩⟩
 ·exact⟨(nilM,false),.inr ⟨rfl,rfl,h⟩⟩
theorem book_set {l:List DAcct} (h:BookOkP l) {i:Nat} (hi:i<l.length) {z:DMoney} (hz:MonP z):BookOkP (l.set i (l[i].1,z)):=by
 have hk:∀ (j:Nat) (hj:j<(l.set i (l[i].1,z)).length),(l.set i (l[i].1,z))[j].1=(l[j]'(by simpa using hj)).1:=fun j hj=>by
  rw [List.getElem_set]
  split
  ·rename_i ij; subst ij; rfl
  ·rfl
 refine⟨by rw [List.length_set]; exact h.1,fun j hj=>?_⟩
 obtain⟨q0,q1,q2,q3⟩:=h.2 j (by simpa using hj)
 refine⟨hj,by rw [hk]; exact q1,?_,fun h0=>by rw [hk,hk]; exact q3 h0⟩
 rw [List.getElem_set]
 split
 ·exact hz
 ·exact q2
theorem postB_ok {l:List DAcct} {n:ByteArray} {m:DMoney} {y:List DAcct} (h:postB l n m=(y,true)):BookOkP y:=by
 by_cases hb:BookOkP l
 ·cases hf:fnd n l with
  | none=>rw [postB_none hf] at h; simp at h
  | some i =>
   obtain⟨hi,_⟩:=fnd_at hf
   obtain⟨⟨z,ok⟩,ha⟩:∃ r,addM l[i].2 m=r:=⟨_,rfl⟩
   rw [postB_some hb hf hi ha] at h
   cases ok with
   | false=>simp at h
   | true =>
    simp only [if_true,Prod.mk.injEq,and_true] at h
    subst h
    exact book_set hb hi (addM_ok ha (addP_ex _ _)).1
 ·rw [postB_no hb] at h; simp at h
theorem postL_ok:∀ {legs:List DAcct} {l y:List DAcct},BookOkP l→postL l legs=some y→BookOkP y
 | [],l,y,h,e=>by
  rw [postL] at e
  cases e; exact h
 | g :: gs,l,y,h,e=>by
  obtain⟨⟨l',ok⟩,hp⟩:∃ r,postB l g.1 g.2=r:=⟨_,rfl⟩
  rw [postL_cons hp] at e
  cases ok with
  | false=>simp at e
  | true=>exact postL_ok (postB_ok hp) (by simpa using e)
theorem postP_Ans {x:DLedger} {legs:List DAcct} (h:LedgerOkP x):Ans (postP x legs):=by
 unfold postP
 cases hp:postL x.1 legs with
 | none=>exact .inr ⟨(by show(8:Int)≠0; decide),rfl⟩
 | some l=>exact .inl ⟨rfl,postL_ok h.1 hp,h.2⟩
end Go.Proofs.YtfiakghfncempaaGreatDoor
namespace Go.Proofs.YtfiakghfncempaaGreatDoor
open Sx
set_option maxRecDepth 100000
def ShMon (m:DMoney) (w:List Lim) (o:List DMoney):Prop:=∃ out,ShOut m.2.1 m.2.2.1 w out∧o=out.map fun x=>((m.1,x):DMoney)
theorem shMon_one {m:DMoney} {w:List Lim} {o o':List DMoney} (hw:WtP w) (h:ShMon m w o) (h':ShMon m w o'):o=o':=by
 obtain⟨q,h1,rfl⟩:=h
 obtain⟨q',h2,rfl⟩:=h'
 rw [shOut_one hw h1 h2]
theorem shMon_len {m:DMoney} {w:List Lim} {o:List DMoney} (h:ShMon m w o):o.length=w.length:=by
 obtain⟨q,h1,rfl⟩:=h
 rw [List.length_map]; exact h1.1
theorem shMon_cur {m:DMoney} {w:List Lim} {o:List DMoney} (h:ShMon m w o):∀ y∈o,y.1=m.1:=by
 obtain⟨q,h1,rfl⟩:=h
 intro y hy
 obtain⟨x,_,rfl⟩:=List.mem_map.1 hy
 rfl
theorem mon_loop {P:Program} {K:Know→List Value→Prop} {V V0:Know} (cur:ByteArray) (hz:cur.size≤9223372036854775807) (t:SlV) (out:List DSigned) (fo:List Nat) (h:LR rSigned V t out fo) (h30:out.length≤30)
  (hK:∀ V' t' f,V.le V'→LR rMoney V' t' (out.map fun x=>((cur,x):DMoney)) f→K V' [Sc.val .l t',.bool true]) :
  (T.lp [.a 38,.o (.o (.i .i64))] [.a 38 (0:Nat) [],.v (.int .i64 (0:Int))] fun y3 =>
   .br (decide ((y3.2.1:Int)<(t.n:Int))) (
    .el t.1 t.n y3.2.1 fun y4 =>
    .ld false (y4.add (Int.toNat y3.2.1*(2:Nat))) (.g [.b,.l]) fun y5 =>
    .rq ([Go.Value.string cur,Go.Value.bool y5.1,Go.Value.slice y5.2.1.1 y5.2.1.n y5.2.1.c].length=(1:Nat)*(3:Nat)) <|
    .rq (one [Go.Value.string cur,Go.Value.bool y5.1,Go.Value.slice y5.2.1.1 y5.2.1.n y5.2.1.c]=true∧(y3.1.1+(1:Nat))*(48:Nat)≤(140737488355328:Nat)∧y3.1.1+(1:Nat)≤(9223372036854775807:Nat)) <|
    .nx 0 [.a 38 (y3.1.1+(1:Nat)) (y3.1.2++[Go.Value.string cur,Go.Value.bool y5.1,Go.Value.slice y5.2.1.1 y5.2.1.n y5.2.1.c]),.v (.int .i64 (Go.IntKind.i64.wrap (y3.2.1+(1:Int))))]) <|
   .fz y3.1.1 y3.1.2 38 fun b4 c4 =>
   .ret [.slice (some ⟨b4,0,none⟩) y3.1.1 c4,.bool true]).wp P K V V0 []:=by
 have hn:=h.1
 simp only [T.wp]
 refine⟨fun q V'=>V'=V∧∃ (k:Nat) (cs:List (Scs [.s,.b,.l])) (fps:List Nat),q.2.1=(k:Int)∧k≤out.length∧q.1.1=k∧q.1.2=cs.flatMap (Scs.vals [.s,.b,.l])∧Els rMoney V cs ((out.take k).map fun x=>((cur,x):DMoney)) fps,
  fun q _=>((out.length:Int)-(q.2.1:Int)).toNat,⟨((0,[]),(0:Int),()),rfl,rfl,0,[],[],rfl,Nat.zero_le _,rfl,rfl,rfl⟩,?_⟩
 rintro⟨⟨(qn:Nat),(qc:List Value)⟩,(i:Int),u⟩ _ ⟨rfl,k,cs,fps,e1,hk,e2,e3,hE⟩
 replace e1:i=(k:Int):=e1
 replace e2:qn=k:=e2
 replace e3:qc=cs.flatMap (Scs.vals [.s,.b,.l]):=e3
 subst e1 e2 e3
 have e0:(qn:Int).toNat=qn:=by omega
 refine⟨fun hlt=>?_,fun hge=>?_⟩
 ·have hi:qn<out.length:=by
   have:(qn:Int)<(t.n:Int):=of_decide_eq_true hlt
   omega
  obtain⟨b,o,cl,fc,a1,l1,hR,_⟩:=h.at hi
  dsimp only
  rw [e0]
  refine⟨_,a1,by omega,(by show(qn:Int)<(t.n:Int); omega),cl,l1,rfl,⟨rfl,(by omega:(qn+1)*48≤140737488355328),(by omega:qn+1≤9223372036854775807)⟩,_,rfl,
   ((qn+1,(cs++[((cur,cl):Scs [.s,.b,.l])]).flatMap (Scs.vals [.s,.b,.l])),((qn+1:Nat):Int),()),?_,⟨rfl,qn+1,cs++[((cur,cl):Scs [.s,.b,.l])],fps++fc,rfl,hi,rfl,rfl,?_⟩,?_⟩
  ·rw [nxt hi (by omega),List.flatMap_append]
   rfl
  ·rw [List.take_succ_eq_append_getElem hi,List.map_append]
   exact Els.snoc (r:=rMoney) (x:=((cur,out[qn]):DMoney)) ⟨⟨rfl,hz⟩,hR⟩ hE
  ·show((out.length:Int)-((qn+1:Nat):Int)).toNat<((out.length:Int)-(qn:Int)).toNat
   omega
 ·have hi:qn=out.length:=by
   have:¬ (qn:Int)<(t.n:Int):=of_decide_eq_false hge
   omega
  subst hi
  rw [List.take_length] at hE
  intro b cp sp hb hcp _
  have q:=kset_le (x:=(cs.flatMap (Scs.vals [.s,.b,.l])++sp,((38:TypeId),((0,0):Nat × Nat)))) hb
  exact hK _ ⟨some ⟨b,0,none⟩,out.length,cp⟩ (b :: fps) q (lr_new (hE.le q) kset_same (by simp) (by simpa using hcp) (by simp; omega))
abbrev SmPost (V:Know) (m:DMoney) (w:List Lim):Know→Value→Prop:=fun V' r=>V.le V'∧∃ t o f,r=.tuple #[Sc.val .l t,.bool true]∧LR rMoney V' t o f∧ShMon m w o
theorem cI_ShareMoney {V:Know} (hV:HcI V) (cm:Scs MonSh) (m:DMoney) (g:List Nat) (hm:rMoney.R V cm m g) (pm:MonP m) (s:SlV) (w:List Lim) (gw:List Nat) (hs:LR rI V s w gw) (hw:WtP w) :
  CallX Tryz.prog V 305 [qv2 cm,Sc.val .l s] (SmPost V m w):=by
 refine CallX.of_fits Tryz.mix (fI_ShareMoney _ _) fun _=>?_
 obtain⟨sm,rfl,hl,z0⟩:=mon_elim hm
 rw [tI_ShareMoney]
 refine(cI_MoneyOk hV m.1 m.2.1 sm m.2.2.1 g hl).mono ?_
 rintro V1 _ ⟨le1,e1,rfl,he1⟩
 obtain rfl:e1=true:=he1.2 pm
 refine⟨nofun,true,rfl,nofun,fun _=>(cI_Shares V1 m.2.1 sm m.2.2.1 g (hl.le le1) pm.2.1 pm.2.2 s w gw (hs.le le1) hw).mono ?_⟩
 rintro V2 _ ⟨le2,t,out,f,rfl,L,hout⟩
 refine⟨nofun,(t,true,()),rfl,nofun,fun _=>mon_loop m.1 z0 t out f L (by have:=hw.2.1; have:=hout.1; omega) fun V3 t3 f3 le3 L3=>⟨(le1.trans le2).trans le3,t3,_,f3,rfl,L3,out,hout,rfl⟩⟩
theorem cS_ShareMoney {V:Know} (cm:Scs MonSh) (m:DMoney) (g:List Nat) (hm:rMoney.R V cm m g) (pm:MonP m) (s:SlV) (w:List Lim) (gw:List Nat) (hs:LR rI V s w gw) (hw:WtP w) :
  CallX Tryz.prog V 76 [qv2 cm,Sc.val .l s] (SmPost V m w):=by
 refine CallX.of_fits Tryz.mix (fS_ShareMoney _ _) fun _=>?_
 obtain⟨sm,rfl,hl,z0⟩:=mon_elim hm
 rw [tS_ShareMoney]
 refine(cS_Shares V m.2.1 sm m.2.2.1 g hl pm.2.1 pm.2.2 s w gw hs hw).mono ?_
 rintro V1 _ ⟨le1,t,out,f,rfl,L,hout⟩
 refine⟨nofun,(t,true,()),rfl,nofun,fun _=>(cS_MoneyOk m.1 m.2.1 sm m.2.2.1 g (hl.le le1)).mono ?_⟩
 rintro V2 _ ⟨le2,e2,rfl,he2⟩
 obtain rfl:e2=true:=he2.2 pm
 refine⟨nofun,true,rfl,nofun,fun _=>mon_loop m.1 z0 t out f (L.le le2) (by have:=hw.2.1; have:=hout.1; omega) fun V3 t3 f3 le3 L3=>⟨(le1.trans le2).trans le3,t3,_,f3,rfl,L3,out,hout,rfl⟩⟩
theorem els_nmI {V:Know}:∀ {cs:List (Scs [.s])} {ns:List (ByteArray × Unit)} {fps:List Nat},Els rNm V cs ns fps→cs.flatMap (Scs.vals [.s])=ns.map (fun n=>Value.string n.1)∧fps=[]∧∀ n∈ns,n.1.size≤9223372036854775807
 | [],[],_,h=>⟨rfl,h,by simp⟩
 | c :: cs,n :: ns,_,h=>by
  obtain⟨f,g,rfl,⟨⟨e1,z⟩,hf⟩,hE⟩:=h
  replace e1:c.1=n.1:=e1
  replace z:n.1.size≤9223372036854775807:=z
  replace hf:f=[]:=hf
  obtain⟨h1,h2,h3⟩:=els_nmI hE
  refine⟨?_,by rw [hf,h2]; rfl,fun k hk=>?_⟩
  ·rw [List.flatMap_cons,List.map_cons,h1,← e1]; rfl
  ·rcases List.mem_cons.1 hk with rfl | hk
   ·exact z
   ·exact h3 k hk
theorem els_nmS {V:Know}:∀ {ns:List (ByteArray × Unit)},(∀ n∈ns,n.1.size≤9223372036854775807)→Els rNm V ns ns []
 | [],_=>rfl
 | n :: ns,h=>⟨[],[],rfl,⟨⟨rfl,h n (by simp)⟩,rfl⟩,els_nmS fun m hm=>h m (by simp [hm])⟩
theorem one_nm:∀ ns:List (ByteArray × Unit),one (ns.map fun n=>Value.string n.1)=true
 | []=>rfl
 | x :: o=>by
  have:=one_nm o
  unfold one at this ⊢
  rw [List.map_cons,List.all_cons,this]; rfl
theorem LR.rdN {V:Know} {s:SlV} {ns:List (ByteArray × Unit)} {f:List Nat} (h:LR rNm V s ns f) :
  ((s.n=0∧(s.a=none→s.c=0)∧(ns.map fun n=>Value.string n.1)=[])∨∃ ad,s.a=some ad∧loadV V ad (s.n*1)=some (ns.map fun n=>Value.string n.1))∧∀ n∈ns,n.1.size≤9223372036854775807:=by
 obtain⟨h1,h2,h3,h4⟩:=h
 rcases h4 with ⟨h0,hc,hf⟩ | ⟨b,pre,post,t,fps,cs,k1,k2,k3,rfl⟩
 ·have:ns=[]:=List.eq_nil_of_length_eq_zero (by omega)
  subst this
  exact⟨.inl ⟨h0,hc,rfl⟩,by simp⟩
 ·obtain⟨e1,_,hz⟩:=els_nmI k3
  refine⟨.inr ⟨_,k1,?_⟩,hz⟩
  simp only [loadV,k2]
  have:=cutv_skip (x:=pre) (y:=cs.flatMap (Scs.vals [.s])++post) (o:=0) (n:=s.n*1)
  rw [Nat.add_zero] at this
  rw [this,e1,h1,Nat.mul_one]
  have:=cutv_head (x:=ns.map fun n=>Value.string n.1) (y:=post)
  rwa [List.length_map] at this
def legL (ns:List (ByteArray × Unit)) (o:List DMoney):List DAcct:=List.zipWith (fun n x=>((n.1,x):DAcct)) ns o
theorem legL_snoc {ns:List (ByteArray × Unit)} {o:List DMoney} {k:Nat} (h1:k<ns.length) (h2:k<o.length):legL (ns.take (k+1)) (o.take (k+1))=legL (ns.take k) (o.take k)++[(ns[k].1,o[k])]:=by
 unfold legL
 rw [List.take_succ_eq_append_getElem h1,List.take_succ_eq_append_getElem h2,List.zipWith_append (by simp; omega)]
 rfl
theorem legL_names:∀ {ns:List (ByteArray × Unit)} {o:List DMoney},o.length=ns.length→(legL ns o).map (·.1)=ns.map (·.1)
 | [],[],_=>rfl
 | n :: ns,x :: o,h=>by
  show n.1 :: (legL ns o).map (·.1)=_
  rw [legL_names (by simpa using h)]; rfl
theorem legL_cur {c:ByteArray}:∀ {ns:List (ByteArray × Unit)} {o:List DMoney},(∀ y∈o,y.1=c)→∀ g∈legL ns o,g.2.1=c
 | [],_,_,_,h=>by cases h
 | _ :: _,[],_,_,h=>by cases h
 | n :: ns,x :: o,hc,g,h=>by
  have h':g∈((n.1,x):DAcct) :: legL ns o:=h
  rcases List.mem_cons.1 h' with rfl | h'
  ·exact hc x (by simp)
  ·exact legL_cur (fun y hy=>hc y (by simp [hy])) g h'
theorem leg_loop {P:Program} {K:Know→List Value→Prop} {V V0:Know} (a:ByteArray) (ha:a.size≤9223372036854775807) (cy:Scs MonSh) (m:DMoney) (fy:List Nat) (hy:rMoney.R V cy m fy) (tp:SlV) (o:List DMoney) (fo:List Nat) (hp:LR rMoney V tp o fo)
  (tn:SlV) (ns:List (ByteArray × Unit)) (gn:List Nat) (hn:LR rNm V tn ns gn) (hl:o.length=ns.length) (h30:o.length≤30) (tail:Nat→List Value→T)
  (hT:∀ (cs:List (Scs [.s,.s,.b,.l])) (fps:List Nat) (Ns':List (List LV→Know→Prop)),Els rAcct V cs (((a,m):DAcct) :: legL ns o) fps→(tail (o.length+1) (cs.flatMap (Scs.vals [.s,.s,.b,.l]))).wp P K V V Ns') :
  (T.lp [.a 133,.o (.o (.i .i64))] [.a 133 (1:Nat) [.string a,.string cy.1,.bool cy.2.1,Sc.val .l cy.2.2.1],.v (.int .i64 (0:Int))] fun y8 =>
   .br (decide ((y8.2.1:Int)<(tp.n:Int))) (
    .el tp.1 tp.n y8.2.1 fun y9 =>
    .ld false (y9.add (Int.toNat y8.2.1*(3:Nat))) (.g [.s,.b,.l]) fun y10 =>
    .rg <|
    .el tn.1 tn.n y8.2.1 fun y11 =>
    .ld true (y11.add (Int.toNat y8.2.1*(1:Nat))) (.o .s) fun y12 =>
    .rq ([Go.Value.string y12,Go.Value.string y10.1,Go.Value.bool y10.2.1,Go.Value.slice y10.2.2.1.1 y10.2.2.1.n y10.2.2.1.c].length=(1:Nat)*(4:Nat)) <|
    .rq (one [Go.Value.string y12,Go.Value.string y10.1,Go.Value.bool y10.2.1,Go.Value.slice y10.2.2.1.1 y10.2.2.1.n y10.2.2.1.c]=true∧(y8.1.1+(1:Nat))*(64:Nat)≤(140737488355328:Nat)∧y8.1.1+(1:Nat)≤(9223372036854775807:Nat)) <|
    .nx 0 [.a 133 (y8.1.1+(1:Nat)) (y8.1.2++[Go.Value.string y12,Go.Value.string y10.1,Go.Value.bool y10.2.1,Go.Value.slice y10.2.2.1.1 y10.2.2.1.n y10.2.2.1.c]),.v (.int .i64 (Go.IntKind.i64.wrap (y8.2.1+(1:Int))))]) <|
   tail y8.1.1 y8.1.2).wp P K V V0 []:=by
 have hn0:=hp.1
 have hn1:=hn.1
 simp only [T.wp]
 refine⟨fun q V'=>V'=V∧∃ (k:Nat) (cs:List (Scs [.s,.s,.b,.l])) (fps:List Nat),q.2.1=(k:Int)∧k≤o.length∧q.1.1=k+1∧q.1.2=cs.flatMap (Scs.vals [.s,.s,.b,.l])∧Els rAcct V cs (((a,m):DAcct) :: legL (ns.take k) (o.take k)) fps,
  fun q _=>((o.length:Int)-(q.2.1:Int)).toNat,⟨((1,[.string a,.string cy.1,.bool cy.2.1,Sc.val .l cy.2.2.1]),(0:Int),()),rfl,rfl,0,[((a,cy):Scs [.s,.s,.b,.l])],fy++[],rfl,Nat.zero_le _,rfl,rfl,fy,[],rfl,⟨⟨rfl,ha⟩,hy⟩,rfl⟩,?_⟩
 rintro⟨⟨(qn:Nat),(qc:List Value)⟩,(i:Int),u⟩ _ ⟨rfl,k,cs,fps,e1,hk,e2,e3,hE⟩
 replace e1:i=(k:Int):=e1
 replace e2:qn=k+1:=e2
 replace e3:qc=cs.flatMap (Scs.vals [.s,.s,.b,.l]):=e3
 subst e1 e2 e3
 have e0:(k:Int).toNat=k:=by omega
 refine⟨fun hlt=>?_,fun hge=>?_⟩
 ·have hi:k<o.length:=by
   have:(k:Int)<(tp.n:Int):=of_decide_eq_true hlt
   omega
  have hi2:k<ns.length:=by omega
  obtain⟨b,q,cl,fc,a1,l1,hR,_⟩:=hp.at hi
  obtain⟨b2,q2,a2,l2⟩:=nm_at hn hi2
  have hz:=hn.rdN.2 ns[k] (List.getElem_mem hi2)
  dsimp only
  rw [e0]
  refine⟨_,a1,by omega,(by show(k:Int)<(tp.n:Int); omega),cl,l1,_,a2,by omega,(by show(k:Int)<(tn.n:Int); omega),ns[k].1,l2,rfl,⟨rfl,(by omega:(k+1+1)*64≤140737488355328),(by omega:k+1+1≤9223372036854775807)⟩,_,rfl,
   ((k+1+1,(cs++[((ns[k].1,cl):Scs [.s,.s,.b,.l])]).flatMap (Scs.vals [.s,.s,.b,.l])),((k+1:Nat):Int),()),?_,⟨rfl,k+1,cs++[((ns[k].1,cl):Scs [.s,.s,.b,.l])],fps++fc,rfl,hi,rfl,rfl,?_⟩,?_⟩
  ·rw [nxt hi (by omega),List.flatMap_append]
   rfl
  ·rw [legL_snoc hi2 hi]
   exact Els.snoc (r:=rAcct) (x:=((ns[k].1,o[k]):DAcct)) ⟨⟨rfl,hz⟩,hR⟩ hE
  ·show((o.length:Int)-((k+1:Nat):Int)).toNat<((o.length:Int)-(k:Int)).toNat
   omega
 ·have hi:k=o.length:=by
   have:¬ (k:Int)<(tp.n:Int):=of_decide_eq_false hge
   omega
  subst hi
  rw [List.take_length,hl,List.take_length] at hE
  exact hT cs fps _ hE
end Go.Proofs.YtfiakghfncempaaGreatDoor
