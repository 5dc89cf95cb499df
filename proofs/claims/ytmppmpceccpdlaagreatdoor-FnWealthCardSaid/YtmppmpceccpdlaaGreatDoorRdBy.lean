/-
  The bytes that a law is handed, read as rows.
-/
import Derived.Test.YtmppmpceccpdlaaGreatDoorCuE
import Derived.Test.YtmppmpceccpdlaaGreatDoorBkX
import Derived.Test.YtmppmpceccpdlaaGreatDoorMath
import Derived.Test.YtmppmpceccpdlaaGreatDoorChecked
import Derived.ChangeArms
import Derived.Lib.LaidTab
import Derived.Test.YtmppmpceccpdlaaGreatDoorCuD
import Derived.KernelRfl
namespace Go.Proofs.YtmppmpceccpdlaaGreatDoor
open Sx
set_option maxRecDepth 100000
abbrev RatD (V0:Know) (b:Nat) (s:SlV) (V:Know):Know→Value→Prop:=fun V' r=>Dx V0 b s V V'∧∃ c x g,r=qv0 c∧rRat.R V' c x g∧(∀ y∈g,y≠b)∧RatOkP x.1 x.2.1 x.2.2.1
theorem mask_none {b:Nat} {V:Know}:mask b V b=none:=by unfold mask; rw [if_pos rfl]
theorem mask_else {b k:Nat} {V:Know} (h:k≠b):mask b V k=V k:=by unfold mask; rw [if_neg h]
theorem cS_l05Draw {V0 V:Know} {b:Nat} {s:SlV} (hc:Cx V0 b s V):CallX Tryz.prog V 100 [.pointer (some ⟨b,0,none⟩),.int .i64 1] (RatD V0 b s V):=by
 refine CallX.of_fits Tryz.mix (fS_l05Draw _ _) fun _=>?_
 simp only [tS_l05Draw,ap_d,T.wp]
 refine(cS_l04Draw hc 1 (by decide) (by decide)).mono ?_
 rintro V1 _ ⟨d1,e,t,o,g,rfl,L1,hg,ok1,n1⟩
 refine⟨nofun,(e,t,()),rfl,(cS_l01Below d1.1 12).mono ?_⟩
 rintro V2 _ ⟨d2,x,rfl,x0,x1,_⟩
 have hx:=x1 (by omega)
 refine⟨nofun,x,rfl,?_⟩
 rw [wrap_i64 (n:=1+x) (by omega)]
 refine(cS_NatOf V2 (1+x) ⟨by omega,by omega⟩).mono ?_
 rintro V3 _ ⟨le3,s3,o3,f3,rfl,L3,O3,C3,v3,n3⟩
 refine⟨nofun,s3,rfl,(cS_l01Once (d2.1.le le3) 3).mono ?_⟩
 rintro V4 _ ⟨d4,e4,rfl⟩
 have d14:=(d2.trans (d2.1.dx le3)).trans d4
 have d04:=d1.trans d14
 have fb:∀ {g:List Nat},(∀ y∈g,y≠b)→∀ y∈g,y ∉ [b]:=fun h y hy=>by simpa using h y hy
 -- what follows once the divisor is there
 have fin:∀ {V5:Know} (u:SlV) (d:List Lim) (f5:List Nat),Dx V0 b s V V5→Dx V0 b s V1 V5→LR rI V5 u d f5→Can d→0<valN d→d.length≤50 →
   CallX Tryz.prog V5 135 [qv1 (e,t,()),qv1 (false,u,())] (fun V6 r=>V5.le V6∧Dx V0 b s V V6∧∃ c x ok g,r=.tuple #[qv0 c,.bool ok]∧rRat.R V6 c x g∧(∀ y∈g,y≠b)∧(ok=true→RatOkP x.1 x.2.1 x.2.2.1)):=by
  intro V5 u d f5 d5 d15 L5 C5 p5 n5
  refine(cS_RatMakeP V5 e t u o d g f5 (L1.but (fb hg) d15.2) L5 ok1 C5 p5 n5).mono ?_
  rintro V6 _ ⟨le6,c6,x6,ok6,g6,rfl,R6,O6,hx6⟩
  exact⟨le6,d5.trans (d5.1.dx le6),c6,x6,ok6,g6,rfl,R6,fun y hy=>by simpa using own_off d5.1 O6 y hy,fun h=>redS_ok p5 hx6 h⟩
 have zero:∀ {V6:Know},Dx V0 b s V V6→CallX Tryz.prog V6 136 [] (fun V' r=>(false=true→V6.le V')∧∃ y,r=Sh.val (.v (.g [.b,.l,.l])) y∧RatD V0 b s V V' (packed [qv0 y])):=by
  intro V6 d6
  refine(cS_RatZero V6).mono ?_
  rintro V7 _ ⟨le7,c,g7,rfl,R7,h7⟩
  exact⟨nofun,c,rfl,d6.trans (d6.1.dx le7),c,nought,g7,rfl,R7,fun y hy=>d6.1.some (h7 y hy),nought_ok⟩
 refine⟨nofun,e4,rfl,fun _=>?_,fun _=>?_⟩
 ·rw [show IntKind.i64.wrap ((1:Int)-1)=0 from by decide]
  refine(cS_l02Nat d4.1 0 (by decide) (by decide)).mono ?_
  rintro V5 _ ⟨d5,b3,cap,cs,o5,rfl,hb3,hcs,L5,hne,hV4,C5,n5⟩
  have ho5:o5=[]:=List.eq_nil_of_length_eq_zero (by omega)
  subst ho5
  refine⟨nofun,_,rfl,(cS_l01Below d5.1 999).mono ?_⟩
  rintro V6 _ ⟨d6,w,rfl,w0,w1,_⟩
  have hw:=w1 (by omega)
  refine⟨nofun,w,rfl,rfl,rfl,?_⟩
  rw [wrap_i64 (n:=1+w) (by omega)]
  have hb6:V6 b3=some (cs,(3,(0,0))):=d6.2 _ _ (by simpa using hne) hb3
  have G:GR rI 3 V6 ⟨some ⟨b3,0,none⟩,0,cap⟩ [] [b3]:=⟨rfl,Nat.zero_le _,.inr ⟨b3,[],[],cs,rfl,hb6,by rw [hcs]; show cap=(cap-0)*1; omega,rfl,rfl⟩⟩
  have hO:Own (mask b3 V6) V6 ([b3]++[]):=⟨by simp,fun y hy=>by
   obtain rfl:y=b3:=by simpa using hy
   exact mask_none,fun y hy=>by
   obtain rfl:y=b3:=by simpa using hy
   exact⟨_,_,hb6⟩⟩
  refine ap_row (sh:=[.i .i64]) (c:=((1+w,()):Lim)) (x:=(1+w,())) G ⟨rfl,rfl⟩ hO (mask_le _ _) (by kernel_rfl) (by show(0+1)*8≤_; omega) (by show 0+1≤_; omega) fun s7 V7 f7 G7 O7 le7=>?_
  have cx7:Cx V0 b s V7:=by
   obtain⟨h1,h2,⟨i,k,hi,hb⟩,h3⟩:=d6.1
   refine⟨fun k x hk=>?_,h2,⟨i,k,hi,le7 _ _ (by rw [mask_else (Ne.symm hne)]; exact hb)⟩,h3⟩
   refine le7 _ _ ?_
   rw [mask_else]
   ·exact h1 k x hk
   ·rintro rfl
    have:=d04.1.1 _ x hk
    rw [hV4] at this; cases this
  have but7:∀ {W:Know},W b3=none→LeBut [b] W V6→LeBut [b] W V7:=fun hn h k x hk hx=>le7 _ _ (by
   rw [mask_else (fun e=>by rw [e,hn] at hx; cases hx)]
   exact h k x hk hx)
  have n1b:V1 b3=none:=by
   cases hv:V1 b3 with
   | none=>rfl
   | some y =>
    have:=d14.2 b3 y (by simpa using hne) hv
    rw [hV4] at this; cases this
  have n0b:V b3=none:=by
   cases hv:V b3 with
   | none=>rfl
   | some y =>
    have:=d1.2 b3 y (by simpa using hne) hv
    rw [n1b] at this; cases this
  have d7:Dx V0 b s V V7:=⟨cx7,but7 n0b ((d04.trans d5).trans d6).2⟩
  have d17:Dx V0 b s V1 V7:=⟨cx7,but7 n1b ((d14.trans d5).trans d6).2⟩
  have C7:Can [((1+w,()):Lim)]:=⟨lims_one (by omega),.inr (by show limb [((1+w,()):Lim)] 0≠0; show 1+w≠0; omega)⟩
  refine(fin s7 _ f7 d7 d17 (G7.lr (by simp)) C7 ((can_pos C7).1 (by simp)) (by simp)).mono ?_
  rintro V8 _ ⟨le8,d8,c8,x8,ok8,g8,rfl,R8,hg8,h8⟩
  refine⟨nofun,(c8,ok8,()),rfl,fun _=>zero d8,fun hf=>⟨d8,c8,x8,g8,rfl,R8,hg8,h8 (by simpa using hf)⟩⟩
 ·have L4:=(L3.le (Know.le.refl _)).but (fun y hy=>by simpa using own_off d2.1 O3 y hy) d4.2
  have p3:0<valN o3:=by omega
  refine(fin s3 o3 f3 d04 d14 L4 C3 p3 (by omega)).mono ?_
  rintro V8 _ ⟨le8,d8,c8,x8,ok8,g8,rfl,R8,hg8,h8⟩
  refine⟨nofun,(c8,ok8,()),rfl,fun _=>zero d8,fun hf=>⟨d8,c8,x8,g8,rfl,R8,hg8,h8 (by simpa using hf)⟩⟩
abbrev codes4:List ByteArray:=[⟨#[67,72,70]⟩,⟨#[69,85,82]⟩,⟨#[85,83,68]⟩,⟨#[74,80,89]⟩]
theorem book_nil:BookOkP []:=⟨by decide,fun i hi=>absurd hi (by simp)⟩
theorem postB_valid {l:List DAcct} {n:ByteArray} {m:DMoney}:BookOkP (postB l n m).1:=by
 obtain⟨⟨y,ok⟩,hp⟩:∃ r,postB l n m=r:=⟨_,rfl⟩
 cases ok with
 | true=>rw [hp]; exact postB_ok hp
 | false =>
  have:(postB l n m).1=[]:=by
   by_cases hb:BookOkP l
   ·cases hf:fnd n l with
    | none=>rw [postB_none hf]
    | some i =>
     obtain⟨hi,_⟩:=fnd_at hf
     obtain⟨⟨z,ok⟩,ha⟩:∃ r,addM l[i].2 m=r:=⟨_,rfl⟩
     rw [postB_some hb hf hi ha] at hp ⊢
     have e2:=congrArg Prod.snd hp
     have:ok=false:=e2
     subst this
     rfl
   ·rw [postB_no hb]
  rw [this]; exact book_nil
theorem openB_valid {l:List DAcct} {n c:ByteArray} (h:(openB l n c).2=true):BookOkP (openB l n c).1:=by
 by_cases k:(BookOkP l∧fnd n l=none)∧BookOkP (openL l n c)
 ·rw [openB_ok k]; exact k.2
 ·rw [openB_no k] at h; cases h
abbrev names5:List ByteArray:=[⟨#[98,97,110,107]⟩,⟨#[98,111,120]⟩,⟨#[99,97,115,104]⟩,⟨#[102,101,101,115]⟩,⟨#[116,97,120]⟩]
theorem names5_at {i:Nat} (h:i<5):∃ n:ByteArray,cutv (names5.map Value.string) i 1=some [.string n]∧n.size≤9223372036854775807:=by
 match i,h with
 | 0,_=>exact⟨_,rfl,by decide⟩
 | 1,_=>exact⟨_,rfl,by decide⟩
 | 2,_=>exact⟨_,rfl,by decide⟩
 | 3,_=>exact⟨_,rfl,by decide⟩
 | 4,_=>exact⟨_,rfl,by decide⟩
abbrev BookD (V0:Know) (b:Nat) (s:SlV) (V:Know):Know→Value→Prop:=fun V' r=>Dx V0 b s V V'∧∃ t l f,r=qv4 (t,())∧LR rAcct V' t l f∧(∀ y∈f,y≠b)∧BookOkP l
theorem cS_l17Draw {V0 V:Know} {b:Nat} {s:SlV} (hc:Cx V0 b s V):CallX Tryz.prog V 98 [.pointer (some ⟨b,0,none⟩)] (BookD V0 b s V):=by
 refine CallX.of_fits Tryz.mix (fS_l17Draw _) fun _=>?_
 simp only [tS_l17Draw,T.wp]
 have fb:∀ {g:List Nat},(∀ y∈g,y≠b)→∀ y∈g,y ∉ [b]:=fun h y hy=>by simpa using h y hy
 have hS:∀ V:Know,HcS V:=fun _=>trivial
 refine⟨fun y V'=>∃ (k:Nat) (t:SlV) (l:List DAcct) (f:List Nat),(y.1:Int)=(k:Int)∧k≤5∧y.2.1=t∧Dx V0 b s V V'∧LR rAcct V' t l f∧(∀ z∈f,z≠b)∧BookOkP l,fun y _=>(5-(y.1:Int)).toNat,
  ⟨((0:Int),⟨none,0,0⟩,()),rfl,0,_,[],[],rfl,by omega,rfl,hc.dx (Know.le.refl _),lrNil,(fun _ h=>by cases h),book_nil⟩,?_⟩
 rintro⟨(i:Int),y1,yu⟩ V1 ⟨k,t,l,f,hi,hk5,e1,d1,L1,hf,ok⟩
 replace hi:i=(k:Int):=hi
 replace e1:y1=t:=e1
 subst hi e1
 refine⟨fun hlt=>?_,fun _=>⟨d1,y1,l,f,rfl,L1,hf,ok⟩⟩
 have hk:k<5:=by
  have:(k:Int)<((5:Nat):Int):=of_decide_eq_true hlt
  omega
 have hw:IntKind.i64.wrap ((k:Int)+1)=((k+1:Nat):Int):=by rw [wrap_i64 (by omega)]; omega
 have hm:(5-((k+1:Nat):Int)).toNat<(5-(k:Int)).toNat:=by omega
 obtain⟨nm,hnm,znm⟩:=names5_at hk
 refine⟨⟨(by omega:(0:Int)≤(k:Int)),(by omega:(k:Int)<((5:Nat):Int))⟩,nm,(by
  show cutv _ ((k:Int).toNat*1) 1=_
  rw [Int.toNat_natCast,Nat.mul_one]
  exact hnm),(cS_l01Once d1.1 4).mono ?_⟩
 rintro V2 _ ⟨d2,e2,rfl⟩
 have L2:=L1.but (fb hf) d2.2
 refine⟨nofun,e2,rfl,fun _=>?_,fun _=>⟨_,rfl,(((k+1:Nat):Int),y1,()),by rw [hw]; rfl,⟨k+1,y1,l,f,rfl,hk,rfl,d1.trans d2,L2,hf,ok⟩,hm⟩⟩
 intro b4 c4 sp hb4 hc4 _
 refine(cS_strLit d2.1 codes4 (by decide) (by decide) (by decide) hb4 hc4).mono ?_
 rintro V3 _ ⟨d3,cur,hcur,rfl⟩
 have hk4:∀ n∈codes4,known n=true:=by decide +kernel
 have kc:=hk4 cur hcur
 have L3:=L2.but (fb hf) d3.2
 refine⟨nofun,cur,rfl,(cS_BookOpen (hS V3) y1 l f L3 nm cur znm (known_len kc)).mono ?_⟩
 rintro V4 _ ⟨le4,s4,f4,rfl,L4,fr4⟩
 have d04:=((d1.trans d2).trans d3).trans (d3.1.dx le4)
 have hf4:∀ z∈f4,z≠b:=fun z hz=>d3.1.some (fr4 z hz)
 refine⟨nofun,((s4,()),(openB l nm cur).2,()),rfl,fun hok=>?_,fun _=>⟨_,rfl,(((k+1:Nat):Int),y1,()),by rw [hw]; rfl,⟨k+1,y1,l,f,rfl,hk,rfl,d04,L3.le le4,hf,ok⟩,hm⟩⟩
 have okB:=openB_valid hok
 refine⟨mask b V4,mask_le b V4,(cS_l01Below d04.1 9000).mono ?_⟩
 rintro V5 _ ⟨d5,x,rfl,x0,x1,_⟩
 have hx:=x1 (by omega)
 refine⟨mask_but (Know.le.refl _) d5.2,x,rfl,?_⟩
 rw [wrap_i64 (n:=x-2000) (by omega)]
 refine(cS_IntOfN V5 (x-2000) (by omega) (by omega)).mono ?_
 rintro V6 _ ⟨le6,e6,s6,o6,f6,rfl,L6,O6,ok6,_,_⟩
 have L46:=(L4.but (fb hf4) d5.2).le le6
 have d06:=(d04.trans d5).trans (d5.1.dx le6)
 refine⟨fun _=>le6,(e6,s6,()),rfl,(cS_BookPost (hS V6) s4 (openB l nm cur).1 f4 L46 nm (cur,e6,s6,()) (cur,e6,o6,()) f6 (mon_mk (known_len kc) L6)).mono ?_⟩
 rintro V7 _ ⟨le7,s7,f7,rfl,L7,O7⟩
 exact⟨nofun,((s7,()),_,()),rfl,_,rfl,(((k+1:Nat):Int),s7,()),by rw [hw]; rfl,⟨k+1,s7,_,f7,rfl,hk,rfl,d06.trans (d06.1.dx le7),L7,fun z hz=>by simpa using own_off d06.1 O7 z hz,postB_valid⟩,hm⟩
theorem rests_nil:RestsOkP []:=fun i hi=>absurd hi (by simp)
theorem keepQ_ok {l:List DRest} {c:ByteArray} {r:DRat} {l':List DRest} {e:Bool} (h:KeepQ l c r l' e) (hl:RestsOkP l) (hc:known c=true) (hr:RatP r):RestsOkP l':=by
 rcases h with ⟨_,y,hy,rfl⟩ | ⟨_,rfl,_⟩
 ·exact addR_ok hl hc (redS_ok (Int.mul_pos (ratP_pos (atR_ok hl c)) (ratP_pos hr)) hy rfl)
 ·exact rests_nil
abbrev LedD (V0:Know) (b:Nat) (s:SlV) (V:Know):Know→Value→Prop:=fun V' r=>Dx V0 b s V V'∧∃ c x f,r=qv7 c∧rLedger.R V' c x f∧(∀ y∈f,y≠b)∧LedgerOkP x∧TabS x.2.2.2.1
theorem ledger_mk {V:Know} {s0 s1 s3:SlV} {l0:List DAcct} {l1:List DRest} {p:ByteArray} {l3:List DRate} {f0 f1 f3:List Nat} (z:p.size≤9223372036854775807) (h0:LR rAcct V s0 l0 f0) (h1:LR rRest V s1 l1 f1) (h3:LR rRate V s3 l3 f3):rLedger.R V (s0,s1,p,s3,()) (l0,l1,p,l3,()) (f0++(f1++(f3++[]))) :=
 rSl.mk h0 (rSl.mk h1 (rStr.mk z (rSl.mk h3 rNil.mk)))
theorem cS_l20Draw {V0 V:Know} {b:Nat} {s:SlV} (hc:Cx V0 b s V):CallX Tryz.prog V 59 [.pointer (some ⟨b,0,none⟩)] (LedD V0 b s V):=by
 refine CallX.of_fits Tryz.mix (fS_l20Draw _) fun _=>?_
 simp only [tS_l20Draw,T.wp]
 have fb:∀ {g:List Nat},(∀ y∈g,y≠b)→∀ y∈g,y ∉ [b]:=fun h y hy=>by simpa using h y hy
 have hS:∀ V:Know,HcS V:=fun _=>trivial
 refine(cS_l17Draw hc).mono ?_
 rintro V1 _ ⟨d1,t1,l1,f1,rfl,L1,hf1,ok1⟩
 refine⟨nofun,(t1,()),rfl,(cS_l10Table d1.1).mono ?_⟩
 rintro V2 _ ⟨d2,c2,p,l2,f2,rfl,R2,hf2,ok2,td⟩
 obtain⟨t2,rfl,L2⟩:=rates_el R2
 refine⟨nofun,_,rfl,(cS_l01Below d2.1 3).mono ?_⟩
 rintro V3 _ ⟨d3,x,rfl,x0,x1,_⟩
 have hx:=x1 (by omega)
 refine⟨nofun,x,rfl,?_⟩
 have L13:=(L1.but (fb hf1) d2.2).but (fb hf1) d3.2
 have L23:=L2.but (fb hf2) d3.2
 refine⟨fun y V'=>∃ (k:Nat) (t:SlV) (l:List DRest) (f:List Nat),(y.1:Int)=(k:Int)∧k≤3∧y.2.1=t1∧y.2.2.1=t∧y.2.2.2.1=p∧y.2.2.2.2.1=t2∧Dx V0 b s V V'∧LR rAcct V' t1 l1 f1∧LR rRate V' t2 l2 f2∧LR rRest V' t l f∧(∀ z∈f,z≠b)∧RestsOkP l,fun y _=>(y.1:Int).toNat,
  ⟨(x,t1,⟨none,0,0⟩,p,t2,()),rfl,x.toNat,_,[],[],(by show x=_; omega),by omega,rfl,rfl,rfl,rfl,(d1.trans d2).trans d3,L13,L23,lrNil,(fun _ h=>by cases h),rests_nil⟩,?_⟩
 rintro⟨(i:Int),y1,y2,y3,y4,yu⟩ V4 ⟨k,t,l,f,hi,hk3,e1,e2,e3,e4,d4,M1,M2,L,hf,ok⟩
 replace hi:i=(k:Int):=hi
 replace e1:y1=t1:=e1
 replace e2:y2=t:=e2
 replace e3:y3=p:=e3
 replace e4:y4=t2:=e4
 subst hi e1 e2 e3 e4
 refine⟨fun hgt=>?_,fun _=>⟨d4,(y1,y2,y3,y4,()),(l1,l,y3,l2,()),_,rfl,ledger_mk (known_len ok2.1) M1 L M2,fun z hz=>?_,⟨ok1,ok,ok2⟩,td⟩⟩
 rotate_left
 ·rcases List.mem_append.1 hz with h | h
  ·exact hf1 z h
  ·rcases List.mem_append.1 h with h | h
   ·exact hf z h
   ·exact hf2 z (by simpa using h)
 have kpos:0<k:=by
  have:(k:Int) > 0:=of_decide_eq_true hgt
  omega
 have hw:IntKind.i64.wrap ((k:Int)-1)=((k-1:Nat):Int):=by rw [wrap_i64 (by omega)]; omega
 have hm:((k-1:Nat):Int).toNat<(k:Int).toNat:=by omega
 refine⟨mask b V4,mask_le b V4,(cS_l08Cur d4.1).mono ?_⟩
 rintro V5 _ ⟨d5,n,rfl,kn⟩
 refine⟨mask_but (Know.le.refl _) d5.2,n,rfl,(cS_l05Draw d5.1).mono ?_⟩
 rintro V6 _ ⟨d6,c6,x6,g6,rfl,R6,hg6,ok6⟩
 have d46:=d5.trans d6
 have d06:=d4.trans d46
 refine⟨mask_but (Know.le.refl _) d46.2,c6,rfl,?_⟩
 refine(cS_RestAdd (hS V6) y2 l f (L.but (fb hf) d46.2) ok n kn c6 x6 g6 R6 ok6).mono ?_
 rintro V7 _ ⟨le7,t7,l7,f7,e7,rfl,L7,fr7,kq⟩
 have d07:=d06.trans (d06.1.dx le7)
 have M1':=(M1.but (fb hf1) d46.2).le le7
 have M2':=(M2.but (fb hf2) d46.2).le le7
 refine⟨nofun,(t7,e7,()),rfl,fun _=>⟨_,rfl,(((k-1:Nat):Int),y1,t7,y3,y4,()),by rw [hw]; rfl,⟨k-1,t7,l7,f7,rfl,by omega,rfl,rfl,rfl,rfl,d07,M1',M2',L7,fun z hz=>d06.1.some (fr7 z hz),keepQ_ok kq ok kn ok6⟩,hm⟩,
  fun _=>⟨_,rfl,(((k-1:Nat):Int),y1,y2,y3,y4,()),by rw [hw]; rfl,⟨k-1,y2,l,f,rfl,by omega,rfl,rfl,rfl,rfl,d07,M1',M2',(L.but (fb hf) d46.2).le le7,hf,ok⟩,hm⟩⟩
theorem cS_MakeLedger (V:Know) (s:SlV) (l:List (Int × Unit)) (f:List Nat) (h:LR rBy V s l f):CallX Tryz.prog V 23 [Sc.val .l s]
  (fun V' r=>V.le V'∧∃ c x g,r=qv7 c∧rLedger.R V' c x g∧LedgerOkP x∧TabS x.2.2.2.1):=by
 refine CallX.of_fits Tryz.mix (fS_MakeLedger _) fun _=>?_
 simp only [tS_MakeLedger,T.wp]
 refine(cS_l01New V s l f h).mono ?_
 rintro V1 _ ⟨le1,b,rfl,hb,c1⟩
 refine⟨nofun,_,rfl,(cS_l20Draw c1).mono ?_⟩
 rintro V2 _ ⟨d2,c,x,g,rfl,R2,_,ok,td⟩
 exact⟨nofun,c,rfl,d2.1.1,c,x,g,rfl,R2,ok,td⟩
end Go.Proofs.YtmppmpceccpdlaaGreatDoor
namespace Go.Proofs.YtmppmpceccpdlaaGreatDoor
open Sx
set_option maxRecDepth 100000
theorem run_drop {p:ByteArray} {l:List DRate} {to:ByteArray} {ms:List DMoney} {k:Nat} (hk:k<ms.length) {x s:DRat} (h:Run p l to (ms.drop k) x s true):∃ z,SumStep p l to x ms[k] z true∧Run p l to (ms.drop (k+1)) z s true:=by
 rw [List.drop_eq_getElem_cons hk] at h
 obtain⟨z,e,h1,⟨rfl,h2⟩ | ⟨_,h3⟩⟩:=h
 ·exact⟨z,h1,h2⟩
 ·cases h3
theorem law_FnWealth {V:Know} (hV:HeI V) {s:SlV} {l:List (Int × Unit)} {f:List Nat} (h:LR rBy V s l f):CallX Tryz.prog V 5 [Sc.val .l s] (fun V' r=>V.le V'∧r=.bool true):=by
 refine CallX.of_fits Tryz.mix (fL_FnWealth _) fun _=>?_
 simp only [tL_FnWealth,T.wp]
 refine⟨fun _=>⟨Know.le.refl _,rfl⟩,fun _=>(cS_MakeLedger V s l f h).mono ?_⟩
 rintro V1 _ ⟨le1,c,x,g,rfl,R1,okx,_⟩
 obtain⟨s0,s1,s3,f0,f1,f3,rfl,h0,h1,h3⟩:=ledger_elim R1
 refine⟨nofun,_,rfl,(cI_Wealth (hV.le le1) _ x g R1 x.2.2.1 2).mono ?_⟩
 rintro V2 _ ⟨le2,c2,mo,f2,c2',ra,g2,code,rfl,R2,R2',_,h2⟩
 have l2:=le1.trans le2
 obtain⟨hcode,hw⟩:=wealth_ok h2
 refine⟨nofun,(c2,c2',code,()),rfl,fun _=>?_,fun he=>?_⟩
 ·refine(cI_CvName V2 code hcode).mono ?_
  rintro V3 _ ⟨le3,nm,rfl,hnm⟩
  refine⟨nofun,nm,rfl,l2.trans le3,?_⟩
  have:(nm.toList == (⟨#[]⟩:ByteArray).toList)=false:=text_ne.2 hnm
  show Value.bool (!(nm.toList == (⟨#[]⟩:ByteArray).toList))=_
  rw [this]; rfl
 have hz:code=0:=by simpa using he
 subst hz
 obtain⟨_,kt,hms,hhw,okm,okr,sm,r0,sm',oks,hrun,hsum⟩:=hw rfl
 have G:=ratesG okx.2.2
 have kp:=okx.2.2.1
 have hn:=h0.1
 have h12:=okx.1.1
 have hml:(x.1.map monOf).length=x.1.length:=List.length_map ..
 refine(zeroIx V2).mono ?_
 rintro V3 _ ⟨le3,c3,f3',rfl,R3⟩
 have l3:=l2.trans le3
 refine⟨nofun,c3,rfl,?_⟩
 refine⟨fun y V'=>∃ (k:Nat) (z:DRat) (gz:List Nat),(y.1:Int)=(k:Int)∧k≤x.1.length∧V3.le V'∧rRat.R V' y.2 z gz∧RatOkP z.1 z.2.1 z.2.2.1∧Run x.2.2.1 x.2.2.2.1 x.2.2.1 ((x.1.map monOf).drop k) z sm' true,fun y _=>((x.1.length:Int)-(y.1:Int)).toNat,
  ⟨((0:Int),c3),by obtain⟨q0,q1,q2,qu⟩:=c3; rfl,0,nought,f3',rfl,Nat.zero_le _,Know.le.refl _,R3,nought_ok,hrun⟩,?_⟩
 rintro⟨(i:Int),cz⟩ V4 ⟨k,z,gz,hi,hk,le4,Rz,okz,hr⟩
 replace hi:i=(k:Int):=hi
 subst hi
 have l4:=l3.trans le4
 refine⟨fun hlt=>?_,fun hge=>?_⟩
 ·have hk':k<x.1.length:=by
   have:(k:Int)<(s0.n:Int):=of_decide_eq_true hlt
   omega
  have hkm:k<(x.1.map monOf).length:=by omega
  have hm:(x.1.map monOf)[k]=monOf x.1[k]:=List.getElem_map ..
  obtain⟨w,hstep,hr'⟩:=run_drop hkm hr
  rw [hm] at hstep
  obtain⟨b5,o5,c5,fc,a5,ld5,hR5,_⟩:=(h0.le ((le2.trans le3).trans le4)).at hk'
  have e0:(k:Int).toNat=k:=by omega
  dsimp only
  rw [e0]
  have mok:=hms k hkm hkm
  rw [hm] at mok
  have how':=hhw k hkm hkm
  rw [hm,how_ok okx.2.2 mok.1 kt] at how'
  refine⟨_,a5,by omega,by omega,c5,ld5,?_⟩
  obtain⟨t5,ht5,hL5,_⟩:=mon_elim (mon_part hR5)
  rw [ht5]
  refine(cI_Exact (hV.le l4).1 x.2.2.1 s3 x.2.2.2.1 f3 (h3.le ((le2.trans le3).trans le4)) (monOf x.1[k]) t5 fc hL5 x.2.2.1 okx.2.2 mok kt how').mono ?_
  rintro V5 _ ⟨le5,c6,x6,e6,f6,rfl,R6,_,hx6⟩
  obtain⟨z0,hz0,hz1⟩:=hstep
  have hD:=(unitD_bd G x.2.2.1 (monOf x.1[k]).1 x.2.2.1).1
  obtain⟨rfl,rfl⟩:=redS_inj hD hx6 hz0
  have ok6:=redS_ok hD hx6 rfl
  refine⟨nofun,(c6,true,()),rfl,(fun e=>by cases e),fun _=>?_⟩
  obtain⟨u1,u2,w1,w2,rfl,A1,A2,_⟩:=rat_elim (rRat.le Rz le5)
  obtain⟨v1,v2,y1,y2,rfl,B1,B2,_⟩:=rat_elim R6
  refine(cI_RatAdd V5 z.1 u1 u2 x6.1 v1 v2 z.2.1 z.2.2.1 x6.2.1 x6.2.2.1 _ _ _ _ A1 A2 B1 B2 okz ok6).mono ?_
  rintro V6 _ ⟨le6,c7,x7,e7,f7,rfl,R7,_,hx7⟩
  have hDz:0<valN z.2.2.1*valN x6.2.2.1:=Int.mul_pos (den_pos okz) (den_pos ok6)
  obtain⟨rfl,rfl⟩:=redS_inj hDz hx7 hz1
  refine⟨nofun,(c7,true,()),rfl,(cL_must V6 c7).mono ?_⟩
  rintro V7 _ ⟨rfl,rfl⟩
  refine⟨nofun,c7,rfl,_,rfl,(((k+1:Nat):Int),c7),?_,⟨k+1,x7,f7,rfl,hk',(le4.trans le5).trans le6,R7,redS_ok hDz hx7 rfl,hr'⟩,?_⟩
  ·rw [nxt hk' (by omega)]
   obtain⟨q0,q1,q2,qu⟩:=c7
   rfl
  ·show((x.1.length:Int)-((k+1:Nat):Int)).toNat<((x.1.length:Int)-(k:Int)).toNat
   omega
 ·have hk':k=x.1.length:=by
   have:¬ (k:Int)<(s0.n:Int):=of_decide_eq_false hge
   omega
  subst hk'
  rw [List.drop_of_length_le (by omega)] at hr
  obtain⟨rfl,_⟩:=hr
  obtain⟨c20,c21,c22,c2u⟩:=c2
  obtain⟨⟨q0,_⟩,q1,w1,w2,hq,hs7,hN⟩:=rMoney.le R2 (le3.trans le4)
  replace q0:c20=mo.1:=q0
  replace q1:c21=mo.2.1:=q1
  subst q0 q1
  refine(cI_MoneyRat (hV.le l4).1 mo.1 mo.2.1 c22 mo.2.2.1 w1 hs7 okm).mono ?_
  rintro V5 _ ⟨le5,c8,x8,f8,rfl,R8,_,hx8⟩
  have ok8:=redS_ok (by decide) hx8 rfl
  have l5:=l4.trans le5
  obtain⟨s8,t8,g8,k8,rfl,L8,M8,rfl⟩:=rat_elim R8
  obtain⟨sr,tr,gr,kr,hcr,Lr,Mr,_⟩:=rat_elim (rRat.le R2' ((le3.trans le4).trans le5))
  subst hcr
  refine⟨fun _=>le5,_,rfl,(cI_RatAdd V5 x8.1 s8 t8 ra.1 sr tr x8.2.1 x8.2.2.1 ra.2.1 ra.2.2.1 _ _ _ _ L8 M8 Lr Mr ok8 okr).mono ?_⟩
  rintro V6 _ ⟨le6,c9,x9,e9,f9,rfl,R9,_,hx9⟩
  have l6:=l5.trans le6
  obtain⟨rfl,rfl⟩:=hsum x8 x9 e9 hx8 hx9
  refine⟨fun _=>le6,(c9,true,()),rfl,(cL_must V6 c9).mono ?_⟩
  rintro V7 _ ⟨rfl,rfl⟩
  refine⟨fun _=>Know.le.refl _,c9,rfl,(cI_RatCmp V7 x9 x9 c9 cz _ _ R9 (rRat.le Rz (le5.trans le6)) okz okz).mono ?_⟩
  rintro V8 _ ⟨le8,rfl⟩
  rw [Int.sub_self]
  have l8:=l6.trans le8
  have le28:=((le3.trans le4).trans (le5.trans le6)).trans le8
  refine⟨fun _=>le8,0,rfl,fun _=>?_,fun e=>by cases e⟩
  refine(cI_RatSign V8 ra.1 sr tr ra.2.1 ra.2.2.1 gr kr (Lr.le (le6.trans le8)) (Mr.le (le6.trans le8)) okr).mono ?_
  rintro V9 _ ⟨le9,rfl⟩
  have hsg:decide (sgn (sval ra.1 ra.2.1)≥0)=true:=by
   refine decide_eq_true ?_
   unfold sgn
   rw [if_neg (by omega)]
   split <;> decide
  refine⟨fun _=>le9,_,rfl,fun _=>?_,fun e=>by rw [hsg] at e; cases e⟩
  refine(cL_small V9 ra _ _ (rRat.le R2' (le28.trans le9)) okr sm).mono ?_
  rintro V10 _ ⟨le10,rfl⟩
  exact⟨nofun,true,rfl,(l8.trans le9).trans le10,rfl⟩
end Go.Proofs.YtmppmpceccpdlaaGreatDoor
namespace Go.Proofs.YtmppmpceccpdlaaGreatDoor
open Sx
def knowOf (W:World):Know:=fun b=>match W.heap[b]? with
 | some (.cells c t fr)=>(match c.toList with | [.tuple _]=>none | l=>some (l,(t,fr)))
 | _=>none
theorem knowOf_on (W:World):(knowOf W).on W:=by
 intro b c t h
 unfold knowOf at h
 split at h
 ·rename_i c' t' fr hh
  split at h
  ·cases h
  ·rename_i hne
   simp only [Option.some.injEq,Prod.mk.injEq] at h
   obtain⟨rfl,rfl⟩:=h
   rw [hh]
   unfold objOf
   split
   ·rename_i es he
    exact(hne es he).elim
   ·rfl
 ·cases h
theorem knowOf_eq {W:World} {b:Nat} {c:Array Value} {t:TypeId} {fr:Nat × Nat} (h:W.heap[b]?=some (.cells c t fr)) (hn:∀ es,c.toList≠[.tuple es]):knowOf W b=some (c.toList,(t,fr)):=by
 unfold knowOf
 rw [h]
 simp only
theorem cut_tuple {l l':List Value} {off n:Nat} (h:cutv l off n=some l') (hn:0<n) (ht:noTup l'=true):∀ es,l≠[.tuple es]:=by
 intro es e
 subst e
 unfold cutv at h
 split at h
 ·rename_i hle
  have h1:off=0∧n=1:=by simp at hle; omega
  obtain⟨rfl,rfl⟩:=h1
  simp at h
  subst h
  simp [noTup] at ht
 ·cases h
def Rd {sh:List Sc} {α:Type} (P:Program) (W:World) (t:TypeId) (r:Rp sh α):Prop :=
 ∀ {H:Type} {enc:TypeId × Value→H} {sp:Nat→Bool} {held:Bool} {fuel:Nat} {cs:List Value} {x:DataW H × List MemPlace},DataW.trod enc P W 0 sp held fuel t cs=some x →
  ∃ c a fp,cs=Scs.vals sh c∧r.R (knowOf W) c a fp
section
variable {H:Type} {enc:TypeId × Value→H} {P:Program} {W:World} {sp:Nat→Bool} {held:Bool} {fuel:Nat} {cs:List Value} {x:DataW H × List MemPlace}
theorem cells_cut {b o m:Nat} {c:Array Value} {t:TypeId} {fr:Nat × Nat} {row:List Value} (hm:0<m) (hb:W.heap[b]?=some (.cells c t fr)) (h:W.cells? 0 ⟨b,o,none⟩ m=some row):cutv c.toList o m=some row:=by
 unfold World.cells? at h
 rw [if_pos (Nat.zero_le _)] at h
 have hl:=Go.Lib.mapM_length h
 simp at hl
 have hat:∀ j,j<m→c[o+j]?=row[j]?:=by
  intro j hj
  obtain⟨v,hv,hc⟩:=Go.Lib.mapM_at h j j (by simp [hj])
  rw [addr_add_eq] at hc
  simp only [World.cell?,hb,Option.isSome_none,Bool.false_eq_true,if_false] at hc
  rw [hc,hv]
 unfold cutv
 have hlast:=hat (m-1) (by omega)
 have hlt:o+(m-1)<c.size:=by
  have:(row[m-1]?).isSome=true:=by simp [hl]; omega
  rw [← hlast] at this
  simpa using this
 rw [if_pos (by simp; omega)]
 congr 1
 apply List.ext_getElem?
 intro j
 by_cases hj:j<m
 ·rw [List.getElem?_take_of_lt hj,List.getElem?_drop,Array.getElem?_toList,hat j hj]
 ·rw [List.getElem?_eq_none (by simp; omega),List.getElem?_eq_none (by omega)]
theorem rows_flat {α β:Type} {f:α→List β} {m:Nat} (hf:∀ a,(f a).length=m):∀ {l:List α} {L:List β},(∀ (i:Nat) (h:i<l.length),cutv L (i*m) m=some (f l[i]))→∃ post,L=l.flatMap f++post
 | [],L,_=>⟨L,rfl⟩
 | a :: l,L,h=>by
  have h0:=h 0 (by simp)
  simp only [Nat.zero_mul,List.getElem_cons_zero] at h0
  unfold cutv at h0
  split at h0
  ·rename_i hm
   simp only [List.drop_zero,Option.some.injEq] at h0
   have e:L=f a++L.drop m:=by rw [← h0,List.take_append_drop]
   obtain⟨post,hp⟩:=rows_flat hf (l:=l) (L:=L.drop m) (fun i hi=>by
    have:=h (i+1) (by simpa using hi)
    simp only [List.getElem_cons_succ] at this
    have e2:(i+1)*m=(f a).length+i*m:=by rw [hf,Nat.add_mul,Nat.one_mul,Nat.add_comm]
    rw [e,e2,cutv_skip] at this
    rw [← this])
   exact⟨post,by rw [List.flatMap_cons,List.append_assoc,← hp]; exact e⟩
  ·cases h0
theorem els_of {sh:List Sc} {α:Type} {r:Rp sh α} {V:Know} {Q:Nat→Scs sh→Prop}:∀ (n:Nat),(∀ i,i<n→∃ c a f,Q i c∧r.R V c a f)→∃ cs l fps,List.length l=n∧Els r V cs l fps∧∀ (i:Nat) (h:i<cs.length),Q i cs[i]
 | 0,_=>⟨[],[],[],rfl,rfl,fun i h=>by simp at h⟩
 | n+1,h=>by
  obtain⟨cs,l,fps,h1,h2,h3⟩:=els_of n (fun i hi=>h i (by omega))
  obtain⟨c,a,f,hq,hr⟩:=h n (by omega)
  refine⟨cs++[c],l++[a],fps++f,by simp [h1],h2.snoc hr,fun i hi=>?_⟩
  have hcl:=h2.len
  by_cases hc:i<cs.length
  ·rw [List.getElem_append_left hc]; exact h3 i hc
  ·have:i=n:=by simp at hi; omega
   subst this
   rw [List.getElem_append_right (by omega)]
   simpa using hq
theorem rd_slice {sh:List Sc} {α:Type} {r:Rp sh α} {t e:TypeId} (hr:Rd P W e r) (ht:P.underlying t=some (.slice e)) (hm:P.cellsOf e=sh.length) (hpos:0<sh.length) (h:DataW.trod enc P W 0 sp held fuel t cs=some x) :
  ∃ s l f,cs=[.slice s.a s.n s.c]∧LR r (knowOf W) s l f:=by
 rcases DataW.trod_slice ht h with ⟨rfl,_⟩ | ⟨a,len,cap,elems,rest,n,_,rfl,_,_,hlc,hcap,hel,hall,_⟩
 ·exact⟨⟨none,0,0⟩,[],[],rfl,rfl,Nat.le_refl _,Nat.zero_le _,.inl ⟨rfl,fun _=>rfl,rfl⟩⟩
 ·have hmax:cap≤9223372036854775807:=hcap
  by_cases h0:len=0
  ·subst h0
   exact⟨⟨some a,0,cap⟩,[],[],rfl,rfl,Nat.zero_le _,Nat.zero_le _,.inl ⟨rfl,(fun h=>by cases h),rfl⟩⟩
  rw [hm] at hall
  -- the block
  have hrow:∀ i,i<len→∃ row y,W.cells? 0 (a.add (i*sh.length)) sh.length=some row∧DataW.trod enc P W 0 sp held n e row=some y:=by
   intro i hi
   have:=hall i hi
   have he:elems[i]?=some elems[i]:=by simp [hel,hi]
   rw [he,Option.bind_eq_some_iff] at this
   obtain⟨row,h1,h2⟩:=this
   exact⟨row,_,h1,h2⟩
  obtain⟨row0,y0,hc0,_⟩:=hrow 0 (by omega)
  obtain⟨bk,off,spot⟩:=a
  have hcell:∃ v,W.cell? ⟨bk,off,spot⟩=some v:=by
   unfold World.cells? at hc0
   rw [if_pos (Nat.zero_le _)] at hc0
   obtain⟨v,_,hv⟩:=Go.Lib.mapM_at hc0 0 0 (by simp [hpos])
   refine⟨v,?_⟩
   simpa [Addr.add] using hv
  obtain⟨v,hv⟩:=hcell
  unfold World.cell? at hv
  split at hv
  ·rename_i c ty fr hb
   split at hv
   ·cases hv
   ·rename_i hs
    have hspot:spot=none:=by simpa using hs
    subst hspot
    have hq:∀ i,i<len→∃ (c':Scs sh) (a':α) (f':List Nat),cutv c.toList (off+i*sh.length) sh.length=some (Scs.vals sh c')∧r.R (knowOf W) c' a' f':=by
     intro i hi
     obtain⟨row,y,h1,h2⟩:=hrow i hi
     rw [addr_add_eq] at h1
     obtain⟨c',a',f',rfl,hR⟩:=hr h2
     exact⟨c',a',f',cells_cut hpos hb h1,hR⟩
    obtain⟨cs,l,fps,k1,k2,k3⟩:=els_of (Q:=fun i c'=>cutv c.toList (off+i*sh.length) sh.length=some (Scs.vals sh c')) len hq
    have hoff:off≤c.toList.length:=by
     obtain⟨c',_,_,hc',_⟩:=hq 0 (by omega)
     unfold cutv at hc'
     split at hc'
     ·omega
     ·cases hc'
    have hpre:(c.toList.take off).length=off:=by rw [List.length_take]; omega
    have hflat:∃ post,c.toList.drop off=cs.flatMap (Scs.vals sh)++post:=by
     refine rows_flat (vals_len sh) fun i hi=>?_
     have:=k3 i hi
     rw [← List.take_append_drop off c.toList] at this
     have e2:off+i*sh.length=(c.toList.take off).length+i*sh.length:=by rw [hpre]
     rw [e2,cutv_skip] at this
     exact this
    obtain⟨post,hpost⟩:=hflat
    refine⟨⟨some ⟨bk,off,none⟩,len,cap⟩,l,bk :: fps,rfl,k1.symm,hlc,Nat.le_trans hlc hmax,.inr ⟨bk,c.toList.take off,post,(ty,fr),fps,cs,by rw [hpre],?_,k2,rfl⟩⟩
    obtain⟨c0,_,_,hc0',_⟩:=hq 0 (by omega)
    rw [knowOf_eq hb (cut_tuple hc0' hpos (vals_noTup sh c0)),← hpost,List.take_append_drop]
  ·cases hv
end
end Go.Proofs.YtmppmpceccpdlaaGreatDoor
namespace Go.Proofs.YtmppmpceccpdlaaGreatDoor
open Sx
theorem rd_By (W:World):Rd Tryz.prog W 5 rBy:=by
 intro H enc sp held fuel cs x h
 obtain⟨n,rfl,_,_⟩:=DataW.trod_int (show Tryz.prog.underlying 5=some (.int .u8) by kernel_rfl) h
 exact⟨(n,()),(n,()),[],rfl,rfl,rfl⟩
end Go.Proofs.YtmppmpceccpdlaaGreatDoor
