/-
  The walk of the law: a ledger is read from its own text, for all inputs.
-/
import Derived.Test.YtagkjnpggkmehaaGreatDoorBkM
import Derived.Test.YtagkjnpggkmehaaGreatDoorBkX
import Derived.Test.YtagkjnpggkmehaaGreatDoorStr
namespace Go.Proofs.YtagkjnpggkmehaaGreatDoor
open Sx
set_option maxRecDepth 100000
abbrev RatD (V0:Know) (b:Nat) (s:SlV) (V:Know):Know→Value→Prop:=fun V' r=>Dx V0 b s V V'∧∃ c x g,r=qv1 c∧rRat.R V' c x g∧(∀ y∈g,y≠b)∧RatOkP x.1 x.2.1 x.2.2.1
theorem mask_none {b:Nat} {V:Know}:mask b V b=none:=by unfold mask; rw [if_pos rfl]
theorem mask_else {b k:Nat} {V:Know} (h:k≠b):mask b V k=V k:=by unfold mask; rw [if_neg h]
theorem cS_l05Draw {V0 V:Know} {b:Nat} {s:SlV} (hc:Cx V0 b s V):CallX Tryz.prog V 100 [.pointer (some ⟨b,0,none⟩),.int .i64 1] (RatD V0 b s V):=by
 refine CallX.of_fits Tryz.mix (fS_l05Draw _ _) fun _=>?_
 simp only [tS_l05Draw,ap_d,T.wp]
 refine(cS_l04Draw hc 1 (by decide) (by decide)).mono ?_
 rintro V1 _ ⟨d1,e,t,o,g,rfl,L1,hg,ok1,n1⟩
 refine⟨nofun,(e,t,()),rfl,(cS_l01Below d1.1 12).mono ?_⟩
 rintro V2 _ ⟨d2,x,rfl,x0,x1,_⟩
 have hx:=x1 (by omega)
 refine⟨nofun,x,rfl,?_⟩
 rw [wrap_i64 (n:=1+x) (by omega)]
 refine(cS_NatOf V2 (1+x) ⟨by omega,by omega⟩).mono ?_
 rintro V3 _ ⟨le3,s3,o3,f3,rfl,L3,O3,C3,v3,n3⟩
 refine⟨nofun,s3,rfl,(cS_l01Once (d2.1.le le3) 3).mono ?_⟩
 rintro V4 _ ⟨d4,e4,rfl⟩
 have d14:=(d2.trans (d2.1.dx le3)).trans d4
 have d04:=d1.trans d14
 have fb:∀ {g:List Nat},(∀ y∈g,y≠b)→∀ y∈g,y ∉ [b]:=fun h y hy=>by simpa using h y hy
 -- what follows once the divisor is there
 have fin:∀ {V5:Know} (u:SlV) (d:List Lim) (f5:List Nat),Dx V0 b s V V5→Dx V0 b s V1 V5→LR rI V5 u d f5→Can d→0<valN d→d.length≤50 →
   CallX Tryz.prog V5 179 [qv0 (e,t,()),qv0 (false,u,())] (fun V6 r=>V5.le V6∧Dx V0 b s V V6∧∃ c x ok g,r=.tuple #[qv1 c,.bool ok]∧rRat.R V6 c x g∧(∀ y∈g,y≠b)∧(ok=true→RatOkP x.1 x.2.1 x.2.2.1)):=by
  intro V5 u d f5 d5 d15 L5 C5 p5 n5
  refine(cS_RatMakeP V5 e t u o d g f5 (L1.but (fb hg) d15.2) L5 ok1 C5 p5 n5).mono ?_
  rintro V6 _ ⟨le6,c6,x6,ok6,g6,rfl,R6,O6,hx6⟩
  exact⟨le6,d5.trans (d5.1.dx le6),c6,x6,ok6,g6,rfl,R6,fun y hy=>by simpa using own_off d5.1 O6 y hy,fun h=>redS_ok p5 hx6 h⟩
 have zero:∀ {V6:Know},Dx V0 b s V V6→CallX Tryz.prog V6 160 [] (fun V' r=>(false=true→V6.le V')∧∃ y,r=Sh.val (.v (.g [.b,.l,.l])) y∧RatD V0 b s V V' (packed [qv1 y])):=by
  intro V6 d6
  refine(cS_RatZero V6).mono ?_
  rintro V7 _ ⟨le7,c,g7,rfl,R7,h7⟩
  exact⟨nofun,c,rfl,d6.trans (d6.1.dx le7),c,nought,g7,rfl,R7,fun y hy=>d6.1.some (h7 y hy),nought_ok⟩
 refine⟨nofun,e4,rfl,fun _=>?_,fun _=>?_⟩
 ·rw [show IntKind.i64.wrap ((1:Int)-1)=0 from by decide]
  refine(cS_l02Nat d4.1 0 (by decide) (by decide)).mono ?_
  rintro V5 _ ⟨d5,b3,cap,cs,o5,rfl,hb3,hcs,L5,hne,hV4,C5,n5⟩
  have ho5:o5=[]:=List.eq_nil_of_length_eq_zero (by omega)
  subst ho5
  refine⟨nofun,_,rfl,(cS_l01Below d5.1 999).mono ?_⟩
  rintro V6 _ ⟨d6,w,rfl,w0,w1,_⟩
  have hw:=w1 (by omega)
  refine⟨nofun,w,rfl,rfl,rfl,?_⟩
  rw [wrap_i64 (n:=1+w) (by omega)]
  have hb6:V6 b3=some (cs,(3,(0,0))):=d6.2 _ _ (by simpa using hne) hb3
  have G:GR rI 3 V6 ⟨some ⟨b3,0,none⟩,0,cap⟩ [] [b3]:=⟨rfl,Nat.zero_le _,.inr ⟨b3,[],[],cs,rfl,hb6,by rw [hcs]; show cap=(cap-0)*1; omega,rfl,rfl⟩⟩
  have hO:Own (mask b3 V6) V6 ([b3]++[]):=⟨by simp,fun y hy=>by
   obtain rfl:y=b3:=by simpa using hy
   exact mask_none,fun y hy=>by
   obtain rfl:y=b3:=by simpa using hy
   exact⟨_,_,hb6⟩⟩
  refine ap_row (sh:=[.i .i64]) (c:=((1+w,()):Lim)) (x:=(1+w,())) G ⟨rfl,rfl⟩ hO (mask_le _ _) (by kernel_rfl) (by show(0+1)*8≤_; omega) (by show 0+1≤_; omega) fun s7 V7 f7 G7 O7 le7=>?_
  have cx7:Cx V0 b s V7:=by
   obtain⟨h1,h2,⟨i,k,hi,hb⟩,h3⟩:=d6.1
   refine⟨fun k x hk=>?_,h2,⟨i,k,hi,le7 _ _ (by rw [mask_else (Ne.symm hne)]; exact hb)⟩,h3⟩
   refine le7 _ _ ?_
   rw [mask_else]
   ·exact h1 k x hk
   ·rintro rfl
    have:=d04.1.1 _ x hk
    rw [hV4] at this; cases this
  have but7:∀ {W:Know},W b3=none→LeBut [b] W V6→LeBut [b] W V7:=fun hn h k x hk hx=>le7 _ _ (by
   rw [mask_else (fun e=>by rw [e,hn] at hx; cases hx)]
   exact h k x hk hx)
  have n1b:V1 b3=none:=by
   cases hv:V1 b3 with
   | none=>rfl
   | some y =>
    have:=d14.2 b3 y (by simpa using hne) hv
    rw [hV4] at this; cases this
  have n0b:V b3=none:=by
   cases hv:V b3 with
   | none=>rfl
   | some y =>
    have:=d1.2 b3 y (by simpa using hne) hv
    rw [n1b] at this; cases this
  have d7:Dx V0 b s V V7:=⟨cx7,but7 n0b ((d04.trans d5).trans d6).2⟩
  have d17:Dx V0 b s V1 V7:=⟨cx7,but7 n1b ((d14.trans d5).trans d6).2⟩
  have C7:Can [((1+w,()):Lim)]:=⟨lims_one (by omega),.inr (by show limb [((1+w,()):Lim)] 0≠0; show 1+w≠0; omega)⟩
  refine(fin s7 _ f7 d7 d17 (G7.lr (by simp)) C7 ((can_pos C7).1 (by simp)) (by simp)).mono ?_
  rintro V8 _ ⟨le8,d8,c8,x8,ok8,g8,rfl,R8,hg8,h8⟩
  refine⟨nofun,(c8,ok8,()),rfl,fun _=>zero d8,fun hf=>⟨d8,c8,x8,g8,rfl,R8,hg8,h8 (by simpa using hf)⟩⟩
 ·have L4:=(L3.le (Know.le.refl _)).but (fun y hy=>by simpa using own_off d2.1 O3 y hy) d4.2
  have p3:0<valN o3:=by omega
  refine(fin s3 o3 f3 d04 d14 L4 C3 p3 (by omega)).mono ?_
  rintro V8 _ ⟨le8,d8,c8,x8,ok8,g8,rfl,R8,hg8,h8⟩
  refine⟨nofun,(c8,ok8,()),rfl,fun _=>zero d8,fun hf=>⟨d8,c8,x8,g8,rfl,R8,hg8,h8 (by simpa using hf)⟩⟩
abbrev codes4:List ByteArray:=[⟨#[67,72,70]⟩,⟨#[69,85,82]⟩,⟨#[85,83,68]⟩,⟨#[74,80,89]⟩]
theorem book_nil:BookOkP []:=⟨by decide,fun i hi=>absurd hi (by simp)⟩
theorem postB_valid {l:List DAcct} {n:ByteArray} {m:DMoney}:BookOkP (postB l n m).1:=by
 obtain⟨⟨y,ok⟩,hp⟩:∃ r,postB l n m=r:=⟨_,rfl⟩
 cases ok with
 | true=>rw [hp]; exact postB_ok hp
 | false =>
  have:(postB l n m).1=[]:=by
   by_cases hb:BookOkP l
   ·cases hf:fnd n l with
    | none=>rw [postB_none hf]
    | some i =>
     obtain⟨hi,_⟩:=fnd_at hf
     obtain⟨⟨z,ok⟩,ha⟩:∃ r,addM l[i].2 m=r:=⟨_,rfl⟩
     rw [postB_some hb hf hi ha] at hp ⊢
     have e2:=congrArg Prod.snd hp
     have:ok=false:=e2
     subst this
     rfl
   ·rw [postB_no hb]
  rw [this]; exact book_nil
theorem openB_valid {l:List DAcct} {n c:ByteArray} (h:(openB l n c).2=true):BookOkP (openB l n c).1:=by
 by_cases k:(BookOkP l∧fnd n l=none)∧BookOkP (openL l n c)
 ·rw [openB_ok k]; exact k.2
 ·rw [openB_no k] at h; cases h
abbrev names5:List ByteArray:=[⟨#[98,97,110,107]⟩,⟨#[98,111,120]⟩,⟨#[99,97,115,104]⟩,⟨#[102,101,101,115]⟩,⟨#[116,97,120]⟩]
theorem names5_at {i:Nat} (h:i<5):∃ n:ByteArray,cutv (names5.map Value.string) i 1=some [.string n]∧n.size≤9223372036854775807:=by
 match i,h with
 | 0,_=>exact⟨_,rfl,by decide⟩
 | 1,_=>exact⟨_,rfl,by decide⟩
 | 2,_=>exact⟨_,rfl,by decide⟩
 | 3,_=>exact⟨_,rfl,by decide⟩
 | 4,_=>exact⟨_,rfl,by decide⟩
abbrev BookD (V0:Know) (b:Nat) (s:SlV) (V:Know):Know→Value→Prop:=fun V' r=>Dx V0 b s V V'∧∃ t l f,r=qv4 (t,())∧LR rAcct V' t l f∧(∀ y∈f,y≠b)∧BookOkP l
theorem cS_l17Draw {V0 V:Know} {b:Nat} {s:SlV} (hc:Cx V0 b s V):CallX Tryz.prog V 140 [.pointer (some ⟨b,0,none⟩)] (BookD V0 b s V):=by
 refine CallX.of_fits Tryz.mix (fS_l17Draw _) fun _=>?_
 simp only [tS_l17Draw,T.wp]
 have fb:∀ {g:List Nat},(∀ y∈g,y≠b)→∀ y∈g,y ∉ [b]:=fun h y hy=>by simpa using h y hy
 have hS:∀ V:Know,HcS V:=fun _=>trivial
 refine⟨fun y V'=>∃ (k:Nat) (t:SlV) (l:List DAcct) (f:List Nat),(y.1:Int)=(k:Int)∧k≤5∧y.2.1=t∧Dx V0 b s V V'∧LR rAcct V' t l f∧(∀ z∈f,z≠b)∧BookOkP l,fun y _=>(5-(y.1:Int)).toNat,
  ⟨((0:Int),⟨none,0,0⟩,()),rfl,0,_,[],[],rfl,by omega,rfl,hc.dx (Know.le.refl _),lrNil,(fun _ h=>by cases h),book_nil⟩,?_⟩
 rintro⟨(i:Int),y1,yu⟩ V1 ⟨k,t,l,f,hi,hk5,e1,d1,L1,hf,ok⟩
 replace hi:i=(k:Int):=hi
 replace e1:y1=t:=e1
 subst hi e1
 refine⟨fun hlt=>?_,fun _=>⟨d1,y1,l,f,rfl,L1,hf,ok⟩⟩
 have hk:k<5:=by
  have:(k:Int)<((5:Nat):Int):=of_decide_eq_true hlt
  omega
 have hw:IntKind.i64.wrap ((k:Int)+1)=((k+1:Nat):Int):=by rw [wrap_i64 (by omega)]; omega
 have hm:(5-((k+1:Nat):Int)).toNat<(5-(k:Int)).toNat:=by omega
 obtain⟨nm,hnm,znm⟩:=names5_at hk
 refine⟨⟨(by omega:(0:Int)≤(k:Int)),(by omega:(k:Int)<((5:Nat):Int))⟩,nm,(by
  show cutv _ ((k:Int).toNat*1) 1=_
  rw [Int.toNat_natCast,Nat.mul_one]
  exact hnm),(cS_l01Once d1.1 4).mono ?_⟩
 rintro V2 _ ⟨d2,e2,rfl⟩
 have L2:=L1.but (fb hf) d2.2
 refine⟨nofun,e2,rfl,fun _=>?_,fun _=>⟨_,rfl,(((k+1:Nat):Int),y1,()),by rw [hw]; rfl,⟨k+1,y1,l,f,rfl,hk,rfl,d1.trans d2,L2,hf,ok⟩,hm⟩⟩
 intro b4 c4 sp hb4 hc4 _
 refine(cS_strLit d2.1 codes4 (by decide) (by decide) (by decide) hb4 hc4).mono ?_
 rintro V3 _ ⟨d3,cur,hcur,rfl⟩
 have hk4:∀ n∈codes4,known n=true:=by decide +kernel
 have kc:=hk4 cur hcur
 have L3:=L2.but (fb hf) d3.2
 refine⟨nofun,cur,rfl,(cS_BookOpen (hS V3) y1 l f L3 nm cur znm (known_len kc)).mono ?_⟩
 rintro V4 _ ⟨le4,s4,f4,rfl,L4,fr4⟩
 have d04:=((d1.trans d2).trans d3).trans (d3.1.dx le4)
 have hf4:∀ z∈f4,z≠b:=fun z hz=>d3.1.some (fr4 z hz)
 refine⟨nofun,((s4,()),(openB l nm cur).2,()),rfl,fun hok=>?_,fun _=>⟨_,rfl,(((k+1:Nat):Int),y1,()),by rw [hw]; rfl,⟨k+1,y1,l,f,rfl,hk,rfl,d04,L3.le le4,hf,ok⟩,hm⟩⟩
 have okB:=openB_valid hok
 refine⟨mask b V4,mask_le b V4,(cS_l01Below d04.1 9000).mono ?_⟩
 rintro V5 _ ⟨d5,x,rfl,x0,x1,_⟩
 have hx:=x1 (by omega)
 refine⟨mask_but (Know.le.refl _) d5.2,x,rfl,?_⟩
 rw [wrap_i64 (n:=x-2000) (by omega)]
 refine(cS_IntOfN V5 (x-2000) (by omega) (by omega)).mono ?_
 rintro V6 _ ⟨le6,e6,s6,o6,f6,rfl,L6,O6,ok6,_,_⟩
 have L46:=(L4.but (fb hf4) d5.2).le le6
 have d06:=(d04.trans d5).trans (d5.1.dx le6)
 refine⟨fun _=>le6,(e6,s6,()),rfl,(cS_BookPost (hS V6) s4 (openB l nm cur).1 f4 L46 nm (cur,e6,s6,()) (cur,e6,o6,()) f6 (mon_mk (known_len kc) L6)).mono ?_⟩
 rintro V7 _ ⟨le7,s7,f7,rfl,L7,O7⟩
 exact⟨nofun,((s7,()),_,()),rfl,_,rfl,(((k+1:Nat):Int),s7,()),by rw [hw]; rfl,⟨k+1,s7,_,f7,rfl,hk,rfl,d06.trans (d06.1.dx le7),L7,fun z hz=>by simpa using own_off d06.1 O7 z hz,postB_valid⟩,hm⟩
theorem rests_nil:RestsOkP []:=fun i hi=>absurd hi (by simp)
theorem keepQ_ok {l:List DRest} {c:ByteArray} {r:DRat} {l':List DRest} {e:Bool} (h:KeepQ l c r l' e) (hl:RestsOkP l) (hc:known c=true) (hr:RatP r):RestsOkP l':=by
 rcases h with ⟨_,y,hy,rfl⟩ | ⟨_,rfl,_⟩
 ·exact addR_ok hl hc (redS_ok (Int.mul_pos (ratP_pos (atR_ok hl c)) (ratP_pos hr)) hy rfl)
 ·exact rests_nil
abbrev LedD (V0:Know) (b:Nat) (s:SlV) (V:Know):Know→Value→Prop:=fun V' r=>Dx V0 b s V V'∧∃ c x f,r=qv7 c∧rLedger.R V' c x f∧(∀ y∈f,y≠b)∧LedgerOkP x∧TabS x.2.2.2.1
theorem ledger_mk {V:Know} {s0 s1 s3:SlV} {l0:List DAcct} {l1:List DRest} {p:ByteArray} {l3:List DRate} {f0 f1 f3:List Nat} (z:p.size≤9223372036854775807) (h0:LR rAcct V s0 l0 f0) (h1:LR rRest V s1 l1 f1) (h3:LR rRate V s3 l3 f3):rLedger.R V (s0,s1,p,s3,()) (l0,l1,p,l3,()) (f0++(f1++(f3++[]))) :=
 rSl.mk h0 (rSl.mk h1 (rStr.mk z (rSl.mk h3 rNil.mk)))
theorem cS_l20Draw {V0 V:Know} {b:Nat} {s:SlV} (hc:Cx V0 b s V):CallX Tryz.prog V 79 [.pointer (some ⟨b,0,none⟩)] (LedD V0 b s V):=by
 refine CallX.of_fits Tryz.mix (fS_l20Draw _) fun _=>?_
 simp only [tS_l20Draw,T.wp]
 have fb:∀ {g:List Nat},(∀ y∈g,y≠b)→∀ y∈g,y ∉ [b]:=fun h y hy=>by simpa using h y hy
 have hS:∀ V:Know,HcS V:=fun _=>trivial
 refine(cS_l17Draw hc).mono ?_
 rintro V1 _ ⟨d1,t1,l1,f1,rfl,L1,hf1,ok1⟩
 refine⟨nofun,(t1,()),rfl,(cS_l10Table d1.1).mono ?_⟩
 rintro V2 _ ⟨d2,c2,p,l2,f2,rfl,R2,hf2,ok2,td⟩
 obtain⟨t2,rfl,L2⟩:=rates_el R2
 refine⟨nofun,_,rfl,(cS_l01Below d2.1 3).mono ?_⟩
 rintro V3 _ ⟨d3,x,rfl,x0,x1,_⟩
 have hx:=x1 (by omega)
 refine⟨nofun,x,rfl,?_⟩
 have L13:=(L1.but (fb hf1) d2.2).but (fb hf1) d3.2
 have L23:=L2.but (fb hf2) d3.2
 refine⟨fun y V'=>∃ (k:Nat) (t:SlV) (l:List DRest) (f:List Nat),(y.1:Int)=(k:Int)∧k≤3∧y.2.1=t1∧y.2.2.1=t∧y.2.2.2.1=p∧y.2.2.2.2.1=t2∧Dx V0 b s V V'∧LR rAcct V' t1 l1 f1∧LR rRate V' t2 l2 f2∧LR rRest V' t l f∧(∀ z∈f,z≠b)∧RestsOkP l,fun y _=>(y.1:Int).toNat,
  ⟨(x,t1,⟨none,0,0⟩,p,t2,()),rfl,x.toNat,_,[],[],(by show x=_; omega),by omega,rfl,rfl,rfl,rfl,(d1.trans d2).trans d3,L13,L23,lrNil,(fun _ h=>by cases h),rests_nil⟩,?_⟩
 rintro⟨(i:Int),y1,y2,y3,y4,yu⟩ V4 ⟨k,t,l,f,hi,hk3,e1,e2,e3,e4,d4,M1,M2,L,hf,ok⟩
 replace hi:i=(k:Int):=hi
 replace e1:y1=t1:=e1
 replace e2:y2=t:=e2
 replace e3:y3=p:=e3
 replace e4:y4=t2:=e4
 subst hi e1 e2 e3 e4
 refine⟨fun hgt=>?_,fun _=>⟨d4,(y1,y2,y3,y4,()),(l1,l,y3,l2,()),_,rfl,ledger_mk (known_len ok2.1) M1 L M2,fun z hz=>?_,⟨ok1,ok,ok2⟩,td⟩⟩
 rotate_left
 ·rcases List.mem_append.1 hz with h | h
  ·exact hf1 z h
  ·rcases List.mem_append.1 h with h | h
   ·exact hf z h
   ·exact hf2 z (by simpa using h)
 have kpos:0<k:=by
  have:(k:Int) > 0:=of_decide_eq_true hgt
  omega
 have hw:IntKind.i64.wrap ((k:Int)-1)=((k-1:Nat):Int):=by rw [wrap_i64 (by omega)]; omega
 have hm:((k-1:Nat):Int).toNat<(k:Int).toNat:=by omega
 refine⟨mask b V4,mask_le b V4,(cS_l08Cur d4.1).mono ?_⟩
 rintro V5 _ ⟨d5,n,rfl,kn⟩
 refine⟨mask_but (Know.le.refl _) d5.2,n,rfl,(cS_l05Draw d5.1).mono ?_⟩
 rintro V6 _ ⟨d6,c6,x6,g6,rfl,R6,hg6,ok6⟩
 have d46:=d5.trans d6
 have d06:=d4.trans d46
 refine⟨mask_but (Know.le.refl _) d46.2,c6,rfl,?_⟩
 refine(cS_RestAdd (hS V6) y2 l f (L.but (fb hf) d46.2) ok n kn c6 x6 g6 R6 ok6).mono ?_
 rintro V7 _ ⟨le7,t7,l7,f7,e7,rfl,L7,fr7,kq⟩
 have d07:=d06.trans (d06.1.dx le7)
 have M1':=(M1.but (fb hf1) d46.2).le le7
 have M2':=(M2.but (fb hf2) d46.2).le le7
 refine⟨nofun,(t7,e7,()),rfl,fun _=>⟨_,rfl,(((k-1:Nat):Int),y1,t7,y3,y4,()),by rw [hw]; rfl,⟨k-1,t7,l7,f7,rfl,by omega,rfl,rfl,rfl,rfl,d07,M1',M2',L7,fun z hz=>d06.1.some (fr7 z hz),keepQ_ok kq ok kn ok6⟩,hm⟩,
  fun _=>⟨_,rfl,(((k-1:Nat):Int),y1,y2,y3,y4,()),by rw [hw]; rfl,⟨k-1,y2,l,f,rfl,by omega,rfl,rfl,rfl,rfl,d07,M1',M2',(L.but (fb hf) d46.2).le le7,hf,ok⟩,hm⟩⟩
theorem cS_MakeLedger (V:Know) (s:SlV) (l:List (Int × Unit)) (f:List Nat) (h:LR rBy V s l f):CallX Tryz.prog V 29 [Sc.val .l s]
  (fun V' r=>V.le V'∧∃ c x g,r=qv7 c∧rLedger.R V' c x g∧LedgerOkP x∧TabS x.2.2.2.1):=by
 refine CallX.of_fits Tryz.mix (fS_MakeLedger _) fun _=>?_
 simp only [tS_MakeLedger,T.wp]
 refine(cS_l01New V s l f h).mono ?_
 rintro V1 _ ⟨le1,b,rfl,hb,c1⟩
 refine⟨nofun,_,rfl,(cS_l20Draw c1).mono ?_⟩
 rintro V2 _ ⟨d2,c,x,g,rfl,R2,_,ok,td⟩
 exact⟨nofun,c,rfl,d2.1.1,c,x,g,rfl,R2,ok,td⟩
end Go.Proofs.YtagkjnpggkmehaaGreatDoor
namespace Go.Proofs.YtagkjnpggkmehaaGreatDoor
open Sx
set_option maxRecDepth 100000
theorem cI_sameInts:EqSC Tryz.prog 106 rI:=fun _ s s' _ _ _ _ h h'=>CallX.of_fits Tryz.mix (fI_sameInts s s') fun _=>tEqI_wp h h'
theorem cI_intSame:EqC Tryz.prog 105 rSigned:=by
 rintro V ⟨c0,c1,cu⟩ ⟨d0,d1,du⟩ ⟨x0,x1,xu⟩ ⟨y0,y1,yu⟩ f f' hx hy
 obtain⟨ec0,hx⟩:=hx
 replace ec0:c0=x0:=ec0
 subst ec0
 obtain⟨f1,fr1,ec1,sc1,hx⟩:=hx
 subst ec1
 replace sc1:LR rI _ c1 x1 f1:=sc1
 replace hx:_=[]:=hx
 subst hx
 obtain⟨ed0,hy⟩:=hy
 replace ed0:d0=y0:=ed0
 subst ed0
 obtain⟨g1,gr1,ed1,sd1,hy⟩:=hy
 subst ed1
 replace sd1:LR rI _ d1 y1 g1:=sd1
 replace hy:_=[]:=hy
 subst hy
 refine CallX.of_fits Tryz.mix (fI_intSame _ _) fun _=>?_
 simp only [tI_intSame,T.wp]
 refine⟨fun h0=>?_,fun h=>⟨by trivial,false,rfl,⟨(fun h=>by cases h),(fun e=>by cases e; simp at h)⟩⟩⟩
 refine(cI_sameInts _ _ _ _ _ _ _ sc1 sd1).mono ?_
 rintro V1 r ⟨rfl,b1,rfl,hb1⟩
 refine⟨nofun,b1,rfl,by trivial,b1,rfl,⟨fun h1=>?_,fun e=>by cases e; exact hb1.2 rfl⟩⟩
 have q0:c0=d0:=by simpa using h0
 subst q0
 have q1:x1=y1:=hb1.1 h1
 cases q1
 rfl
theorem cI_MoneySame:EqC Tryz.prog 148 rMoney:=by
 rintro V ⟨c0,c1,c2,cu⟩ ⟨d0,d1,d2,du⟩ ⟨x0,x1,x2,xu⟩ ⟨y0,y1,y2,yu⟩ f f' hx hy
 obtain⟨⟨ec0,zc0⟩,hx⟩:=hx
 replace ec0:c0=x0:=ec0
 subst ec0
 replace zc0:c0.size≤9223372036854775807:=zc0
 obtain⟨ec1,hx⟩:=hx
 replace ec1:c1=x1:=ec1
 subst ec1
 obtain⟨f2,fr2,ec2,sc2,hx⟩:=hx
 subst ec2
 replace sc2:LR rI _ c2 x2 f2:=sc2
 replace hx:_=[]:=hx
 subst hx
 obtain⟨⟨ed0,zd0⟩,hy⟩:=hy
 replace ed0:d0=y0:=ed0
 subst ed0
 replace zd0:d0.size≤9223372036854775807:=zd0
 obtain⟨ed1,hy⟩:=hy
 replace ed1:d1=y1:=ed1
 subst ed1
 obtain⟨g2,gr2,ed2,sd2,hy⟩:=hy
 subst ed2
 replace sd2:LR rI _ d2 y2 g2:=sd2
 replace hy:_=[]:=hy
 subst hy
 refine CallX.of_fits Tryz.mix (fI_MoneySame _ _) fun _=>?_
 simp only [tI_MoneySame,T.wp]
 refine⟨fun h0=>?_,fun h=>⟨by trivial,false,rfl,⟨(fun h=>by cases h),(fun e=>by cases e; simp at h)⟩⟩⟩
 refine(cI_intSame _ _ _ _ _ _ _ (rBool.mk (rSl.mk sc2 rNil.mk)) (rBool.mk (rSl.mk sd2 rNil.mk))).mono ?_
 rintro V1 r ⟨rfl,b1,rfl,hb1⟩
 refine⟨nofun,b1,rfl,by trivial,b1,rfl,⟨fun h1=>?_,fun e=>by cases e; exact hb1.2 rfl⟩⟩
 have q0:c0=d0:=text_eq.1 h0
 subst q0
 have q1:(c1,x2,())=(d1,y2,()):=hb1.1 h1
 cases q1
 rfl
theorem cI_BookSame_1:EqC Tryz.prog 147 rAcct:=by
 rintro V ⟨c0,c1,c2,c3,cu⟩ ⟨d0,d1,d2,d3,du⟩ ⟨x0,x1,x2,x3,xu⟩ ⟨y0,y1,y2,y3,yu⟩ f f' hx hy
 obtain⟨⟨ec0,zc0⟩,hx⟩:=hx
 replace ec0:c0=x0:=ec0
 subst ec0
 replace zc0:c0.size≤9223372036854775807:=zc0
 obtain⟨⟨ec1,zc1⟩,hx⟩:=hx
 replace ec1:c1=x1:=ec1
 subst ec1
 replace zc1:c1.size≤9223372036854775807:=zc1
 obtain⟨ec2,hx⟩:=hx
 replace ec2:c2=x2:=ec2
 subst ec2
 obtain⟨f3,fr3,ec3,sc3,hx⟩:=hx
 subst ec3
 replace sc3:LR rI _ c3 x3 f3:=sc3
 replace hx:_=[]:=hx
 subst hx
 obtain⟨⟨ed0,zd0⟩,hy⟩:=hy
 replace ed0:d0=y0:=ed0
 subst ed0
 replace zd0:d0.size≤9223372036854775807:=zd0
 obtain⟨⟨ed1,zd1⟩,hy⟩:=hy
 replace ed1:d1=y1:=ed1
 subst ed1
 replace zd1:d1.size≤9223372036854775807:=zd1
 obtain⟨ed2,hy⟩:=hy
 replace ed2:d2=y2:=ed2
 subst ed2
 obtain⟨g3,gr3,ed3,sd3,hy⟩:=hy
 subst ed3
 replace sd3:LR rI _ d3 y3 g3:=sd3
 replace hy:_=[]:=hy
 subst hy
 refine CallX.of_fits Tryz.mix (fI_BookSame_1 _ _) fun _=>?_
 simp only [tI_BookSame_1,T.wp]
 refine⟨fun h0=>?_,fun h=>⟨by trivial,false,rfl,⟨(fun h=>by cases h),(fun e=>by cases e; simp at h)⟩⟩⟩
 refine(cI_MoneySame _ _ _ _ _ _ _ (rStr.mk zc1 (rBool.mk (rSl.mk sc3 rNil.mk))) (rStr.mk zd1 (rBool.mk (rSl.mk sd3 rNil.mk)))).mono ?_
 rintro V1 r ⟨rfl,b1,rfl,hb1⟩
 refine⟨nofun,b1,rfl,by trivial,b1,rfl,⟨fun h1=>?_,fun e=>by cases e; exact hb1.2 rfl⟩⟩
 have q0:c0=d0:=text_eq.1 h0
 subst q0
 have q1:(c1,c2,x3,())=(d1,d2,y3,()):=hb1.1 h1
 cases q1
 rfl
theorem cI_ratSame:EqC Tryz.prog 51 rRat:=by
 rintro V ⟨c0,c1,c2,cu⟩ ⟨d0,d1,d2,du⟩ ⟨x0,x1,x2,xu⟩ ⟨y0,y1,y2,yu⟩ f f' hx hy
 obtain⟨ec0,hx⟩:=hx
 replace ec0:c0=x0:=ec0
 subst ec0
 obtain⟨f1,fr1,ec1,sc1,hx⟩:=hx
 subst ec1
 replace sc1:LR rI _ c1 x1 f1:=sc1
 obtain⟨f2,fr2,ec2,sc2,hx⟩:=hx
 subst ec2
 replace sc2:LR rI _ c2 x2 f2:=sc2
 replace hx:_=[]:=hx
 subst hx
 obtain⟨ed0,hy⟩:=hy
 replace ed0:d0=y0:=ed0
 subst ed0
 obtain⟨g1,gr1,ed1,sd1,hy⟩:=hy
 subst ed1
 replace sd1:LR rI _ d1 y1 g1:=sd1
 obtain⟨g2,gr2,ed2,sd2,hy⟩:=hy
 subst ed2
 replace sd2:LR rI _ d2 y2 g2:=sd2
 replace hy:_=[]:=hy
 subst hy
 refine CallX.of_fits Tryz.mix (fI_ratSame _ _) fun _=>?_
 simp only [tI_ratSame,T.wp]
 refine(cI_intSame _ _ _ _ _ _ _ (rBool.mk (rSl.mk sc1 rNil.mk)) (rBool.mk (rSl.mk sd1 rNil.mk))).mono ?_
 rintro V0 r ⟨rfl,b0,rfl,hb0⟩
 refine⟨nofun,b0,rfl,fun h0=>?_,fun h=>⟨by trivial,false,rfl,⟨(fun h=>by cases h),(fun e=>by cases e; simp [hb0.2 rfl] at h)⟩⟩⟩
 refine(cI_sameInts _ _ _ _ _ _ _ sc2 sd2).mono ?_
 rintro V2 r ⟨rfl,b2,rfl,hb2⟩
 refine⟨nofun,b2,rfl,by trivial,b2,rfl,⟨fun h2=>?_,fun e=>by cases e; exact hb2.2 rfl⟩⟩
 have q0:(c0,x1,())=(d0,y1,()):=hb0.1 h0
 cases q0
 have q2:x2=y2:=hb2.1 h2
 cases q2
 rfl
theorem cI_RestsSame_1:EqC Tryz.prog 50 rRest:=by
 rintro V ⟨c0,c1,c2,c3,cu⟩ ⟨d0,d1,d2,d3,du⟩ ⟨x0,x1,x2,x3,xu⟩ ⟨y0,y1,y2,y3,yu⟩ f f' hx hy
 obtain⟨⟨ec0,zc0⟩,hx⟩:=hx
 replace ec0:c0=x0:=ec0
 subst ec0
 replace zc0:c0.size≤9223372036854775807:=zc0
 obtain⟨ec1,hx⟩:=hx
 replace ec1:c1=x1:=ec1
 subst ec1
 obtain⟨f2,fr2,ec2,sc2,hx⟩:=hx
 subst ec2
 replace sc2:LR rI _ c2 x2 f2:=sc2
 obtain⟨f3,fr3,ec3,sc3,hx⟩:=hx
 subst ec3
 replace sc3:LR rI _ c3 x3 f3:=sc3
 replace hx:_=[]:=hx
 subst hx
 obtain⟨⟨ed0,zd0⟩,hy⟩:=hy
 replace ed0:d0=y0:=ed0
 subst ed0
 replace zd0:d0.size≤9223372036854775807:=zd0
 obtain⟨ed1,hy⟩:=hy
 replace ed1:d1=y1:=ed1
 subst ed1
 obtain⟨g2,gr2,ed2,sd2,hy⟩:=hy
 subst ed2
 replace sd2:LR rI _ d2 y2 g2:=sd2
 obtain⟨g3,gr3,ed3,sd3,hy⟩:=hy
 subst ed3
 replace sd3:LR rI _ d3 y3 g3:=sd3
 replace hy:_=[]:=hy
 subst hy
 refine CallX.of_fits Tryz.mix (fI_RestsSame_1 _ _) fun _=>?_
 simp only [tI_RestsSame_1,T.wp]
 refine⟨fun h0=>?_,fun h=>⟨by trivial,false,rfl,⟨(fun h=>by cases h),(fun e=>by cases e; simp at h)⟩⟩⟩
 refine(cI_ratSame _ _ _ _ _ _ _ (rBool.mk (rSl.mk sc2 (rSl.mk sc3 rNil.mk))) (rBool.mk (rSl.mk sd2 (rSl.mk sd3 rNil.mk)))).mono ?_
 rintro V1 r ⟨rfl,b1,rfl,hb1⟩
 refine⟨nofun,b1,rfl,by trivial,b1,rfl,⟨fun h1=>?_,fun e=>by cases e; exact hb1.2 rfl⟩⟩
 have q0:c0=d0:=text_eq.1 h0
 subst q0
 have q1:(c1,x2,x3,())=(d1,y2,y3,()):=hb1.1 h1
 cases q1
 rfl
theorem cI_decSame:EqC Tryz.prog 149 rDec:=by
 rintro V ⟨c0,c1,c2,cu⟩ ⟨d0,d1,d2,du⟩ ⟨x0,x1,x2,xu⟩ ⟨y0,y1,y2,yu⟩ f f' hx hy
 obtain⟨ec0,hx⟩:=hx
 replace ec0:c0=x0:=ec0
 subst ec0
 obtain⟨f1,fr1,ec1,sc1,hx⟩:=hx
 subst ec1
 replace sc1:LR rI _ c1 x1 f1:=sc1
 obtain⟨ec2,hx⟩:=hx
 replace ec2:c2=x2:=ec2
 subst ec2
 replace hx:_=[]:=hx
 subst hx
 obtain⟨ed0,hy⟩:=hy
 replace ed0:d0=y0:=ed0
 subst ed0
 obtain⟨g1,gr1,ed1,sd1,hy⟩:=hy
 subst ed1
 replace sd1:LR rI _ d1 y1 g1:=sd1
 obtain⟨ed2,hy⟩:=hy
 replace ed2:d2=y2:=ed2
 subst ed2
 replace hy:_=[]:=hy
 subst hy
 refine CallX.of_fits Tryz.mix (fI_decSame _ _) fun _=>?_
 simp only [tI_decSame,T.wp]
 refine(cI_intSame _ _ _ _ _ _ _ (rBool.mk (rSl.mk sc1 rNil.mk)) (rBool.mk (rSl.mk sd1 rNil.mk))).mono ?_
 rintro V0 r ⟨rfl,b0,rfl,hb0⟩
 refine⟨nofun,b0,rfl,fun h0=>?_,fun h=>⟨by trivial,false,rfl,⟨(fun h=>by cases h),(fun e=>by cases e; simp [hb0.2 rfl] at h)⟩⟩⟩
 refine⟨by trivial,_,rfl,⟨fun h2=>?_,fun e=>by cases e; simp⟩⟩
 have q0:(c0,x1,())=(d0,y1,()):=hb0.1 h0
 cases q0
 have q2:c2=d2:=by simpa using h2
 subst q2
 rfl
theorem cI_rateSame:EqC Tryz.prog 84 rRate:=by
 rintro V ⟨c0,c1,c2,c3,c4,cu⟩ ⟨d0,d1,d2,d3,d4,du⟩ ⟨x0,x1,x2,x3,x4,xu⟩ ⟨y0,y1,y2,y3,y4,yu⟩ f f' hx hy
 obtain⟨⟨ec0,zc0⟩,hx⟩:=hx
 replace ec0:c0=x0:=ec0
 subst ec0
 replace zc0:c0.size≤9223372036854775807:=zc0
 obtain⟨⟨ec1,zc1⟩,hx⟩:=hx
 replace ec1:c1=x1:=ec1
 subst ec1
 replace zc1:c1.size≤9223372036854775807:=zc1
 obtain⟨ec2,hx⟩:=hx
 replace ec2:c2=x2:=ec2
 subst ec2
 obtain⟨f3,fr3,ec3,sc3,hx⟩:=hx
 subst ec3
 replace sc3:LR rI _ c3 x3 f3:=sc3
 obtain⟨ec4,hx⟩:=hx
 replace ec4:c4=x4:=ec4
 subst ec4
 replace hx:_=[]:=hx
 subst hx
 obtain⟨⟨ed0,zd0⟩,hy⟩:=hy
 replace ed0:d0=y0:=ed0
 subst ed0
 replace zd0:d0.size≤9223372036854775807:=zd0
 obtain⟨⟨ed1,zd1⟩,hy⟩:=hy
 replace ed1:d1=y1:=ed1
 subst ed1
 replace zd1:d1.size≤9223372036854775807:=zd1
 obtain⟨ed2,hy⟩:=hy
 replace ed2:d2=y2:=ed2
 subst ed2
 obtain⟨g3,gr3,ed3,sd3,hy⟩:=hy
 subst ed3
 replace sd3:LR rI _ d3 y3 g3:=sd3
 obtain⟨ed4,hy⟩:=hy
 replace ed4:d4=y4:=ed4
 subst ed4
 replace hy:_=[]:=hy
 subst hy
 refine CallX.of_fits Tryz.mix (fI_rateSame _ _) fun _=>?_
 simp only [tI_rateSame,T.wp]
 refine⟨fun h0=>?_,fun h=>⟨by trivial,false,rfl,⟨(fun h=>by cases h),(fun e=>by cases e; simp at h)⟩⟩⟩
 refine⟨fun h1=>?_,fun h=>⟨by trivial,false,rfl,⟨(fun h=>by cases h),(fun e=>by cases e; simp at h)⟩⟩⟩
 refine(cI_decSame _ _ _ _ _ _ _ (rBool.mk (rSl.mk sc3 (rInt.mk rNil.mk))) (rBool.mk (rSl.mk sd3 (rInt.mk rNil.mk)))).mono ?_
 rintro V2 r ⟨rfl,b2,rfl,hb2⟩
 refine⟨nofun,b2,rfl,by trivial,b2,rfl,⟨fun h2=>?_,fun e=>by cases e; exact hb2.2 rfl⟩⟩
 have q0:c0=d0:=text_eq.1 h0
 subst q0
 have q1:c1=d1:=text_eq.1 h1
 subst q1
 have q2:(c2,x3,c4,())=(d2,y3,d4,()):=hb2.1 h2
 cases q2
 rfl
theorem cX_EqualFunc_Acct:EqSC Tryz.prog 146 rAcct [.func (.func 147) #[] #[]]:=fun _ s s' _ _ _ _ h h'=>CallX.of_fits Tryz.mix (fX_EqualFunc_Acct s s' 147) fun _=>tEqF_wp (g:=147) rfl cI_BookSame_1 h h'
theorem cX_EqualFunc_Rest:EqSC Tryz.prog 49 rRest [.func (.func 50) #[] #[]]:=fun _ s s' _ _ _ _ h h'=>CallX.of_fits Tryz.mix (fX_EqualFunc_Rest s s' 50) fun _=>tEqF_wp (g:=50) rfl cI_RestsSame_1 h h'
theorem cX_EqualFunc_Rate:EqSC Tryz.prog 83 rRate [.func (.func 84) #[] #[]]:=fun _ s s' _ _ _ _ h h'=>CallX.of_fits Tryz.mix (fX_EqualFunc_Rate s s' 84) fun _=>tEqF_wp (g:=84) rfl cI_rateSame h h'
theorem cI_BookSame:EqC Tryz.prog 82 rBook:=by
 rintro V ⟨c0,cu⟩ ⟨d0,du⟩ ⟨x0,xu⟩ ⟨y0,yu⟩ f f' hx hy
 obtain⟨f0,fr0,ec0,sc0,hx⟩:=hx
 subst ec0
 replace sc0:LR rAcct _ c0 x0 f0:=sc0
 replace hx:_=[]:=hx
 subst hx
 obtain⟨g0,gr0,ed0,sd0,hy⟩:=hy
 subst ed0
 replace sd0:LR rAcct _ d0 y0 g0:=sd0
 replace hy:_=[]:=hy
 subst hy
 refine CallX.of_fits Tryz.mix (fI_BookSame _ _) fun _=>?_
 simp only [tI_BookSame,T.wp]
 refine(cX_EqualFunc_Acct _ _ _ _ _ _ _ sc0 sd0).mono ?_
 rintro V0 r ⟨rfl,b0,rfl,hb0⟩
 refine⟨nofun,b0,rfl,by trivial,b0,rfl,⟨fun h0=>?_,fun e=>by cases e; exact hb0.2 rfl⟩⟩
 have q0:x0=y0:=hb0.1 h0
 cases q0
 rfl
theorem cI_RestsSame:EqSC Tryz.prog 16 rRest:=by
 intro V s s' l l' f f' h h'
 refine CallX.of_fits Tryz.mix (fI_RestsSame _ _) fun _=>?_
 simp only [tI_RestsSame,T.wp]
 refine(cX_EqualFunc_Rest V s s' l l' f f' h h').mono ?_
 rintro V' r ⟨rfl,b,rfl,hb⟩
 exact⟨nofun,b,rfl,rfl,b,rfl,hb⟩
theorem cI_LedgerSame:EqC Tryz.prog 31 rLedger:=by
 rintro V ⟨c0,c1,c2,c3,cu⟩ ⟨d0,d1,d2,d3,du⟩ ⟨x0,x1,x2,x3,xu⟩ ⟨y0,y1,y2,y3,yu⟩ f f' hx hy
 obtain⟨f0,fr0,ec0,sc0,hx⟩:=hx
 subst ec0
 replace sc0:LR rAcct _ c0 x0 f0:=sc0
 obtain⟨f1,fr1,ec1,sc1,hx⟩:=hx
 subst ec1
 replace sc1:LR rRest _ c1 x1 f1:=sc1
 obtain⟨⟨ec2,zc2⟩,hx⟩:=hx
 replace ec2:c2=x2:=ec2
 subst ec2
 replace zc2:c2.size≤9223372036854775807:=zc2
 obtain⟨f3,fr3,ec3,sc3,hx⟩:=hx
 subst ec3
 replace sc3:LR rRate _ c3 x3 f3:=sc3
 replace hx:_=[]:=hx
 subst hx
 obtain⟨g0,gr0,ed0,sd0,hy⟩:=hy
 subst ed0
 replace sd0:LR rAcct _ d0 y0 g0:=sd0
 obtain⟨g1,gr1,ed1,sd1,hy⟩:=hy
 subst ed1
 replace sd1:LR rRest _ d1 y1 g1:=sd1
 obtain⟨⟨ed2,zd2⟩,hy⟩:=hy
 replace ed2:d2=y2:=ed2
 subst ed2
 replace zd2:d2.size≤9223372036854775807:=zd2
 obtain⟨g3,gr3,ed3,sd3,hy⟩:=hy
 subst ed3
 replace sd3:LR rRate _ d3 y3 g3:=sd3
 replace hy:_=[]:=hy
 subst hy
 refine CallX.of_fits Tryz.mix (fI_LedgerSame _ _) fun _=>?_
 simp only [tI_LedgerSame,T.wp]
 refine(cI_BookSame _ _ _ _ _ _ _ (rSl.mk sc0 rNil.mk) (rSl.mk sd0 rNil.mk)).mono ?_
 rintro V0 r ⟨rfl,b0,rfl,hb0⟩
 refine⟨nofun,b0,rfl,fun h0=>?_,fun h=>⟨by trivial,false,rfl,⟨(fun h=>by cases h),(fun e=>by cases e; simp [hb0.2 rfl] at h)⟩⟩⟩
 refine(cI_RestsSame _ _ _ _ _ _ _ sc1 sd1).mono ?_
 rintro V1 r ⟨rfl,b1,rfl,hb1⟩
 refine⟨nofun,b1,rfl,fun h1=>?_,fun h=>⟨by trivial,false,rfl,⟨(fun h=>by cases h),(fun e=>by cases e; simp [hb1.2 rfl] at h)⟩⟩⟩
 refine⟨fun h2=>?_,fun h=>⟨by trivial,false,rfl,⟨(fun h=>by cases h),(fun e=>by cases e; simp at h)⟩⟩⟩
 refine(cX_EqualFunc_Rate _ _ _ _ _ _ _ sc3 sd3).mono ?_
 rintro V3 r ⟨rfl,b3,rfl,hb3⟩
 refine⟨nofun,b3,rfl,by trivial,b3,rfl,⟨fun h3=>?_,fun e=>by cases e; exact hb3.2 rfl⟩⟩
 have q0:(x0,())=(y0,()):=hb0.1 h0
 cases q0
 have q1:x1=y1:=hb1.1 h1
 cases q1
 have q2:c2=d2:=text_eq.1 h2
 subst q2
 have q3:x3=y3:=hb3.1 h3
 cases q3
 rfl
end Go.Proofs.YtagkjnpggkmehaaGreatDoor
namespace Go.Proofs.YtagkjnpggkmehaaGreatDoor
open Sx
set_option maxRecDepth 100000
theorem lnT_size {it:LnD} (h:LnP it):(lnT it).size≤3000:=by
 cases it with
 | p x =>
  have h:known x=true:=h
  show(_++x).size≤_
  rw [ByteArray.size_append]
  have:=known_size h
  show 6+x.size≤_
  omega
 | r x =>
  have:=rateRow_size (r:=x) h
  unfold rateRow at this
  rw [ByteArray.size_append] at this
  exact Nat.le_trans (Nat.le_add_right _ _) this
 | a x =>
  have:=acctRow_size (a:=x) h.2 h.1
  unfold acctRow at this
  rw [ByteArray.size_append] at this
  exact Nat.le_trans (Nat.le_add_right _ _) this
 | x x =>
  have:=restRow_size (x:=x) h.2 h.1
  unfold restRow at this
  rw [ByteArray.size_append] at this
  exact Nat.le_trans (Nat.le_add_right _ _) this
theorem flat_le {α:Type} (g:α→List UInt8) {B:Nat}:∀ {l:List α},(∀ x∈l,(g x).length≤B)→(l.flatMap g).length≤B*l.length
 | [],_=>Nat.le_refl _
 | x :: l,h=>by
  have h1:=flat_le g fun y hy=>h y (List.mem_cons_of_mem x hy)
  have h2:=h x (by simp)
  rw [List.flatMap_cons,List.length_append,List.length_cons,Nat.mul_add]
  omega
theorem ledgerT_size {X:DLedger} (h:LedgerOkP X):(ledgerT X).size≤1048576:=by
 rw [← bl_len,ledgerT_bl]
 have:=flat_le (fun it=>bl (lnT it)++[10]) (B:=3001) (l:=itemsL X) fun it hi=>by
  have h1:=lnT_size (items_ok h it hi)
  show(bl (lnT it)++[10]).length≤_
  rw [List.length_append,bl_len]
  show _+1≤_
  omega
 have h2:=items_len h
 have h3:3001*(itemsL X).length≤3001*45:=Nat.mul_le_mul_left _ h2
 exact Nat.le_trans this (by omega)
theorem law_FnState {V:Know} (hV:HrI V) {s:SlV} {l:List (Int × Unit)} {f:List Nat} (h:LR rBy V s l f):CallX Tryz.prog V 6 [Sc.val .l s] (fun V' r=>V.le V'∧r=.bool true):=by
 refine CallX.of_fits Tryz.mix (fL_FnState _) fun _=>?_
 simp only [tL_FnState,T.wp]
 refine⟨fun _=>⟨Know.le.refl _,rfl⟩,fun _=>(cS_MakeLedger V s l f h).mono ?_⟩
 rintro V1 _ ⟨le1,c,x,g,rfl,R1,okx,_⟩
 have htot:=ledger_tot okx
 refine⟨nofun,c,rfl,(cI_LedgerText (hV.le le1).1 c x g R1 (by omega)).mono ?_⟩
 rintro V2 _ ⟨le2,rfl⟩
 rw [okT_pos okx]
 have l2:=le1.trans le2
 refine⟨nofun,_,rfl,(cI_TextLedger (hV.le l2) (ledgerT x) (ledgerT_size okx)).mono ?_⟩
 rintro V3 _ ⟨le3,c3,x3,f3,ok,rfl,R3,O3,hrd⟩
 obtain⟨rfl,rfl⟩:=hrd.1 x okx rfl
 have l3:=l2.trans le3
 have R1':=rLedger.le R1 (le2.trans le3)
 refine⟨nofun,(c3,true,()),rfl,fun _=>?_,nofun⟩
 refine(cI_LedgerSame V3 _ _ _ _ _ _ R3 R1').mono ?_
 rintro V4 _ ⟨rfl,e,rfl,he⟩
 have e1:e=true:=he.2 rfl
 subst e1
 refine⟨fun _=>Know.le.refl _,true,rfl,fun _=>?_,nofun⟩
 refine(cI_LedgerText (hV.le l3).1 c3 x3 f3 R3 (by omega)).mono ?_
 rintro V5 _ ⟨le5,rfl⟩
 refine⟨fun _=>le5,_,rfl,(cI_LedgerText ((hV.le l3).le le5).1 c x3 g (rLedger.le R1' le5) (by omega)).mono ?_⟩
 rintro V6 _ ⟨le6,rfl⟩
 refine⟨nofun,_,rfl,l3.trans (le5.trans le6),?_⟩
 rw [okT_pos okx]
 show Value.bool ((ledgerT x3).toList == (ledgerT x3).toList)=_
 rw [text_self]
end Go.Proofs.YtagkjnpggkmehaaGreatDoor
