/-
  CmdText, in the program and in the reference.
-/
import Derived.Test.YtpkmhkbkohppiaaGreatDoorJoinX
namespace Go.Proofs.YtpkmhkbkohppiaaGreatDoor
open Sx Go.RowKit
set_option maxRecDepth 100000
def opL:List Tx:=[(⟨⟨[]⟩⟩,()),(⟨⟨[111,112,101,110]⟩⟩,()),(⟨⟨[112,117,116]⟩⟩,()),(⟨⟨[116,97,107,101]⟩⟩,()),(⟨⟨[109,111,118,101]⟩⟩,()),(⟨⟨[115,119,97,112]⟩⟩,()),(⟨⟨[100,101,97,108]⟩⟩,()),(⟨⟨[116,97,120]⟩⟩,()),(⟨⟨[99,97,115,104]⟩⟩,()),(⟨⟨[114,97,116,101]⟩⟩,())]
def modeL:List Tx:=[(⟨⟨[100,111,119,110]⟩⟩,()),(⟨⟨[117,112]⟩⟩,()),(⟨⟨[102,108,111,111,114]⟩⟩,()),(⟨⟨[99,101,105,108]⟩⟩,()),(⟨⟨[104,97,108,102,100,111,119,110]⟩⟩,()),(⟨⟨[104,97,108,102,117,112]⟩⟩,()),(⟨⟨[104,97,108,102,101,118,101,110]⟩⟩,())]
def opT (op:Int):ByteArray:=(opL.getD op.toNat (noT,())).1
def modeT (m:Int):ByteArray:=(modeL.getD m.toNat (noT,())).1
theorem opT_size {op:Int} (h:1≤op∧op≤9):(opT op).size≤4:=by
 have:op=1∨op=2∨op=3∨op=4∨op=5∨op=6∨op=7∨op=8∨op=9:=by omega
 rcases this with rfl | rfl | rfl | rfl | rfl | rfl | rfl | rfl | rfl <;> decide
theorem modeT_size {m:Int} (h:ModeP m):(modeT m).size≤8:=by
 have:m=0∨m=1∨m=2∨m=3∨m=4∨m=5∨m=6:=by have:=h.1; have:=h.2; omega
 rcases this with rfl | rfl | rfl | rfl | rfl | rfl | rfl <;> decide
theorem opL_size:∀ x∈opL,x.1.size≤9223372036854775807:=by
 intro x hx
 have:x.1.size≤4:=by
  simp only [opL,List.mem_cons,List.not_mem_nil,or_false] at hx
  rcases hx with rfl | rfl | rfl | rfl | rfl | rfl | rfl | rfl | rfl | rfl <;> decide
 omega
theorem cS_OpName (V:Know) (op:Int) (h:1≤op∧op≤9):CallX Tryz.prog V 44 [.int .i64 op] (fun V' r=>V'=V∧r=.string (opT op)):=by
 have h9:op=1∨op=2∨op=3∨op=4∨op=5∨op=6∨op=7∨op=8∨op=9:=by omega
 refine CallX.of_fits Tryz.mix (fS_OpName _) fun _=>?_
 simp only [tS_OpName,T.wp]
 refine(cS_l22Op V op).mono ?_
 rintro V1 r ⟨rfl,e,rfl,he⟩
 refine⟨nofun,e,rfl,fun hf=>absurd h (bf he hf),fun _=>⟨⟨by omega,by show op<10; omega⟩,opT op,?_,by trivial,rfl⟩⟩
 rcases h9 with rfl | rfl | rfl | rfl | rfl | rfl | rfl | rfl | rfl <;> rfl
theorem cI_nameAt (V:Know) (s:SlV) (l:List Tx) (f:List Nat) (i:Nat) (h:LR rString V s l f) (hi:i<l.length):CallX Tryz.prog V 94 [.int .i64 (i:Int),Sc.val .l s] (fun V' r=>V'=V∧r=.string l[i].1):=by
 refine CallX.of_fits Tryz.mix (fI_nameAt _ _) fun _=>?_
 simp only [tI_nameAt,T.wp]
 have hn:=h.1
 obtain⟨⟨b,o,a1,l1⟩,_⟩:=h.txt hi
 refine⟨fun h0=>?_,fun _=>⟨fun h0=>?_,fun _=>⟨_,a1,by omega,by omega,l[i].1,l1,by trivial,rfl⟩⟩⟩
 ·have:=of_decide_eq_true h0
  omega
 ·have:=of_decide_eq_true h0
  omega
theorem cI_OpName (V:Know) (op:Int) (h:1≤op∧op≤9):CallX Tryz.prog V 67 [.int .i64 op] (fun V' r=>V.le V'∧r=.string (opT op)):=by
 refine CallX.of_fits Tryz.mix (fI_OpName _) fun _=>?_
 simp only [tI_OpName,T.wp]
 intro b cap spare hb hc _
 have k:=newT (V:=V) (b:=b) (cap:=cap) (o:=opL) (spare:=spare) (t:=9) hb hc (by decide) opL_size
 have ei:op=((op.toNat:Nat):Int):=by omega
 have hi:op.toNat<opL.length:=by show op.toNat<10; omega
 have key:=cI_nameAt _ _ opL _ op.toNat k.1 hi
 rw [← ei] at key
 refine key.mono ?_
 rintro V1 _ ⟨rfl,rfl⟩
 refine⟨nofun,_,rfl,kset_le hb,?_⟩
 show Value.string _=Value.string _
 rw [opT,List.getD_eq_getElem?_getD,List.getElem?_eq_getElem hi]
 rfl
theorem cS_RmName (V:Know) (m:Int) (h:ModeP m):CallX Tryz.prog V 55 [.int .i64 m] (fun V' r=>V'=V∧r=.string (modeT m)):=by
 have h0:=h.1
 have h6:=h.2
 have h9:m=0∨m=1∨m=2∨m=3∨m=4∨m=5∨m=6:=by omega
 refine CallX.of_fits Tryz.mix (fS_RmName _) fun _=>?_
 simp only [tS_RmName,T.wp]
 refine(cS_l06Mode V m).mono ?_
 rintro V1 r ⟨rfl,e,rfl,he⟩
 refine⟨nofun,e,rfl,fun hf=>absurd h (bf he hf),fun _=>⟨⟨by omega,by show m<7; omega⟩,modeT m,?_,by trivial,rfl⟩⟩
 rcases h9 with rfl | rfl | rfl | rfl | rfl | rfl | rfl <;> rfl
theorem cI_IntSmall (V:Know) (k:Int) (h:0<k∧k<1000000000):CallX Tryz.prog V 145 [.int .i64 k] (fun V' r=>V.le V'∧∃ s f,r=qv1 (false,s,())∧LR rI V' s [(k,())] f):=by
 refine CallX.of_fits Tryz.mix (fI_IntOf _) fun _=>?_
 simp only [tI_IntOf,T.wp]
 refine⟨fun hn=>?_,fun _=>?_⟩
 ·have:=of_decide_eq_true hn
  omega
 rw [show IntKind.u64.wrap k=k from wrap_u64 (by omega)]
 refine(cI_natOf V k (by omega)).mono ?_
 rintro V1 _ ⟨le1,s,o,f,rfl,L,_,C,v,_⟩
 have e:o=[(k,())]:=can_inj C ⟨lims_one (by omega),.inr (by show k≠0; omega)⟩ (by rw [v,valN_one])
 subst e
 exact⟨nofun,s,rfl,le1,s,f,rfl,L⟩
theorem cS_IntSmall (V:Know) (k:Int) (h:0<k∧k<1000000000):CallX Tryz.prog V 88 [.int .i64 k] (fun V' r=>V.le V'∧∃ s f,r=qv1 (false,s,())∧LR rI V' s [(k,())] f):=by
 refine CallX.of_fits Tryz.mix (fS_IntOf _) fun _=>?_
 simp only [tS_IntOf,T.wp]
 refine⟨fun hm=>?_,fun _=>⟨fun hn=>?_,fun _=>?_⟩⟩
 ·have:=beq_iff_eq.1 hm
  omega
 ·have:=of_decide_eq_true hn
  omega
 refine(cS_NatOf V k (by omega)).mono ?_
 rintro V1 _ ⟨le1,s,o,f,rfl,L,_,C,v,_⟩
 have e:o=[(k,())]:=can_inj C ⟨lims_one (by omega),.inr (by show k≠0; omega)⟩ (by rw [v,valN_one])
 subst e
 refine⟨nofun,s,rfl,(cS_l04Make V1 false s _ f L C (by simp)).mono ?_⟩
 rintro V2 _ ⟨le2,s2,f2,rfl,L2,_⟩
 exact⟨nofun,(false,s2,()),rfl,le1.trans le2,s2,f2,rfl,L2⟩
theorem hun_can:Can [((100:Int),())]:=⟨lims_one (by decide),.inr (by decide)⟩
theorem hun_ok:DecOkP false [((100:Int),())] 0:=⟨⟨⟨hun_can,by simp⟩,(fun h=>by cases h)⟩,by simp,by omega,by omega⟩
def HunPost (V:Know) (m:List Lim) (sc:Int):Know→Value→Prop:=fun V' r=>V.le V'∧∃ s o f,r=.tuple #[decV false s sc,.bool true]∧LR rI V' s o f∧DecOkP false o sc∧valN o=valN m*100
theorem hun_len {m o:List Lim} (hm:Can m) (h1:m.length≤1) (ho:Can o) (hv:valN o=valN m*100):o.length≤2:=by
 have:=mul_len hun_can ho hm.1 (by rw [valN_one]; exact hv)
 simp at this
 omega
theorem cS_DecMul100 (V:Know) (t:SlV) (m:List Lim) (f:List Nat) (sc:Int) (t':SlV) (f':List Nat) (h:LR rI V t m f) (h':LR rI V t' [((100:Int),())] f') (hd:DecOkP false m sc) (h1:m.length≤1) :
  CallX Tryz.prog V 87 [decV false t sc,decV false t' 0] (HunPost V m sc):=by
 refine CallX.of_fits Tryz.mix (fS_DecMul _ _) fun _=>?_
 simp only [tS_DecMul,T.wp]
 have hsc:=hd.2.2
 refine(cS_DecOk V false t sc m f h).mono ?_
 rintro V1 r ⟨rfl,e,rfl,he⟩
 refine⟨nofun,e,rfl,fun hf=>absurd hd (bf he hf),fun _=>(cS_DecOk V1 false t' 0 _ f' h').mono ?_⟩
 rintro V2 r ⟨rfl,e2,rfl,he2⟩
 refine⟨nofun,e2,rfl,fun hf=>absurd hun_ok (bf he2 hf),fun _=>(cS_IntMul V2 false t false t' m _ f f' h h' hd.1 hun_ok.1 (by simp; omega)).mono ?_⟩
 rintro V3 _ ⟨le3,s3,o,f3,rfl,L3,_,ho,hv⟩
 rw [valN_one] at hv
 have hl:=hun_len hd.1.1.1 h1 ho hv
 have ew:IntKind.i64.wrap (sc+0)=sc:=by rw [Int.add_zero]; exact wrap_i64 (by omega)
 refine⟨fun _=>le3,(false,s3,()),rfl,?_⟩
 rw [ew]
 refine(cS_l07Dec V3 false s3 sc o f3 L3 ho (fun h=>by cases h) (by omega) hsc.1 hsc.2).mono ?_
 rintro V4 r ⟨rfl,⟨h6,rfl⟩ | ⟨h6,_⟩⟩
 ·exact⟨fun _=>Know.le.refl _,((false,s3,sc,()),true,()),rfl,le3,s3,o,f3,rfl,L3,⟨⟨⟨ho,by omega⟩,(fun h=>by cases h)⟩,h6,hsc.1,hsc.2⟩,hv⟩
 ·omega
theorem cI_DecMul100 (V:Know) (t:SlV) (m:List Lim) (f:List Nat) (sc:Int) (t':SlV) (f':List Nat) (h:LR rI V t m f) (h':LR rI V t' [((100:Int),())] f') (hd:DecOkP false m sc) (h1:m.length≤1) :
  CallX Tryz.prog V 161 [decV false t sc,decV false t' 0] (HunPost V m sc):=by
 refine CallX.of_fits Tryz.mix (fI_DecMul _ _) fun _=>?_
 simp only [tI_DecMul,T.wp]
 have hsc:=hd.2.2
 refine(cI_DecOk V false t sc m f h).mono ?_
 rintro V1 r ⟨rfl,e,rfl,he⟩
 refine⟨nofun,e,rfl,fun hf=>absurd hd (bf he hf),fun _=>(cI_DecOk V1 false t' 0 _ f' h').mono ?_⟩
 rintro V2 r ⟨rfl,e2,rfl,he2⟩
 refine⟨nofun,e2,rfl,fun hf=>absurd hun_ok (bf he2 hf),fun _=>?_⟩
 have hM:CallX Tryz.prog V2 190 [qv1 (false,t,()),qv1 (false,t',())] (fun V' r=>V2.le V'∧∃ s o f,r=qv1 (false,s,())∧LR rI V' s o f∧Can o∧valN o=valN m*100):=by
  refine CallX.of_fits Tryz.mix (fI_intMul _ _) fun _=>?_
  simp only [tI_intMul,T.wp]
  refine(cI_natMul V2 t t' m _ f f' h h' hd.1.1.1.1 hun_can.1 (by omega) (by simp)).mono ?_
  rintro V3 _ ⟨le3,s3,o,bk,rfl,N3,_,ho,hv,_⟩
  rw [valN_one] at hv
  refine⟨fun _=>le3,s3,rfl,(cI_signed V3 _ s3).mono ?_⟩
  rintro V4 _ ⟨rfl,rfl⟩
  exact⟨fun _=>Know.le.refl _,_,rfl,le3,s3,o,[bk],rfl,N3.lr,ho,hv⟩
 refine hM.mono ?_
 rintro V3 _ ⟨le3,s3,o,f3,rfl,L3,ho,hv⟩
 have hl:=hun_len hd.1.1.1 h1 ho hv
 have ew:IntKind.i64.wrap (sc+0)=sc:=by rw [Int.add_zero]; exact wrap_i64 (by omega)
 refine⟨fun _=>le3,(false,s3,()),rfl,?_⟩
 rw [ew]
 refine(cI_decOf V3 false s3 sc o f3 L3 ho (fun h=>by cases h) (by omega) hsc.1 hsc.2).mono ?_
 rintro V4 r ⟨rfl,⟨h6,rfl⟩ | ⟨h6,_⟩⟩
 ·exact⟨fun _=>Know.le.refl _,((false,s3,sc,()),true,()),rfl,le3,s3,o,f3,rfl,L3,⟨⟨⟨ho,by omega⟩,(fun h=>by cases h)⟩,h6,hsc.1,hsc.2⟩,hv⟩
 ·omega
def PerP (m:List Lim) (sc:Int) (t:ByteArray):Prop:=∃ o y,Can o∧valN o=valN m*100∧LowD false o sc y∧t=decT y.1 y.2.1 y.2.2.1++(⟨⟨[37]⟩⟩:ByteArray)
theorem perP_inj {m:List Lim} {sc:Int} {t t':ByteArray} (h:PerP m sc t) (k:PerP m sc t'):t=t':=by
 obtain⟨o,y,h1,h2,h3,rfl⟩:=h
 obtain⟨o',y',k1,k2,k3,rfl⟩:=k
 obtain rfl:o=o':=can_inj h1 k1 (h2.trans k2.symm)
 rw [low_inj h3 k3]
noncomputable def perT (m:List Lim) (sc:Int):ByteArray:=by classical exact if h:∃ t,PerP m sc t then h.choose else noT
theorem perT_eq {m:List Lim} {sc:Int} {t:ByteArray} (h:PerP m sc t):perT m sc=t:=by
 unfold perT
 rw [dif_pos ⟨t,h⟩]
 exact perP_inj (Exists.choose_spec (⟨t,h⟩:∃ t,PerP m sc t)) h
theorem low_size {o:List Lim} {sc:Int} {y:DecD} (h:LowD false o sc y):(decT y.1 y.2.1 y.2.2.1).size≤2200:=by
 have ok:=low_ok h
 have h1:=decT_size (neg:=y.1) (sc:=y.2.2.1) ok.1.1.1.1
 have h2:=ok.2.1
 omega
theorem perP_size {m:List Lim} {sc:Int} {t:ByteArray} (h:PerP m sc t):t.size≤2201:=by
 obtain⟨o,y,_,_,h3,rfl⟩:=h
 have:=low_size h3
 rw [ByteArray.size_append]
 show _+1≤_
 omega
abbrev PerPost (V:Know) (m:List Lim) (sc:Int):Know→Value→Prop:=fun V' r=>V.le V'∧PerP m sc (perT m sc)∧r=.string (perT m sc)
theorem cS_Percent {V:Know} (n:Bool) (t:SlV) (m:List Lim) (f:List Nat) (sc:Int) (h:LR rI V t m f) (hT:TaxLowP n m sc):CallX Tryz.prog V 54 [decV n t sc] (PerPost V m sc):=by
 refine CallX.of_fits Tryz.mix (fS_Percent _) fun _=>?_
 simp only [tS_Percent,T.wp]
 obtain⟨hT,hL⟩:=hT
 obtain rfl:n=false:=hT.2.2.1
 refine(cS_TaxRateOk V false t m f sc h).mono ?_
 rintro V1 r ⟨le1,e,rfl,he⟩
 refine⟨nofun,e,rfl,fun hf=>absurd hT (bf he hf),fun _=>(cS_DecLow V1 false t m f sc (h.le le1) hT.1).mono ?_⟩
 rintro V2 _ ⟨le2,y,t2,f2,rfl,L2,_,hL2⟩
 obtain rfl:=low_inj hL2 hL
 refine⟨nofun,(false,t2,sc,()),rfl,(cS_IntSmall V2 100 (by omega)).mono ?_⟩
 rintro V3 _ ⟨le3,t3,f3,rfl,L3⟩
 refine⟨nofun,(false,t3,()),rfl,(cS_DecMul100 V3 t2 m f2 sc t3 f3 (L2.le le3) L3 hT.1 hT.2.1).mono ?_⟩
 rintro V4 _ ⟨le4,s4,o,f4,rfl,L4,ok4,hv4⟩
 refine⟨nofun,((false,s4,sc,()),true,()),rfl,(fun h=>by cases h),fun _=>(cS_DecLow V4 false s4 o f4 sc L4 ok4).mono ?_⟩
 rintro V5 _ ⟨le5,y,t5,f5,rfl,L5,_,hL5⟩
 refine⟨nofun,(y.1,t5,y.2.2.1,()),rfl,(cS_DecText (V:=V5) trivial y.1 t5 y.2.2.1 y.2.1 f5 L5).mono ?_⟩
 rintro V6 _ ⟨le6,rfl⟩
 rw [okT_pos (low_ok hL5)]
 have hs:=low_size hL5
 have hP:PerP m sc (decT y.1 y.2.1 y.2.2.1++(⟨⟨[37]⟩⟩:ByteArray)):=⟨o,y,ok4.1.1.1,hv4,hL5,rfl⟩
 refine⟨nofun,_,rfl,?_,((((le1.trans le2).trans le3).trans le4).trans le5).trans le6,?_,?_⟩
 ·show _+1≤_
  omega
 ·rw [perT_eq hP]; exact hP
 ·rw [perT_eq hP]; rfl
theorem cI_Percent {V:Know} (hV:HtI V) (n:Bool) (t:SlV) (m:List Lim) (f:List Nat) (sc:Int) (h:LR rI V t m f) (hT:TaxLowP n m sc):CallX Tryz.prog V 130 [decV n t sc] (PerPost V m sc):=by
 refine CallX.of_fits Tryz.mix (fI_Percent _) fun _=>?_
 simp only [tI_Percent,T.wp]
 obtain⟨hT,hL⟩:=hT
 obtain rfl:n=false:=hT.2.2.1
 refine(cI_TaxRateOk V false t m f sc h).mono ?_
 rintro V1 r ⟨le1,e,rfl,he⟩
 refine⟨nofun,e,rfl,fun hf=>absurd hT (bf he hf),fun _=>(cI_IntSmall V1 100 (by omega)).mono ?_⟩
 rintro V3 _ ⟨le3,t3,f3,rfl,L3⟩
 refine⟨fun _=>le3,(false,t3,()),rfl,(cI_DecMul100 V3 t m f sc t3 f3 (h.le (le1.trans le3)) L3 hT.1 hT.2.1).mono ?_⟩
 rintro V4 _ ⟨le4,s4,o,f4,rfl,L4,ok4,hv4⟩
 refine⟨fun _=>le4,((false,s4,sc,()),true,()),rfl,(cI_DecLow V4 false s4 o f4 sc L4 ok4).mono ?_⟩
 rintro V5 _ ⟨le5,y,t5,f5,rfl,L5,_,hL5⟩
 have l5:=((le1.trans le3).trans le4).trans le5
 refine⟨nofun,(y.1,t5,y.2.2.1,()),rfl,(cI_DecText (HtI.le hV l5) y.1 t5 y.2.2.1 y.2.1 f5 L5).mono ?_⟩
 rintro V6 _ ⟨le6,rfl⟩
 rw [okT_pos (low_ok hL5)]
 have hs:=low_size hL5
 have hP:PerP m sc (decT y.1 y.2.1 y.2.2.1++(⟨⟨[37]⟩⟩:ByteArray)):=⟨o,y,ok4.1.1.1,hv4,hL5,rfl⟩
 refine⟨nofun,_,rfl,?_,l5.trans le6,?_,?_⟩
 ·show _+1≤_
  omega
 ·rw [perT_eq hP]; exact hP
 ·rw [perT_eq hP]; rfl
def dealAt (nm:List Tx) (w:List Lim) (i:Nat):Tx:=((nm.getD i (noT,())).1++(⟨⟨[58]⟩⟩:ByteArray)++numT (limb w i),())
def dealL (nm:List Tx) (w:List Lim):List Tx:=(List.range nm.length).map (dealAt nm w)
def dealT (nm:List Tx) (w:List Lim):ByteArray:=joinT (dealL nm w) ⟨⟨[44]⟩⟩
theorem dealAt_size {nm:List Tx} {w:List Lim} (h:DealP nm w) {i:Nat} (hi:i<nm.length):(dealAt nm w i).1.size≤34:=by
 have h1:=(h.2.2.2.1 i hi).2.1
 have h2:=h.2.2.2.2 i (by rw [← h.1]; exact hi)
 have h3:=numT_len (limb w i) (by have:=h2.1; omega) (by have:=h2.2; omega)
 have e:(nm.getD i (noT,())).1=nm[i].1:=by rw [List.getD_eq_getElem?_getD,List.getElem?_eq_getElem hi]; rfl
 show(((nm.getD i (noT,())).1++_)++_).size≤34
 rw [e,ByteArray.size_append,ByteArray.size_append]
 show _+1+_≤_
 omega
theorem dealL_size {nm:List Tx} {w:List Lim} (h:DealP nm w):∀ x∈dealL nm w,x.1.size≤34:=by
 intro x hx
 obtain⟨i,hi,rfl⟩:=List.mem_map.1 hx
 exact dealAt_size h (List.mem_range.1 hi)
theorem dealL_len (nm:List Tx) (w:List Lim):(dealL nm w).length=nm.length:=by simp [dealL]
theorem dealL_sum {nm:List Tx} {w:List Lim} (h:DealP nm w):sumT (dealL nm w)≤1020:=by
 have h1:=sumT_le _ (dealL_size h)
 rw [dealL_len] at h1
 have h2:=h.1
 have h3:=h.2.2.1
 omega
theorem dealT_size {nm:List Tx} {w:List Lim} (h:DealP nm w):(dealT nm w).size≤1050:=by
 have h1:=joinT_size (dealL nm w) ⟨⟨[44]⟩⟩
 have h2:=dealL_sum h
 rw [dealL_len] at h1
 have h3:=h.1
 have h4:=h.2.2.1
 have e:(⟨⟨[44]⟩⟩:ByteArray).size=1:=rfl
 rw [e] at h1
 unfold dealT
 omega
theorem deal_wp {V V0:Know} {s t:SlV} {nm:List Tx} {w:List Lim} {f g:List Nat} {gi gj:Nat} (h:LR rString V s nm f) (h':LR rI V t w g) (hD:DealP nm w)
  (hi:∀ V' (k:Int),V.le V'→0≤k→k≤1000000000→CallX Tryz.prog V' gi [.int .i64 k] (TxPost V' (numT k)))
  (hj:∀ V' (s:SlV) (l:List Tx) f b,LR rString V' s l f→sumT l+l.length*ByteArray.size b≤1099511627776→l.length≤1099511627776→CallX Tryz.prog V' gj [Sc.val .l s,.string b] (fun V'' r=>V''=V'∧r=.string (joinT l b))) :
  (T.lp [.a 9,.o (.o (.i .i64))] [.a 9 ((0:Nat)) [],.v (.int .i64 ((0:Int)))] fun y1 =>
   .br (decide (y1.2.fst<(s.n:Int))) (
    .el (s.a) (s.n) (y1.2.fst) fun y2 =>
    .ld false (y2.add (Int.toNat y1.2.fst*(1:Nat))) (.o (.s)) fun y3 =>
    .rq (y3.size+(⟨⟨[58]⟩⟩:ByteArray).size≤(9223372036854775807:Nat)) <|
    .el (t.a) (t.n) (y1.2.fst) fun y4 =>
    .ld false (y4.add (Int.toNat y1.2.fst*(1:Nat))) (.o (.i .i64)) fun y5 =>
    .call false gi [.int .i64 (y5)] (.v (.o (.s))) fun y6 =>
    .rq ((y3++(⟨⟨[58]⟩⟩:ByteArray)).size+y6.size≤(9223372036854775807:Nat)) <|
    .rq ([Value.string (y3++(⟨⟨[58]⟩⟩:ByteArray)++y6)].length=(1:Nat)*(1:Nat)) <|
    .rq (one [Value.string (y3++(⟨⟨[58]⟩⟩:ByteArray)++y6)]=true∧(y1.1.fst+(1:Nat))*(16:Nat)≤(140737488355328:Nat)∧y1.1.fst+(1:Nat)≤(9223372036854775807:Nat)) <|
    .nx 0 [.a 9 (y1.1.fst+(1:Nat)) (y1.1.snd++[Value.string (y3++(⟨⟨[58]⟩⟩:ByteArray)++y6)]),.v (.int .i64 (IntKind.i64.wrap (y1.2.fst+(1:Int))))]) <|
   .fz (y1.1.fst) (y1.1.snd) 9 fun b2 c2 =>
   .call false gj [.slice (some { block:=b2,off:=(0:Nat):Addr }) (y1.1.fst) (c2),.string (⟨⟨[44]⟩⟩:ByteArray)] (.v (.o (.s))) fun y3 =>
   .ret [.string (y3)]).wp Tryz.prog (fun V' vs=>TxPost V (dealT nm w) V' (packed vs)) V V0 []:=by
 simp only [T.wp]
 have hn:=h.1
 have hn':=h'.1
 have hb:=h.2.2.1
 have hl:=hD.1
 have h30:=hD.2.2.1
 refine⟨fun y V'=>V.le V'∧∃ i:Nat,y.2.1=(i:Int)∧i≤nm.length∧y.1.1=i∧y.1.2=((List.range i).map (dealAt nm w)).map cellT,fun y=>((nm.length:Int)-(y.2.1:Int)).toNat,⟨((0,[]),(0:Int),()),rfl,Know.le.refl _,0,rfl,by omega,rfl,rfl⟩,?_⟩
 rintro⟨⟨n1,ys⟩,(i:Int),u⟩ V' ⟨hle,k,hk,hkl,hn1,hys⟩
 replace hk:i=(k:Int):=hk
 replace hn1:n1=k:=hn1
 replace hys:ys=((List.range k).map (dealAt nm w)).map cellT:=hys
 subst hk hn1 hys
 refine⟨fun hlt=>?_,fun hge=>?_⟩
 ·have h1:n1<nm.length:=by
   have:(n1:Int)<(s.n:Int):=of_decide_eq_true hlt
   omega
  have h1':n1<w.length:=by omega
  obtain⟨⟨b1,o1,a1,l1⟩,z1⟩:=(h.le hle).txt h1
  obtain⟨b2,o2,a2,l2⟩:=(h'.le hle).int h1'
  have ew:w[n1].1=limb w n1:=(limb_lt h1').symm
  rw [ew] at l2
  have hw:=hD.2.2.2.2 n1 h1'
  have h12:=(hD.2.2.2.1 n1 h1).2.1
  have hnum:=numT_len (limb w n1) (by have:=hw.1; omega) (by have:=hw.2; omega)
  refine⟨_,a1,(by omega:(0:Int)≤(n1:Int)),(by omega:(n1:Int)<(s.n:Int)),nm[n1].1,l1,?_,_,a2,(by omega:(0:Int)≤(n1:Int)),(by omega:(n1:Int)<(t.n:Int)),limb w n1,l2,(hi V' _ hle hw.1 hw.2).mono ?_⟩
  ·show _+1≤_
   omega
  rintro V2 _ ⟨le2,rfl⟩
  refine⟨nofun,_,rfl,?_,rfl,⟨rfl,(by omega:(n1+1)*16≤140737488355328),(by omega:n1+1≤9223372036854775807)⟩,_,rfl,((n1+1,((List.range (n1+1)).map (dealAt nm w)).map cellT),((n1+1:Nat):Int),()),?_,⟨hle.trans le2,n1+1,rfl,h1,rfl,rfl⟩,?_⟩
  ·rw [ByteArray.size_append]
   show _+1+_≤_
   omega
  ·rw [nxt h1 (by omega),List.range_succ,List.map_append,List.map_append]
   have e:(nm.getD n1 (noT,())).1=nm[n1].1:=by rw [List.getD_eq_getElem?_getD,List.getElem?_eq_getElem h1]; rfl
   have e2:[Value.string (nm[n1].1++(⟨⟨[58]⟩⟩:ByteArray)++numT (limb w n1))]=List.map cellT (List.map (dealAt nm w) [n1]):=by
    show _=[Value.string ((nm.getD n1 (noT,())).1++_++_)]
    rw [e]
   rw [e2]
   rfl
  ·show((nm.length:Int)-((n1+1:Nat):Int)).toNat<((nm.length:Int)-(n1:Int)).toNat
   omega
 ·have h1:n1=nm.length:=by
   have:¬ (n1:Int)<(s.n:Int):=of_decide_eq_false hge
   omega
  subst h1
  intro b cap spare hb0 hc _
  have hsz:=dealL_size hD
  have k:=newT (V:=V') (b:=b) (cap:=cap) (o:=dealL nm w) (spare:=spare) (t:=9) hb0 (by rw [dealL_len]; exact hc) (by rw [dealL_len]; omega) (fun x hx=>by have:=hsz x hx; omega)
  have hsum:=dealL_sum hD
  have e1:(⟨⟨[44]⟩⟩:ByteArray).size=1:=rfl
  have key:=hj _ _ _ _ ⟨⟨[44]⟩⟩ k.1 (by rw [dealL_len,e1]; omega) (by rw [dealL_len]; omega)
  rw [dealL_len] at key
  refine key.mono ?_
  rintro V2 _ ⟨rfl,rfl⟩
  exact⟨nofun,_,rfl,hle.trans (kset_le hb0),rfl⟩
theorem cS_l22Deal {V:Know} (s t:SlV) (nm:List Tx) (w:List Lim) (f g:List Nat) (h:LR rString V s nm f) (h':LR rI V t w g) (hD:DealP nm w):CallX Tryz.prog V 65 [Sc.val .l s,Sc.val .l t] (TxPost V (dealT nm w)):=by
 refine CallX.of_fits Tryz.mix (fS_l22Deal _ _) fun _=>?_
 rw [tS_l22Deal]
 exact deal_wp h h' hD (fun V' k _ h0 h1=>cS_IntText V' k h0 (by omega)) (fun V' s l f b hL hs _=>cS_Join V' s l f b hL hs)
end Go.Proofs.YtpkmhkbkohppiaaGreatDoor
namespace Go.Proofs.YtpkmhkbkohppiaaGreatDoor
open Sx Go.RowKit
set_option maxRecDepth 100000
noncomputable def fieldT:DCmd→Int→ByteArray
 | (_,a,b,c,u,mc,mn,mm,mo,nm,w,_,rm,rs,pf,pt,pn,pm,ps,_),f=>if f=0 then a else if f=1 then b else if f=2 then c else if f=3 then u else if f=4 then moneyT mc mn mm else if f=5 then dealT nm w else if f=6 then perT rm rs else if f=7 then modeT mo else rateT (pf,pt,pn,pm,ps,())
theorem perT_size (m:List Lim) (sc:Int):(perT m sc).size≤2201:=by
 unfold perT
 split
 ·rename_i h
  exact perP_size h.choose_spec
 ·show 0≤_
  omega
theorem mem_fields {op f:Int} (h:(f,())∈fieldsL op):∃ j:Nat,j<9∧f=(j:Int):=by
 have key:0≤f∧f≤8:=by
  by_cases ho:1≤op∧op≤9
  ·have:op=1∨op=2∨op=3∨op=4∨op=5∨op=6∨op=7∨op=8∨op=9:=by omega
   rcases this with rfl | rfl | rfl | rfl | rfl | rfl | rfl | rfl | rfl <;> simp [fieldsL] at h <;> omega
  ·have e:fieldsL op=[]:=by
    unfold fieldsL
    rw [if_neg (by omega),if_neg (by omega),if_neg (by omega),if_neg (by omega),if_neg (by omega),if_neg (by omega),if_neg (by omega),if_neg (by omega),if_neg (by omega)]
   rw [e] at h
   cases h
 exact⟨f.toNat,by omega,by omega⟩
theorem fields_len (op:Int):(fieldsL op).length≤6:=by
 unfold fieldsL
 repeat' split
 all_goals decide
theorem field_ok {x:DCmd} (h:CmdP x) {f:Int} (hf:(f,())∈fieldsL x.1):FOk x f:=by
 obtain⟨j,hj,rfl⟩:=mem_fields hf
 exact(h.2 j hj).1 hf
theorem fieldT_size {x:DCmd} {f:Int} (h:FOk x f):(fieldT x f).size≤2201:=by
 obtain⟨op,a,b,c,u,mc,mn,mm,mo,nm,w,rn,rm,rs,pf,pt,pn,pm,ps,y⟩:=x
 unfold FOk at h
 unfold fieldT
 simp only at h ⊢
 split
 ·rw [if_pos (by assumption)] at h
  have:=h.2.1
  omega
 rw [if_neg (by assumption)] at h
 split
 ·rw [if_pos (by assumption)] at h
  have:=h.2.1
  omega
 rw [if_neg (by assumption)] at h
 split
 ·rw [if_pos (by assumption)] at h
  have:=h.2.1
  omega
 rw [if_neg (by assumption)] at h
 split
 ·rw [if_pos (by assumption)] at h
  have:=h.1
  omega
 rw [if_neg (by assumption)] at h
 split
 ·rw [if_pos (by assumption)] at h
  have:=moneyT_size h.1
  omega
 rw [if_neg (by assumption)] at h
 split
 ·rw [if_pos (by assumption)] at h
  have:=dealT_size h
  omega
 rw [if_neg (by assumption)] at h
 split
 ·exact perT_size _ _
 rw [if_neg (by assumption)] at h
 split
 ·rw [if_pos (by assumption)] at h
  have:=modeT_size h
  omega
 rw [if_neg (by assumption)] at h
 have:=rateT_size h
 omega
noncomputable def wordsL (x:DCmd):List Tx:=(opT x.1,()) :: (fieldsL x.1).map fun g=>(fieldT x g.1,())
noncomputable def cmdT (x:DCmd):ByteArray:=joinT (wordsL x) ⟨⟨[32]⟩⟩
theorem wordsL_len (x:DCmd):(wordsL x).length=(fieldsL x.1).length+1:=by simp [wordsL]
theorem wordsL_size {x:DCmd} (h:CmdP x):∀ y∈wordsL x,y.1.size≤2201:=by
 intro y hy
 rcases List.mem_cons.1 hy with rfl | hy
 ·have:=opT_size ((fields_mem x.1).1.1 h.1)
  show(opT x.1).size≤_
  omega
 ·obtain⟨g,hg,rfl⟩:=List.mem_map.1 hy
  exact fieldT_size (field_ok h hg)
theorem words_fit {x:DCmd} (h:CmdP x):sumT (wordsL x)+(wordsL x).length*(⟨⟨[32]⟩⟩:ByteArray).size≤1099511627776:=by
 have h1:=sumT_le _ (wordsL_size h)
 have h2:=wordsL_len x
 have h3:=fields_len x.1
 have e:(⟨⟨[32]⟩⟩:ByteArray).size=1:=rfl
 rw [e]
 omega
theorem op_cases {op:Int} (h:1≤op∧op≤9) (h9:¬ op=9):op=1∨op=2∨op=3∨op=4∨op=5∨op=6∨op=7∨op=8:=by omega
def addB (e:Bool) (t:ByteArray) (l:List Tx):List Tx:=if e=true then l++[(t,())] else l
theorem addB_t {e:Bool} {t:ByteArray} {l:List Tx} (h:e=true):addB e t l=l++[(t,())]:=if_pos h
theorem addB_f {e:Bool} {t:ByteArray} {l:List Tx} (h:e=false):addB e t l=l:=by rw [h]; rfl
theorem addB_len (e:Bool) (t:ByteArray) (l:List Tx):(addB e t l).length≤l.length+1:=by
 unfold addB
 split
 ·simp
 ·omega
def Wd (V1:Know) (l:List Tx) (k:Nat):LShs [.a 9]→Know→Prop:=fun y V'=>V1.le V'∧y.1.1=l.length∧y.1.2=l.map cellT∧l.length≤k
theorem Wd.add {V1 V':Know} {l:List Tx} {k n:Nat} {ys:List Value} {e:Bool} {t:ByteArray} (hle:V1.le V') (hn:n=l.length) (hys:ys=l.map cellT) (hl:l.length≤k) (he:e=true):Wd V1 (addB e t l) (k+1) ((n+1,ys++[.string t]),()) V':=by
 refine⟨hle,?_,?_,?_⟩
 ·rw [addB_t he,hn]; simp
 ·rw [addB_t he,hys,List.map_append]; rfl
 ·have:=addB_len e t l
  omega
theorem Wd.keep {V1 V':Know} {l:List Tx} {k n:Nat} {ys:List Value} {e:Bool} {t:ByteArray} (hle:V1.le V') (hn:n=l.length) (hys:ys=l.map cellT) (hl:l.length≤k) (he:e=false):Wd V1 (addB e t l) (k+1) ((n,ys),()) V':=by
 rw [addB_f he]
 exact⟨hle,hn,hys,by omega⟩
theorem cS_CmdText {V:Know} (hV:HtS V):∀ (c:Scs [.i .i64,.s,.s,.s,.s,.s,.b,.l,.i .i64,.l,.l,.b,.l,.i .i64,.s,.s,.b,.l,.i .i64]) (x:DCmd) (fp:List Nat) (_:rCmd.R V c x fp) (_:rCmd.tot x≤33554432),CallX Tryz.prog V 21 [qv3 c] (TxPost V (okT (CmdP x) (cmdT x))):=by
 intro c x fp hx ht
 have hOk:=cS_CmdOk hV c x fp hx ht
 revert c x fp
 rintro⟨c0,c1,c2,c3,c4,c5,c6,c7,c8,c9,c10,c11,c12,c13,c14,c15,c16,c17,c18,cu⟩ ⟨x0,x1,x2,x3,x4,x5,x6,x7,x8,x9,x10,x11,x12,x13,x14,x15,x16,x17,x18,xu⟩ fp hx htot hOk
 obtain⟨ec0,hx⟩:=hx
 replace ec0:c0=x0:=ec0
 subst ec0
 obtain⟨⟨ec1,zc1⟩,hx⟩:=hx
 replace ec1:c1=x1:=ec1
 subst ec1
 replace zc1:c1.size≤9223372036854775807:=zc1
 obtain⟨⟨ec2,zc2⟩,hx⟩:=hx
 replace ec2:c2=x2:=ec2
 subst ec2
 replace zc2:c2.size≤9223372036854775807:=zc2
 obtain⟨⟨ec3,zc3⟩,hx⟩:=hx
 replace ec3:c3=x3:=ec3
 subst ec3
 replace zc3:c3.size≤9223372036854775807:=zc3
 obtain⟨⟨ec4,zc4⟩,hx⟩:=hx
 replace ec4:c4=x4:=ec4
 subst ec4
 replace zc4:c4.size≤9223372036854775807:=zc4
 obtain⟨⟨ec5,zc5⟩,hx⟩:=hx
 replace ec5:c5=x5:=ec5
 subst ec5
 replace zc5:c5.size≤9223372036854775807:=zc5
 obtain⟨ec6,hx⟩:=hx
 replace ec6:c6=x6:=ec6
 subst ec6
 obtain⟨f7,fr7,ec7,sc7,hx⟩:=hx
 subst ec7
 replace sc7:LR rI _ c7 x7 f7:=sc7
 obtain⟨ec8,hx⟩:=hx
 replace ec8:c8=x8:=ec8
 subst ec8
 obtain⟨f9,fr9,ec9,sc9,hx⟩:=hx
 subst ec9
 replace sc9:LR rString _ c9 x9 f9:=sc9
 obtain⟨f10,fr10,ec10,sc10,hx⟩:=hx
 subst ec10
 replace sc10:LR rI _ c10 x10 f10:=sc10
 obtain⟨ec11,hx⟩:=hx
 replace ec11:c11=x11:=ec11
 subst ec11
 obtain⟨f12,fr12,ec12,sc12,hx⟩:=hx
 subst ec12
 replace sc12:LR rI _ c12 x12 f12:=sc12
 obtain⟨ec13,hx⟩:=hx
 replace ec13:c13=x13:=ec13
 subst ec13
 obtain⟨⟨ec14,zc14⟩,hx⟩:=hx
 replace ec14:c14=x14:=ec14
 subst ec14
 replace zc14:c14.size≤9223372036854775807:=zc14
 obtain⟨⟨ec15,zc15⟩,hx⟩:=hx
 replace ec15:c15=x15:=ec15
 subst ec15
 replace zc15:c15.size≤9223372036854775807:=zc15
 obtain⟨ec16,hx⟩:=hx
 replace ec16:c16=x16:=ec16
 subst ec16
 obtain⟨f17,fr17,ec17,sc17,hx⟩:=hx
 subst ec17
 replace sc17:LR rI _ c17 x17 f17:=sc17
 obtain⟨ec18,hx⟩:=hx
 replace ec18:c18=x18:=ec18
 subst ec18
 replace hx:_=[]:=hx
 subst hx
 replace htot:(c1.size+(c2.size+(c3.size+(c4.size+(c5.size+(x7.length+totE rI x7+(x9.length+totE rString x9+(x10.length+totE rI x10+(x12.length+totE rI x12+(c14.size+(c15.size+(x17.length+totE rI x17+0))))))))))))≤33554432:=htot
 refine CallX.of_fits Tryz.mix (fS_CmdText _) fun _=>?_
 simp only [tS_CmdText,T.wp]
 refine hOk.mono ?_
 rintro V1 r ⟨le1,e,rfl,he⟩
 have hi:=cmd_iff (c0,c1,c2,c3,c4,c5,c6,x7,c8,x9,x10,c11,x12,c13,c14,c15,c16,x17,c18,xu)
 refine⟨nofun,e,rfl,fun hf=>⟨le1,?_⟩,fun htr=>?_⟩
 ·rw [okT_neg fun k=>bf he hf (hi.2 k)]
  rfl
 obtain⟨s0,s1,s2,s3,s4,s5,s6,s7⟩:=bt he htr
 have hP:=hi.1 (bt he htr)
 have hop:1≤c0∧c0≤9:=s0.1
 rw [okT_pos hP]
 refine(cS_l22Has V1 c0).mono ?_
 rintro V2 _ ⟨rfl,rfl⟩
 refine⟨nofun,(decide (c0=4∨c0=5∨c0=7),decide (c0=7),decide (2≤c0∧c0≤7),decide (c0=5∨c0=7∨c0=8),()),rfl,(cS_OpName V2 c0 hop).mono ?_⟩
 rintro V3 _ ⟨rfl,rfl⟩
 have ho4:=opT_size hop
 refine⟨nofun,_,rfl,fun h9=>?_,fun h9=>?_⟩
 ·obtain rfl:c0=9:=beq_iff_eq.1 h9
  refine(cS_OpName V3 9 hop).mono ?_
  rintro V4 _ ⟨rfl,rfl⟩
  refine⟨fun _=>Know.le.refl _,_,rfl,?_,(cS_RateText (V:=V4) trivial (c14,c15,c16,x17,c18,()) c17 f17 (sc17.le le1)).mono ?_⟩
  ·show _+1≤_
   omega
  rintro V5 _ ⟨le5,rfl⟩
  have hR:RateOkP (c14,c15,c16,x17,c18,()):=s7.1 rfl
  have hRs:=rateT_size hR
  rw [okT_pos hR]
  refine⟨fun _=>le5,_,rfl,?_,le1.trans le5,?_⟩
  ·rw [ByteArray.size_append]
   show _+1+_≤_
   omega
  ·have e:cmdT (9,c1,c2,c3,c4,c5,c6,x7,c8,x9,x10,c11,x12,c13,c14,c15,c16,x17,c18,xu)=joinT ([(opT 9,())]++[(rateT (c14,c15,c16,x17,c18,()),())]) ⟨⟨[32]⟩⟩:=rfl
   rw [e,joinT_snoc (by simp),joinT_one]
   rfl
 have q9:¬ c0=9:=bf' beq_iff_eq h9
 have dM:decide (2≤c0∧c0≤7)=true↔MP c0:=dcb
 have dO:decide (c0=5∨c0=7∨c0=8)=true↔OP c0:=dcb
 have d7:decide (c0=7)=true↔c0=7:=dcb
 refine⟨rfl,⟨rfl,by decide,by decide⟩,?_⟩
 refine⟨Wd V3 (addB (decide (c0=4∨c0=5∨c0=7)) c2 [(opT c0,()),(c1,())]) 3,⟨fun hb=>⟨rfl,⟨rfl,by decide,by decide⟩,_,rfl,((2+1,[.string (opT c0),.string c1]++[.string c2]),()),rfl,Wd.add (k:=2) (Know.le.refl _) rfl rfl (by simp) hb⟩,fun hb=>⟨_,rfl,((2,[.string (opT c0),.string c1]),()),rfl,Wd.keep (k:=2) (Know.le.refl _) rfl rfl (by simp) hb⟩⟩,?_⟩
 rintro⟨⟨n1,y1⟩,u1⟩ W1 ⟨le_1,hn1,hy1,hl1⟩
 replace hn1:n1=_:=hn1
 replace hy1:y1=_:=hy1
 refine⟨Wd V3 (addB (decide (c0=7)) (c3) _) 4,⟨fun hb=>?_,fun hb=>⟨_,rfl,((n1,y1),()),rfl,Wd.keep (k:=3) le_1 hn1 hy1 hl1 hb⟩⟩,?_⟩
 ·exact⟨rfl,⟨rfl,(by omega:(n1+1)*16≤140737488355328),(by omega:n1+1≤9223372036854775807)⟩,_,rfl,((n1+1,y1++[_]),()),rfl,Wd.add (k:=3) le_1 hn1 hy1 hl1 hb⟩
 rintro⟨⟨n2,y2⟩,u2⟩ W2 ⟨le_2,hn2,hy2,hl2⟩
 replace hn2:n2=_:=hn2
 replace hy2:y2=_:=hy2
 refine⟨Wd V3 (addB (c0 == 1) (c4) _) 5,⟨fun hb=>?_,fun hb=>⟨_,rfl,((n2,y2),()),rfl,Wd.keep (k:=4) le_2 hn2 hy2 hl2 hb⟩⟩,?_⟩
 ·exact⟨rfl,⟨rfl,(by omega:(n2+1)*16≤140737488355328),(by omega:n2+1≤9223372036854775807)⟩,_,rfl,((n2+1,y2++[_]),()),rfl,Wd.add (k:=4) le_2 hn2 hy2 hl2 hb⟩
 rintro⟨⟨n3,y3⟩,u3⟩ W3 ⟨le_3,hn3,hy3,hl3⟩
 replace hn3:n3=_:=hn3
 replace hy3:y3=_:=hy3
 refine⟨Wd V3 (addB (decide (2≤c0∧c0≤7)) (moneyT c5 c6 x7) _) 6,⟨fun hb=>?_,fun hb=>⟨_,rfl,((n3,y3),()),rfl,Wd.keep (k:=5) le_3 hn3 hy3 hl3 hb⟩⟩,?_⟩
 ·refine(cS_MoneyText (V:=W3) trivial c5 c6 c7 x7 f7 (sc7.le (le1.trans le_3)) (by have:=known_size (s3.1 (dM.1 hb)).1.1; omega)).mono ?_
  rintro V5 _ ⟨le5,rfl⟩
  rw [okT_pos (s3.1 (dM.1 hb)).1]
  exact⟨nofun,_,rfl,rfl,⟨rfl,(by omega:(n3+1)*16≤140737488355328),(by omega:n3+1≤9223372036854775807)⟩,_,rfl,((n3+1,y3++[_]),()),rfl,Wd.add (k:=5) (le_3.trans le5) hn3 hy3 hl3 hb⟩
 rintro⟨⟨n4,y4⟩,u4⟩ W4 ⟨le_4,hn4,hy4,hl4⟩
 replace hn4:n4=_:=hn4
 replace hy4:y4=_:=hy4
 refine⟨Wd V3 (addB (c0 == 6) (dealT x9 x10) _) 7,⟨fun hb=>?_,fun hb=>⟨_,rfl,((n4,y4),()),rfl,Wd.keep (k:=6) le_4 hn4 hy4 hl4 hb⟩⟩,?_⟩
 ·refine(cS_l22Deal (V:=W4) c9 c10 x9 x10 f9 f10 (sc9.le (le1.trans le_4)) (sc10.le (le1.trans le_4)) (s5.1 (beq_iff_eq.1 hb))).mono ?_
  rintro V5 _ ⟨le5,rfl⟩
  exact⟨nofun,_,rfl,rfl,⟨rfl,(by omega:(n4+1)*16≤140737488355328),(by omega:n4+1≤9223372036854775807)⟩,_,rfl,((n4+1,y4++[_]),()),rfl,Wd.add (k:=6) (le_4.trans le5) hn4 hy4 hl4 hb⟩
 rintro⟨⟨n5,y5⟩,u5⟩ W5 ⟨le_5,hn5,hy5,hl5⟩
 replace hn5:n5=_:=hn5
 replace hy5:y5=_:=hy5
 refine⟨Wd V3 (addB (decide (c0=7)) (perT x12 c13) _) 8,⟨fun hb=>?_,fun hb=>⟨_,rfl,((n5,y5),()),rfl,Wd.keep (k:=7) le_5 hn5 hy5 hl5 hb⟩⟩,?_⟩
 ·refine(cS_Percent (V:=W5) c11 c12 x12 f12 c13 (sc12.le (le1.trans le_5)) (s6.1 (d7.1 hb))).mono ?_
  rintro V5 _ ⟨le5,_,rfl⟩
  exact⟨nofun,_,rfl,rfl,⟨rfl,(by omega:(n5+1)*16≤140737488355328),(by omega:n5+1≤9223372036854775807)⟩,_,rfl,((n5+1,y5++[_]),()),rfl,Wd.add (k:=7) (le_5.trans le5) hn5 hy5 hl5 hb⟩
 rintro⟨⟨n6,y6⟩,u6⟩ W6 ⟨le_6,hn6,hy6,hl6⟩
 replace hn6:n6=_:=hn6
 replace hy6:y6=_:=hy6
 refine⟨Wd V3 (addB (decide (c0=5∨c0=7∨c0=8)) (modeT c8) _) 9,⟨fun hb=>?_,fun hb=>⟨_,rfl,((n6,y6),()),rfl,Wd.keep (k:=8) le_6 hn6 hy6 hl6 hb⟩⟩,?_⟩
 ·refine(cS_RmName W6 c8 (s4.1 (dO.1 hb))).mono ?_
  rintro V5 _ ⟨rfl,rfl⟩
  exact⟨nofun,_,rfl,rfl,⟨rfl,(by omega:(n6+1)*16≤140737488355328),(by omega:n6+1≤9223372036854775807)⟩,_,rfl,((n6+1,y6++[_]),()),rfl,Wd.add (k:=8) le_6 hn6 hy6 hl6 hb⟩
 rintro⟨⟨n7,y7⟩,u7⟩ W7 ⟨le_7,hn7,hy7,hl7⟩
 replace hn7:n7=_:=hn7
 replace hy7:y7=_:=hy7
 have hw:addB (decide (c0=5∨c0=7∨c0=8)) (modeT c8) (addB (decide (c0=7)) (perT x12 c13) (addB (c0 == 6) (dealT x9 x10) (addB (decide (2≤c0∧c0≤7)) (moneyT c5 c6 x7) (addB (c0 == 1) c4 (addB (decide (c0=7)) c3 (addB (decide (c0=4∨c0=5∨c0=7)) c2 [(opT c0,()),(c1,())]))))))=wordsL (c0,c1,c2,c3,c4,c5,c6,x7,c8,x9,x10,c11,x12,c13,c14,c15,c16,x17,c18,xu):=by
  have:=op_cases (op:=c0) hop q9
  rcases this with rfl | rfl | rfl | rfl | rfl | rfl | rfl | rfl <;> rfl
 rw [hw] at hn7 hy7 hl7
 intro b cap spare hb0 hc _
 have hsz:=wordsL_size hP
 subst hn7 hy7
 have q:=newT (V:=W7) (b:=b) (cap:=cap) (o:=wordsL (c0,c1,c2,c3,c4,c5,c6,x7,c8,x9,x10,c11,x12,c13,c14,c15,c16,x17,c18,xu)) (spare:=spare) (t:=9) hb0 hc (Nat.le_trans hl7 (by decide)) (fun y hy=>Nat.le_trans (hsz y hy) (by decide))
 refine(cS_Join _ _ _ _ (⟨⟨[32]⟩⟩:ByteArray) q.1 (words_fit hP)).mono ?_
 rintro V6 _ ⟨rfl,rfl⟩
 exact⟨nofun,_,rfl,(le1.trans le_7).trans (kset_le hb0),rfl⟩
end Go.Proofs.YtpkmhkbkohppiaaGreatDoor
