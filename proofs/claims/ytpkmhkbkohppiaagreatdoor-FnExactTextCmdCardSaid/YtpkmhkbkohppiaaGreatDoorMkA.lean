/-
  The laws' marks: what writes them, what finds them again; rows and lists of rows.
-/
import Derived.Test.YtpkmhkbkohppiaaGreatDoorTdE
import Derived.Test.YtpkmhkbkohppiaaGreatDoorDivB
namespace Go.Proofs.YtpkmhkbkohppiaaGreatDoor
open Sx Go.RowKit
set_option maxRecDepth 100000
abbrev CmRdS (V:Know) (s:ByteArray):Know→Value→Prop:=fun V' r=>V.le V'∧∃ c x f ok,r=.tuple #[qv3 c,.bool ok]∧rCmd.R V' c x f∧True∧RdCmd s x ok
theorem cmS_no {V V':Know} {s:ByteArray} (le:V.le V') (h:RdCmd s (zeroCm 0) false):CmRdS V s V' (packed [qv3 (0,noT,noT,noT,noT,noT,false,⟨none,0,0⟩,0,⟨none,0,0⟩,⟨none,0,0⟩,false,⟨none,0,0⟩,0,noT,noT,false,⟨none,0,0⟩,0,()),.bool false]) :=
 ⟨le,_,_,[],false,rfl,cm_none,trivial,h⟩
theorem ref_le {s:ByteArray} {op0 k:Int} {left:List Tx} {V V':Know} {y:CmT} (h:RefC s op0 k left V y) (le:V.le V'):RefC s op0 k left V' y:=by
 obtain⟨op,c1,c2,c3,c4,c5,c6,s7,c8,s9,s10,c11,s12,c13,c14,c15,c16,s17,c18,un⟩:=y
 obtain⟨e,z,m7,m9,m10,m12,m17,f7,f9,f10,f12,f17,⟨L7,L9,L10,L12,L17⟩,w,hN,hP⟩:=h
 exact⟨e,z,m7,m9,m10,m12,m17,f7,f9,f10,f12,f17,⟨L7.le le,L9.le le,L10.le le,L12.le le,L17.le le⟩,w,hN,hP⟩
theorem ref_none {s:ByteArray} {op0 k:Int} {left:List Tx} {V:Know} {y:CmT} (h:RefC s op0 k left V y) (hk:k≤6):y.2.2.2.2.2.2.2.2.2.1=⟨none,0,0⟩∧y.2.2.2.2.2.2.2.2.2.2.1=⟨none,0,0⟩:=by
 obtain⟨op,c1,c2,c3,c4,c5,c6,s7,c8,s9,s10,c11,s12,c13,c14,c15,c16,s17,c18,un⟩:=y
 obtain⟨e,z,m7,m9,m10,m12,m17,f7,f9,f10,f12,f17,_,w,hN,hP⟩:=h
 exact hN hk
theorem ref_op {s:ByteArray} {op0 k:Int} {left:List Tx} {V:Know} {y:CmT} (h:RefC s op0 k left V y):y.1=op0:=by
 obtain⟨op,c1,c2,c3,c4,c5,c6,s7,c8,s9,s10,c11,s12,c13,c14,c15,c16,s17,c18,un⟩:=y
 exact h.1
theorem cS_TextCmd (V:Know) (s:ByteArray) (hs:s.size≤1048576):CallX Tryz.prog V 4 [.string s] (CmRdS V s):=by
 refine CallX.of_fits Tryz.mix (fS_TextCmd _) fun _=>?_
 simp only [tS_TextCmd,ap_d,T.wp]
 refine(cS_Cut V s hs).mono ?_
 rintro V1 _ ⟨le1,t,f,rfl,L,_⟩
 refine⟨nofun,t,rfl,(cS_l22Take V1 t _ f L).mono ?_⟩
 rintro V2 _ ⟨rfl,t1,f1,rfl,L1⟩
 refine⟨nofun,(hd (cutB 32 s),t1,()),rfl,(cS_NameOp V2 _).mono ?_⟩
 rintro V3 _ ⟨le3,op0,rfl,ho⟩
 refine⟨nofun,op0,rfl,(cS_l22Has V3 op0).mono ?_⟩
 rintro V4 _ ⟨rfl,rfl⟩
 refine⟨nofun,(decide (op0=4∨op0=5∨op0=7),decide (op0=7),decide (2≤op0∧op0≤7),decide (op0=5∨op0=7∨op0=8),()),rfl,?_⟩
 have l4:=le1.trans le3
 replace L1:=L1.le le3
 have hst:=ref_start (V:=V4) ho
 have hz0:sumT (cutB 32 s).tail+(cutB 32 s).tail.length≤s.size:=by
  have h1:=sumT_cut 32 s
  cases e:cutB 32 s with
  | nil=>exact absurd e (cutB_ne 32 s)
  | cons a r =>
   rw [e,sumT_cons,List.length_cons] at h1
   show sumT r+r.length≤s.size
   omega
 obtain⟨m0,m1,m2,m3,m4,m5,m6,m7,m8,m9⟩:=fields_mem op0
 refine⟨RefI V4 s op0 2,⟨fun h9=>?_,fun h9=>?_⟩,?_⟩
 ·have e9:op0=9:=beq_iff_eq.1 h9
  have h3:(⟨⟨[32]⟩⟩:ByteArray).size=1:=rfl
  have hj:=joinT_size (cutB 32 s).tail (⟨⟨[32]⟩⟩:ByteArray)
  rw [h3] at hj
  refine(cS_Join V4 t1 _ f1 (⟨⟨[32]⟩⟩:ByteArray) L1 (by rw [h3]; omega)).mono ?_
  rintro V5 _ ⟨rfl,rfl⟩
  refine⟨nofun,_,rfl,(cS_TextRate V5 _ (by omega)).mono ?_⟩
  rintro V6 _ ⟨le6,x,t6,f6,ok,rfl,L6,_,hr⟩
  exact⟨nofun,((x.1,x.2.1,x.2.2.1,t6,x.2.2.2.2.1,()),ok,()),rfl,_,rfl,(t1,op0,noT,noT,noT,noT,noT,false,⟨none,0,0⟩,0,⟨none,0,0⟩,⟨none,0,0⟩,false,⟨none,0,0⟩,0,x.1,x.2.1,x.2.2.1,t6,x.2.2.2.2.1,()),rfl,le6,_,f1,L1.le le6,hz0,
   ref_pass (f:=0) (by decide) (by decide) (by decide) (fun k=>by have:=m1.1 k; omega) (ref_8 hs hz0 le6 L6 hr e9 hst)⟩
 ·have n9:op0≠9:=bf' beq_iff_eq h9
  refine(cS_l22Take V4 t1 _ f1 L1).mono ?_
  rintro V5 _ ⟨rfl,t2,f2,rfl,L2⟩
  exact⟨nofun,(hd (cutB 32 s).tail,t2,()),rfl,_,rfl,(t2,op0,hd (cutB 32 s).tail,noT,noT,noT,noT,false,⟨none,0,0⟩,0,⟨none,0,0⟩,⟨none,0,0⟩,false,⟨none,0,0⟩,0,noT,noT,false,⟨none,0,0⟩,0,()),rfl,Know.le.refl _,_,f2,L2,tail_size hz0,
   ref_0 hs hz0 n9 (by
    by_cases k:1≤op0∧op0≤9
    ·exact .inl (m1.2 (by omega))
    ·exact .inr k) (ref_pass (f:=8) (by decide) (by decide) (by decide) (fun k=>n9 (m9.1 k)) hst)⟩
 rintro⟨tw,opx,c1,c2,c3,c4,c5,c6,s7,c8,s9,s10,c11,s12,c13,c14,c15,c16,s17,c18,un⟩ W ⟨leA,left,fw,LW,hz,hC⟩
 obtain rfl:op0=opx:=(ref_op hC).symm
 refine⟨RefI V4 s op0 3,⟨fun hb=>?_,fun hb=>?_⟩,?_⟩
 ·have n9:op0≠9:=by have:=of_decide_eq_true (p:=op0=4∨op0=5∨op0=7) hb; omega
  refine(cS_l22Take W tw left fw LW).mono ?_
  rintro W1 _ ⟨rfl,t',f',rfl,L'⟩
  exact⟨nofun,(hd left,t',()),rfl,_,rfl,(t',op0,c1,hd left,c3,c4,c5,c6,s7,c8,s9,s10,c11,s12,c13,c14,c15,c16,s17,c18,un),rfl,leA,_,f',L',tail_size hz,ref_1 hs hz n9 (m2.2 (of_decide_eq_true (p:=op0=4∨op0=5∨op0=7) hb)) hC⟩
 ·exact⟨_,rfl,(tw,op0,c1,c2,c3,c4,c5,c6,s7,c8,s9,s10,c11,s12,c13,c14,c15,c16,s17,c18,un),rfl,leA,left,fw,LW,hz,ref_pass (f:=1) (by decide) (by decide) (by decide) (fun k=>of_decide_eq_false (p:=op0=4∨op0=5∨op0=7) hb (m2.1 k)) hC⟩
 rintro⟨tw,opx,c1,c2,c3,c4,c5,c6,s7,c8,s9,s10,c11,s12,c13,c14,c15,c16,s17,c18,un⟩ W ⟨leA,left,fw,LW,hz,hC⟩
 obtain rfl:op0=opx:=(ref_op hC).symm
 refine⟨RefI V4 s op0 4,⟨fun hb=>?_,fun hb=>?_⟩,?_⟩
 ·have n9:op0≠9:=by have:=of_decide_eq_true (p:=op0=7) hb; omega
  refine(cS_l22Take W tw left fw LW).mono ?_
  rintro W1 _ ⟨rfl,t',f',rfl,L'⟩
  exact⟨nofun,(hd left,t',()),rfl,_,rfl,(t',op0,c1,c2,hd left,c4,c5,c6,s7,c8,s9,s10,c11,s12,c13,c14,c15,c16,s17,c18,un),rfl,leA,_,f',L',tail_size hz,ref_2 hs hz n9 (m3.2 (of_decide_eq_true (p:=op0=7) hb)) hC⟩
 ·exact⟨_,rfl,(tw,op0,c1,c2,c3,c4,c5,c6,s7,c8,s9,s10,c11,s12,c13,c14,c15,c16,s17,c18,un),rfl,leA,left,fw,LW,hz,ref_pass (f:=2) (by decide) (by decide) (by decide) (fun k=>of_decide_eq_false (p:=op0=7) hb (m3.1 k)) hC⟩
 rintro⟨tw,opx,c1,c2,c3,c4,c5,c6,s7,c8,s9,s10,c11,s12,c13,c14,c15,c16,s17,c18,un⟩ W ⟨leA,left,fw,LW,hz,hC⟩
 obtain rfl:op0=opx:=(ref_op hC).symm
 refine⟨RefI V4 s op0 5,⟨fun hb=>?_,fun hb=>?_⟩,?_⟩
 ·have n9:op0≠9:=by have:op0=1:=beq_iff_eq.1 hb; omega
  refine(cS_l22Take W tw left fw LW).mono ?_
  rintro W1 _ ⟨rfl,t',f',rfl,L'⟩
  exact⟨nofun,(hd left,t',()),rfl,_,rfl,(t',op0,c1,c2,c3,hd left,c5,c6,s7,c8,s9,s10,c11,s12,c13,c14,c15,c16,s17,c18,un),rfl,leA,_,f',L',tail_size hz,ref_3 hs hz n9 (m4.2 (beq_iff_eq.1 hb)) hC⟩
 ·exact⟨_,rfl,(tw,op0,c1,c2,c3,c4,c5,c6,s7,c8,s9,s10,c11,s12,c13,c14,c15,c16,s17,c18,un),rfl,leA,left,fw,LW,hz,ref_pass (f:=3) (by decide) (by decide) (by decide) (fun k=>bf' beq_iff_eq hb (m4.1 k)) hC⟩
 rintro⟨tw,opx,c1,c2,c3,c4,c5,c6,s7,c8,s9,s10,c11,s12,c13,c14,c15,c16,s17,c18,un⟩ W ⟨leA,left,fw,LW,hz,hC⟩
 obtain rfl:op0=opx:=(ref_op hC).symm
 refine⟨RefI V4 s op0 6,⟨fun hb=>?_,fun hb=>?_⟩,?_⟩
 ·have n9:op0≠9:=by have:=of_decide_eq_true (p:=2≤op0∧op0≤7) hb; omega
  refine(cS_l22Take W tw left fw LW).mono ?_
  rintro W1 _ ⟨rfl,t',f',rfl,L'⟩
  refine⟨nofun,(hd left,t',()),rfl,(cS_l22Take W1 t' _ f' L').mono ?_⟩
  rintro W2 _ ⟨rfl,t'',f'',rfl,L''⟩
  have h1:=hd_size hz
  have h2:=hd_size (tail_size hz)
  refine⟨nofun,(hd left.tail,t'',()),rfl,?_,?_,(cS_TextMoney W2 _ (hd2_size (by omega) (by decide))).mono ?_⟩
  ·show(hd left).size+1≤_
   omega
  ·rw [ByteArray.size_append]
   show(hd left).size+1+(hd left.tail).size≤_
   omega
  rintro W3 _ ⟨leM,c,n,t3,o,g,ok,rfl,L3,_,hr⟩
  exact⟨nofun,((c,n,t3,()),ok,()),rfl,_,rfl,(t'',op0,c1,c2,c3,c4,c,n,t3,c8,s9,s10,c11,s12,c13,c14,c15,c16,s17,c18,un),rfl,leA.trans leM,_,f'',L''.le leM,tail_size (tail_size hz),ref_4 hs hz leM L3 hr n9 (m5.2 (of_decide_eq_true (p:=2≤op0∧op0≤7) hb)) hC⟩
 ·exact⟨_,rfl,(tw,op0,c1,c2,c3,c4,c5,c6,s7,c8,s9,s10,c11,s12,c13,c14,c15,c16,s17,c18,un),rfl,leA,left,fw,LW,hz,ref_pass (f:=4) (by decide) (by decide) (by decide) (fun k=>of_decide_eq_false (p:=2≤op0∧op0≤7) hb (m5.1 k)) hC⟩
 rintro⟨tw,opx,c1,c2,c3,c4,c5,c6,s7,c8,s9,s10,c11,s12,c13,c14,c15,c16,s17,c18,un⟩ W ⟨leA,left,fw,LW,hz,hC⟩
 obtain rfl:op0=opx:=(ref_op hC).symm
 refine⟨RefI V4 s op0 7,⟨fun hb=>?_,fun hb=>?_⟩,?_⟩
 ·have n9:op0≠9:=by have:op0=6:=beq_iff_eq.1 hb; omega
  refine(cS_l22Take W tw left fw LW).mono ?_
  rintro W1 _ ⟨rfl,t',f',rfl,L'⟩
  have h1:=hd_size hz
  refine⟨nofun,(hd left,t',()),rfl,(cS_CutAt W1 (hd left) 44 (by omega)).mono ?_⟩
  rintro W5 _ ⟨le5,td,fd,rfl,LD,_⟩
  obtain⟨en9,en10⟩:=ref_none hC (by decide)
  replace en9:s9=⟨none,0,0⟩:=en9
  replace en10:s10=⟨none,0,0⟩:=en10
  subst en9 en10
  have hdn:=LD.1
  have hlen:=cutB_len 44 (hd left)
  have hsum:=sumT_cut 44 (hd left)
  refine⟨nofun,td,rfl,fun y V'=>∃ (nm:List Tx) (w:List Lim) (qa qb:SlV) (f g:List Nat),(y.1:Int)=(nm.length:Int)∧y.2=(op0,c1,c2,c3,c4,c5,c6,s7,c8,qa,qb,c11,s12,c13,c14,c15,c16,s17,c18,un)∧W5.le V'∧DealIs (cutB 44 (hd left)) nm w∧totE rString nm≤sumT ((cutB 44 (hd left)).take nm.length)∧GR rString 9 V' qa nm f∧GR rI 3 V' qb w g∧Own W5 V' (f++g),
   fun y _=>((td.n:Int)-(y.1:Int)).toNat,⟨((0:Int),op0,c1,c2,c3,c4,c5,c6,s7,c8,⟨none,0,0⟩,⟨none,0,0⟩,c11,s12,c13,c14,c15,c16,s17,c18,un),rfl,[],[],_,_,[],[],rfl,rfl,Know.le.refl _,⟨rfl,Nat.zero_le _,fun j hj=>absurd hj (Nat.not_lt_zero j)⟩,Nat.zero_le _,GR.nil,GR.nil,Own.nil⟩,?_⟩
  rintro⟨(i:Int),y⟩ V' ⟨nm,w,qa,qb,f,g,e1,e2,hle,hD,hT,Gn,Gw,hO⟩
  replace e1:i=(nm.length:Int):=e1
  replace e2:y=(op0,c1,c2,c3,c4,c5,c6,s7,c8,qa,qb,c11,s12,c13,c14,c15,c16,s17,c18,un):=e2
  subst e1 e2
  have hD1:=hD.1
  have hD2:=hD.2.1
  have hTl:=sumT_take (cutB 44 (hd left)) nm.length
  refine⟨fun hlt=>?_,fun hge=>?_⟩
  ·have hi:nm.length<(cutB 44 (hd left)).length:=by
    have:(nm.length:Int)<(td.n:Int):=of_decide_eq_true hlt
    omega
   obtain⟨⟨b1,o1,a1,l1⟩,_⟩:=(LD.le hle).txt hi
   have hps:((cutB 44 (hd left))[nm.length]).1.size≤(hd left).size:=cutB_size (List.getElem_mem hi)
   refine⟨_,a1,(by omega:(0:Int)≤(nm.length:Int)),(by omega:(nm.length:Int)<(td.n:Int)),_,l1,(cS_CutAtG V' _ 58 (by omega)).mono ?_⟩
   generalize ep:((cutB 44 (hd left))[nm.length]).1=p at hps
   rintro V6 _ ⟨le6,tp,fp,rfl,Gp,Op⟩
   have hpl:=cutB_len 58 p
   have hp0:=cutB_pos 58 p
   refine⟨nofun,tp,rfl,rfl,rfl,?_⟩
   refine ap_row (sh:=[.s]) (c:=((noT,()):Tx)) (x:=(noT,())) (fx:=[]) Gp ⟨⟨rfl,by decide⟩,rfl⟩ (by rw [List.append_nil]; exact Op) le6 str_cells (by omega) (by omega) fun s7' V7 f7 G7 _ le7=>?_
   have L7:=G7.lr (by simp; omega)
   have hn7:=L7.1
   have hl7:(cutB 58 p++[((noT,()):Tx)]).length=(cutB 58 p).length+1:=by simp
   obtain⟨⟨b2,o2,a2,l2⟩,_⟩:=L7.txt (i:=1) (by omega)
   obtain⟨⟨b3,o3,a3,l3⟩,_⟩:=L7.txt (i:=0) (by omega)
   have eA:((cutB 58 p++[((noT,()):Tx)])[1]'(by omega)).1=snd58 p:=by
    unfold snd58
    rw [getD_lt (by omega)]
   have eB:((cutB 58 p++[((noT,()):Tx)])[0]'(by omega)).1=((cutB 58 p).getD 0 (noT,())).1:=by
    rw [getD_lt hp0,List.getElem_append_left hp0]
   have zA:(snd58 p).size≤p.size:=by
    rw [← eA]
    rcases List.mem_append.1 (List.getElem_mem (l:=cutB 58 p++[((noT,()):Tx)]) (n:=1) (by omega)) with k | k
    ·exact cutB_size k
    ·obtain k:_=((noT,()):Tx):=by simpa using k
     rw [k]; exact Nat.zero_le _
   have zB:=cut0_size 58 p
   rw [eA] at l2
   rw [eB] at l3
   refine⟨_,a2,by decide,by omega,snd58 p,l2,(cS_TextInt V7 _ (by omega)).mono ?_⟩
   rintro V8 _ ⟨le8,z,ok,rfl,_,hzi⟩
   have le78:=le7.trans le8
   have O8:Own W5 V8 (f++g):=hO.post le78
   have W8:=hle.trans le78
   refine⟨nofun,(z,ok,()),rfl,_,a3,by decide,by omega,((cutB 58 p).getD 0 (noT,())).1,loadV_mono le8 l3,rfl,rfl,?_⟩
   refine ap_among (sh:=[.s]) (c:=((((cutB 58 p).getD 0 (noT,())).1,()):Tx)) (x:=(((cutB 58 p).getD 0 (noT,())).1,())) (g:=g) (fx:=[]) (Gn.le le78) ⟨⟨rfl,Nat.le_trans zB (by omega)⟩,rfl⟩ (own_nil (own_swap O8)) W8 str_cells (by omega) (by omega) fun s9' V9 f9 G9 O9 le9 keep9=>?_
   refine⟨rfl,rfl,?_⟩
   refine ap_among (sh:=[.i .i64]) (c:=((z,()):Lim)) (x:=(z,())) (g:=f9) (fx:=[]) ((Gw.le le78).loc keep9) ⟨rfl,rfl⟩ (own_nil (own_swap O9)) le9 int_cells (by omega) (by omega) fun s10' V10 g10 G10 O10 le10 keep10=>?_
   refine⟨_,rfl,(((nm.length+1:Nat):Int),op0,c1,c2,c3,c4,c5,c6,s7,c8,s9',s10',c11,s12,c13,c14,c15,c16,s17,c18,un),by rw [nxt hi (by omega)]; rfl,⟨nm++[(((cutB 58 p).getD 0 (noT,())).1,())],w++[(z,())],s9',s10',f9,g10,by simp,rfl,le10,dealIs_snoc hD hi ?_,?_,G9.loc keep10,G10,O10⟩,?_⟩
   ·rw [getD_lt hi,ep]
    exact⟨rfl,fun m q0 q9 em=>hzi m q0 q9 em⟩
   ·have e3:(nm++[((((cutB 58 p).getD 0 (noT,())).1,()):Tx)]).length=nm.length+1:=by simp
    rw [totE_snocT,e3,sumT_takeS hi,ep]
    show totE rString nm+(((cutB 58 p).getD 0 (noT,())).1.size+0)≤_
    omega
   ·show((td.n:Int)-((nm.length+1:Nat):Int)).toNat<((td.n:Int)-(nm.length:Int)).toNat
    omega
  ·have hi:nm.length=(cutB 44 (hd left)).length:=by
    have:¬ (nm.length:Int)<(td.n:Int):=of_decide_eq_false hge
    omega
   have l5:=le5.trans hle
   exact⟨_,rfl,(t',op0,c1,c2,c3,c4,c5,c6,s7,c8,qa,qb,c11,s12,c13,c14,c15,c16,s17,c18,un),rfl,leA.trans l5,_,f',L'.le l5,tail_size hz,ref_5 hs l5 (Gn.lr (by omega)) (Gw.lr (by omega)) ⟨by omega,by omega,by omega⟩ (fun nm2 w2 a b=>dealIs_one hD hi a b) n9 (m6.2 (beq_iff_eq.1 hb)) hC⟩
 ·exact⟨_,rfl,(tw,op0,c1,c2,c3,c4,c5,c6,s7,c8,s9,s10,c11,s12,c13,c14,c15,c16,s17,c18,un),rfl,leA,left,fw,LW,hz,ref_pass (f:=5) (by decide) (by decide) (by decide) (fun k=>bf' beq_iff_eq hb (m6.1 k)) hC⟩
 rintro⟨tw,opx,c1,c2,c3,c4,c5,c6,s7,c8,s9,s10,c11,s12,c13,c14,c15,c16,s17,c18,un⟩ W ⟨leA,left,fw,LW,hz,hC⟩
 obtain rfl:op0=opx:=(ref_op hC).symm
 refine⟨RefI V4 s op0 8,⟨fun hb=>?_,fun hb=>?_⟩,?_⟩
 ·have n9:op0≠9:=by have:=of_decide_eq_true (p:=op0=7) hb; omega
  refine(cS_l22Take W tw left fw LW).mono ?_
  rintro W1 _ ⟨rfl,t',f',rfl,L'⟩
  have h1:=hd_size hz
  refine⟨nofun,(hd left,t',()),rfl,(cS_TextPercent W1 (hd left) (by omega)).mono ?_⟩
  rintro W3 _ ⟨leM,⟨n,o,q,ux⟩,t3,g,ok,rfl,L3,_,hr⟩
  exact⟨nofun,((n,t3,q,()),ok,()),rfl,_,rfl,(t',op0,c1,c2,c3,c4,c5,c6,s7,c8,s9,s10,n,t3,q,c14,c15,c16,s17,c18,un),rfl,leA.trans leM,_,f',L'.le leM,tail_size hz,ref_6 hs hz leM L3 hr n9 (m7.2 (of_decide_eq_true (p:=op0=7) hb)) hC⟩
 ·exact⟨_,rfl,(tw,op0,c1,c2,c3,c4,c5,c6,s7,c8,s9,s10,c11,s12,c13,c14,c15,c16,s17,c18,un),rfl,leA,left,fw,LW,hz,ref_pass (f:=6) (by decide) (by decide) (by decide) (fun k=>of_decide_eq_false (p:=op0=7) hb (m7.1 k)) hC⟩
 rintro⟨tw,opx,c1,c2,c3,c4,c5,c6,s7,c8,s9,s10,c11,s12,c13,c14,c15,c16,s17,c18,un⟩ W ⟨leA,left,fw,LW,hz,hC⟩
 obtain rfl:op0=opx:=(ref_op hC).symm
 refine⟨fun y V'=>V4.le V'∧∃ left,RefC s op0 9 left V' y,⟨fun hb=>?_,fun hb=>?_⟩,?_⟩
 ·have n9:op0≠9:=by have:=of_decide_eq_true (p:=op0=5∨op0=7∨op0=8) hb; omega
  refine(cS_l22Take W tw left fw LW).mono ?_
  rintro W1 _ ⟨rfl,t',f',rfl,L'⟩
  refine⟨nofun,(hd left,t',()),rfl,(cS_NameRm W1 _).mono ?_⟩
  rintro W3 _ ⟨leM,m,ok,rfl,hr⟩
  exact⟨nofun,(m,ok,()),rfl,_,rfl,(op0,c1,c2,c3,c4,c5,c6,s7,m,s9,s10,c11,s12,c13,c14,c15,c16,s17,c18,un),rfl,leA.trans leM,_,ref_le (ref_7 hs hr n9 (m8.2 (of_decide_eq_true (p:=op0=5∨op0=7∨op0=8) hb)) hC) leM⟩
 ·exact⟨_,rfl,(op0,c1,c2,c3,c4,c5,c6,s7,c8,s9,s10,c11,s12,c13,c14,c15,c16,s17,c18,un),rfl,leA,left,ref_pass (f:=7) (by decide) (by decide) (by decide) (fun k=>of_decide_eq_false (p:=op0=5∨op0=7∨op0=8) hb (m8.1 k)) hC⟩
 rintro y W ⟨leA,left,hC⟩
 obtain⟨x,fx,hR,hT,hP⟩:=ref_open hC
 have la:=l4.trans leA
 refine(cS_CmdOk (V:=W) trivial _ x fx hR hT).mono ?_
 rintro W2 _ ⟨le2,e,rfl,he⟩
 refine⟨nofun,e,rfl,fun hf=>cmS_no (la.trans le2) (part_no hP fun k=>bf he hf ((cmd_iff x).2 k.1)),fun ht=>(cS_CmdText (V:=W2) trivial _ x fx (rCmd.le hR le2) hT).mono ?_⟩
 have hok:=(cmd_iff x).1 (bt he ht)
 rintro W3 _ ⟨le3,rfl⟩
 rw [okT_pos hok]
 refine⟨nofun,_,rfl,fun hne=>cmS_no ((la.trans le2).trans le3) (part_no hP fun k=>bf text_eq hne k.2),fun heq=>?_⟩
 exact⟨(la.trans le2).trans le3,y,x,fx,true,rfl,rCmd.le (rCmd.le hR le2) le3,trivial,part_ok hP hok (bt text_eq heq)⟩
end Go.Proofs.YtpkmhkbkohppiaaGreatDoor
namespace Go.Proofs.YtpkmhkbkohppiaaGreatDoor
open Sx Go.RowKit
set_option maxRecDepth 100000
def HtE (V:Know):Prop:=HtI V∧hasSR V
theorem HtE.le {V V':Know} (h:HtE V) (hle:V.le V'):HtE V':=⟨HtI.le h.1 hle,hasSR.le h.2 hle⟩
theorem bS_TextCmd {V:Know} (_:True) (s:ByteArray) (hs:s.size≤1048576):CallX Tryz.prog V 4 [.string s] (CmRdS V s):=cS_TextCmd V s hs
theorem bI_TextCmd {V:Know} (h:HtE V) (s:ByteArray) (hs:s.size≤1048576):CallX Tryz.prog V 5 [.string s] (CmRd V s):=cI_TextCmd h.1 h.2 s hs
theorem names_tot:∀ (l:List Tx),(∀ i (h:i<l.length),l[i].1.size≤12)→totE rString l≤l.length*12
 | [],_=>Nat.zero_le _
 | x :: l,h=>by
  have h0:x.1.size≤12:=h 0 (by simp)
  have h1:=names_tot l fun i hi=>h (i+1) (by simp; omega)
  have e:rString.tot x=x.1.size+0:=rfl
  rw [totE,List.length_cons,e]
  omega
theorem cmd_tot {x:DCmd} (h:CmdP x):rCmd.tot x≤1048576:=by
 have hs:=(cmd_iff x).2 h
 obtain⟨op,a,b,c,u,mc,mn,mm,mo,nm,w,rn,rm,rs,pf,pt,pn,pm,ps,y⟩:=x
 obtain⟨s0,s1,s2,s3,s4,s5,s6,s7⟩:=hs
 have noz:noT.size=0:=rfl
 have za:a.size≤12:=by
  by_cases k:op=9
  ·rw [s0.2.2 k,noz]; omega
  ·exact(Classical.byContradiction fun q=>s0.2.1 ⟨fun e=>absurd e k,fun e=>absurd e q⟩:WordP a).2.1
 have zb:b.size≤12:=by
  by_cases k:BP op
  ·exact(s1.1.1 k).2.1
  ·rw [s1.2.1 k,noz]; omega
 have zc:c.size≤12:=by
  by_cases k:op=7
  ·exact(s1.2.2.1.1 k).2.1
  ·rw [s1.2.2.2 k,noz]; omega
 have zu:u.size≤12:=by
  by_cases k:op=1
  ·have:=(s2.1.1 k).1; omega
  ·rw [s2.2 k,noz]; omega
 have zm:mc.size≤12∧mm.length≤4:=by
  by_cases k:MP op
  ·have h1:=(s3.1 k).1
   have:=known_size h1.1
   exact⟨by omega,h1.2.2⟩
  ·obtain⟨e1,_,e2⟩:=s3.2 k
   rw [e1,e2,noz]
   exact⟨by omega,by simp⟩
 have zn:nm.length≤30∧totE rString nm≤360∧w.length≤30:=by
  by_cases k:op=6
  ·have h1:=s5.1 k
   have h2:=names_tot nm fun i hi=>(h1.2.2.2.1 i hi).2.1
   have h3:=h1.1
   have h4:=h1.2.2.1
   exact⟨by omega,by omega,h4⟩
  ·obtain⟨e1,e2⟩:=s5.2 k
   rw [e1,e2]
   exact⟨by simp,by simp [totE],by simp⟩
 have zr:rm.length≤50:=by
  by_cases k:op=7
  ·exact(s6.1 k).1.1.1.1.2
  ·have:=s6.2 k
   rw [this.1.2]; simp
 have zp:pf.size≤12∧pt.size≤12∧pm.length≤50:=by
  by_cases k:op=9
  ·have h1:=s7.1 k
   have k1:=known_size h1.1
   have k2:=known_size h1.2.1
   have k3:=h1.2.2.2.2.2
   simp only at k1 k2 k3
   exact⟨by omega,by omega,by omega⟩
  ·obtain⟨e1,e2,e3⟩:=s7.2 k
   rw [e1,e2,e3.1.2,noz]
   exact⟨by omega,by omega,by simp⟩
 show(a.size+(b.size+(c.size+(u.size+(mc.size+(mm.length+totE rI mm+(nm.length+totE rString nm+(w.length+totE rI w+(rm.length+totE rI rm+(pf.size+(pt.size+(pm.length+totE rI pm+0))))))))))))≤1048576
 rw [totE_rI,totE_rI,totE_rI,totE_rI]
 omega
theorem rdCmd_tot {s:ByteArray} {x:DCmd} {a:Bool} (h:RdCmd s x a):rCmd.tot x≤1048576:=by
 cases a with
 | true=>exact cmd_tot (h.2.1 rfl).1
 | false=>rw [h.2.2 rfl]; decide
end Go.Proofs.YtpkmhkbkohppiaaGreatDoor
namespace Go.Proofs.YtpkmhkbkohppiaaGreatDoor
open Sx
set_option maxRecDepth 100000
def dch (k:Int):ByteArray:=bytesD [.int .u8 (IntKind.u8.wrap (IntKind.i64.wrap (48+k.tmod 10)))]
theorem dch_size (k:Int):(dch k).size=1:=rfl
def digs:Nat→Int→ByteArray→ByteArray
 | 0,_,out=>out
 | n+1,k,out=>if k > 0 then digs n (k.tdiv 10) (dch k++out) else out
theorem tdiv_lt {k:Int} (h:0<k):0≤k.tdiv 10∧(k.tdiv 10).toNat<k.toNat∧k.tdiv 10+1≤k:=by
 rw [Int.tdiv_eq_ediv_of_nonneg (by omega)]
 omega
theorem digs_enough:∀ (n m:Nat) (k:Int) (out:ByteArray),k.toNat≤n→k.toNat≤m→digs n k out=digs m k out
 | 0,0,_,_,_,_=>rfl
 | 0,m+1,k,out,h,_=>by
  unfold digs
  rw [if_neg (by omega)]
 | n+1,0,k,out,_,h=>by
  unfold digs
  rw [if_neg (by omega)]
 | n+1,m+1,k,out,h,h'=>by
  unfold digs
  by_cases hk:k > 0
  ·rw [if_pos hk,if_pos hk]
   have:=tdiv_lt hk
   exact digs_enough n m _ _ (by omega) (by omega)
  ·rw [if_neg hk,if_neg hk]
def mtext (k:Int):ByteArray:=if k≤0 then ⟨#[109,48]⟩ else ⟨#[109]⟩++digs k.toNat k ⟨#[]⟩
theorem cL_markText (V:Know) (k:Int) (hk:k≤4611686018427387904):CallX Tryz.prog V 76 [.int .i64 k] (fun V' r=>V.le V'∧r=.string (mtext k)∧(mtext k).size≤9223372036854775807):=by
 refine CallX.of_fits Tryz.mix (fL_markText _) fun _=>?_
 simp only [tL_markText,T.wp]
 refine⟨fun h0=>?_,fun h0=>?_⟩
 ·have h0':k≤0:=of_decide_eq_true h0
  rw [mtext,if_pos h0']
  exact⟨Know.le.refl _,rfl,by decide⟩
 have h0':¬ k≤0:=of_decide_eq_false h0
 refine⟨fun y V'=>V.le V'∧0≤(y.1:Int)∧(y.2.1.size:Int)+(y.1:Int)≤k∧digs (y.1:Int).toNat y.1 y.2.1=digs k.toNat k ⟨#[]⟩,fun y=>(y.1:Int).toNat,⟨(k,⟨#[]⟩,()),rfl,Know.le.refl _,(by omega:0≤k),(by show((0:Nat):Int)+k≤k; omega),rfl⟩,?_⟩
 rintro⟨(j:Int),out,u⟩ V' ⟨hle,hj,hsz,hd⟩
 replace hj:0≤j:=hj
 replace hsz:(ByteArray.size out:Int)+j≤k:=hsz
 replace hd:digs j.toNat j out=digs k.toNat k ⟨#[]⟩:=hd
 refine⟨fun hp=>?_,fun hz=>?_⟩
 ·have hp':j > 0:=of_decide_eq_true hp
  have ht:=tdiv_lt hp'
  refine⟨by decide,fun b cap spare hb hc _=>?_⟩
  have hV:=kset_le (x:=([Value.int .u8 (IntKind.u8.wrap (IntKind.i64.wrap (48+j.tmod 10)))]++spare,((5:TypeId),((0,0):Nat × Nat)))) hb
  refine⟨[.int .u8 (IntKind.u8.wrap (IntKind.i64.wrap (48+j.tmod 10)))],.inr ⟨_,rfl,?_⟩,rfl,by simp [bytesOf,bytesGo],?_,by decide,_,rfl,(j.tdiv 10,dch j++out,()),?_,⟨hle.trans hV,ht.1,?_,?_⟩,?_⟩
  ·simp only [loadV,kset_same]
   exact cutv_head (x:=[Value.int .u8 (IntKind.u8.wrap (IntKind.i64.wrap (48+j.tmod 10)))])
  ·have:=dch_size j
   show(dch j).size+ByteArray.size out≤_
   omega
  ·have hw:IntKind.i64.wrap (j.tdiv 10)=j.tdiv 10:=wrap_i64 (by omega)
   rw [hw]; rfl
  ·show((dch j++out).size:Int)+j.tdiv 10≤k
   rw [ByteArray.size_append,dch_size]
   omega
  ·show digs (j.tdiv 10).toNat (j.tdiv 10) (dch j++out)=_
   rw [← hd]
   obtain⟨n,hn⟩:∃ n,j.toNat=n+1:=⟨j.toNat-1,by omega⟩
   rw [hn,digs,if_pos hp']
   exact digs_enough _ _ _ _ (Nat.le_refl _) (by omega)
  ·exact ht.2.1
 ·have hz':¬ j > 0:=of_decide_eq_false hz
  have hj0:j=0:=by omega
  subst hj0
  have hd':digs k.toNat k ⟨#[]⟩=out:=by rw [← hd]; rfl
  have hsm:(⟨#[109]⟩:ByteArray).size=1:=rfl
  have e:mtext k=⟨#[109]⟩++out:=by rw [mtext,if_neg h0',hd']
  refine⟨(by rw [hsm]; show 1+ByteArray.size out≤_; omega),hle,by rw [e]; rfl,?_⟩
  rw [e,ByteArray.size_append,hsm]
  omega
structure Mk (α:Type) where
 cnt:α→Nat
 ok:Int→α→Prop
def cntE {α:Type} (m:Mk α):List α→Nat
 | []=>0
 | x :: l=>m.cnt x+cntE m l
def okE {α:Type} (m:Mk α):Int→List α→Prop
 | _,[]=>True
 | k,x :: l=>m.ok k x∧okE m (k+m.cnt x) l
theorem cntE_snoc {α:Type} (m:Mk α) (x:α):∀ l:List α,cntE m (l++[x])=cntE m l+m.cnt x
 | []=>by simp [cntE]
 | y :: l=>by simp only [List.cons_append,cntE,cntE_snoc m x l]; omega
theorem okE_snoc {α:Type} (m:Mk α) (x:α):∀ (k:Int) (l:List α),okE m k l→m.ok (k+cntE m l) x→okE m k (l++[x])
 | k,[],_,h=>⟨by simpa [cntE] using h,trivial⟩
 | k,y :: l,h,hx=>⟨h.1,okE_snoc m x _ l h.2 (by
   have e:k+(cntE m (y :: l):Nat)=k+m.cnt y+cntE m l:=by simp only [cntE]; omega
   rw [← e]; exact hx)⟩
def mkNil:Mk Unit:=⟨fun _=>0,fun _ _=>True⟩
def mkStr {α:Type} (m:Mk α):Mk (ByteArray × α):=⟨fun x=>1+m.cnt x.2,fun k x=>x.1=mtext k∧m.ok (k+1) x.2⟩
def mkInt {α:Type} (m:Mk α):Mk (Int × α):=⟨fun x=>1+m.cnt x.2,fun k x=>x.1=k∧m.ok (k+1) x.2⟩
abbrev mI:Mk Lim:=mkInt mkNil
theorem cntE_int:∀ l:List Lim,cntE mI l=l.length
 | []=>rfl
 | x :: l=>by
  have e:mI.cnt x=1:=rfl
  simp only [cntE,cntE_int l,List.length_cons,e]; omega
theorem okE_int:∀ (k:Int) (l:List Lim),okE mI k l↔∀ j,j<l.length→limb l j=k+j
 | k,[]=>⟨fun _ j hj=>by simp at hj,fun _=>trivial⟩
 | k,x :: l=>by
  have ih:=okE_int (k+1) l
  refine⟨fun h j hj=>?_,fun h=>⟨⟨?_,trivial⟩,?_⟩⟩
  ·match j with
   | 0 =>
    have:x.1=k:=h.1.1
    show x.1=_
    omega
   | j+1 =>
    have:=ih.1 h.2 j (by simpa using hj)
    show limb l j=_
    omega
  ·have:=h 0 (by simp)
   replace this:x.1=k+((0:Nat):Int):=this
   omega
  ·refine ih.2 fun j hj=>?_
   have:=h (j+1) (by simpa using hj)
   replace this:limb l j=k+((j+1:Nat):Int):=this
   omega
section
variable {P:Program} {K:Know→List Value→Prop} {V V0:Know} {Ns:List (List LV→Know→Prop)}
theorem wp_el {a:Option Addr} {n:Nat} {i:Int} {k:Addr→T} {ad:Addr} (h:a=some ad) (h0:0≤i) (h1:i<(n:Int)) (hn:(k ad).wp P K V V0 Ns):(T.el a n i k).wp P K V V0 Ns:=⟨ad,h,h0,h1,hn⟩
theorem wp_st1 {b:Nat} {a:Addr} {A Q vs:List Value} {x v:Value} {tt:TypeId} {t:T} (hv:V b=some (A++([x]++Q),(tt,((0,0):Nat × Nat)))) (ha:a=⟨b,A.length,none⟩) (hvs:vs=[v])
  (hn:∀ V1:Know,V1 b=some ((A++[v])++Q,(tt,((0,0):Nat × Nat)))→(∀ y,y≠b→V1 y=V y)→t.wp P K V1 V0 Ns):(T.st a vs t).wp P K V V0 Ns:=by
 subst ha hvs
 refine⟨_,tt,rfl,hv,by simp,hn _ ?_ fun y hy=>kset_other hy⟩
 rw [kset_same,setl_mid rfl (by simp)]
 simp
end
theorem addr_at {b o m:Nat} (h:o=m):(⟨b,o,none⟩:Addr)=⟨b,m,none⟩:=by rw [h]
theorem mark_lp {sh:List Sc} {α:Type} {P:Program} {K:Know→List Value→Prop} {V V0:Know} (r:Rp sh α) (m:Mk α) {s:SlV} {l:List α} {f:List Nat} {k0:Int} {row:LShs [.o (.o (.i .i64)),.o (.o (.i .i64))]→T}
  (h:LR r V s l f) (hnd:f.Nodup) (hw:Wr V f) (hk0:0≤k0) (hk1:k0+cntE m l≤4611686018427387904)
  (hrow:∀ (N:List LV→Know→Prop) (V1:Know) (j:Nat) (k:Int) (b o:Nat) (A R:List Value) (tt:TypeId) (c:Scs sh) (x:α) (w:List Nat),s.a=some ⟨b,o,none⟩→A.length=o+j*sh.length→j<s.n→s.n≤9223372036854775807→0≤k→k+m.cnt x≤4611686018427387904 →
   V1 b=some (A++(Scs.vals sh c++R),(tt,((0,0):Nat × Nat)))→r.R V1 c x w→(b :: w).Nodup→Wr V1 w →
   (∀ (V2:Know) (c':Scs sh) (x':α),V2 b=some (A++(Scs.vals sh c'++R),(tt,((0,0):Nat × Nat)))→r.R V2 c' x' w→Wr V2 w→LeBut (b :: w) V1 V2→m.ok k x'→m.cnt x'=m.cnt x→N [.v (.int .i64 (k+m.cnt x)),.v (.int .i64 ((j+1:Nat):Int))] V2) →
   (row (k,(j:Int),())).wp P K V1 V1 [N])
  (hK:∀ (V1:Know) (l':List α),LeBut f V V1→Wr V1 f→LR r V1 s l' f→okE m k0 l'→cntE m l'=cntE m l→K V1 [.int .i64 (k0+cntE m l)]) :
  (T.lp [.o (.o (.i .i64)),.o (.o (.i .i64))] [.v (.int .i64 k0),.v (.int .i64 (0:Int))] fun y=>.br (decide (y.2.fst<(s.n:Int))) (row y) (.ret [.int .i64 y.fst])).wp P K V V0 []:=by
 have hn:=h.1
 have h63:=h.2.2.1
 rcases h.2.2.2 with ⟨hz,hc,hf⟩ | ⟨b,pre,post,t,fps,cs,a1,v1,hels,rfl⟩
 ·have hl:l=[]:=List.eq_nil_of_length_eq_zero (by omega)
  refine lp_once (k0,(0:Int),()) rfl fun N=>⟨fun hlt=>?_,fun _=>?_⟩
  ·have:(0:Int)<(s.n:Int):=of_decide_eq_true hlt
   omega
  ·have:=hK V l LeBut.refl hw h (by rw [hl]; trivial) rfl
   rw [hl] at this
   simp only [cntE,Int.natCast_zero,Int.add_zero] at this
   exact this
 obtain⟨cc,tt,hwb⟩:=hw b (by simp)
 rw [v1] at hwb
 simp only [Option.some.injEq,Prod.mk.injEq] at hwb
 obtain⟨rfl,rfl⟩:=hwb
 refine⟨fun y V'=>LeBut (b :: fps) V V'∧∃ (i:Nat) (ds:List (Scs sh)) (xs:List α) (gd g:List Nat),y.2.1=(i:Int)∧i≤l.length∧ds.length=i∧(y.1:Int)=k0+cntE m xs∧cntE m xs+cntE m (l.drop i)=cntE m l ∧
   V' b=some (pre++((ds++cs.drop i).flatMap (Scs.vals sh)++post),(tt,(0,0)))∧Els r V' ds xs gd∧Els r V' (cs.drop i) (l.drop i) g∧gd++g=fps∧Wr V' fps∧okE m k0 xs,
  fun y _=>((l.length:Int)-(y.2.1:Int)).toNat,⟨(k0,(0:Int),()),rfl,LeBut.refl,0,[],[],[],fps,rfl,by omega,rfl,by simp [cntE],by simp [cntE],v1,rfl,hels,rfl,fun x hx=>hw x (by simp [hx]),trivial⟩,?_⟩
 rintro⟨(k:Int),(i:Int),u⟩ V' ⟨hb,j,ds,xs,gd,g,hj,hjl,hds,hk,hcn,hv,hD,hE,hgg,hwr,hok⟩
 replace hj:i=(j:Int):=hj
 replace hk:k=k0+cntE m xs:=hk
 subst hj
 refine⟨fun hlt=>?_,fun hge=>?_⟩
 ·have hi:j<l.length:=by
   have:(j:Int)<(s.n:Int):=of_decide_eq_true hlt
   omega
  have hcl:cs.length=l.length:=hels.len
  have hi':j<cs.length:=by omega
  rw [List.drop_eq_getElem_cons hi] at hE hcn
  rw [List.drop_eq_getElem_cons hi'] at hE hv
  generalize l[j]=x at hE hcn
  generalize cs[j]=c at hE hv
  obtain⟨w,g2,rfl,hR,hE2⟩:=hE
  simp only [cntE] at hcn
  have hall:(gd++(w++g2)).Nodup∧b ∉ gd++(w++g2):=by
   rw [hgg]
   exact⟨(List.nodup_cons.1 hnd).2,(List.nodup_cons.1 hnd).1⟩
  have hbw:b ∉ w:=fun hm=>hall.2 (by simp [hm])
  have n1:=List.nodup_append.1 hall.1
  have n2:=List.nodup_append.1 n1.2.1
  have hcells:pre++((ds++c :: cs.drop (j+1)).flatMap (Scs.vals sh)++post)=(pre++ds.flatMap (Scs.vals sh))++(Scs.vals sh c++((cs.drop (j+1)).flatMap (Scs.vals sh)++post)):=by
   simp
  rw [hcells] at hv
  refine hrow _ V' j k b pre.length (pre++ds.flatMap (Scs.vals sh)) _ tt c x w a1 ?_ (by omega) h63 (by omega) (by omega) hv hR (List.nodup_cons.2 ⟨hbw,n2.1⟩) (fun y hy=>hwr y (by rw [← hgg]; simp [hy])) ?_
  ·rw [List.length_append,flat_len,hds]
  ·intro V2 c' x' hv2 hR2 hw2 hb2 hok2 hcnt2
   have keepd:∀ y∈gd,y ∉ b :: w:=fun y hy hm=>by
    rcases List.mem_cons.1 hm with e | hm
    ·exact hall.2 (by rw [← e]; simp [hy])
    ·exact n1.2.2 y hy y (by simp [hm]) rfl
   have keepg:∀ y∈g2,y ∉ b :: w:=fun y hy hm=>by
    rcases List.mem_cons.1 hm with e | hm
    ·exact hall.2 (by rw [← e]; simp [hy])
    ·exact n2.2.2 y hm y hy rfl
   have mv:∀ (y:Nat) (z:List Value × TypeId × Nat × Nat),y ∉ b :: w→V' y=some z→V2 y=V' y:=fun y z hy hz=>by rw [hz]; exact hb2 y z hy hz
   refine⟨(k+m.cnt x,((j+1:Nat):Int),()),rfl,⟨hb.trans (hb2.sub fun y hy=>?_),j+1,ds++[c'],xs++[x'],gd++w,g2,rfl,hi,by simp [hds],?_,?_,?_,?_,?_,by rw [← hgg]; simp,?_,?_⟩,?_⟩
   ·rcases List.mem_cons.1 hy with e | hy
    ·simp [e]
    ·rw [← hgg]; simp [hy]
   ·rw [cntE_snoc]
    show k+(m.cnt x:Int)=k0+((cntE m xs+m.cnt x':Nat):Int)
    omega
   ·rw [cntE_snoc]; omega
   ·rw [hv2]; simp
   ·exact Els.snoc hR2 (hD.loc fun y hy=>by obtain⟨z,hz⟩:=hD.kn y hy; exact mv y z (keepd y hy) hz)
   ·exact hE2.loc fun y hy=>by obtain⟨z,hz⟩:=hE2.kn y hy; exact mv y z (keepg y hy) hz
   ·intro y hy
    rw [← hgg] at hy
    by_cases hyw:y∈w
    ·exact hw2 y hyw
    ·obtain⟨cc,t',hz⟩:=hwr y (by rw [← hgg]; exact hy)
     have hne:y ∉ b :: w:=fun hm=>by
      rcases List.mem_cons.1 hm with e | hm
      ·exact hall.2 (by rw [← e]; exact hy)
      ·exact hyw hm
     exact⟨cc,t',by rw [mv y _ hne hz]; exact hz⟩
   ·exact okE_snoc m x' k0 xs hok (by rw [← hk]; exact hok2)
   ·show((l.length:Int)-((j+1:Nat):Int)).toNat<((l.length:Int)-(j:Int)).toNat
    omega
 ·have hi:j=l.length:=by
   have:¬ (j:Int)<(s.n:Int):=of_decide_eq_false hge
   omega
  have hd0:l.drop j=[]:=by rw [hi]; simp
  have hd1:cs.drop j=[]:=by rw [hi,← hels.len]; simp
  rw [hd0] at hE hcn
  rw [hd1] at hE hv
  replace hE:g=[]:=hE
  subst hE
  simp only [List.append_nil] at hgg hv
  subst hgg
  have hc0:cntE m xs=cntE m l:=by simpa [cntE] using hcn
  have:=hK V' xs hb ?_ ?_ hok hc0
  ·rw [← hc0,← hk] at this
   exact this
  ·intro y hy
   rcases List.mem_cons.1 hy with e | hy
   ·subst e; exact⟨_,_,hv⟩
   ·exact hwr y hy
  ·exact⟨by rw [hn,← hi,← hds,hD.len],h.2.1,h63,.inr ⟨b,pre,post,_,gd,ds,a1,hv,hD,rfl⟩⟩
theorem cL_markIntS (V:Know) (s:SlV) (l:List Lim) (f:List Nat) (k:Int) (h:LR rI V s l f) (hw:Wr V f) (hk0:0≤k) (hk1:k+l.length≤4611686018427387904) :
  CallX Tryz.prog V 36 [Sc.val .l s,.int .i64 k] (fun V' r=>LeBut f V V'∧Wr V' f∧r=.int .i64 (k+l.length)∧∃ l',LR rI V' s l' f∧l'.length=l.length∧∀ j,j<l.length→limb l' j=k+j):=by
 refine CallX.of_fits Tryz.mix (fL_markIntS _ _) fun _=>?_
 simp only [tL_markIntS,T.wp]
 have hn:=h.1
 refine⟨fun y V'=>LeBut f V V'∧Wr V' f∧∃ (i:Nat) (l':List Lim),y.2.1=(i:Int)∧i≤l.length∧y.1=k+(i:Int)∧LR rI V' s l' f∧l'.length=l.length∧∀ j,j<i→limb l' j=k+j,fun y=>((l.length:Int)-(y.2.1:Int)).toNat,
  ⟨(k,(0:Int),()),rfl,LeBut.refl,hw,0,l,rfl,by omega,(by simp),h,rfl,fun j hj=>by omega⟩,?_⟩
 rintro⟨(q:Int),(i:Int),u⟩ V' ⟨hb,hw',j,l',hj,hjl,hq,hL,hlen,hall⟩
 replace hj:i=(j:Int):=hj
 replace hq:q=k+(j:Int):=hq
 subst hj hq
 refine⟨fun hlt=>?_,fun hge=>?_⟩
 ·have hi:j<l.length:=by
   have:(j:Int)<(s.n:Int):=of_decide_eq_true hlt
   omega
  obtain⟨b,o,cs,u,a1,v1,hfit,hbf,hL2,hw2⟩:=hL.put hw' (i:=j) (by omega) (k+(j:Int))
  refine⟨_,a1,(by omega:(0:Int)≤(j:Int)),(by omega:(j:Int)<(s.n:Int)),?_⟩
  rw [addr_add_eq,Int.toNat_natCast]
  refine⟨cs,u,rfl,v1,hfit,_,rfl,(k+((j+1:Nat):Int),((j+1:Nat):Int),()),?_,⟨hb.trans (LeBut.kset hbf),hw2,j+1,_,rfl,hi,rfl,hL2,by simpa using hlen,fun m hm=>?_⟩,?_⟩
  ·have e1:IntKind.i64.wrap (k+(j:Int)+1)=k+((j+1:Nat):Int):=by rw [wrap_i64 (by omega)]; omega
   rw [e1,nxt hi (by omega)]; rfl
  ·rw [limb_set (by omega)]
   by_cases e:m=j
   ·subst e; rw [if_pos rfl]
   ·rw [if_neg e]; exact hall m (by omega)
  ·show((l.length:Int)-((j+1:Nat):Int)).toNat<((l.length:Int)-(j:Int)).toNat
   omega
 ·have hi:j=l.length:=by
   have:¬ (j:Int)<(s.n:Int):=of_decide_eq_false hge
   omega
  subst hi
  exact⟨hb,hw',rfl,l',hL,hlen,hall⟩
theorem cL_markIntS' (V:Know) (s:SlV) (l:List Lim) (f:List Nat) (k:Int) (h:LR rI V s l f) (_:f.Nodup) (hw:Wr V f) (hk0:0≤k) (hk1:k+cntE mI l≤4611686018427387904) :
  CallX Tryz.prog V 36 [Sc.val .l s,.int .i64 k] (fun V' r=>LeBut f V V'∧Wr V' f∧r=.int .i64 (k+cntE mI l)∧∃ l',LR rI V' s l' f∧okE mI k l'∧cntE mI l'=cntE mI l):=by
 rw [cntE_int] at hk1 ⊢
 refine(cL_markIntS V s l f k h hw hk0 hk1).mono ?_
 rintro V' r ⟨h1,h2,rfl,l',h3,h4,h5⟩
 exact⟨h1,h2,rfl,l',h3,(okE_int k l').2 (by rw [h4]; exact h5),by rw [cntE_int,h4]⟩
theorem cL_heldIntS (V:Know) (s:SlV) (l:List Lim) (f:List Nat) (k:Int) (h:LR rI V s l f) (hk0:0≤k) (hk1:k+l.length≤4611686018427387904) (hm:∀ j,j<l.length→limb l j=k+j) :
  CallX Tryz.prog V 41 [Sc.val .l s,.int .i64 k] (fun V' r=>V'=V∧r=.int .i64 (k+l.length)):=by
 refine CallX.of_fits Tryz.mix (fL_heldIntS _ _) fun _=>?_
 simp only [tL_heldIntS,T.wp]
 have hn:=h.1
 refine⟨fun y V'=>V'=V∧∃ i:Nat,y.2.1=(i:Int)∧i≤l.length∧y.1=k+(i:Int),fun y=>((l.length:Int)-(y.2.1:Int)).toNat,⟨(k,(0:Int),()),rfl,rfl,0,rfl,by omega,by simp⟩,?_⟩
 rintro⟨(q:Int),(i:Int),u⟩ V' ⟨rfl,j,hj,hjl,hq⟩
 replace hj:i=(j:Int):=hj
 replace hq:q=k+(j:Int):=hq
 subst hj hq
 refine⟨fun hlt=>?_,fun hge=>?_⟩
 ·have hi:j<l.length:=by
   have:(j:Int)<(s.n:Int):=of_decide_eq_true hlt
   omega
  obtain⟨b,o,a1,l1⟩:=h.int hi
  have e:l[j].1=k+(j:Int):=by rw [← limb_lt hi]; exact hm j hi
  refine⟨_,a1,(by omega:(0:Int)≤(j:Int)),(by omega:(j:Int)<(s.n:Int)),l[j].1,l1,fun hne=>?_,fun _=>⟨_,rfl,(k+((j+1:Nat):Int),((j+1:Nat):Int),()),?_,⟨rfl,j+1,rfl,hi,rfl⟩,?_⟩⟩
  ·rw [e] at hne; simp at hne
  ·have e1:IntKind.i64.wrap (k+(j:Int)+1)=k+((j+1:Nat):Int):=by rw [wrap_i64 (by omega)]; omega
   rw [e1,nxt hi (by omega)]; rfl
  ·show((l.length:Int)-((j+1:Nat):Int)).toNat<((l.length:Int)-(j:Int)).toNat
   omega
 ·have hi:j=l.length:=by
   have:¬ (j:Int)<(s.n:Int):=of_decide_eq_false hge
   omega
  subst hi
  exact⟨rfl,rfl⟩
theorem cL_heldIntS' (V:Know) (s:SlV) (l:List Lim) (f:List Nat) (k:Int) (h:LR rI V s l f) (hk0:0≤k) (hk1:k+cntE mI l≤4611686018427387904) (hm:okE mI k l) :
  CallX Tryz.prog V 41 [Sc.val .l s,.int .i64 k] (fun V' r=>V'=V∧r=.int .i64 (k+cntE mI l)):=by
 rw [cntE_int] at hk1 ⊢
 exact cL_heldIntS V s l f k h hk0 hk1 ((okE_int k l).1 hm)
end Go.Proofs.YtpkmhkbkohppiaaGreatDoor
