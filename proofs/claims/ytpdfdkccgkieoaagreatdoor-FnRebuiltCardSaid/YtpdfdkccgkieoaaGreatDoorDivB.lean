/-
  What the program's functions on lists of limbs give: zeros dropped, division by a small number, numbers from integers, differences.
-/
import Derived.Test.YtpdfdkccgkieoaaGreatDoorWr
namespace Go.Proofs.YtpdfdkccgkieoaaGreatDoor
open Sx
set_option maxRecDepth 100000
theorem wrap_u64 {n:Int} (h:0≤n∧n≤9223372036854775807):IntKind.u64.wrap n=n:=by
 simp only [IntKind.wrap]
 have h2:IntKind.u64.bits=64:=rfl
 have h4:IntKind.u64.signed=false:=rfl
 simp only [h2,h4,Bool.false_and]
 have h3:n % 2 ^ 64=n:=Int.emod_eq_of_lt h.1 (by omega)
 rw [h3]; rfl
theorem setl_cell {o:List Lim} {i:Nat} {x:Int} (h:i<o.length):setl (o.map cellI) i [.int .i64 x]=(o.set i (x,())).map cellI:=by
 have e1:o.map cellI=(o.take i).map cellI++(o.drop i).map cellI:=by rw [← List.map_append,List.take_append_drop]
 have e3:(o.drop i).map cellI=cellI o[i] :: (o.drop (i+1)).map cellI:=by rw [List.drop_eq_getElem_cons h]; rfl
 rw [e1,setl_mid (by simp; omega) (by simp; omega),List.set_eq_take_append_cons_drop,if_pos h,e3]
 simp [cellI]
theorem cut_cell {o:List Lim} {i:Nat} (h:i<o.length):cutv (o.map cellI) i 1=some [.int .i64 (limb o i)]:=by
 have e1:o.map cellI=(o.take i).map cellI++(o.drop i).map cellI:=by rw [← List.map_append,List.take_append_drop]
 have e3:(o.drop i).map cellI=[cellI o[i]]++(o.drop (i+1)).map cellI:=by rw [List.drop_eq_getElem_cons h]; rfl
 have:=cutv_skip (x:=(o.take i).map cellI) (y:=(o.drop i).map cellI) (o:=0) (n:=1)
 rw [show((o.take i).map cellI).length+0=i by simp; omega] at this
 rw [e1,this,e3,limb_lt h]
 exact cutv_head
theorem made_zer (n:Nat):(madeCells ⟨[.int .i64 (0:Int)]⟩ n).toList=(zer n).map cellI:=by
 refine List.ext_getElem (by rw [made_len,List.length_map,len_zer]) fun i h1 h2=>?_
 simp [madeCells,zer,cellI,Nat.mod_one]
theorem sl_same {a:Option Addr} {k:Nat}:(if k=Int.toNat (0:Int) then a else Option.map (fun x=>x.add (Int.toNat (0:Int)*Tryz.prog.types[(3:Nat)].size)) a)=a:=by
 split
 ·rfl
 ·cases a with
  | none=>rfl
  | some ad=>simp [Addr.add]
abbrev TrimPost (V:Know) (s:SlV) (l:List Lim) (f:List Nat):Know→Value→Prop:=fun V' r=>V'=V∧∃ s',r=Sc.val .l s'∧s'=⟨s.a,tl l l.length,s.c⟩∧LR rI V s' (trimL l) f
theorem cI_trim2 (V:Know) (s:SlV) (l:List Lim) (f:List Nat) (h:LR rI V s l f) :
  CallX Tryz.prog V 203 [Sc.val .l s] (TrimPost V s l f):=by
 refine CallX.of_fits Tryz.mix (fI_trim s) fun _=>?_
 simp only [tI_trim,T.wp]
 refine⟨fun y V'=>V'=V∧∃ m:Nat,m≤l.length∧tl l m=tl l l.length∧y.1=⟨s.a,m,s.c⟩,fun y=>y.1.n,
  ⟨(s,()),rfl,rfl,l.length,Nat.le_refl _,rfl,by rw [← h.1]⟩,?_⟩
 rintro⟨s1,u⟩ V' ⟨rfl,m,hm,htl,hs1⟩
 replace hs1:s1=⟨s.a,m,s.c⟩:=hs1
 subst hs1
 have hL:=h.shrink hm
 have hcap:=hL.2.1
 have h63:=hL.2.2.1
 replace hcap:m≤s.c:=hcap
 replace h63:m≤9223372036854775807:=h63
 refine⟨fun hpos=>?_,fun hz=>?_⟩
 ·have hp:(m:Int) > 0:=of_decide_eq_true hpos
  obtain⟨j,rfl⟩:∃ j,m=j+1:=⟨m-1,by omega⟩
  have hjl:j<l.length:=by omega
  obtain⟨b,o,a1,l1⟩:=h.int hjl
  have hw:IntKind.i64.wrap (((j+1:Nat):Int)-1)=(j:Int):=by rw [wrap_i64 (by omega)]; omega
  show ∃ ad,s.a=some ad∧_
  rw [hw]
  refine⟨_,a1,(by omega:(0:Int)≤(j:Int)),(by omega:(j:Int)<((j+1:Nat):Int)),l[j].1,l1,fun h0=>?_,fun h0=>?_⟩
  ·have e0:limb l j=0:=by
    rw [limb_lt hjl]
    simpa using h0
   refine⟨⟨(by omega:(0:Int)≤0),(by omega:(0:Int)≤(j:Int)),(by omega:(j:Int)≤(s.c:Int)),(by omega:(s.c:Int)≤(s.c:Int))⟩,_,rfl,((⟨if (s.c:Int).toNat=Int.toNat (0:Int) then s.a else Option.map (fun x=>x.add (Int.toNat (0:Int)*Tryz.prog.types[(3:Nat)].size)) s.a,(j:Int).toNat-Int.toNat (0:Int),(s.c:Int).toNat-Int.toNat (0:Int)⟩:SlV),()),rfl,⟨rfl,j,by omega,by rw [← htl,tl,if_pos e0],?_⟩,?_⟩
   ·show(⟨_,_,_⟩:SlV)=_
    rw [sl_same]
    congr 1
   ·show(j:Int).toNat-Int.toNat (0:Int)<j+1
    omega
  ·have e0:limb l j≠0:=by
    rw [limb_lt hjl]
    simpa using h0
   rw [tl,if_neg e0] at htl
   refine⟨rfl,_,rfl,by rw [← htl],?_⟩
   unfold trimL
   rw [← htl]; exact hL
 ·have hz':¬ (m:Int) > 0:=of_decide_eq_false hz
  have:m=0:=by omega
  subst this
  rw [tl] at htl
  refine⟨rfl,_,rfl,by rw [← htl],?_⟩
  unfold trimL
  rw [← htl]; exact hL
theorem cS_l02Trim (V:Know) (s:SlV) (l:List Lim) (f:List Nat) (h:LR rI V s l f) :
  CallX Tryz.prog V 114 [Sc.val .l s] (TrimPost V s l f):=by
 refine CallX.of_fits Tryz.mix (fS_l02Trim s) fun _=>?_
 have hn:=h.1
 have hcap:=h.2.1
 have h63:=h.2.2.1
 simp only [tS_l02Trim,T.wp,sl_same]
 refine⟨fun y V'=>V'=V∧∃ m:Nat,m≤l.length∧tl l m=tl l l.length∧y.1=(m:Int),fun y=>(y.1:Int).toNat,
  ⟨((s.n:Int),()),rfl,rfl,l.length,Nat.le_refl _,rfl,by rw [← hn]⟩,?_⟩
 rintro⟨(i:Int),u⟩ V' ⟨rfl,m,hm,htl,hi⟩
 replace hi:i=(m:Int):=hi
 subst hi
 have hL:=h.shrink hm
 have fin:∀ k:Nat,k≤l.length→(m:Int)=(k:Int)→tl l l.length=k→(0:Int)≤0∧(0:Int)≤(m:Int)∧(m:Int)≤(s.c:Int)∧(s.c:Int)≤(s.c:Int):=by
  intro k hk e _
  exact⟨by omega,by omega,by omega,by omega⟩
 have fin2:tl l l.length=m→(Value.slice s.a ((m:Int).toNat-Int.toNat (0:Int)) ((s.c:Int).toNat-Int.toNat (0:Int))=Sc.val .l ⟨s.a,m,s.c⟩)∧(⟨s.a,m,s.c⟩:SlV)=⟨s.a,tl l l.length,s.c⟩∧LR rI V' ⟨s.a,m,s.c⟩ (trimL l) f:=by
  intro e
  refine⟨rfl,by rw [e],?_⟩
  unfold trimL
  rw [e]; exact hL
 refine⟨fun hpos=>?_,fun hz=>?_⟩
 ·have hp:(m:Int) > 0:=of_decide_eq_true hpos
  obtain⟨j,rfl⟩:∃ j,m=j+1:=⟨m-1,by omega⟩
  have hjl:j<l.length:=by omega
  obtain⟨b,o,a1,l1⟩:=h.int hjl
  have hw:IntKind.i64.wrap (((j+1:Nat):Int)-1)=(j:Int):=by rw [wrap_i64 (by omega)]; omega
  show ∃ ad,s.a=some ad∧_
  rw [hw]
  refine⟨_,a1,(by omega:(0:Int)≤(j:Int)),(by omega:(j:Int)<(s.n:Int)),l[j].1,l1,fun h0=>?_,fun h0=>?_⟩
  ·have e0:limb l j=0:=by
    rw [limb_lt hjl]
    simpa using h0
   refine⟨_,rfl,((j:Int),()),rfl,⟨rfl,j,by omega,by rw [← htl,tl,if_pos e0],rfl⟩,?_⟩
   show(j:Int).toNat<((j+1:Nat):Int).toNat
   omega
  ·have e0:limb l j≠0:=by
    rw [limb_lt hjl]
    simpa using h0
   rw [tl,if_neg e0] at htl
   exact⟨fin _ hm rfl htl.symm,rfl,_,fin2 htl.symm⟩
 ·have hz':¬ (m:Int) > 0:=of_decide_eq_false hz
  have:m=0:=by omega
  subst this
  rw [tl] at htl
  exact⟨fin _ hm rfl htl.symm,rfl,_,fin2 htl.symm⟩
abbrev SmallPost (V:Know) (a:List Lim) (d:Int):Know→Value→Prop:=fun V' r=>V.le V'∧∃ s' q r' f',r=.tuple #[Sc.val .l s',.int .i64 r']∧LR rI V' s' q f'∧Own V V' f'∧Can q∧valN a=valN q*d+r'∧0≤r'∧r'<d∧q.length≤a.length
theorem cI_natSmall (V:Know) (s:SlV) (a:List Lim) (f:List Nat) (d:Int) (h:LR rI V s a f) (ha:Lims a) (la:a.length≤1000000) (hd:0<d∧d≤1000000000) :
  CallX Tryz.prog V 199 [Sc.val .l s,.int .i64 d] (SmallPost V a d):=by
 refine CallX.of_fits Tryz.mix (fI_natSmall _ _) fun _=>?_
 have hn:=h.1
 simp only [tI_natSmall,T.wp]
 refine⟨⟨by omega,by omega,by omega,by omega⟩,?_⟩
 refine⟨fun y V'=>V'=V∧∃ (k:Nat) (o:List Lim),y.2.2.1=(k:Int)-1∧k≤a.length∧0≤(y.2.1:Int)∧(y.2.1:Int)<d∧y.1.1=a.length∧y.1.2=o.map cellI∧o.length=a.length∧Lims o∧(∀ j,j<k→limb o j=0)∧valN o*d+(y.2.1:Int)*1000000000 ^ k+valTo a k=valN a,
  fun y=>((y.2.2.1:Int)+1).toNat,⟨(((s.n:Int).toNat,(madeCells ⟨[.int .i64 (0:Int)]⟩ ((s.n:Int).toNat*1)).toList),(0:Int),(s.n:Int)-1,()),by rw [wrap_i64 (by omega)]; rfl,rfl,a.length,zer a.length,by rw [← hn],Nat.le_refl _,(by omega:(0:Int)≤0),hd.1,(by omega:(s.n:Int).toNat=a.length),by rw [show(s.n:Int).toNat*1=a.length by omega]; exact made_zer _,len_zer _,lims_zer _,fun j _=>limb_zer _ j,?_⟩,?_⟩
 ·rw [valN_zer]
  show 0*d+(0:Int)*1000000000 ^ a.length+valN a=valN a
  simp
 rintro⟨⟨n1,ys⟩,(r:Int),(i:Int),u⟩ V' ⟨rfl,k,o,hi,hk,hr0,hr1,hn1,hys,hol,hlo,hz,hv⟩
 replace hi:i=(k:Int)-1:=hi
 replace hr0:0≤r:=hr0
 replace hr1:r<d:=hr1
 replace hn1:n1=a.length:=hn1
 replace hys:ys=o.map cellI:=hys
 replace hv:valN o*d+r*1000000000 ^ k+valTo a k=valN a:=hv
 subst hn1 hys
 refine⟨fun hge=>?_,fun hlt=>?_⟩
 ·have hge':i≥0:=of_decide_eq_true hge
  obtain⟨m,rfl⟩:∃ m,k=m+1:=⟨k-1,by omega⟩
  have hi:i=(m:Int):=by omega
  subst hi
  have hm:m<a.length:=by omega
  obtain⟨b1,o1,a1,l1⟩:=h.int hm
  have ea:a[m].1=limb a m:=(limb_lt hm).symm
  have la1:=ha m
  have t0:0≤r*1000000000+limb a m:=by omega
  have t1:r*1000000000+limb a m<1000000000*d:=by omega
  have e1:IntKind.i64.wrap (r*1000000000)=r*1000000000:=wrap_i64 (by omega)
  have e2:IntKind.i64.wrap (r*1000000000+limb a m)=r*1000000000+limb a m:=wrap_i64 (by omega)
  have x0:0≤(r*1000000000+limb a m) / d:=Int.ediv_nonneg t0 (by omega)
  have x1:(r*1000000000+limb a m) / d<1000000000:=Int.ediv_lt_of_lt_mul hd.1 t1
  have e3:IntKind.i64.wrap ((r*1000000000+limb a m).tdiv d)=(r*1000000000+limb a m) / d:=by rw [Int.tdiv_eq_ediv_of_nonneg t0]; exact wrap_i64 (by omega)
  have e4:(r*1000000000+limb a m).tmod d=(r*1000000000+limb a m) % d:=Int.tmod_eq_emod_of_nonneg t0
  have e5:IntKind.i64.wrap ((m:Int)-1)=(m:Int)-1:=wrap_i64 (by omega)
  have y0:=Int.emod_nonneg (r*1000000000+limb a m) (show d≠0 by omega)
  have y1:=Int.emod_lt_of_pos (r*1000000000+limb a m) hd.1
  have hdm:=Int.mul_ediv_add_emod (r*1000000000+limb a m) d
  have hd0:d≠0:=by omega
  refine⟨_,a1,(by omega:(0:Int)≤(m:Int)),(by omega:(m:Int)<(s.n:Int)),limb a m,by rw [← ea]; exact l1,hd0,⟨by omega,(by omega:(m:Int)<((a.length:Nat):Int))⟩,?_,hd0,_,rfl,?_⟩
  ·show(m:Int).toNat*1+1≤(o.map cellI).length
   rw [List.length_map]; omega
  rw [e1,e2,e3,e4,e5]
  refine⟨((a.length,(o.set m ((r*1000000000+limb a m) / d,())).map cellI),(r*1000000000+limb a m) % d,(m:Int)-1,()),?_,⟨rfl,m,_,rfl,by omega,y0,y1,rfl,rfl,by rw [List.length_set]; exact hol,lims_set hlo (by omega) ⟨x0,x1⟩,fun j hj=>?_,?_⟩,?_⟩
  ·show [LV.a 3 a.length (setl (o.map cellI) ((m:Int).toNat*1) [_]),_,_]=_
   rw [show(m:Int).toNat*1=m by omega,setl_cell (by omega)]
   rfl
  ·rw [limb_set (by omega),if_neg (by omega)]
   exact hz j (by omega)
  ·exact quot_step (by omega) (hz m (by omega)) hv (by rw [Int.mul_comm ((r*1000000000+limb a m) / d) d]; exact hdm.symm)
  ·show((m:Int)-1+1).toNat<((m:Int)+1).toNat
   omega
 ·have hlt':¬ i≥0:=of_decide_eq_false hlt
  have hk0:k=0:=by omega
  subst hk0
  intro bk cap spare hbk hcap _
  have hcap':a.length≤cap:=hcap
  have hk:=newI (V:=V') (b:=bk) (cap:=cap) (o:=o) (spare:=spare) (t:=3) hbk (by omega) (by omega)
  have hle:=kset_le (x:=(o.map cellI++spare,((3:TypeId),((0,0):Nat × Nat)))) hbk
  obtain⟨hcan,hval⟩:=trim_can hlo
  have key:=cI_trim2 _ _ _ _ hk.1
  rw [hol] at key
  refine key.mono ?_
  rintro V2 r2 ⟨rfl,s2,rfl,-,hL⟩
  refine⟨nofun,s2,rfl,hle,s2,_,r,_,rfl,hL,hk.2,hcan,?_,hr0,hr1,?_⟩
  ·rw [hval]
   simp [valTo] at hv
   omega
  ·have:=tl_le o o.length
   unfold trimL
   rw [List.length_take]
   omega
theorem cS_l03Small (V:Know) (s:SlV) (a:List Lim) (f:List Nat) (d:Int) (h:LR rI V s a f) (ha:Lims a) (la:a.length≤1000000) (hd:0<d∧d≤1000000000) :
  CallX Tryz.prog V 196 [Sc.val .l s,.int .i64 d] (SmallPost V a d):=by
 refine CallX.of_fits Tryz.mix (fS_l03Small _ _) fun _=>?_
 have hn:=h.1
 simp only [tS_l03Small,T.wp]
 refine⟨⟨by omega,by omega,by omega,by omega⟩,?_⟩
 refine⟨fun y V'=>V'=V∧∃ (k:Nat) (o:List Lim),y.2.2.1=(k:Int)-1∧k≤a.length∧0≤(y.2.1:Int)∧(y.2.1:Int)<d∧y.1.1=a.length∧y.1.2=o.map cellI∧o.length=a.length∧Lims o∧(∀ j,j<k→limb o j=0)∧valN o*d+(y.2.1:Int)*1000000000 ^ k+valTo a k=valN a,
  fun y=>((y.2.2.1:Int)+1).toNat,⟨(((s.n:Int).toNat,(madeCells ⟨[.int .i64 (0:Int)]⟩ ((s.n:Int).toNat*1)).toList),(0:Int),(s.n:Int)-1,()),by rw [wrap_i64 (by omega)]; rfl,rfl,a.length,zer a.length,by rw [← hn],Nat.le_refl _,(by omega:(0:Int)≤0),hd.1,(by omega:(s.n:Int).toNat=a.length),by rw [show(s.n:Int).toNat*1=a.length by omega]; exact made_zer _,len_zer _,lims_zer _,fun j _=>limb_zer _ j,?_⟩,?_⟩
 ·rw [valN_zer]
  show 0*d+(0:Int)*1000000000 ^ a.length+valN a=valN a
  simp
 rintro⟨⟨n1,ys⟩,(r:Int),(i:Int),u⟩ V' ⟨rfl,k,o,hi,hk,hr0,hr1,hn1,hys,hol,hlo,hz,hv⟩
 replace hi:i=(k:Int)-1:=hi
 replace hr0:0≤r:=hr0
 replace hr1:r<d:=hr1
 replace hn1:n1=a.length:=hn1
 replace hys:ys=o.map cellI:=hys
 replace hv:valN o*d+r*1000000000 ^ k+valTo a k=valN a:=hv
 subst hn1 hys
 refine⟨fun hge=>?_,fun hlt=>?_⟩
 ·have hge':i≥0:=of_decide_eq_true hge
  obtain⟨m,rfl⟩:∃ m,k=m+1:=⟨k-1,by omega⟩
  have hi:i=(m:Int):=by omega
  subst hi
  have hm:m<a.length:=by omega
  obtain⟨b1,o1,a1,l1⟩:=h.int hm
  have ea:a[m].1=limb a m:=(limb_lt hm).symm
  have la1:=ha m
  have t0:0≤r*1000000000+limb a m:=by omega
  have t1:r*1000000000+limb a m<1000000000*d:=by omega
  have e1:IntKind.i64.wrap (r*1000000000)=r*1000000000:=wrap_i64 (by omega)
  have e2:IntKind.i64.wrap (r*1000000000+limb a m)=r*1000000000+limb a m:=wrap_i64 (by omega)
  have x0:0≤(r*1000000000+limb a m) / d:=Int.ediv_nonneg t0 (by omega)
  have x1:(r*1000000000+limb a m) / d<1000000000:=Int.ediv_lt_of_lt_mul hd.1 t1
  have e3:IntKind.i64.wrap ((r*1000000000+limb a m).tdiv d)=(r*1000000000+limb a m) / d:=by rw [Int.tdiv_eq_ediv_of_nonneg t0]; exact wrap_i64 (by omega)
  have e4:(r*1000000000+limb a m).tmod d=(r*1000000000+limb a m) % d:=Int.tmod_eq_emod_of_nonneg t0
  have e5:IntKind.i64.wrap ((m:Int)-1)=(m:Int)-1:=wrap_i64 (by omega)
  have y0:=Int.emod_nonneg (r*1000000000+limb a m) (show d≠0 by omega)
  have y1:=Int.emod_lt_of_pos (r*1000000000+limb a m) hd.1
  have hdm:=Int.mul_ediv_add_emod (r*1000000000+limb a m) d
  have hd0:d≠0:=by omega
  refine⟨_,a1,(by omega:(0:Int)≤(m:Int)),(by omega:(m:Int)<(s.n:Int)),limb a m,by rw [← ea]; exact l1,hd0,⟨by omega,(by omega:(m:Int)<((a.length:Nat):Int))⟩,?_,hd0,_,rfl,?_⟩
  ·show(m:Int).toNat*1+1≤(o.map cellI).length
   rw [List.length_map]; omega
  rw [e1,e2,e3,e4,e5]
  refine⟨((a.length,(o.set m ((r*1000000000+limb a m) / d,())).map cellI),(r*1000000000+limb a m) % d,(m:Int)-1,()),?_,⟨rfl,m,_,rfl,by omega,y0,y1,rfl,rfl,by rw [List.length_set]; exact hol,lims_set hlo (by omega) ⟨x0,x1⟩,fun j hj=>?_,?_⟩,?_⟩
  ·show [LV.a 3 a.length (setl (o.map cellI) ((m:Int).toNat*1) [_]),_,_]=_
   rw [show(m:Int).toNat*1=m by omega,setl_cell (by omega)]
   rfl
  ·rw [limb_set (by omega),if_neg (by omega)]
   exact hz j (by omega)
  ·exact quot_step (by omega) (hz m (by omega)) hv (by rw [Int.mul_comm ((r*1000000000+limb a m) / d) d]; exact hdm.symm)
  ·show((m:Int)-1+1).toNat<((m:Int)+1).toNat
   omega
 ·have hlt':¬ i≥0:=of_decide_eq_false hlt
  have hk0:k=0:=by omega
  subst hk0
  intro bk cap spare hbk hcap _
  have hcap':a.length≤cap:=hcap
  have hk:=newI (V:=V') (b:=bk) (cap:=cap) (o:=o) (spare:=spare) (t:=3) hbk (by omega) (by omega)
  have hle:=kset_le (x:=(o.map cellI++spare,((3:TypeId),((0,0):Nat × Nat)))) hbk
  obtain⟨hcan,hval⟩:=trim_can hlo
  have key:=cS_l02Trim _ _ _ _ hk.1
  rw [hol] at key
  refine key.mono ?_
  rintro V2 r2 ⟨rfl,s2,rfl,-,hL⟩
  refine⟨nofun,s2,rfl,hle,s2,_,r,_,rfl,hL,hk.2,hcan,?_,hr0,hr1,?_⟩
  ·rw [hval]
   simp [valTo] at hv
   omega
  ·have:=tl_le o o.length
   unfold trimL
   rw [List.length_take]
   omega
abbrev OfPost (V:Know) (x:Int):Know→Value→Prop:=fun V' r=>V.le V'∧∃ s o f,r=Sc.val .l s∧LR rI V' s o f∧Own V V' f∧Can o∧valN o=x∧o.length≤3
theorem cI_natOf (V:Know) (x:Int) (hx:0≤x∧x≤9223372036854775807) :
  CallX Tryz.prog V 184 [.int .u64 x] (OfPost V x):=by
 refine CallX.of_fits Tryz.mix (fI_natOf _) fun _=>?_
 simp only [tI_natOf,T.wp]
 refine⟨fun y V'=>V'=V∧∃ (k:Nat) (o:List Lim),y.2.1.1=k∧y.2.1.2=o.map cellI∧o.length=k∧Lims o∧0≤(y.1:Int)∧(y.1:Int)≤9223372036854775807∧valN o+(y.1:Int)*1000000000 ^ k=x∧(0<(y.1:Int)∨k=0∨limb o (k-1)≠0),
  fun y=>(y.1:Int).toNat,⟨(x,(0,[]),()),rfl,rfl,0,[],rfl,rfl,rfl,lims_nil,hx.1,hx.2,by simp [valN,valTo],.inr (.inl rfl)⟩,?_⟩
 rintro⟨(n:Int),⟨n1,ys⟩,u⟩ V' ⟨rfl,k,o,hn1,hys,hol,hlo,h0,h1,hv,htop⟩
 replace h0:0≤n:=h0
 replace h1:n≤9223372036854775807:=h1
 replace hn1:n1=k:=hn1
 replace hys:ys=o.map cellI:=hys
 replace hv:valN o+n*1000000000 ^ k=x:=hv
 replace htop:0<n∨k=0∨limb o (k-1)≠0:=htop
 subst hn1 hys
 have hk3:n1≤3:=by
  by_cases e:n1≤3
  ·exact e
  ·exfalso
   have hp:=pw_mono (show 4≤n1 by omega)
   have hnn:=valN_nonneg hlo
   rcases htop with ht | ht | ht
   ·have:=mul_pw_le (show 1≤n by omega) n1
    omega
   ·omega
   ·have hc:Can o:=⟨hlo,.inr (by rw [hol]; exact ht)⟩
    have h2:=can_ge hc (by omega)
    have h3:=pw_mono (show 3≤o.length-1 by omega)
    have h4:=mul_pw_nonneg h0 n1
    omega
 refine⟨fun hgt=>?_,fun hle0=>?_⟩
 ·have hpos:n > 0:=of_decide_eq_true hgt
  have e1:n.tmod 1000000000=n % 1000000000:=Int.tmod_eq_emod_of_nonneg h0
  have e2:IntKind.u64.wrap (n.tdiv 1000000000)=n / 1000000000:=by rw [Int.tdiv_eq_ediv_of_nonneg h0]; exact wrap_u64 (by omega)
  have e3:IntKind.i64.wrap (n % 1000000000)=n % 1000000000:=wrap_i64 (by omega)
  have hB:(1000000000:Int)≠0:=by decide
  refine⟨hB,rfl,⟨rfl,(by omega:(n1+1)*8≤140737488355328),(by omega:n1+1≤9223372036854775807)⟩,hB,_,rfl,?_⟩
  show ∃ y',[_,LV.a 3 (n1+1) (o.map cellI++[.int .i64 (IntKind.i64.wrap (n.tmod 1000000000))])]=_∧_
  rw [e1,e2,e3]
  refine⟨(n / 1000000000,(n1+1,(o++[(n % 1000000000,())]).map cellI),()),by simp [LShs.lvs,LSh.lv,Sh1.val,Sc.val,cellI],⟨rfl,n1+1,o++[(n % 1000000000,())],rfl,rfl,by simp [hol],lims_snoc hlo ⟨(by omega:(0:Int)≤n % 1000000000),(by omega:n % 1000000000<1000000000)⟩,(by omega:(0:Int)≤n / 1000000000),(by omega:n / 1000000000≤9223372036854775807),?_,?_⟩,?_⟩
  ·show valN (o++[(n % 1000000000,())])+n / 1000000000*1000000000 ^ (n1+1)=x
   have hdm:n=n % 1000000000+1000000000*(n / 1000000000):=by omega
   have e:n*1000000000 ^ n1=(n % 1000000000+1000000000*(n / 1000000000))*1000000000 ^ n1:=by rw [← hdm]
   rw [valN_app,hol,valN_one,pw_succ]
   grind
  ·show 0<n / 1000000000∨n1+1=0∨limb (o++[(n % 1000000000,())]) (n1+1-1)≠0
   by_cases hd:0<n / 1000000000
   ·exact .inl hd
   ·right; right
    rw [show n1+1-1=o.length by omega,limb_snoc]
    show n % 1000000000≠0
    omega
  ·show(n / 1000000000).toNat<n.toNat
   omega
 ·have hz:¬ n > 0:=of_decide_eq_false hle0
  have hn0:n=0:=by omega
  subst hn0
  intro bk cap spare hbk hcap _
  have hcap':n1≤cap:=hcap
  have hk:=newI (V:=V') (b:=bk) (cap:=cap) (o:=o) (spare:=spare) (t:=3) hbk (by omega) (by omega)
  have hle:=kset_le (x:=(o.map cellI++spare,((3:TypeId),((0,0):Nat × Nat)))) hbk
  refine⟨hle,⟨some ⟨bk,0,none⟩,n1,cap⟩,o,[bk],rfl,by rw [← hol]; exact hk.1,hk.2,⟨hlo,?_⟩,by simpa using hv,by omega⟩
  rw [hol]
  rcases htop with ht | ht | ht
  ·omega
  ·exact .inl ht
  ·exact .inr ht
theorem cS_NatOf (V:Know) (x:Int) (hx:0≤x∧x≤9223372036854775807) :
  CallX Tryz.prog V 69 [.int .i64 x] (OfPost V x):=by
 refine CallX.of_fits Tryz.mix (fS_NatOf _) fun _=>?_
 simp only [tS_NatOf,T.wp]
 refine⟨fun y V'=>V'=V∧∃ (k:Nat) (o:List Lim),y.2.1.1=k∧y.2.1.2=o.map cellI∧o.length=k∧Lims o∧0≤(y.1:Int)∧(y.1:Int)≤9223372036854775807∧valN o+(y.1:Int)*1000000000 ^ k=x∧(0<(y.1:Int)∨k=0∨limb o (k-1)≠0),
  fun y=>(y.1:Int).toNat,⟨(x,(0,[]),()),rfl,rfl,0,[],rfl,rfl,rfl,lims_nil,hx.1,hx.2,by simp [valN,valTo],.inr (.inl rfl)⟩,?_⟩
 rintro⟨(n:Int),⟨n1,ys⟩,u⟩ V' ⟨rfl,k,o,hn1,hys,hol,hlo,h0,h1,hv,htop⟩
 replace h0:0≤n:=h0
 replace h1:n≤9223372036854775807:=h1
 replace hn1:n1=k:=hn1
 replace hys:ys=o.map cellI:=hys
 replace hv:valN o+n*1000000000 ^ k=x:=hv
 replace htop:0<n∨k=0∨limb o (k-1)≠0:=htop
 subst hn1 hys
 have hk3:n1≤3:=by
  by_cases e:n1≤3
  ·exact e
  ·exfalso
   have hp:=pw_mono (show 4≤n1 by omega)
   have hnn:=valN_nonneg hlo
   rcases htop with ht | ht | ht
   ·have:=mul_pw_le (show 1≤n by omega) n1
    omega
   ·omega
   ·have hc:Can o:=⟨hlo,.inr (by rw [hol]; exact ht)⟩
    have h2:=can_ge hc (by omega)
    have h3:=pw_mono (show 3≤o.length-1 by omega)
    have h4:=mul_pw_nonneg h0 n1
    omega
 refine⟨fun hgt=>?_,fun hle0=>?_⟩
 ·have hpos:n > 0:=of_decide_eq_true hgt
  have e1:n.tmod 1000000000=n % 1000000000:=Int.tmod_eq_emod_of_nonneg h0
  have e2:IntKind.i64.wrap (n.tdiv 1000000000)=n / 1000000000:=by rw [Int.tdiv_eq_ediv_of_nonneg h0]; exact wrap_i64 (by omega)
  have e3:IntKind.i64.wrap (n % 1000000000)=n % 1000000000:=wrap_i64 (by omega)
  have hB:(1000000000:Int)≠0:=by decide
  refine⟨hB,rfl,⟨rfl,(by omega:(n1+1)*8≤140737488355328),(by omega:n1+1≤9223372036854775807)⟩,hB,_,rfl,?_⟩
  show ∃ y',[_,LV.a 3 (n1+1) (o.map cellI++[.int .i64 (n.tmod 1000000000)])]=_∧_
  rw [e1,e2]
  refine⟨(n / 1000000000,(n1+1,(o++[(n % 1000000000,())]).map cellI),()),by simp [LShs.lvs,LSh.lv,Sh1.val,Sc.val,cellI],⟨rfl,n1+1,o++[(n % 1000000000,())],rfl,rfl,by simp [hol],lims_snoc hlo ⟨(by omega:(0:Int)≤n % 1000000000),(by omega:n % 1000000000<1000000000)⟩,(by omega:(0:Int)≤n / 1000000000),(by omega:n / 1000000000≤9223372036854775807),?_,?_⟩,?_⟩
  ·show valN (o++[(n % 1000000000,())])+n / 1000000000*1000000000 ^ (n1+1)=x
   have hdm:n=n % 1000000000+1000000000*(n / 1000000000):=by omega
   have e:n*1000000000 ^ n1=(n % 1000000000+1000000000*(n / 1000000000))*1000000000 ^ n1:=by rw [← hdm]
   rw [valN_app,hol,valN_one,pw_succ]
   grind
  ·show 0<n / 1000000000∨n1+1=0∨limb (o++[(n % 1000000000,())]) (n1+1-1)≠0
   by_cases hd:0<n / 1000000000
   ·exact .inl hd
   ·right; right
    rw [show n1+1-1=o.length by omega,limb_snoc]
    show n % 1000000000≠0
    omega
  ·show(n / 1000000000).toNat<n.toNat
   omega
 ·have hz:¬ n > 0:=of_decide_eq_false hle0
  have hn0:n=0:=by omega
  subst hn0
  intro bk cap spare hbk hcap _
  have hcap':n1≤cap:=hcap
  have hk:=newI (V:=V') (b:=bk) (cap:=cap) (o:=o) (spare:=spare) (t:=3) hbk (by omega) (by omega)
  have hle:=kset_le (x:=(o.map cellI++spare,((3:TypeId),((0,0):Nat × Nat)))) hbk
  refine⟨hle,⟨some ⟨bk,0,none⟩,n1,cap⟩,o,[bk],rfl,by rw [← hol]; exact hk.1,hk.2,⟨hlo,?_⟩,by simpa using hv,by omega⟩
  rw [hol]
  rcases htop with ht | ht | ht
  ·omega
  ·exact .inl ht
  ·exact .inr ht
theorem cI_NatOf (V:Know) (x:Int) (hx:0≤x∧x≤9223372036854775807):CallX Tryz.prog V 200 [.int .i64 x] (OfPost V x):=by
 refine CallX.of_fits Tryz.mix (fI_NatOf _) fun _=>?_
 simp only [tI_NatOf,T.wp,wrap_u64 hx]
 refine⟨fun hneg=>?_,fun _=>(cI_natOf V x hx).mono ?_⟩
 ·have:x<0:=of_decide_eq_true hneg
  omega
 rintro V1 r ⟨hle,s,o,f,rfl,h1,h2,h3⟩
 exact⟨nofun,s,rfl,hle,s,o,f,rfl,h1,h2,h3⟩
end Go.Proofs.YtpdfdkccgkieoaaGreatDoor
