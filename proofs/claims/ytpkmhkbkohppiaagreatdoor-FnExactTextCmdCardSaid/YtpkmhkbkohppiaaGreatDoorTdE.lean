/-
  A command read from its text: the walk in the reference.
-/
import Derived.Test.YtpkmhkbkohppiaaGreatDoorTdC
namespace Go.Proofs.YtpkmhkbkohppiaaGreatDoor
open Sx Go.RowKit
set_option maxRecDepth 100000
theorem lens_cutA (c:UInt8):∀ (p l:List UInt8),((cutA c p l).map List.length).sum+(cutA c p l).length=p.length+l.length+1
 | p,[]=>by simp [cutA]
 | p,b :: l=>by
  rw [cutA]
  split
  ·rw [List.map_cons,List.sum_cons,List.length_cons]
   have:=lens_cutA c [] l
   simp only [List.length_nil,List.length_cons] at this ⊢
   omega
  ·have:=lens_cutA c (p++[b]) l
   simp only [List.length_append,List.length_cons,List.length_nil] at this ⊢
   omega
theorem sumT_cut (c:UInt8) (s:ByteArray):sumT (cutB c s)+(cutB c s).length=s.size+1:=by
 have:=lens_cutA c [] (bl s)
 rw [bl_len] at this
 have e:sumT (cutB c s)=((cutA c [] (bl s)).map List.length).sum:=by
  unfold sumT bytesL cutB Go.Lib.lens
  rw [List.map_map,List.map_map]
  congr 1
 rw [e]
 have e2:(cutB c s).length=(cutA c [] (bl s)).length:=by unfold cutB; rw [List.length_map]
 rw [e2]
 simpa using this
theorem sumT_app:∀ (a b:List Tx),sumT (a++b)=sumT a+sumT b
 | [],b=>by rw [sumT_nil,List.nil_append]; omega
 | x :: a,b=>by
  have:=sumT_app a b
  rw [List.cons_append,sumT_cons,sumT_cons]
  omega
theorem reads_size {s w0:ByteArray} {op:Int} {done todo:List Lim} {x:DCmd} {left:List Tx} (h:Reads s w0 op done todo x left):sumT left+left.length≤s.size:=by
 have k:=sumT_cut 32 s
 rw [h.2.2.1,sumT_cons,sumT_app,List.length_cons,List.length_append] at k
 omega
theorem join_size {left:List Tx} {n k:Nat} (h:sumT left+left.length≤n):(joinT (left.take k) (⟨⟨[32]⟩⟩:ByteArray)).size≤n:=by
 have h1:=joinT_size (left.take k) (⟨⟨[32]⟩⟩:ByteArray)
 have h2:=sumT_take left k
 have h3:(⟨⟨[32]⟩⟩:ByteArray).size=1:=rfl
 rw [h3,List.length_take] at h1
 omega
abbrev CmRd (V:Know) (s:ByteArray):Know→Value→Prop:=fun V' r=>V.le V'∧∃ c x f ok,r=.tuple #[qv3 c,.bool ok]∧rCmd.R V' c x f∧Own V V' f∧RdCmd s x ok
theorem cm_none {V:Know}:rCmd.R V (0,noT,noT,noT,noT,noT,false,⟨none,0,0⟩,0,⟨none,0,0⟩,⟨none,0,0⟩,false,⟨none,0,0⟩,0,noT,noT,false,⟨none,0,0⟩,0,()) (zeroCm 0) [] :=
 ⟨rfl,⟨rfl,by decide⟩,⟨rfl,by decide⟩,⟨rfl,by decide⟩,⟨rfl,by decide⟩,⟨rfl,by decide⟩,rfl,[],[],rfl,lr_none,rfl,[],[],rfl,txt_none,[],[],rfl,lr_none,rfl,[],[],rfl,lr_none,rfl,⟨rfl,by decide⟩,⟨rfl,by decide⟩,rfl,[],[],rfl,lr_none,rfl,rfl⟩
theorem cm_no {V V':Know} {s:ByteArray} (le:V.le V') (h:RdCmd s (zeroCm 0) false):CmRd V s V' (packed [qv3 (0,noT,noT,noT,noT,noT,false,⟨none,0,0⟩,0,⟨none,0,0⟩,⟨none,0,0⟩,false,⟨none,0,0⟩,0,noT,noT,false,⟨none,0,0⟩,0,()),.bool false]) :=
 ⟨le,_,_,[],false,rfl,cm_none,Own.nil,h⟩
theorem Box.open {V0 V:Know} {b:Nat} {x:DCmd} (h:Box V0 V b x):∃ (c:Scs cmdSh) (f:List Nat) (u:TypeId),V b=some (Scs.vals cmdSh c,(u,(0,0)))∧rCmd.R V c x f∧Own V0 V f:=by
 obtain⟨op,c1,c2,c3,c4,c5,c6,m7,c8,m9,m10,c11,m12,c13,c14,c15,c16,m17,c18,un⟩:=x
 obtain⟨h0,hb0,s7,s9,s10,s12,s17,f7,f9,f10,f12,f17,u,hb,⟨z1,z2,z3,z4,z5,z6,z7⟩,L7,L9,L10,L12,L17,n7,n9,n10,n12,n17,hO⟩:=h
 have w:∀ {n:Nat},n≤1048576→n≤9223372036854775807:=fun h=>Nat.le_trans h (by decide)
 refine⟨_,[f7,f9,f10,f12,f17].flatten,u,hb,⟨rfl,⟨rfl,w z1⟩,⟨rfl,w z2⟩,⟨rfl,w z3⟩,⟨rfl,w z4⟩,⟨rfl,w z5⟩,rfl,f7,_,rfl,L7,rfl,f9,_,rfl,L9,f10,_,rfl,L10,rfl,f12,_,rfl,L12,rfl,⟨rfl,w z6⟩,⟨rfl,w z7⟩,rfl,f17,[],rfl,L17,rfl,rfl⟩,hO.1,fun k hk=>?_,hO.2.1⟩
 obtain⟨l,hl,hq⟩:=List.mem_flatten.1 hk
 simp only [List.mem_cons,List.not_mem_nil,or_false] at hl
 rcases hl with rfl | rfl | rfl | rfl | rfl
 ·exact(n7 k hq).1
 ·exact(n9 k hq).1
 ·exact(n10 k hq).1
 ·exact(n12 k hq).1
 ·exact(n17 k hq).1
theorem field_range {op:Int} {k:Nat} (h:k<(fieldsL op).length):0≤(fieldsL op)[k].1∧(fieldsL op)[k].1≤8:=by
 obtain⟨j,hj,e⟩:=mem_fields (op:=op) (f:=(fieldsL op)[k].1) (List.getElem_mem h)
 omega
theorem fields_nodup (op:Int):(fieldsL op).Nodup:=by
 by_cases h:1≤op∧op≤9
 ·have:op=1∨op=2∨op=3∨op=4∨op=5∨op=6∨op=7∨op=8∨op=9:=by omega
  rcases this with rfl | rfl | rfl | rfl | rfl | rfl | rfl | rfl | rfl <;> decide
 ·have e:fieldsL op=[]:=List.eq_nil_of_length_eq_zero (by have:=(fields_mem op).1; omega)
  rw [e]; exact List.nodup_nil
theorem cI_TextCmd {V:Know} (hV:HtI V) (hE:hasSR V) (s:ByteArray) (hs:s.size≤1048576):CallX Tryz.prog V 5 [.string s] (CmRd V s):=by
 refine CallX.of_fits Tryz.mix (fI_TextCmd _) fun _=>?_
 simp only [tI_TextCmd,T.wp]
 refine(cI_Cut V s hs).mono ?_
 rintro V1 _ ⟨le1,t,f,rfl,L,_⟩
 have hn:=L.1
 have hp:=cutB_pos 32 s
 obtain⟨⟨b0,o0,a0,ld0⟩,_⟩:=L.txt hp
 refine⟨nofun,t,rfl,_,a0,by decide,(by omega:(0:Int)<(t.n:Int)),_,ld0,(cI_NameOp V1 _).mono ?_⟩
 rintro V2 _ ⟨le2,op,rfl,ho⟩
 have hc:=L.2.1
 refine⟨nofun,op,rfl,⟨by decide,by omega,by omega,by omega⟩,(cI_fieldsOf V2 op).mono ?_⟩
 rintro V3 _ ⟨le3,sf,ff,rfl,LF,_⟩
 refine⟨nofun,sf,rfl,fun b hb=>?_⟩
 have hk:=kset_le (x:=(Scs.vals cmdSh (op,noT,noT,noT,noT,noT,false,⟨none,0,0⟩,0,⟨none,0,0⟩,⟨none,0,0⟩,false,⟨none,0,0⟩,0,noT,noT,false,⟨none,0,0⟩,0,()),(33,(0,0)))) hb
 have hB:Box V3 (kset V3 b (Scs.vals cmdSh (op,noT,noT,noT,noT,noT,false,⟨none,0,0⟩,0,⟨none,0,0⟩,⟨none,0,0⟩,false,⟨none,0,0⟩,0,noT,noT,false,⟨none,0,0⟩,0,()),(33,(0,0)))) b (zeroCm op) :=
  ⟨hk,hb,⟨none,0,0⟩,⟨none,0,0⟩,⟨none,0,0⟩,⟨none,0,0⟩,⟨none,0,0⟩,[],[],[],[],[],_,kset_same,⟨by decide,by decide,by decide,by decide,by decide,by decide,by decide⟩,lr_none,txt_none,lr_none,lr_none,lr_none,(fun _ h=>by cases h),(fun _ h=>by cases h),(fun _ h=>by cases h),(fun _ h=>by cases h),(fun _ h=>by cases h),List.nodup_nil,(fun _ h=>by cases h),(fun h=>by cases h)⟩
 have l3:=(le1.trans le2).trans le3
 obtain⟨t',f',et,L'⟩:=(L.le (le2.trans le3)).dropS (k:=1) (by decide) (by omega)
 have hcut:cutB 32 s=((cutB 32 s)[0].1,()) :: (cutB 32 s).drop (1:Int).toNat:=by
  show cutB 32 s=(cutB 32 s)[0] :: (cutB 32 s).drop 1
  rw [← List.drop_eq_getElem_cons hp,List.drop_zero]
 have hst:=reads_start hcut ho
 have hfn:=LF.1
 have h6:=fields_len op
 refine⟨fun y V'=>∃ (k:Nat) (x:DCmd) (left:List Tx) (g:List Nat),y.2.1=(k:Int)∧k≤(fieldsL op).length∧Box V3 V' b x∧LR rString V3 y.1 left g∧Reads s (cutB 32 s)[0].1 op ((fieldsL op).take k) ((fieldsL op).drop k) x left,
  fun y _=>(((fieldsL op).length:Int)-(y.2.1:Int)).toNat,⟨(t',(0:Int),()),?_,0,zeroCm op,_,f',rfl,Nat.zero_le _,hB,L',hst⟩,?_⟩
 ·rw [et]; rfl
 rintro⟨(tw:SlV),(i:Int),u⟩ V' ⟨k,x,left,g,e1,hkl,hBx,LW,hR⟩
 replace e1:i=(k:Int):=e1
 replace LW:LR rString V3 tw left g:=LW
 subst e1
 have le3':V3.le V':=by
  obtain⟨op',c1,c2,c3,c4,c5,c6,m7,c8,m9,m10,c11,m12,c13,c14,c15,c16,m17,c18,un⟩:=x
  exact hBx.1
 have hz:=reads_size hR
 have hwn:=LW.1
 have hwc:=LW.2.1
 refine⟨fun hlt=>?_,fun hge=>?_⟩
 ·have h1:k<(fieldsL op).length:=by
   have:(k:Int)<(sf.n:Int):=of_decide_eq_true hlt
   omega
  have hfr:=field_range h1
  have hmem:((fieldsL op)[k].1,())∈fieldsL op:=List.getElem_mem h1
  obtain⟨b1,o1,a1,l1⟩:=(LF.le le3').int h1
  have hdr:(fieldsL op).drop k=((fieldsL op)[k].1,()) :: (fieldsL op).drop (k+1):=List.drop_eq_getElem_cons h1
  rw [hdr] at hR
  refine⟨_,a1,(by omega:(0:Int)≤(k:Int)),(by omega:(k:Int)<(sf.n:Int)),(fieldsL op)[k].1,l1,(cI_wordsOf V' _).mono ?_⟩
  rintro V4 _ ⟨rfl,rfl⟩
  refine⟨nofun,_,rfl,fun hlow=>cm_no (l3.trans le3') (reads_fail hR hfr hmem fun hh=>?_),fun hen=>?_⟩
  ·have:(tw.n:Int)<(nw (fieldsL op)[k].1:Int):=of_decide_eq_true hlow
   omega
  have hnw:nw (fieldsL op)[k].1≤left.length:=by
   have:¬ (tw.n:Int)<(nw (fieldsL op)[k].1:Int):=of_decide_eq_false hen
   omega
  obtain⟨t2,f2,et2,L2⟩:=(LW.le le3').takeS (k:=(nw (fieldsL op)[k].1:Int)) (by omega) (by omega)
  have hn3:nw (fieldsL op)[k].1≤3:=by unfold nw; split; decide; split <;> decide
  have hj:=join_size (k:=nw (fieldsL op)[k].1) hz
  rw [Int.toNat_natCast] at L2
  have q1:((nw (fieldsL op)[k].1:Nat):Int)≤(tw.c:Int):=by omega
  have q2:((nw (fieldsL op)[k].1:Nat):Int)≤(tw.n:Int):=by omega
  have q3:(tw.n:Int)≤(tw.c:Int):=by omega
  refine⟨⟨Int.le_refl _,Int.natCast_nonneg _,q1,Int.le_refl _⟩,?_⟩
  rw [et2]
  refine(cI_Join V4 t2 _ f2 (⟨⟨[32]⟩⟩:ByteArray) L2 ?_ ?_).mono ?_
  ·have h2:=sumT_take left (nw (fieldsL op)[k].1)
   have h3:(⟨⟨[32]⟩⟩:ByteArray).size=1:=rfl
   rw [h3,List.length_take]
   omega
  ·rw [List.length_take]; omega
  rintro V5 _ ⟨rfl,rfl⟩
  refine⟨nofun,_,rfl,(cI_fld (hV.le (l3.trans le3')) (hE.le (l3.trans le3')) hBx _ (by omega) hfr).mono ?_⟩
  rintro V6 _ ⟨ok,x',rfl,hBx',hx',ha,hk',hu⟩
  have le6:V3.le V6:=by
   obtain⟨op',c1,c2,c3,c4,c5,c6,m7,c8,m9,m10,c11,m12,c13,c14,c15,c16,m17,c18,un⟩:=x'
   exact hBx'.1
  refine⟨nofun,ok,rfl,fun hno=>cm_no (l3.trans le6) (reads_fail hR hfr hmem fun _ y hy ey=>?_),fun hyes=>?_⟩
  ·have:=(hu y hy ey).1
   rw [this] at hno
   cases hno
  have hok:ok=true:=by simpa using hyes
  obtain⟨t3,f3,et3,L3⟩:=LW.dropS (k:=(nw (fieldsL op)[k].1:Int)) (by omega) (by omega)
  rw [Int.toNat_natCast] at L3
  refine⟨⟨Int.natCast_nonneg _,q2,q3,Int.le_refl _⟩,?_⟩
  rw [et3]
  refine⟨_,rfl,(t3,((k+1:Nat):Int),()),by rw [nxt h1 (by omega)]; rfl,⟨k+1,x',_,f3,rfl,h1,hBx',L3,?_⟩,?_⟩
  ·have e2:(fieldsL op).take (k+1)=(fieldsL op).take k++[((fieldsL op)[k].1,())]:=List.take_succ_eq_append_getElem h1
   rw [e2]
   refine reads_step hR hfr hmem (fun hm=>?_) (fun q hq=>?_) hnw hx' ha (hk' hok) fun y hy ey=>(hu y hy ey).2
   ·have hnd:=fields_nodup op
    rw [← List.take_append_drop k (fieldsL op),hdr] at hnd
    exact(List.nodup_append.1 hnd).2.2 _ hm _ (List.mem_cons_self) rfl
   ·obtain⟨j,hj,e⟩:=mem_fields (op:=op) (f:=q.1) (List.mem_of_mem_take hq)
    omega
  ·show(((fieldsL op).length:Int)-((k+1:Nat):Int)).toNat<(((fieldsL op).length:Int)-(k:Int)).toNat
   omega
 ·have h1:k=(fieldsL op).length:=by
   have:¬ (k:Int)<(sf.n:Int):=of_decide_eq_false hge
   omega
  subst h1
  rw [List.take_length,List.drop_length] at hR
  obtain⟨hy,hn0⟩:=reads_end hR ho
  obtain⟨c,fc,uc,hbc,hRc,hOc⟩:=hBx.open
  refine⟨fun h0=>cm_no (l3.trans le3') (hn0 (.inl fun e=>?_)),fun h0=>⟨c,ld_at (k:=0) (n:=19) hbc rfl,(cI_CmdOk (hV.le (l3.trans le3')).c c x fc hRc).mono ?_⟩⟩
  ·have:(tw.n:Int) > 0:=of_decide_eq_true h0
   rw [e] at hwn
   simp at hwn
   omega
  have hl0:left=[]:=by
   have:¬ (tw.n:Int) > 0:=of_decide_eq_false h0
   exact List.eq_nil_of_length_eq_zero (by omega)
  rintro V7 _ ⟨le7,e,rfl,he⟩
  refine⟨nofun,e,rfl,fun hf=>cm_no ((l3.trans le3').trans le7) (hn0 (.inr (bf he hf))),fun ht=>?_⟩
  exact⟨c,ld_at (k:=0) (n:=19) (le7 _ _ hbc) rfl,(l3.trans le3').trans le7,c,x,fc,true,rfl,rCmd.le hRc le7,(hOc.pre l3).post le7,hy hl0 (bt he ht)⟩
end Go.Proofs.YtpkmhkbkohppiaaGreatDoor
namespace Go.Proofs.YtpkmhkbkohppiaaGreatDoor
open Sx Go.RowKit
set_option maxRecDepth 100000
theorem totE_snocT {sh:List Sc} {α:Type} (r:Rp sh α):∀ (l:List α) (x:α),totE r (l++[x])=totE r l+r.tot x
 | [],x=>by simp [totE]
 | y :: l,x=>by
  have:=totE_snocT r l x
  rw [List.cons_append,totE,totE,this]
  omega
theorem hd_size {left:List Tx} {n:Nat} (h:sumT left+left.length≤n):(hd left).size≤n:=by
 cases left with
 | nil=>exact Nat.zero_le _
 | cons a r =>
  rw [sumT_cons] at h
  show a.1.size≤n
  omega
theorem tail_size {left:List Tx} {n:Nat} (h:sumT left+left.length≤n):sumT left.tail+left.tail.length≤n:=by
 cases left with
 | nil=>exact h
 | cons a r =>
  rw [sumT_cons,List.length_cons] at h
  show sumT r+r.length≤n
  omega
theorem hd2_size {left:List Tx} {n:Nat} (h:sumT left+left.length≤n) (hn:1≤n):(hd left++(⟨⟨[32]⟩⟩:ByteArray)++hd left.tail).size≤n:=by
 have e:(⟨⟨[32]⟩⟩:ByteArray).size=1:=rfl
 have e0:(hd []).size=0:=rfl
 rw [ByteArray.size_append,ByteArray.size_append,e]
 cases left with
 | nil=>rw [e0]; show 0+1+(hd []).size≤n; rw [e0]; omega
 | cons a r =>
  rw [sumT_cons,List.length_cons] at h
  show a.1.size+1+(hd r).size≤n
  cases r with
  | nil=>rw [e0]; omega
  | cons b r =>
   rw [sumT_cons,List.length_cons] at h
   show a.1.size+1+b.1.size≤n
   omega
theorem part_one {s:ByteArray} {f k k':Int} {x x':DCmd} {left:List Tx} (hf:0≤f∧f≤8) (hk:k=stg f) (hk':k'=stg f+1) (h1:nw f=1) (h:Part s k x left) (hx:x'.1=x.1) (ha:∀ j:Int,j≠f→0≤j→j<9→Agr x' x j)
  (hu:∀ y:DCmd,FOk y f→fieldT y f=hd left→Agr x' y f) (h8:x.1≠9) (hm:(f,())∈fieldsL x.1∨¬ (1≤x.1∧x.1≤9)):Part s k' x' left.tail:=by
 subst hk hk'
 rcases hm with hm | hm
 ·have e:left.tail=left.drop (nw f):=by rw [h1,List.drop_one]
  rw [e]
  refine part_step hf hm h hx ha (fun y hy ey=>hu y hy ?_) h8
  rw [h1] at ey
  exact(take_one ey).symm
 ·have hp:=stg_pos hf.1
  refine⟨fun j h0 h9 hj=>?_,fun y hy ey=>?_⟩
  ·rw [hx]
   exact agr_trans (ha j (fun e=>by rw [e] at hj; omega) h0 h9) (h.1 j h0 h9 (by omega))
  ·have:=(h.2 y hy ey).1
   exact absurd (this ▸ cmd_op hy) hm
theorem part_pass {s:ByteArray} {f k k':Int} {x:DCmd} {left:List Tx} (hf:0≤f∧f≤8) (hk:k=stg f) (hk':k'=stg f+1) (hm:(f,()) ∉ fieldsL x.1) (h:Part s k x left):Part s k' x left:=by
 subst hk hk'
 exact part_skip hf hm h
abbrev CmT:Type:=qy3
def RefC (s:ByteArray) (op0 k:Int) (left:List Tx) (V:Know):CmT→Prop
 | (op,c1,c2,c3,c4,c5,c6,s7,c8,s9,s10,c11,s12,c13,c14,c15,c16,s17,c18,_)=>op=op0∧(c1.size≤1048576∧c2.size≤1048576∧c3.size≤1048576∧c4.size≤1048576∧c5.size≤1048576∧c14.size≤1048576∧c15.size≤1048576) ∧
  ∃ (m7:List Lim) (m9:List Tx) (m10 m12 m17:List Lim) (f7 f9 f10 f12 f17:List Nat),(LR rI V s7 m7 f7∧LR rString V s9 m9 f9∧LR rI V s10 m10 f10∧LR rI V s12 m12 f12∧LR rI V s17 m17 f17) ∧
   (m7.length≤2097152∧m9.length≤2097152∧totE rString m9≤2097152∧m10.length≤2097152∧m12.length≤2097152∧m17.length≤2097152)∧(k≤6→s9=⟨none,0,0⟩∧s10=⟨none,0,0⟩)∧Part s k (op,c1,c2,c3,c4,c5,c6,m7,c8,m9,m10,c11,m12,c13,c14,c15,c16,m17,c18,()) left
def RefI (V0:Know) (s:ByteArray) (op0 k:Int) (y:SlV × CmT) (V:Know):Prop:=V0.le V∧∃ (left:List Tx) (fw:List Nat),LR rString V y.1 left fw∧sumT left+left.length≤s.size∧RefC s op0 k left V y.2
theorem ref_pass {s:ByteArray} {op0 f k k':Int} {left:List Tx} {V:Know} {y:CmT} (hf:0≤f∧f≤8) (hk:k=stg f) (hk':k'=stg f+1) (hm:(f,()) ∉ fieldsL op0) (h:RefC s op0 k left V y):RefC s op0 k' left V y:=by
 obtain⟨op,c1,c2,c3,c4,c5,c6,s7,c8,s9,s10,c11,s12,c13,c14,c15,c16,s17,c18,un⟩:=y
 obtain⟨rfl,⟨z1,z2,z3,z4,z5,z6,z7⟩,m7,m9,m10,m12,m17,f7,f9,f10,f12,f17,⟨L7,L9,L10,L12,L17⟩,⟨w7,w9,w9t,w10,w12,w17⟩,hN,hP⟩:=h
 exact⟨rfl,⟨z1,z2,z3,z4,z5,z6,z7⟩,m7,m9,m10,m12,m17,f7,f9,f10,f12,f17,⟨L7,L9,L10,L12,L17⟩,⟨w7,w9,w9t,w10,w12,w17⟩,(fun h6=>hN (by omega)),part_pass hf hk hk' hm hP⟩
theorem ref_open {s:ByteArray} {op0 k:Int} {left:List Tx} {V:Know} {y:CmT} (h:RefC s op0 k left V y):∃ (x:DCmd) (f:List Nat),rCmd.R V y x f∧rCmd.tot x≤33554432∧Part s k x left:=by
 obtain⟨op,c1,c2,c3,c4,c5,c6,s7,c8,s9,s10,c11,s12,c13,c14,c15,c16,s17,c18,un⟩:=y
 obtain⟨rfl,⟨z1,z2,z3,z4,z5,z6,z7⟩,m7,m9,m10,m12,m17,f7,f9,f10,f12,f17,⟨L7,L9,L10,L12,L17⟩,⟨w7,w9,w9t,w10,w12,w17⟩,hN,hP⟩:=h
 have w:∀ {n:Nat},n≤1048576→n≤9223372036854775807:=fun h=>Nat.le_trans h (by decide)
 refine⟨(op,c1,c2,c3,c4,c5,c6,m7,c8,m9,m10,c11,m12,c13,c14,c15,c16,m17,c18,()),[f7,f9,f10,f12,f17].flatten,⟨rfl,⟨rfl,w z1⟩,⟨rfl,w z2⟩,⟨rfl,w z3⟩,⟨rfl,w z4⟩,⟨rfl,w z5⟩,rfl,f7,_,rfl,L7,rfl,f9,_,rfl,L9,f10,_,rfl,L10,rfl,f12,_,rfl,L12,rfl,⟨rfl,w z6⟩,⟨rfl,w z7⟩,rfl,f17,[],rfl,L17,rfl,rfl⟩,?_,hP⟩
 show(c1.size+(c2.size+(c3.size+(c4.size+(c5.size+(m7.length+totE rI m7+(m9.length+totE rString m9+(m10.length+totE rI m10+(m12.length+totE rI m12+(c14.size+(c15.size+(m17.length+totE rI m17+0))))))))))))≤33554432
 rw [totE_rI,totE_rI,totE_rI,totE_rI]
 omega
theorem ref_start {s:ByteArray} {op:Int} {V:Know} (ho:OpGot (hd (cutB 32 s)) op):RefC s op 0 (cutB 32 s).tail V (op,noT,noT,noT,noT,noT,false,⟨none,0,0⟩,0,⟨none,0,0⟩,⟨none,0,0⟩,false,⟨none,0,0⟩,0,noT,noT,false,⟨none,0,0⟩,0,()) :=
 ⟨rfl,⟨by decide,by decide,by decide,by decide,by decide,by decide,by decide⟩,[],[],[],[],[],[],[],[],[],[],⟨lr_none,txt_none,lr_none,lr_none,lr_none⟩,⟨by decide,by decide,by decide,by decide,by decide,by decide⟩,(fun _=>⟨rfl,rfl⟩),part_start ho⟩
theorem ref_0 {s:ByteArray} {op0:Int} {left:List Tx} {V:Know} {op:Int} {c1 c2 c3 c4 c5:ByteArray} {c6:Bool} {s7:SlV} {c8:Int} {s9 s10:SlV} {c11:Bool} {s12:SlV} {c13:Int} {c14 c15:ByteArray} {c16:Bool} {s17:SlV} {c18:Int} {un:PUnit} (hs:s.size≤1048576) (hz:sumT left+left.length≤s.size) (h9:op0≠9) (hm:((0:Int),())∈fieldsL op0∨¬ (1≤op0∧op0≤9))
  (h:RefC s op0 1 left V (op,c1,c2,c3,c4,c5,c6,s7,c8,s9,s10,c11,s12,c13,c14,c15,c16,s17,c18,un)):RefC s op0 2 left.tail V (op,hd left,c2,c3,c4,c5,c6,s7,c8,s9,s10,c11,s12,c13,c14,c15,c16,s17,c18,()):=by
 obtain⟨rfl,⟨z1,z2,z3,z4,z5,z6,z7⟩,m7,m9,m10,m12,m17,f7,f9,f10,f12,f17,⟨L7,L9,L10,L12,L17⟩,⟨w7,w9,w9t,w10,w12,w17⟩,hN,hP⟩:=h
 refine⟨rfl,⟨Nat.le_trans (hd_size hz) hs,z2,z3,z4,z5,z6,z7⟩,m7,m9,m10,m12,m17,f7,f9,f10,f12,f17,⟨L7,L9,L10,L12,L17⟩,⟨w7,w9,w9t,w10,w12,w17⟩,(fun _=>hN (by decide)),?_⟩
 refine part_one (f:=0) (by decide) (by decide) (by decide) (by decide) hP rfl (fun j hj h1 h2=>?_) (fun y hy ey=>?_) h9 hm
 ·unfold Agr
  simp only [if_neg hj,and_self,ite_self]
 ·obtain⟨y0,y1,yr⟩:=y
  exact ey.symm
theorem ref_1 {s:ByteArray} {op0:Int} {left:List Tx} {V:Know} {op:Int} {c1 c2 c3 c4 c5:ByteArray} {c6:Bool} {s7:SlV} {c8:Int} {s9 s10:SlV} {c11:Bool} {s12:SlV} {c13:Int} {c14 c15:ByteArray} {c16:Bool} {s17:SlV} {c18:Int} {un:PUnit} (hs:s.size≤1048576) (hz:sumT left+left.length≤s.size) (h9:op0≠9) (hm:(1,())∈fieldsL op0)
  (h:RefC s op0 2 left V (op,c1,c2,c3,c4,c5,c6,s7,c8,s9,s10,c11,s12,c13,c14,c15,c16,s17,c18,un)):RefC s op0 3 left.tail V (op,c1,hd left,c3,c4,c5,c6,s7,c8,s9,s10,c11,s12,c13,c14,c15,c16,s17,c18,()):=by
 obtain⟨rfl,⟨z1,z2,z3,z4,z5,z6,z7⟩,m7,m9,m10,m12,m17,f7,f9,f10,f12,f17,⟨L7,L9,L10,L12,L17⟩,⟨w7,w9,w9t,w10,w12,w17⟩,hN,hP⟩:=h
 refine⟨rfl,⟨z1,Nat.le_trans (hd_size hz) hs,z3,z4,z5,z6,z7⟩,m7,m9,m10,m12,m17,f7,f9,f10,f12,f17,⟨L7,L9,L10,L12,L17⟩,⟨w7,w9,w9t,w10,w12,w17⟩,(fun _=>hN (by decide)),?_⟩
 refine part_one (f:=1) (by decide) (by decide) (by decide) (by decide) hP rfl (fun j hj h1 h2=>?_) (fun y hy ey=>?_) h9 (.inl hm)
 ·unfold Agr
  simp only [if_neg hj,and_self,ite_self]
 ·obtain⟨y0,y1,y2,yr⟩:=y
  exact ey.symm
theorem ref_2 {s:ByteArray} {op0:Int} {left:List Tx} {V:Know} {op:Int} {c1 c2 c3 c4 c5:ByteArray} {c6:Bool} {s7:SlV} {c8:Int} {s9 s10:SlV} {c11:Bool} {s12:SlV} {c13:Int} {c14 c15:ByteArray} {c16:Bool} {s17:SlV} {c18:Int} {un:PUnit} (hs:s.size≤1048576) (hz:sumT left+left.length≤s.size) (h9:op0≠9) (hm:(2,())∈fieldsL op0)
  (h:RefC s op0 3 left V (op,c1,c2,c3,c4,c5,c6,s7,c8,s9,s10,c11,s12,c13,c14,c15,c16,s17,c18,un)):RefC s op0 4 left.tail V (op,c1,c2,hd left,c4,c5,c6,s7,c8,s9,s10,c11,s12,c13,c14,c15,c16,s17,c18,()):=by
 obtain⟨rfl,⟨z1,z2,z3,z4,z5,z6,z7⟩,m7,m9,m10,m12,m17,f7,f9,f10,f12,f17,⟨L7,L9,L10,L12,L17⟩,⟨w7,w9,w9t,w10,w12,w17⟩,hN,hP⟩:=h
 refine⟨rfl,⟨z1,z2,Nat.le_trans (hd_size hz) hs,z4,z5,z6,z7⟩,m7,m9,m10,m12,m17,f7,f9,f10,f12,f17,⟨L7,L9,L10,L12,L17⟩,⟨w7,w9,w9t,w10,w12,w17⟩,(fun _=>hN (by decide)),?_⟩
 refine part_one (f:=2) (by decide) (by decide) (by decide) (by decide) hP rfl (fun j hj h1 h2=>?_) (fun y hy ey=>?_) h9 (.inl hm)
 ·unfold Agr
  simp only [if_neg hj,and_self,ite_self]
 ·obtain⟨y0,y1,y2,y3,yr⟩:=y
  exact ey.symm
theorem ref_3 {s:ByteArray} {op0:Int} {left:List Tx} {V:Know} {op:Int} {c1 c2 c3 c4 c5:ByteArray} {c6:Bool} {s7:SlV} {c8:Int} {s9 s10:SlV} {c11:Bool} {s12:SlV} {c13:Int} {c14 c15:ByteArray} {c16:Bool} {s17:SlV} {c18:Int} {un:PUnit} (hs:s.size≤1048576) (hz:sumT left+left.length≤s.size) (h9:op0≠9) (hm:(3,())∈fieldsL op0)
  (h:RefC s op0 4 left V (op,c1,c2,c3,c4,c5,c6,s7,c8,s9,s10,c11,s12,c13,c14,c15,c16,s17,c18,un)):RefC s op0 5 left.tail V (op,c1,c2,c3,hd left,c5,c6,s7,c8,s9,s10,c11,s12,c13,c14,c15,c16,s17,c18,()):=by
 obtain⟨rfl,⟨z1,z2,z3,z4,z5,z6,z7⟩,m7,m9,m10,m12,m17,f7,f9,f10,f12,f17,⟨L7,L9,L10,L12,L17⟩,⟨w7,w9,w9t,w10,w12,w17⟩,hN,hP⟩:=h
 refine⟨rfl,⟨z1,z2,z3,Nat.le_trans (hd_size hz) hs,z5,z6,z7⟩,m7,m9,m10,m12,m17,f7,f9,f10,f12,f17,⟨L7,L9,L10,L12,L17⟩,⟨w7,w9,w9t,w10,w12,w17⟩,(fun _=>hN (by decide)),?_⟩
 refine part_one (f:=3) (by decide) (by decide) (by decide) (by decide) hP rfl (fun j hj h1 h2=>?_) (fun y hy ey=>?_) h9 (.inl hm)
 ·unfold Agr
  simp only [if_neg hj,and_self,ite_self]
 ·obtain⟨y0,y1,y2,y3,y4,yr⟩:=y
  exact ey.symm
theorem ref_7 {s:ByteArray} {op0:Int} {left:List Tx} {V:Know} {op:Int} {c1 c2 c3 c4 c5:ByteArray} {c6:Bool} {s7:SlV} {c8:Int} {s9 s10:SlV} {c11:Bool} {s12:SlV} {c13:Int} {c14 c15:ByteArray} {c16:Bool} {s17:SlV} {c18:Int} {un:PUnit} (hs:s.size≤1048576) {m:Int} {ok:Bool} (hg:RmGot (hd left) m ok) (h9:op0≠9) (hm:(7,())∈fieldsL op0)
  (h:RefC s op0 8 left V (op,c1,c2,c3,c4,c5,c6,s7,c8,s9,s10,c11,s12,c13,c14,c15,c16,s17,c18,un)):RefC s op0 9 left.tail V (op,c1,c2,c3,c4,c5,c6,s7,m,s9,s10,c11,s12,c13,c14,c15,c16,s17,c18,()):=by
 obtain⟨rfl,⟨z1,z2,z3,z4,z5,z6,z7⟩,m7,m9,m10,m12,m17,f7,f9,f10,f12,f17,⟨L7,L9,L10,L12,L17⟩,⟨w7,w9,w9t,w10,w12,w17⟩,hN,hP⟩:=h
 refine⟨rfl,⟨z1,z2,z3,z4,z5,z6,z7⟩,m7,m9,m10,m12,m17,f7,f9,f10,f12,f17,⟨L7,L9,L10,L12,L17⟩,⟨w7,w9,w9t,w10,w12,w17⟩,(fun h6=>absurd h6 (by decide)),?_⟩
 refine part_one (f:=7) (by decide) (by decide) (by decide) (by decide) hP rfl (fun j hj h1 h2=>?_) (fun y hy ey=>?_) h9 (.inl hm)
 ·unfold Agr
  simp only [if_neg hj,and_self,ite_self]
 ·obtain⟨y0,y1,y2,y3,y4,y5,y6,y7,y8,yr⟩:=y
  have hy':ModeP y8:=hy
  have ey':modeT y8=hd left:=ey
  rcases hg with ⟨_,hq,ht⟩ | ⟨_,_,ht⟩
  ·exact modeT_inj hq hy' (ht.trans ey'.symm)
  ·exact absurd ey' (ht y8 hy')
theorem ref_6 {s:ByteArray} {op0:Int} {left:List Tx} {V V2:Know} {op:Int} {c1 c2 c3 c4 c5:ByteArray} {c6:Bool} {s7:SlV} {c8:Int} {s9 s10:SlV} {c11:Bool} {s12:SlV} {c13:Int} {c14 c15:ByteArray} {c16:Bool} {s17:SlV} {c18:Int} {un:PUnit} (hs:s.size≤1048576) {n:Bool} {t:SlV} {q:Int} {o:List Lim} {g:List Nat} {ok:Bool} (hz:sumT left+left.length≤s.size) (hle:V.le V2) (L:LR rI V2 t o g) (hg:PerRes (hd left) (n,o,q,()) ok) (h9:op0≠9) (hm:(6,())∈fieldsL op0)
  (h:RefC s op0 7 left V (op,c1,c2,c3,c4,c5,c6,s7,c8,s9,s10,c11,s12,c13,c14,c15,c16,s17,c18,un)):RefC s op0 8 left.tail V2 (op,c1,c2,c3,c4,c5,c6,s7,c8,s9,s10,n,t,q,c14,c15,c16,s17,c18,()):=by
 obtain⟨rfl,⟨z1,z2,z3,z4,z5,z6,z7⟩,m7,m9,m10,m12,m17,f7,f9,f10,f12,f17,⟨L7,L9,L10,L12,L17⟩,⟨w7,w9,w9t,w10,w12,w17⟩,hN,hP⟩:=h
 have hh:=hd_size hz
 refine⟨rfl,⟨z1,z2,z3,z4,z5,z6,z7⟩,m7,m9,m10,o,m17,f7,f9,f10,g,f17,⟨L7.le hle,L9.le hle,L10.le hle,L,L17.le hle⟩,⟨w7,w9,w9t,w10,(by have:=hg.1; simp only at this; omega),w17⟩,(fun h6=>absurd h6 (by decide)),?_⟩
 refine part_one (f:=6) (by decide) (by decide) (by decide) (by decide) hP rfl (fun j hj h1 h2=>?_) (fun y hy ey=>?_) h9 (.inl hm)
 ·unfold Agr
  simp only [if_neg hj,and_self,ite_self]
 ·obtain⟨y0,y1,y2,y3,y4,y5,y6,y7,y8,y9,y10,y11,y12,y13,yr⟩:=y
  have hy':TaxLowP y11 y12 y13:=hy
  have hn:y11=false:=hy'.1.2.2.1
  subst hn
  have e:=(hg.2 _ _ hy' ey).2
  cases e
  exact⟨rfl,rfl,rfl⟩
theorem ref_4 {s:ByteArray} {op0:Int} {left:List Tx} {V V2:Know} {op:Int} {c1 c2 c3 c4 c5:ByteArray} {c6:Bool} {s7:SlV} {c8:Int} {s9 s10:SlV} {c11:Bool} {s12:SlV} {c13:Int} {c14 c15:ByteArray} {c16:Bool} {s17:SlV} {c18:Int} {un:PUnit} (hs:s.size≤1048576) {c:ByteArray} {n:Bool} {t:SlV} {o:List Lim} {g:List Nat} {ok:Bool} (hz:sumT left+left.length≤s.size) (hle:V.le V2) (L:LR rI V2 t o g) (hg:MoRes (hd left++(⟨⟨[32]⟩⟩:ByteArray)++hd left.tail) c n o ok) (h9:op0≠9) (hm:(4,())∈fieldsL op0)
  (h:RefC s op0 5 left V (op,c1,c2,c3,c4,c5,c6,s7,c8,s9,s10,c11,s12,c13,c14,c15,c16,s17,c18,un)):RefC s op0 6 left.tail.tail V2 (op,c1,c2,c3,c4,c,n,t,c8,s9,s10,c11,s12,c13,c14,c15,c16,s17,c18,()):=by
 obtain⟨rfl,⟨z1,z2,z3,z4,z5,z6,z7⟩,m7,m9,m10,m12,m17,f7,f9,f10,f12,f17,⟨L7,L9,L10,L12,L17⟩,⟨w7,w9,w9t,w10,w12,w17⟩,hN,hP⟩:=h
 have hh:=hg.1.1
 have h2:=hd2_size (left:=left) (n:=1048576) (by omega) (by decide)
 refine⟨rfl,⟨z1,z2,z3,z4,(by omega),z6,z7⟩,o,m9,m10,m12,m17,g,f9,f10,f12,f17,⟨L,L9.le hle,L10.le hle,L12.le hle,L17.le hle⟩,⟨(by omega),w9,w9t,w10,w12,w17⟩,(fun _=>hN (by decide)),?_⟩
 have e:left.tail.tail=left.drop (nw 4):=by
  show _=left.drop 2
  cases left with
  | nil=>rfl
  | cons a r=>cases r with
   | nil=>rfl
   | cons b r=>rfl
 rw [e]
 refine part_step (f:=4) (by decide) hm hP rfl (fun j hj h1 h2=>?_) (fun y hy ey=>?_) h9
 ·unfold Agr
  simp only [if_neg hj,and_self,ite_self]
 ·have hl:=field_nw (f:=4) (by decide) hy
  have et:=take_two ey hl
  obtain⟨y0,y1,y2,y3,y4,y5,y6,y7,yr⟩:=y
  have hy':PayP y5 y6 y7:=hy
  exact(hg.2 _ _ _ hy'.1 et.symm).2
theorem ref_8 {s:ByteArray} {op0:Int} {left:List Tx} {V V2:Know} {op:Int} {c1 c2 c3 c4 c5:ByteArray} {c6:Bool} {s7:SlV} {c8:Int} {s9 s10:SlV} {c11:Bool} {s12:SlV} {c13:Int} {c14 c15:ByteArray} {c16:Bool} {s17:SlV} {c18:Int} {un:PUnit} (hs:s.size≤1048576) {x:DRate} {t:SlV} {g:List Nat} {ok:Bool} (hz:sumT left+left.length≤s.size) (hle:V.le V2) (L:LR rI V2 t x.2.2.2.1 g) (hg:RtRes (joinT left (⟨⟨[32]⟩⟩:ByteArray)) x ok) (h9:op0=9)
  (h:RefC s op0 0 left V (op,c1,c2,c3,c4,c5,c6,s7,c8,s9,s10,c11,s12,c13,c14,c15,c16,s17,c18,un)):RefC s op0 1 left V2 (op,c1,c2,c3,c4,c5,c6,s7,c8,s9,s10,c11,s12,c13,x.1,x.2.1,x.2.2.1,t,x.2.2.2.2.1,()):=by
 obtain⟨rfl,⟨z1,z2,z3,z4,z5,z6,z7⟩,m7,m9,m10,m12,m17,f7,f9,f10,f12,f17,⟨L7,L9,L10,L12,L17⟩,⟨w7,w9,w9t,w10,w12,w17⟩,hN,hP⟩:=h
 have hh:=hg.1.1
 have h2:=joinT_size left (⟨⟨[32]⟩⟩:ByteArray)
 have h3:(⟨⟨[32]⟩⟩:ByteArray).size=1:=rfl
 rw [h3] at h2
 refine⟨rfl,⟨z1,z2,z3,z4,z5,(by omega),(by omega)⟩,m7,m9,m10,m12,x.2.2.2.1,f7,f9,f10,f12,g,⟨L7.le hle,L9.le hle,L10.le hle,L12.le hle,L⟩,⟨w7,w9,w9t,w10,w12,(by omega)⟩,(fun _=>hN (by decide)),?_⟩
 refine part_rate hP h9 rfl (fun j hj h1 h2=>?_) (fun y hy ey=>?_)
 ·unfold Agr
  simp only [and_self,ite_self]
  repeat' split
  all_goals first | rfl | trivial | omega
 ·obtain⟨y0,y1,y2,y3,y4,y5,y6,y7,y8,y9,y10,y11,y12,y13,y14,y15,y16,y17,y18,yr⟩:=y
  have hy':RateOkP (y14,y15,y16,y17,y18,()):=hy
  have e:=(hg.2 _ hy' ey).2
  subst e
  exact⟨rfl,rfl,rfl,rfl,rfl⟩
theorem ref_5 {s:ByteArray} {op0:Int} {left:List Tx} {V V2:Know} {op:Int} {c1 c2 c3 c4 c5:ByteArray} {c6:Bool} {s7:SlV} {c8:Int} {s9 s10:SlV} {c11:Bool} {s12:SlV} {c13:Int} {c14 c15:ByteArray} {c16:Bool} {s17:SlV} {c18:Int} {un:PUnit} (hs:s.size≤1048576) {t1 t2:SlV} {nm:List Tx} {w:List Lim} {g1 g2:List Nat} (hle:V.le V2) (LA:LR rString V2 t1 nm g1) (LB:LR rI V2 t2 w g2) (wA:nm.length≤2097152∧totE rString nm≤2097152∧w.length≤2097152) (hg:∀ nm2 w2,DealP nm2 w2→dealT nm2 w2=hd left→nm=nm2∧w=w2) (h9:op0≠9) (hm:(5,())∈fieldsL op0)
  (h:RefC s op0 6 left V (op,c1,c2,c3,c4,c5,c6,s7,c8,s9,s10,c11,s12,c13,c14,c15,c16,s17,c18,un)):RefC s op0 7 left.tail V2 (op,c1,c2,c3,c4,c5,c6,s7,c8,t1,t2,c11,s12,c13,c14,c15,c16,s17,c18,()):=by
 obtain⟨rfl,⟨z1,z2,z3,z4,z5,z6,z7⟩,m7,m9,m10,m12,m17,f7,f9,f10,f12,f17,⟨L7,L9,L10,L12,L17⟩,⟨w7,w9,w9t,w10,w12,w17⟩,hN,hP⟩:=h
 refine⟨rfl,⟨z1,z2,z3,z4,z5,z6,z7⟩,m7,nm,w,m12,m17,f7,g1,g2,f12,f17,⟨L7.le hle,LA,LB,L12.le hle,L17.le hle⟩,⟨w7,wA.1,wA.2.1,wA.2.2,w12,w17⟩,(fun h6=>absurd h6 (by decide)),?_⟩
 refine part_one (f:=5) (by decide) (by decide) (by decide) (by decide) hP rfl (fun j hj h1 h2=>?_) (fun y hy ey=>?_) h9 (.inl hm)
 ·unfold Agr
  simp only [if_neg hj,and_self,ite_self]
 ·obtain⟨y0,y1,y2,y3,y4,y5,y6,y7,y8,y9,y10,yr⟩:=y
  have hy':DealP y9 y10:=hy
  exact hg _ _ hy' ey
end Go.Proofs.YtpkmhkbkohppiaaGreatDoor
namespace Go.Proofs.YtpkmhkbkohppiaaGreatDoor
open Sx Go.RowKit
set_option maxRecDepth 100000
section
variable {sh:List Sc} {α:Type}
def maskF (V:Know) (F:List Nat):Know:=fun b=>if b∈F then none else V b
theorem maskF_le {V:Know} {F:List Nat}:(maskF V F).le V:=fun b x hx=>by
 unfold maskF at hx
 split at hx
 ·cases hx
 ·exact hx
theorem ap_among {P:Program} {r:Rp sh α} {t:TypeId} {V0 V Vd:Know} {s:SlV} {l:List α} {g f fx:List Nat} {c:Scs sh} {x:α} {bytes:Nat} {k:SlV→T} {K:Know→List Value→Prop} {Ns:List (List LV→Know→Prop)}
  (h:GR r t V s l f) (hx:r.R V c x fx) (hO:Own V0 V (g++(f++fx))) (hle:V0.le V) (hP:P.cellsOf t=sh.length)
  (hb:(l.length+1)*bytes≤140737488355328) (hl:l.length+1≤9223372036854775807)
  (hk:∀ s' V' f',GR r t V' s' (l++[x]) f'→Own V0 V' (g++f')→V0.le V'→(∀ b∈g,V' b=V b)→(k s').wp P K V' Vd Ns) :
  (T.ap s sh.length bytes (Scs.vals sh c) 1 t k).wp P K V Vd Ns:=by
 obtain⟨o1,o2,o3⟩:=hO
 obtain⟨n1,n2,n3⟩:=List.nodup_append.1 o1
 refine ap_row (V0:=maskF V (f++fx)) h hx ⟨n2,fun b hb=>by unfold maskF; rw [if_pos hb],fun b hb=>o3 b (List.mem_append_right _ hb)⟩ maskF_le hP hb hl fun s' V' f' hG hO' hle'=>?_
 have keep:∀ b y,V b=some y→b ∉ f++fx→V' b=some y:=fun b y hy hn=>hle' b y (by unfold maskF; rw [if_neg hn]; exact hy)
 have hg:∀ b∈g,V' b=V b:=fun b hb=>by
  obtain⟨cs,u,e⟩:=o3 b (List.mem_append_left _ hb)
  rw [e]
  exact keep b _ e fun k=>n3 b hb b k rfl
 refine hk s' V' f' hG ⟨List.nodup_append.2 ⟨n1,hO'.1,fun a ha b hb e=>?_⟩,fun b hb=>?_,fun b hb=>?_⟩ (fun b y hy=>?_) hg
 ·subst e
  have:=hO'.2.1 a hb
  unfold maskF at this
  rw [if_neg (fun k=>n3 a ha a k rfl)] at this
  obtain⟨cs,u,e⟩:=o3 a (List.mem_append_left _ ha)
  rw [e] at this; cases this
 ·rcases List.mem_append.1 hb with hb | hb
  ·exact o2 b (List.mem_append_left _ hb)
  ·have:=hO'.2.1 b hb
   unfold maskF at this
   split at this
   ·rename_i hm; exact o2 b (List.mem_append_right _ hm)
   ·exact none_of_le hle this
 ·rcases List.mem_append.1 hb with hb | hb
  ·rw [hg b hb]; exact o3 b (List.mem_append_left _ hb)
  ·exact hO'.2.2 b hb
 ·refine keep b y (hle b y hy) fun hm=>?_
  have:=o2 b (List.mem_append_right _ hm)
  rw [hy] at this; cases this
end
theorem own_swap {V0 V:Know} {f g:List Nat} (h:Own V0 V (f++g)):Own V0 V (g++f) :=
 ⟨(List.Perm.nodup_iff List.perm_append_comm).1 h.1,fun b hb=>h.2.1 b (by simpa [or_comm] using hb),fun b hb=>h.2.2 b (by simpa [or_comm] using hb)⟩
theorem own_nil {V0 V:Know} {g f:List Nat} (h:Own V0 V (g++f)):Own V0 V (g++(f++[])):=by rw [List.append_nil]; exact h
theorem int_cells:Tryz.prog.cellsOf 3=1:=by kernel_rfl
def snd58 (p:ByteArray):ByteArray:=((cutB 58 p++[(noT,())]).getD 1 (noT,())).1
def PartS (p:ByteArray) (a:Tx) (k:Int):Prop:=a=(cutB 58 p).getD 0 (noT,())∧∀ m:Int,0≤m→m≤1000000000→numT m=snd58 p→k=m
def DealIs (L nm:List Tx) (w:List Lim):Prop:=nm.length=w.length∧nm.length≤L.length∧∀ j,j<nm.length→PartS (L.getD j (noT,())).1 (nm.getD j (noT,())) (limb w j)
theorem dealIs_snoc {L nm:List Tx} {w:List Lim} {a:Tx} {k:Int} (h:DealIs L nm w) (hl:nm.length<L.length) (hp:PartS (L.getD nm.length (noT,())).1 a k):DealIs L (nm++[a]) (w++[(k,())]):=by
 obtain⟨h1,h3,h4⟩:=h
 refine⟨by simp [h1],by simp; omega,fun j hj=>?_⟩
 by_cases e:j<nm.length
 ·have ea:(nm++[a]).getD j (noT,())=nm.getD j (noT,()):=by
   rw [getD_lt (by simp; omega),getD_lt e,List.getElem_append_left e]
  have ek:limb (w++[(k,())]) j=limb w j:=by
   rw [limb_lt (by simp; omega),limb_lt (by omega),List.getElem_append_left (by omega)]
  rw [ea,ek]
  exact h4 j e
 ·have ej:j=nm.length:=by simp at hj; omega
  subst ej
  have ea:(nm++[a]).getD nm.length (noT,())=a:=by rw [getD_lt (by simp)]; simp
  have ek:limb (w++[(k,())]) nm.length=k:=by
   rw [limb_lt (by simp; omega)]
   simp [h1]
  rw [ea,ek]
  exact hp
theorem dealIs_one {s:ByteArray} {nm nm':List Tx} {w w':List Lim} (h:DealIs (cutB 44 s) nm w) (e:nm.length=(cutB 44 s).length) (hD:DealP nm' w') (he:dealT nm' w'=s):nm=nm'∧w=w':=by
 have hc:=deal_cut hD
 rw [he] at hc
 have hl:nm.length=nm'.length:=by rw [e,hc,dealL_len]
 have key:∀ i,i<nm.length→nm.getD i (noT,())=nm'.getD i (noT,())∧limb w i=limb w' i:=fun i hi=>by
  obtain⟨h1,h2⟩:=h.2.2 i hi
  have hi':i<nm'.length:=by omega
  have ei:((cutB 44 s).getD i (noT,())).1=(dealAt nm' w' i).1:=by
   rw [hc]
   unfold dealL
   rw [getD_lt (by simp; exact hi')]
   simp
  have hq:=dealAt_cut hD hi'
  have hw:=deal_wt hD hi'
  rw [ei] at h1 h2
  refine⟨by rw [h1,hq,getD_lt hi']; rfl,h2 _ hw.1 hw.2 ?_⟩
  unfold snd58
  rw [hq]; rfl
 have hw1:=h.1
 have hw2:=hD.1
 refine⟨List.ext_getElem hl fun i h1 h2=>?_,List.ext_getElem (by omega) fun i h1 h2=>?_⟩
 ·rw [← getD_lt h1,← getD_lt h2]; exact(key i h1).1
 ·have:=(key i (by omega)).2
  rw [limb_lt h1,limb_lt h2] at this
  exact Prod.ext this rfl
theorem cut0_size (c:UInt8) (p:ByteArray):((cutB c p).getD 0 (noT,())).1.size≤p.size:=by
 have h:=cutB_pos c p
 rw [getD_lt h]
 exact cutB_size (List.getElem_mem h)
theorem sumT_takeS {L:List Tx} {k:Nat} (h:k<L.length):sumT (L.take (k+1))=sumT (L.take k)+L[k].1.size:=by
 rw [List.take_succ_eq_append_getElem h,sumT_snoc]
end Go.Proofs.YtpkmhkbkohppiaaGreatDoor
