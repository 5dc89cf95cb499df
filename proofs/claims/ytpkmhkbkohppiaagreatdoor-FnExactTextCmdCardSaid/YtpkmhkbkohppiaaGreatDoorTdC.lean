/-
  A command read by the reference, as data: what is known while it reads field by field.
-/
import Derived.Test.YtpkmhkbkohppiaaGreatDoorTcY
namespace Go.Proofs.YtpkmhkbkohppiaaGreatDoor
open Sx Go.RowKit
set_option maxRecDepth 100000
def NwB (V0:Know) (b:Nat) (f:List Nat):Prop:=∀ k∈f,V0 k=none∧k≠b
theorem NwB.own {V0 V V1:Know} {b:Nat} {x:List Value × KTy} {f:List Nat} (hO:Own V V1 f) (h0:V0.le V) (hb:V b=some x):NwB V0 b f:=fun k hk=>by
 have h:=hO.2.1 k hk
 exact⟨none_of_le h0 h,fun e=>by rw [e,hb] at h; cases h⟩
theorem LR.box {sh:List Sc} {α:Type} {r:Rp sh α} {V0 V V1:Know} {b:Nat} {z:List Value × KTy} {s:SlV} {l:List α} {f:List Nat} (h:LR r V s l f) (le:V.le V1) (hn:NwB V0 b f):LR r (kset V1 b z) s l f :=
 (h.le le).loc fun k hk=>kset_other (hn k hk).2
def OwnB (V:Know) (b:Nat) (fs:List (List Nat)):Prop:=fs.flatten.Nodup∧Wr V fs.flatten∧b ∉ fs.flatten
theorem set_mem {g:List Nat} {k:Nat}:∀ (fs:List (List Nat)) (i:Nat),k∈(fs.set i g).flatten→k∈g∨k∈fs.flatten
 | [],_,h=>.inr h
 | f :: fs,0,h=>by
  rcases List.mem_append.1 (by simpa using h:k∈g++fs.flatten) with h | h
  ·exact .inl h
  ·exact .inr (List.mem_append_right _ h)
 | f :: fs,i+1,h=>by
  rcases List.mem_append.1 (by simpa using h:k∈f++(fs.set i g).flatten) with h | h
  ·exact .inr (List.mem_append_left _ h)
  ·rcases set_mem fs i h with h | h
   ·exact .inl h
   ·exact .inr (List.mem_append_right _ h)
theorem set_nodup {g:List Nat} (hg:g.Nodup):∀ (fs:List (List Nat)) (i:Nat),fs.flatten.Nodup→(∀ k∈g,k ∉ fs.flatten)→(fs.set i g).flatten.Nodup
 | [],_,h,_=>h
 | f :: fs,0,h,hd=>by
  have h1:=List.nodup_append.1 h
  exact List.nodup_append.2 ⟨hg,h1.2.1,fun a ha c hc e=>hd a ha (List.mem_append_right _ (by rw [e]; exact hc))⟩
 | f :: fs,i+1,h,hd=>by
  have h1:=List.nodup_append.1 h
  refine List.nodup_append.2 ⟨h1.1,set_nodup hg fs i h1.2.1 fun k hk q=>hd k hk (List.mem_append_right _ q),fun a ha c hc e=>?_⟩
  rcases set_mem fs i hc with q | q
  ·exact hd c q (List.mem_append_left _ (by rw [← e]; exact ha))
  ·exact h1.2.2 a ha c q e
theorem OwnB.put {V:Know} {b:Nat} {fs:List (List Nat)} {g:List Nat} (h:OwnB V b fs) (hn:g.Nodup) (hw:Wr V g) (hd:∀ k∈g,k ∉ fs.flatten) (hb:b ∉ g) (i:Nat):OwnB V b (fs.set i g):=by
 refine⟨set_nodup hn fs i h.1 hd,fun k hk=>?_,fun hk=>?_⟩
 ·rcases set_mem fs i hk with q | q
  ·exact hw k q
  ·exact h.2.1 k q
 ·rcases set_mem fs i hk with q | q
  ·exact hb q
  ·exact h.2.2 q
theorem OwnB.le {V V1:Know} {b:Nat} {fs:List (List Nat)} (h:OwnB V b fs) (le:V.le V1):OwnB V1 b fs:=⟨h.1,h.2.1.le le,h.2.2⟩
theorem OwnB.new {V:Know} {b:Nat} {fs:List (List Nat)} {g:List Nat} (h:OwnB V b fs) (hg:∀ k∈g,V k=none):∀ k∈g,k ∉ fs.flatten:=fun k hk q=>by
 obtain⟨c,t,e⟩:=h.2.1 k q
 rw [hg k hk] at e; cases e
theorem not_box {V:Know} {b:Nat} {x:List Value × KTy} {g:List Nat} (hg:∀ k∈g,V k=none) (hb:V b=some x):b ∉ g:=fun q=>by
 rw [hg b q] at hb; cases hb
theorem OwnB.one {V V1:Know} {b:Nat} {x:List Value × KTy} {fs:List (List Nat)} {g:List Nat} (h:OwnB V b fs) (le:V.le V1) (hb:V b=some x) (O:Own V V1 g) (i:Nat):OwnB V1 b (fs.set i g) :=
 (h.le le).put O.1 O.2.2 (h.new O.2.1) (not_box O.2.1 hb) i
theorem OwnB.two {V V1:Know} {b:Nat} {x:List Value × KTy} {fs:List (List Nat)} {f g:List Nat} (h:OwnB V b fs) (le:V.le V1) (hb:V b=some x) (O:Own V V1 (f++g)) (i j:Nat):OwnB V1 b ((fs.set i f).set j g):=by
 have hn:=List.nodup_append.1 O.1
 have kf:∀ k∈f,V k=none:=fun k hk=>O.2.1 k (List.mem_append_left _ hk)
 have kg:∀ k∈g,V k=none:=fun k hk=>O.2.1 k (List.mem_append_right _ hk)
 have h1:=(h.le le).put hn.1 (fun k hk=>O.2.2 k (List.mem_append_left _ hk)) (h.new kf) (not_box kf hb) i
 refine h1.put hn.2.1 (fun k hk=>O.2.2 k (List.mem_append_right _ hk)) (fun k hk q=>?_) (not_box kg hb) j
 rcases set_mem fs i q with q | q
 ·exact hn.2.2 k q k hk rfl
 ·exact h.new kg k hk q
theorem OwnB.box {V V1:Know} {b:Nat} {z:List Value × KTy} {fs:List (List Nat)} (h:OwnB V b fs) (le:V.le V1):OwnB (kset V1 b z) b fs:=by
 refine⟨h.1,fun k hk=>?_,h.2.2⟩
 have hkb:k≠b:=fun e=>h.2.2 (by rw [← e]; exact hk)
 obtain⟨c,t,e⟩:=h.2.1 k hk
 exact⟨c,t,by rw [kset_other hkb]; exact le _ _ e⟩
def Box (V0 V:Know) (b:Nat):DCmd→Prop
 | (op,c1,c2,c3,c4,c5,c6,m7,c8,m9,m10,c11,m12,c13,c14,c15,c16,m17,c18,_)=>V0.le V∧V0 b=none∧∃ (s7 s9 s10 s12 s17:SlV) (f7 f9 f10 f12 f17:List Nat) (u:TypeId),
  V b=some (Scs.vals cmdSh (op,c1,c2,c3,c4,c5,c6,s7,c8,s9,s10,c11,s12,c13,c14,c15,c16,s17,c18,()),(u,(0,0))) ∧
  (c1.size≤1048576∧c2.size≤1048576∧c3.size≤1048576∧c4.size≤1048576∧c5.size≤1048576∧c14.size≤1048576∧c15.size≤1048576) ∧
  LR rI V s7 m7 f7∧LR rString V s9 m9 f9∧LR rI V s10 m10 f10∧LR rI V s12 m12 f12∧LR rI V s17 m17 f17∧NwB V0 b f7∧NwB V0 b f9∧NwB V0 b f10∧NwB V0 b f12∧NwB V0 b f17∧OwnB V b [f7,f9,f10,f12,f17]
theorem le_box {V0 V V1:Know} {b:Nat} {z:List Value × KTy} (h:V0.le V) (hb:V0 b=none) (le:V.le V1):V0.le (kset V1 b z):=fun k x hk=>by
 rw [kset_other (fun e=>by rw [e,hb] at hk; cases hk)]
 exact le _ _ (h _ _ hk)
def FldRd (V0:Know) (b:Nat) (x:DCmd) (s:ByteArray) (f:Int):Know→Value→Prop:=fun V' r=>∃ (ok:Bool) (x':DCmd),r=.bool ok∧Box V0 V' b x'∧x'.1=x.1∧(∀ j:Int,j≠f→0≤j→j<9→Agr x' x j)∧(ok=true→fieldT x' f=s)∧∀ y:DCmd,FOk y f→fieldT y f=s→ok=true∧Agr x' y f
theorem cI_fld0 {V0 V:Know} {b:Nat} {x:DCmd} (hB:Box V0 V b x) (s:ByteArray) (hs:s.size≤1048576):CallX Tryz.prog V 26 [.pointer (some ⟨b,0,none⟩),.string s,.int .i64 0] (FldRd V0 b x s 0):=by
 obtain⟨op,c1,c2,c3,c4,c5,c6,m7,c8,m9,m10,c11,m12,c13,c14,c15,c16,m17,c18,un⟩:=x
 obtain⟨h0,hb0,s7,s9,s10,s12,s17,f7,f9,f10,f12,f17,u,hb,⟨z1,z2,z3,z4,z5,z6,z7⟩,L7,L9,L10,L12,L17,n7,n9,n10,n12,n17,hO⟩:=hB
 refine(cI_field0 V b u op c1 c2 c3 c4 c5 c6 s7 c8 s9 s10 c11 s12 c13 c14 c15 c16 s17 c18 s hb).mono ?_
 rintro V' r ⟨rfl,rfl⟩
 have le:=Know.le.refl V
 refine⟨true,(op,s,c2,c3,c4,c5,c6,m7,c8,m9,m10,c11,m12,c13,c14,c15,c16,m17,c18,()),rfl,⟨le_box h0 hb0 le,hb0,s7,s9,s10,s12,s17,f7,f9,f10,f12,f17,u,kset_same,⟨hs,z2,z3,z4,z5,z6,z7⟩,L7.box le n7,L9.box le n9,L10.box le n10,L12.box le n12,L17.box le n17,n7,n9,n10,n12,n17,(hO.box le)⟩,rfl,fun j hj h1 h2=>?_,fun _=>rfl,fun y hy ey=>?_⟩
 ·unfold Agr
  simp only [if_neg hj,and_self,ite_self]
 ·obtain⟨y0,y1,yr⟩:=y
  exact⟨rfl,ey.symm⟩
theorem cI_fld1 {V0 V:Know} {b:Nat} {x:DCmd} (hB:Box V0 V b x) (s:ByteArray) (hs:s.size≤1048576):CallX Tryz.prog V 26 [.pointer (some ⟨b,0,none⟩),.string s,.int .i64 1] (FldRd V0 b x s 1):=by
 obtain⟨op,c1,c2,c3,c4,c5,c6,m7,c8,m9,m10,c11,m12,c13,c14,c15,c16,m17,c18,un⟩:=x
 obtain⟨h0,hb0,s7,s9,s10,s12,s17,f7,f9,f10,f12,f17,u,hb,⟨z1,z2,z3,z4,z5,z6,z7⟩,L7,L9,L10,L12,L17,n7,n9,n10,n12,n17,hO⟩:=hB
 refine(cI_field1 V b u op c1 c2 c3 c4 c5 c6 s7 c8 s9 s10 c11 s12 c13 c14 c15 c16 s17 c18 s hb).mono ?_
 rintro V' r ⟨rfl,rfl⟩
 have le:=Know.le.refl V
 refine⟨true,(op,c1,s,c3,c4,c5,c6,m7,c8,m9,m10,c11,m12,c13,c14,c15,c16,m17,c18,()),rfl,⟨le_box h0 hb0 le,hb0,s7,s9,s10,s12,s17,f7,f9,f10,f12,f17,u,kset_same,⟨z1,hs,z3,z4,z5,z6,z7⟩,L7.box le n7,L9.box le n9,L10.box le n10,L12.box le n12,L17.box le n17,n7,n9,n10,n12,n17,(hO.box le)⟩,rfl,fun j hj h1 h2=>?_,fun _=>rfl,fun y hy ey=>?_⟩
 ·unfold Agr
  simp only [if_neg hj,and_self,ite_self]
 ·obtain⟨y0,y1,y2,yr⟩:=y
  exact⟨rfl,ey.symm⟩
theorem cI_fld2 {V0 V:Know} {b:Nat} {x:DCmd} (hB:Box V0 V b x) (s:ByteArray) (hs:s.size≤1048576):CallX Tryz.prog V 26 [.pointer (some ⟨b,0,none⟩),.string s,.int .i64 2] (FldRd V0 b x s 2):=by
 obtain⟨op,c1,c2,c3,c4,c5,c6,m7,c8,m9,m10,c11,m12,c13,c14,c15,c16,m17,c18,un⟩:=x
 obtain⟨h0,hb0,s7,s9,s10,s12,s17,f7,f9,f10,f12,f17,u,hb,⟨z1,z2,z3,z4,z5,z6,z7⟩,L7,L9,L10,L12,L17,n7,n9,n10,n12,n17,hO⟩:=hB
 refine(cI_field2 V b u op c1 c2 c3 c4 c5 c6 s7 c8 s9 s10 c11 s12 c13 c14 c15 c16 s17 c18 s hb).mono ?_
 rintro V' r ⟨rfl,rfl⟩
 have le:=Know.le.refl V
 refine⟨true,(op,c1,c2,s,c4,c5,c6,m7,c8,m9,m10,c11,m12,c13,c14,c15,c16,m17,c18,()),rfl,⟨le_box h0 hb0 le,hb0,s7,s9,s10,s12,s17,f7,f9,f10,f12,f17,u,kset_same,⟨z1,z2,hs,z4,z5,z6,z7⟩,L7.box le n7,L9.box le n9,L10.box le n10,L12.box le n12,L17.box le n17,n7,n9,n10,n12,n17,(hO.box le)⟩,rfl,fun j hj h1 h2=>?_,fun _=>rfl,fun y hy ey=>?_⟩
 ·unfold Agr
  simp only [if_neg hj,and_self,ite_self]
 ·obtain⟨y0,y1,y2,y3,yr⟩:=y
  exact⟨rfl,ey.symm⟩
theorem cI_fld3 {V0 V:Know} {b:Nat} {x:DCmd} (hB:Box V0 V b x) (s:ByteArray) (hs:s.size≤1048576):CallX Tryz.prog V 26 [.pointer (some ⟨b,0,none⟩),.string s,.int .i64 3] (FldRd V0 b x s 3):=by
 obtain⟨op,c1,c2,c3,c4,c5,c6,m7,c8,m9,m10,c11,m12,c13,c14,c15,c16,m17,c18,un⟩:=x
 obtain⟨h0,hb0,s7,s9,s10,s12,s17,f7,f9,f10,f12,f17,u,hb,⟨z1,z2,z3,z4,z5,z6,z7⟩,L7,L9,L10,L12,L17,n7,n9,n10,n12,n17,hO⟩:=hB
 refine(cI_field3 V b u op c1 c2 c3 c4 c5 c6 s7 c8 s9 s10 c11 s12 c13 c14 c15 c16 s17 c18 s hb).mono ?_
 rintro V' r ⟨rfl,rfl⟩
 have le:=Know.le.refl V
 refine⟨true,(op,c1,c2,c3,s,c5,c6,m7,c8,m9,m10,c11,m12,c13,c14,c15,c16,m17,c18,()),rfl,⟨le_box h0 hb0 le,hb0,s7,s9,s10,s12,s17,f7,f9,f10,f12,f17,u,kset_same,⟨z1,z2,z3,hs,z5,z6,z7⟩,L7.box le n7,L9.box le n9,L10.box le n10,L12.box le n12,L17.box le n17,n7,n9,n10,n12,n17,(hO.box le)⟩,rfl,fun j hj h1 h2=>?_,fun _=>rfl,fun y hy ey=>?_⟩
 ·unfold Agr
  simp only [if_neg hj,and_self,ite_self]
 ·obtain⟨y0,y1,y2,y3,y4,yr⟩:=y
  exact⟨rfl,ey.symm⟩
theorem cI_fld7 {V0 V:Know} {b:Nat} {x:DCmd} (hB:Box V0 V b x) (s:ByteArray) (hs:s.size≤1048576):CallX Tryz.prog V 26 [.pointer (some ⟨b,0,none⟩),.string s,.int .i64 7] (FldRd V0 b x s 7):=by
 obtain⟨op,c1,c2,c3,c4,c5,c6,m7,c8,m9,m10,c11,m12,c13,c14,c15,c16,m17,c18,un⟩:=x
 obtain⟨h0,hb0,s7,s9,s10,s12,s17,f7,f9,f10,f12,f17,u,hb,⟨z1,z2,z3,z4,z5,z6,z7⟩,L7,L9,L10,L12,L17,n7,n9,n10,n12,n17,hO⟩:=hB
 refine(cI_field7 b u op c1 c2 c3 c4 c5 c6 s7 c8 s9 s10 c11 s12 c13 c14 c15 c16 s17 c18 s hb).mono ?_
 rintro V' r ⟨V1,m,ok,le,hv,rfl,rfl⟩
 refine⟨ok,(op,c1,c2,c3,c4,c5,c6,m7,m,m9,m10,c11,m12,c13,c14,c15,c16,m17,c18,()),rfl,⟨le_box h0 hb0 le,hb0,s7,s9,s10,s12,s17,f7,f9,f10,f12,f17,u,kset_same,⟨z1,z2,z3,z4,z5,z6,z7⟩,L7.box le n7,L9.box le n9,L10.box le n10,L12.box le n12,L17.box le n17,n7,n9,n10,n12,n17,(hO.box le)⟩,rfl,fun j hj h1 h2=>?_,fun hk=>?_,fun y hy ey=>?_⟩
 ·unfold Agr
  simp only [if_neg hj,and_self,ite_self]
 ·rcases hv with ⟨_,_,h⟩ | ⟨h,_⟩
  ·exact h
  ·rw [hk] at h; cases h
 ·obtain⟨y0,y1,y2,y3,y4,y5,y6,y7,y8,yr⟩:=y
  have hy':ModeP y8:=hy
  have ey':modeT y8=s:=ey
  rcases hv with ⟨hk,hm,h⟩ | ⟨_,_,h⟩
  ·exact⟨hk,modeT_inj hm hy' (h.trans ey'.symm)⟩
  ·exact absurd ey' (h y8 hy')
theorem cI_fld4 {V0 V:Know} (hV:HtI V) {b:Nat} {x:DCmd} (hB:Box V0 V b x) (s:ByteArray) (hs:s.size≤1048576):CallX Tryz.prog V 26 [.pointer (some ⟨b,0,none⟩),.string s,.int .i64 4] (FldRd V0 b x s 4):=by
 obtain⟨op,c1,c2,c3,c4,c5,c6,m7,c8,m9,m10,c11,m12,c13,c14,c15,c16,m17,c18,un⟩:=x
 obtain⟨h0,hb0,s7,s9,s10,s12,s17,f7,f9,f10,f12,f17,u,hb,⟨z1,z2,z3,z4,z5,z6,z7⟩,L7,L9,L10,L12,L17,n7,n9,n10,n12,n17,hO⟩:=hB
 refine(cI_field4 hV b u op c1 c2 c3 c4 c5 c6 s7 c8 s9 s10 c11 s12 c13 c14 c15 c16 s17 c18 s hs hb).mono ?_
 rintro V' r ⟨V1,c,n,t,ok,le,⟨rfl,o,g,L,O,hm,ht,hu⟩ | ⟨rfl,rfl,rfl,rfl,h⟩,rfl,rfl⟩
 ·have nw:NwB V0 b g:=NwB.own O h0 hb
  have zc:c.size≤1048576:=by
   have e:=congrArg List.length (moneyT_bl c n o)
   rw [ht,bl_len,List.length_append,bl_len] at e
   omega
  refine⟨true,(op,c1,c2,c3,c4,c,n,o,c8,m9,m10,c11,m12,c13,c14,c15,c16,m17,c18,()),rfl,⟨le_box h0 hb0 le,hb0,t,s9,s10,s12,s17,g,f9,f10,f12,f17,u,kset_same,⟨z1,z2,z3,z4,zc,z6,z7⟩,L.box (Know.le.refl V1) nw,L9.box le n9,L10.box le n10,L12.box le n12,L17.box le n17,nw,n9,n10,n12,n17,((hO.one le hb O 0).box (Know.le.refl V1))⟩,rfl,fun j hj h1 h2=>?_,fun _=>ht,fun y hy ey=>?_⟩
  ·unfold Agr
   simp only [if_neg hj,and_self,ite_self]
  ·obtain⟨y0,y1,y2,y3,y4,y5,y6,y7,yr⟩:=y
   have hy':PayP y5 y6 y7:=hy
   exact⟨rfl,hu _ _ _ hy'.1 ey⟩
 ·refine⟨false,(op,c1,c2,c3,c4,noT,false,[],c8,m9,m10,c11,m12,c13,c14,c15,c16,m17,c18,()),rfl,⟨le_box h0 hb0 le,hb0,⟨none,0,0⟩,s9,s10,s12,s17,[],f9,f10,f12,f17,u,kset_same,⟨z1,z2,z3,z4,Nat.zero_le _,z6,z7⟩,lr_none,L9.box le n9,L10.box le n10,L12.box le n12,L17.box le n17,(fun _ h=>by cases h),n9,n10,n12,n17,((hO.one le hb Own.nil 0).box (Know.le.refl V1))⟩,rfl,fun j hj h1 h2=>?_,nofun,fun y hy ey=>?_⟩
  ·unfold Agr
   simp only [if_neg hj,and_self,ite_self]
  ·obtain⟨y0,y1,y2,y3,y4,y5,y6,y7,yr⟩:=y
   have hy':PayP y5 y6 y7:=hy
   exact(h _ _ _ hy'.1 ey).elim
theorem cI_fld6 {V0 V:Know} (hV:HtI V) {b:Nat} {x:DCmd} (hB:Box V0 V b x) (s:ByteArray) (hs:s.size≤1048576):CallX Tryz.prog V 26 [.pointer (some ⟨b,0,none⟩),.string s,.int .i64 6] (FldRd V0 b x s 6):=by
 obtain⟨op,c1,c2,c3,c4,c5,c6,m7,c8,m9,m10,c11,m12,c13,c14,c15,c16,m17,c18,un⟩:=x
 obtain⟨h0,hb0,s7,s9,s10,s12,s17,f7,f9,f10,f12,f17,u,hb,⟨z1,z2,z3,z4,z5,z6,z7⟩,L7,L9,L10,L12,L17,n7,n9,n10,n12,n17,hO⟩:=hB
 refine(cI_field6 hV b u op c1 c2 c3 c4 c5 c6 s7 c8 s9 s10 c11 s12 c13 c14 c15 c16 s17 c18 s hs hb).mono ?_
 rintro V' r ⟨V1,n,t,k,ok,le,⟨rfl,o,g,L,O,hm,ht,hu⟩ | ⟨rfl,rfl,rfl,rfl,h⟩,rfl,rfl⟩
 ·have nw:NwB V0 b g:=NwB.own O h0 hb
  refine⟨true,(op,c1,c2,c3,c4,c5,c6,m7,c8,m9,m10,n,o,k,c14,c15,c16,m17,c18,()),rfl,⟨le_box h0 hb0 le,hb0,s7,s9,s10,t,s17,f7,f9,f10,g,f17,u,kset_same,⟨z1,z2,z3,z4,z5,z6,z7⟩,L7.box le n7,L9.box le n9,L10.box le n10,L.box (Know.le.refl V1) nw,L17.box le n17,n7,n9,n10,nw,n17,((hO.one le hb O 3).box (Know.le.refl V1))⟩,rfl,fun j hj h1 h2=>?_,fun _=>ht,fun y hy ey=>?_⟩
  ·unfold Agr
   simp only [if_neg hj,and_self,ite_self]
  ·obtain⟨y0,y1,y2,y3,y4,y5,y6,y7,y8,y9,y10,y11,y12,y13,yr⟩:=y
   have hy':TaxLowP y11 y12 y13:=hy
   have hn:y11=false:=hy'.1.2.2.1
   subst hn
   have e:=hu _ _ hy' ey
   cases e
   exact⟨rfl,rfl,rfl,rfl⟩
 ·refine⟨false,(op,c1,c2,c3,c4,c5,c6,m7,c8,m9,m10,false,[],0,c14,c15,c16,m17,c18,()),rfl,⟨le_box h0 hb0 le,hb0,s7,s9,s10,⟨none,0,0⟩,s17,f7,f9,f10,[],f17,u,kset_same,⟨z1,z2,z3,z4,z5,z6,z7⟩,L7.box le n7,L9.box le n9,L10.box le n10,lr_none,L17.box le n17,n7,n9,n10,(fun _ h=>by cases h),n17,((hO.one le hb Own.nil 3).box (Know.le.refl V1))⟩,rfl,fun j hj h1 h2=>?_,nofun,fun y hy ey=>?_⟩
  ·unfold Agr
   simp only [if_neg hj,and_self,ite_self]
  ·obtain⟨y0,y1,y2,y3,y4,y5,y6,y7,y8,y9,y10,y11,y12,y13,yr⟩:=y
   have hy':TaxLowP y11 y12 y13:=hy
   have hn:y11=false:=hy'.1.2.2.1
   subst hn
   exact(h _ _ hy' ey).elim
theorem cI_fld8 {V0 V:Know} (hV:HtI V) {b:Nat} {x:DCmd} (hB:Box V0 V b x) (s:ByteArray) (hs:s.size≤1048576):CallX Tryz.prog V 26 [.pointer (some ⟨b,0,none⟩),.string s,.int .i64 8] (FldRd V0 b x s 8):=by
 obtain⟨op,c1,c2,c3,c4,c5,c6,m7,c8,m9,m10,c11,m12,c13,c14,c15,c16,m17,c18,un⟩:=x
 obtain⟨h0,hb0,s7,s9,s10,s12,s17,f7,f9,f10,f12,f17,u,hb,⟨z1,z2,z3,z4,z5,z6,z7⟩,L7,L9,L10,L12,L17,n7,n9,n10,n12,n17,hO⟩:=hB
 refine(cI_field8 hV b u op c1 c2 c3 c4 c5 c6 s7 c8 s9 s10 c11 s12 c13 c14 c15 c16 s17 c18 s hs hb).mono ?_
 rintro V' r ⟨V1,p,q,n,t,k,ok,le,⟨rfl,o,g,L,O,hm,ht,hu⟩ | ⟨rfl,rfl,rfl,rfl,rfl,rfl,h⟩,rfl,rfl⟩
 ·have nw:NwB V0 b g:=NwB.own O h0 hb
  have zz:p.size≤1048576∧q.size≤1048576:=by
   have e:=congrArg List.length (rateT_bl (p,q,n,o,k,()))
   rw [ht,bl_len,List.length_append,bl_len,List.length_cons,List.length_append,bl_len] at e
   simp only at e
   omega
  refine⟨true,(op,c1,c2,c3,c4,c5,c6,m7,c8,m9,m10,c11,m12,c13,p,q,n,o,k,()),rfl,⟨le_box h0 hb0 le,hb0,s7,s9,s10,s12,t,f7,f9,f10,f12,g,u,kset_same,⟨z1,z2,z3,z4,z5,zz.1,zz.2⟩,L7.box le n7,L9.box le n9,L10.box le n10,L12.box le n12,L.box (Know.le.refl V1) nw,n7,n9,n10,n12,nw,((hO.one le hb O 4).box (Know.le.refl V1))⟩,rfl,fun j hj h1 h2=>?_,fun _=>ht,fun y hy ey=>?_⟩
  ·have e8:¬ (j=0∧False):=fun h=>h.2
   unfold Agr
   simp only [and_self,ite_self]
   repeat' split
   all_goals first | rfl | trivial | omega
  ·obtain⟨y0,y1,y2,y3,y4,y5,y6,y7,y8,y9,y10,y11,y12,y13,y14,y15,y16,y17,y18,yr⟩:=y
   have hy':RateOkP (y14,y15,y16,y17,y18,()):=hy
   have e:=hu _ hy' ey
   cases e
   exact⟨rfl,rfl,rfl,rfl,rfl,rfl⟩
 ·refine⟨false,(op,c1,c2,c3,c4,c5,c6,m7,c8,m9,m10,c11,m12,c13,noT,noT,false,[],0,()),rfl,⟨le_box h0 hb0 le,hb0,s7,s9,s10,s12,⟨none,0,0⟩,f7,f9,f10,f12,[],u,kset_same,⟨z1,z2,z3,z4,z5,Nat.zero_le _,Nat.zero_le _⟩,L7.box le n7,L9.box le n9,L10.box le n10,L12.box le n12,lr_none,n7,n9,n10,n12,(fun _ h=>by cases h),((hO.one le hb Own.nil 4).box (Know.le.refl V1))⟩,rfl,fun j hj h1 h2=>?_,nofun,fun y hy ey=>?_⟩
  ·unfold Agr
   simp only [and_self,ite_self]
   repeat' split
   all_goals first | rfl | trivial | omega
  ·obtain⟨y0,y1,y2,y3,y4,y5,y6,y7,y8,y9,y10,y11,y12,y13,y14,y15,y16,y17,y18,yr⟩:=y
   have hy':RateOkP (y14,y15,y16,y17,y18,()):=hy
   exact(h _ hy' ey).elim
theorem cI_fld5 {V0 V:Know} (hV:HtI V) (hE:hasSR V) {b:Nat} {x:DCmd} (hB:Box V0 V b x) (s:ByteArray) (hs:s.size≤1048576):CallX Tryz.prog V 26 [.pointer (some ⟨b,0,none⟩),.string s,.int .i64 5] (FldRd V0 b x s 5):=by
 obtain⟨op,c1,c2,c3,c4,c5,c6,m7,c8,m9,m10,c11,m12,c13,c14,c15,c16,m17,c18,un⟩:=x
 obtain⟨h0,hb0,s7,s9,s10,s12,s17,f7,f9,f10,f12,f17,u,hb,⟨z1,z2,z3,z4,z5,z6,z7⟩,L7,L9,L10,L12,L17,n7,n9,n10,n12,n17,hO⟩:=hB
 refine(cI_field5 hV hE b u op c1 c2 c3 c4 c5 c6 s7 c8 s9 s10 c11 s12 c13 c14 c15 c16 s17 c18 s hs hb).mono ?_
 rintro V' r ⟨V1,z,t1,t2,nm,w,f,g,ok,le,LA,LB,O,⟨_,hk,hu⟩,rfl,rfl⟩
 have nw:NwB V0 b (f++g):=NwB.own O h0 hb
 have nA:NwB V0 b f:=fun k hk=>nw k (List.mem_append_left _ hk)
 have nB:NwB V0 b g:=fun k hk=>nw k (List.mem_append_right _ hk)
 have r1:=Know.le.refl (kset V1 b z)
 refine⟨ok,(op,c1,c2,c3,c4,c5,c6,m7,c8,nm,w,c11,m12,c13,c14,c15,c16,m17,c18,()),rfl,⟨le_box (le_box h0 hb0 le) hb0 r1,hb0,s7,t1,t2,s12,s17,f7,f,g,f12,f17,u,kset_same,⟨z1,z2,z3,z4,z5,z6,z7⟩,(L7.box le n7).box r1 n7,(LA.box (Know.le.refl V1) nA).box r1 nA,(LB.box (Know.le.refl V1) nB).box r1 nB,(L12.box le n12).box r1 n12,(L17.box le n17).box r1 n17,n7,nA,nB,n12,n17,(((hO.two le hb O 1 2).box (Know.le.refl V1)).box r1)⟩,rfl,fun j hj h1 h2=>?_,fun h=>(hk h).2,fun y hy ey=>?_⟩
 ·unfold Agr
  simp only [if_neg hj,and_self,ite_self]
 ·obtain⟨y0,y1,y2,y3,y4,y5,y6,y7,y8,y9,y10,yr⟩:=y
  have hy':DealP y9 y10:=hy
  obtain⟨a,b,c⟩:=hu _ _ hy' ey
  exact⟨a,b,c⟩
theorem cI_fld {V0 V:Know} (hV:HtI V) (hE:hasSR V) {b:Nat} {x:DCmd} (hB:Box V0 V b x) (s:ByteArray) (hs:s.size≤1048576) {f:Int} (hf:0≤f∧f≤8):CallX Tryz.prog V 26 [.pointer (some ⟨b,0,none⟩),.string s,.int .i64 f] (FldRd V0 b x s f):=by
 have h:f=0∨f=1∨f=2∨f=3∨f=4∨f=5∨f=6∨f=7∨f=8:=by omega
 rcases h with rfl | rfl | rfl | rfl | rfl | rfl | rfl | rfl | rfl
 ·exact cI_fld0 hB s hs
 ·exact cI_fld1 hB s hs
 ·exact cI_fld2 hB s hs
 ·exact cI_fld3 hB s hs
 ·exact cI_fld4 hV hB s hs
 ·exact cI_fld5 hV hE hB s hs
 ·exact cI_fld6 hV hB s hs
 ·exact cI_fld7 hB s hs
 ·exact cI_fld8 hV hB s hs
end Go.Proofs.YtpkmhkbkohppiaaGreatDoor
namespace Go.Proofs.YtpkmhkbkohppiaaGreatDoor
open Sx Go.RowKit
set_option maxRecDepth 100000
theorem agr_sym {x y:DCmd} {f:Int} (h:Agr x y f):Agr y x f:=agr_tr agr_rf h
theorem agr_trans {x y z:DCmd} {f:Int} (h:Agr x y f) (k:Agr y z f):Agr x z f:=agr_tr h (agr_sym k)
def RdCmd (s:ByteArray) (x:DCmd) (ok:Bool):Prop:=(∀ y,CmdP y→cmdT y=s→ok=true∧x=y)∧(ok=true→CmdP x∧cmdT x=s)∧(ok=false→x=zeroCm 0)
theorem rdCmd_inj {s:ByteArray} {x y:DCmd} {a b:Bool} (h:RdCmd s x a) (k:RdCmd s y b):x=y∧a=b:=by
 cases a with
 | true =>
  obtain⟨h1,h2⟩:=h.2.1 rfl
  obtain⟨e1,e2⟩:=k.1 x h1 h2
  exact⟨e2.symm,e1.symm⟩
 | false =>
  cases b with
  | true =>
   obtain⟨h1,h2⟩:=k.2.1 rfl
   exact absurd (h.1 y h1 h2).1 (by decide)
  | false=>exact⟨(h.2.2 rfl).trans (k.2.2 rfl).symm,rfl⟩
def Reads (s w0:ByteArray) (op:Int) (done todo:List Lim) (x:DCmd) (left:List Tx):Prop :=
 x.1=op∧(∀ j:Int,0≤j→j<9→(j,()) ∉ done→Agr x (zeroCm op) j)∧cutB 32 s=(w0,()) :: ((done.flatMap fun g=>cutB 32 (fieldT x g.1))++left) ∧
 ∀ y,CmdP y→cmdT y=s→y.1=op∧(∀ g∈done,Agr x y g.1)∧left=todo.flatMap fun g=>cutB 32 (fieldT y g.1)
theorem cmd_op {y:DCmd} (h:CmdP y):1≤y.1∧y.1≤9:=(fields_mem y.1).1.1 h.1
theorem reads_start {s w0:ByteArray} {op:Int} {left:List Tx} (h:cutB 32 s=(w0,()) :: left) (ho:OpGot w0 op):Reads s w0 op [] (fieldsL op) (zeroCm op) left:=by
 refine⟨rfl,fun j _ _ _=>agr_rf,h,fun y hy ey=>?_⟩
 have e:=cmd_words y
 rw [ey,h,cut_lone (op_no (cmd_op hy))] at e
 obtain⟨e1,e2⟩:=List.cons.inj e
 have e3:w0=opT y.1:=congrArg Prod.fst e1
 have e4:y.1=op:=by
  rcases ho with ⟨a,b,c⟩ | ⟨_,c⟩
  ·exact opT_inj (cmd_op hy) ⟨a,b⟩ (e3.symm.trans c.symm)
  ·exact absurd e3.symm (c y.1 (cmd_op hy).1 (cmd_op hy).2)
 refine⟨e4,nofun,?_⟩
 rw [← e4]; exact e2
theorem reads_no {s w0:ByteArray} {op:Int} {done todo:List Lim} {x:DCmd} {left:List Tx} (h:Reads s w0 op done todo x left) {t:Tx} (ht:t∈left):(32:UInt8) ∉ bl t.1:=by
 refine cutB_no (s:=s) ?_
 rw [h.2.2.1]
 exact List.mem_cons_of_mem _ (List.mem_append_right _ ht)
theorem reads_next {s w0:ByteArray} {op f:Int} {done todo:List Lim} {x:DCmd} {left:List Tx} (h:Reads s w0 op done ((f,()) :: todo) x left) (hf:0≤f∧f≤8) (hm:(f,())∈fieldsL op) {y:DCmd} (hy:CmdP y) (ey:cmdT y=s) :
  FOk y f∧nw f≤left.length∧left.take (nw f)=cutB 32 (fieldT y f):=by
 obtain⟨e1,_,e3⟩:=h.2.2.2 y hy ey
 have ok:FOk y f:=field_ok hy (by rw [e1]; exact hm)
 have hl:=field_nw hf ok
 rw [List.flatMap_cons] at e3
 replace e3:left=cutB 32 (fieldT y f)++todo.flatMap fun g=>cutB 32 (fieldT y g.1):=e3
 refine⟨ok,?_,?_⟩
 ·rw [e3,List.length_append]; omega
 ·rw [e3,← hl,List.take_left']; rfl
theorem reads_step {s w0:ByteArray} {op f:Int} {done todo:List Lim} {x x':DCmd} {left:List Tx} (h:Reads s w0 op done ((f,()) :: todo) x left) (hf:0≤f∧f≤8) (hm:(f,())∈fieldsL op) (hd:(f,()) ∉ done) (hdn:∀ g∈done,0≤g.1∧g.1<9)
  (hn:nw f≤left.length) (hx:x'.1=x.1) (ha:∀ j:Int,j≠f→0≤j→j<9→Agr x' x j) (ht:fieldT x' f=joinT (left.take (nw f)) ⟨⟨[32]⟩⟩) (hu:∀ y:DCmd,FOk y f→fieldT y f=joinT (left.take (nw f)) ⟨⟨[32]⟩⟩→Agr x' y f) :
  Reads s w0 op (done++[(f,())]) todo x' (left.drop (nw f)):=by
 have hnf:∀ g∈done,g.1≠f:=fun g hg e=>hd (by
  have:g=(f,()):=Prod.ext e rfl
  rw [← this]; exact hg)
 have hsame:∀ g∈done,Agr x' x g.1:=fun g hg=>ha _ (hnf g hg) (hdn g hg).1 (hdn g hg).2
 have hp:0<nw f:=by unfold nw; split; decide; split <;> decide
 have hw:cutB 32 (fieldT x' f)=left.take (nw f):=by
  rw [ht]
  refine cut_words ?_ fun t k=>reads_no h (List.mem_of_mem_take k)
  intro e
  have:=congrArg List.length e
  rw [List.length_take,List.length_nil] at this
  omega
 refine⟨hx.trans h.1,fun j h0 h9 hj=>?_,?_,fun y hy ey=>?_⟩
 ·have hj':j≠f:=fun e=>hj (by rw [e]; simp)
  exact agr_trans (ha j hj' h0 h9) (h.2.1 j h0 h9 fun k=>hj (by simp [k]))
 ·have e1:(done.flatMap fun g=>cutB 32 (fieldT x' g.1))=done.flatMap fun g=>cutB 32 (fieldT x g.1) :=
   by rw [List.flatMap_def,List.flatMap_def,List.map_congr_left fun g hg=>by rw [(agr_use (hsame g hg)).2]]
  rw [h.2.2.1,List.flatMap_append,e1,List.flatMap_cons,List.flatMap_nil,List.append_nil,hw,List.append_assoc,List.take_append_drop]
 ·obtain⟨e1,e2,e3⟩:=h.2.2.2 y hy ey
  obtain⟨ok,_,et⟩:=reads_next h hf hm hy ey
  refine⟨e1,fun g hg=>?_,?_⟩
  ·rcases List.mem_append.1 hg with hg | hg
   ·exact agr_trans (hsame g hg) (e2 g hg)
   ·obtain rfl:g=(f,()):=by simpa using hg
    refine hu y ok ?_
    rw [et,joinT_cut1]
  ·rw [List.flatMap_cons,← et] at e3
   have e4:=List.take_append_drop (nw f) left
   exact List.append_cancel_left (e4.trans e3)
theorem reads_end {s w0:ByteArray} {op:Int} {x:DCmd} {left:List Tx} (h:Reads s w0 op (fieldsL op) [] x left) (ho:OpGot w0 op) :
  (left=[]→CmdP x→RdCmd s x true)∧((left≠[]∨¬ CmdP x)→RdCmd s (zeroCm 0) false):=by
 have hy0:∀ y,CmdP y→cmdT y=s→left=[]∧x=y:=fun y hy ey=>by
  obtain⟨e1,e2,e3⟩:=h.2.2.2 y hy ey
  refine⟨e3,cmd_eq (h.1.trans e1.symm) hy (fun j hj hm=>?_) fun g hg=>e2 g (by rw [← h.1]; exact hg)⟩
  rw [h.1] at hm ⊢
  exact h.2.1 j (by omega) (by omega) hm
 refine⟨fun hl hx=>⟨fun y hy ey=>⟨rfl,(hy0 y hy ey).2⟩,fun _=>⟨hx,?_⟩,nofun⟩,fun hc=>⟨fun y hy ey=>?_,nofun,fun _=>rfl⟩⟩
 ·refine cut_inj (c:=32) ?_
  have e:=cmd_words x
  rw [cut_lone (op_no (cmd_op hx)),h.1] at e
  rw [e,h.2.2.1,hl,List.append_nil]
  rcases ho with ⟨_,_,c⟩ | ⟨c,_⟩
  ·rw [c]; rfl
  ·have:=(cmd_op hx).1
   rw [h.1] at this
   omega
 ·obtain⟨e1,e2⟩:=hy0 y hy ey
  rcases hc with hc | hc
  ·exact absurd e1 hc
  ·exact absurd (e2 ▸ hy) hc
theorem reads_fail {s w0:ByteArray} {op f:Int} {done todo:List Lim} {x:DCmd} {left:List Tx} (h:Reads s w0 op done ((f,()) :: todo) x left) (hf:0≤f∧f≤8) (hm:(f,())∈fieldsL op)
  (hn:nw f≤left.length→∀ y:DCmd,FOk y f→fieldT y f≠joinT (left.take (nw f)) ⟨⟨[32]⟩⟩):RdCmd s (zeroCm 0) false:=by
 refine⟨fun y hy ey=>?_,nofun,fun _=>rfl⟩
 obtain⟨ok,hl,et⟩:=reads_next h hf hm hy ey
 exact absurd (by rw [et,joinT_cut1]) (hn hl y ok)
end Go.Proofs.YtpkmhkbkohppiaaGreatDoor
namespace Go.Proofs.YtpkmhkbkohppiaaGreatDoor
open Sx Go.RowKit
set_option maxRecDepth 100000
theorem cutB_ne (c:UInt8) (s:ByteArray):cutB c s≠[]:=fun e=>by
 have:=cutB_pos c s
 rw [e] at this
 exact absurd this (by decide)
def stg (j:Int):Int:=if j=8 then 0 else j+1
def todoL (op k:Int):List Lim:=(fieldsL op).filter fun g=>decide (k≤stg g.1)
theorem stg_inj {i j:Int} (hi:0≤i∧i≤8) (hj:0≤j∧j≤8) (e:stg i=stg j):i=j:=by
 unfold stg at e
 split at e <;> split at e <;> omega
theorem stg_pos {i:Int} (hi:0≤i):0≤stg i:=by
 unfold stg
 split <;> omega
theorem todo_zero (op:Int) (h:1≤op∧op≤9):todoL op 0=fieldsL op:=by
 have:op=1∨op=2∨op=3∨op=4∨op=5∨op=6∨op=7∨op=8∨op=9:=by omega
 rcases this with rfl | rfl | rfl | rfl | rfl | rfl | rfl | rfl | rfl <;> decide
theorem todo_hit {op f:Int} (h:1≤op∧op≤9) (hf:0≤f∧f≤8) (hm:(f,())∈fieldsL op):todoL op (stg f)=(f,()) :: todoL op (stg f+1):=by
 have h1:op=1∨op=2∨op=3∨op=4∨op=5∨op=6∨op=7∨op=8∨op=9:=by omega
 have h2:f=0∨f=1∨f=2∨f=3∨f=4∨f=5∨f=6∨f=7∨f=8:=by omega
 rcases h1 with rfl | rfl | rfl | rfl | rfl | rfl | rfl | rfl | rfl <;> rcases h2 with rfl | rfl | rfl | rfl | rfl | rfl | rfl | rfl | rfl <;> revert hm <;> decide
theorem todo_miss {op f:Int} (h:1≤op∧op≤9) (hf:0≤f∧f≤8) (hm:(f,()) ∉ fieldsL op):todoL op (stg f)=todoL op (stg f+1):=by
 have h1:op=1∨op=2∨op=3∨op=4∨op=5∨op=6∨op=7∨op=8∨op=9:=by omega
 have h2:f=0∨f=1∨f=2∨f=3∨f=4∨f=5∨f=6∨f=7∨f=8:=by omega
 rcases h1 with rfl | rfl | rfl | rfl | rfl | rfl | rfl | rfl | rfl <;> rcases h2 with rfl | rfl | rfl | rfl | rfl | rfl | rfl | rfl | rfl <;> revert hm <;> decide
def Part (s:ByteArray) (k:Int) (x:DCmd) (left:List Tx):Prop :=
 (∀ j:Int,0≤j→j<9→k≤stg j→Agr x (zeroCm x.1) j) ∧
 ∀ y,CmdP y→cmdT y=s→y.1=x.1∧(∀ j:Int,0≤j→j<9→stg j<k→Agr x y j)∧((y.1=9→k≤0)→left=(todoL y.1 k).flatMap fun g=>cutB 32 (fieldT y g.1))
theorem part_start {s:ByteArray} {op:Int} (ho:OpGot (hd (cutB 32 s)) op):Part s 0 (zeroCm op) (cutB 32 s).tail:=by
 have hne:=cutB_ne 32 s
 cases e:cutB 32 s with
 | nil=>exact absurd e hne
 | cons a left =>
  rw [e] at ho
  have h:=reads_start (s:=s) (w0:=a.1) (left:=left) e ho
  refine⟨fun j _ _ _=>agr_rf,fun y hy ey=>?_⟩
  obtain⟨e1,_,e3⟩:=h.2.2.2 y hy ey
  refine⟨e1,fun j h0 _ hj=>absurd (stg_pos h0) (by omega),fun _=>?_⟩
  rw [todo_zero _ (cmd_op hy),e1]
  exact e3
theorem cmd_zero {y:DCmd} (hy:CmdP y) {f:Int} (hf:0≤f∧f≤8) (hm:(f,()) ∉ fieldsL y.1) (op:Int):Agr y (zeroCm op) f:=by
 have h:=(hy.2 f.toNat (by omega)).2
 have e:((f.toNat:Nat):Int)=f:=by omega
 rw [e] at h
 exact zero_agr.1 (h hm)
theorem part_skip {s:ByteArray} {f:Int} {x:DCmd} {left:List Tx} (hf:0≤f∧f≤8) (hm:(f,()) ∉ fieldsL x.1) (h:Part s (stg f) x left):Part s (stg f+1) x left:=by
 have hp:=stg_pos hf.1
 refine⟨fun j h0 h9 hj=>h.1 j h0 h9 (by omega),fun y hy ey=>?_⟩
 obtain⟨e1,e2,e3⟩:=h.2 y hy ey
 refine⟨e1,fun j h0 h9 hj=>?_,fun h9=>?_⟩
 ·by_cases k:stg j=stg f
  ·have:j=f:=stg_inj ⟨h0,by omega⟩ hf k
   subst this
   exact agr_tr (h.1 j h0 h9 (by omega)) (cmd_zero hy hf (by rw [e1]; exact hm) x.1)
  ·exact e2 j h0 h9 (by omega)
 ·have n9:y.1≠9:=fun e=>by have:=h9 e; omega
  rw [e3 (fun e=>absurd e n9),todo_miss (cmd_op hy) hf (by rw [e1]; exact hm)]
theorem part_step {s:ByteArray} {f:Int} {x x':DCmd} {left:List Tx} (hf:0≤f∧f≤8) (hm:(f,())∈fieldsL x.1) (h:Part s (stg f) x left) (hx:x'.1=x.1) (ha:∀ j:Int,j≠f→0≤j→j<9→Agr x' x j)
  (hu:∀ y:DCmd,FOk y f→left.take (nw f)=cutB 32 (fieldT y f)→Agr x' y f) (h8:x.1≠9):Part s (stg f+1) x' (left.drop (nw f)):=by
 have hp:=stg_pos hf.1
 refine⟨fun j h0 h9 hj=>?_,fun y hy ey=>?_⟩
 ·rw [hx]
  exact agr_trans (ha j (fun e=>by rw [e] at hj; omega) h0 h9) (h.1 j h0 h9 (by omega))
 obtain⟨e1,e2,e3⟩:=h.2 y hy ey
 have ok:FOk y f:=field_ok hy (by rw [e1]; exact hm)
 have hl:=field_nw hf ok
 have e4:=e3 (fun e=>absurd (e1.symm.trans e) h8)
 rw [todo_hit (cmd_op hy) hf (by rw [e1]; exact hm),List.flatMap_cons] at e4
 have et:left.take (nw f)=cutB 32 (fieldT y f):=by rw [e4,← hl,List.take_left']; rfl
 refine⟨e1.trans hx.symm,fun j h0 h9 hj=>?_,fun _=>?_⟩
 ·by_cases k:stg j=stg f
  ·have:j=f:=stg_inj ⟨h0,by omega⟩ hf k
   subst this
   exact hu y ok et
  ·exact agr_trans (ha j (fun e=>k (by rw [e])) h0 h9) (e2 j h0 h9 (by omega))
 ·have e5:=List.take_append_drop (nw f) left
  rw [← et] at e4
  exact List.append_cancel_left (e5.trans e4)
theorem part_rate {s:ByteArray} {x x':DCmd} {left:List Tx} (h:Part s 0 x left) (h9:x.1=9) (hx:x'.1=x.1) (ha:∀ j:Int,j≠8→0≤j→j<9→Agr x' x j)
  (hu:∀ y:DCmd,FOk y 8→fieldT y 8=joinT left ⟨⟨[32]⟩⟩→Agr x' y 8):Part s 1 x' left:=by
 refine⟨fun j h0 h9 hj=>?_,fun y hy ey=>?_⟩
 ·rw [hx]
  exact agr_trans (ha j (fun e=>by rw [e] at hj; revert hj; decide) h0 h9) (h.1 j h0 h9 (stg_pos h0))
 obtain⟨e1,e2,e3⟩:=h.2 y hy ey
 have hm:((8:Int),())∈fieldsL y.1:=by rw [e1,h9]; decide
 have ok:FOk y 8:=field_ok hy hm
 have e4:=e3 (fun _=>Int.le_refl _)
 have e5:y.1=9:=e1.trans h9
 rw [e5] at e4
 have e6:todoL 9 0=[(8,())]:=by decide
 rw [e6,List.flatMap_cons,List.flatMap_nil,List.append_nil] at e4
 refine⟨e1.trans hx.symm,fun j h0 h9' hj=>?_,fun k=>absurd (k e5) (by decide)⟩
 have e:j=8:=by
  unfold stg at hj
  split at hj <;> omega
 subst e
 refine hu y ok ?_
 rw [e4,joinT_cut1]
theorem part_end {s:ByteArray} {x:DCmd} {left:List Tx} (h:Part s 9 x left) {y:DCmd} (hy:CmdP y) (ey:cmdT y=s):x=y:=by
 obtain⟨e1,e2,_⟩:=h.2 y hy ey
 refine agr_all e1.symm fun j hj=>e2 j (by omega) (by omega) ?_
 unfold stg
 split <;> omega
theorem part_ok {s:ByteArray} {x:DCmd} {left:List Tx} (h:Part s 9 x left) (hx:CmdP x) (ht:cmdT x=s):RdCmd s x true:=⟨fun _ hy ey=>⟨rfl,part_end h hy ey⟩,fun _=>⟨hx,ht⟩,nofun⟩
theorem part_no {s:ByteArray} {x:DCmd} {left:List Tx} (h:Part s 9 x left) (hn:¬ (CmdP x∧cmdT x=s)):RdCmd s (zeroCm 0) false:=⟨fun y hy ey=>by
 have e:=part_end h hy ey
 subst e
 exact absurd ⟨hy,ey⟩ hn,nofun,fun _=>rfl⟩
theorem take_one {left:List Tx} {t:ByteArray} (h:left.take 1=cutB 32 t):hd left=t:=by
 cases left with
 | nil=>exact absurd h.symm (cutB_ne 32 t)
 | cons a r =>
  have e:=joinT_cut1 32 t
  rw [← h] at e
  have e2:joinT [a] (⟨⟨[32]⟩⟩:ByteArray)=t:=e
  rw [joinT_one] at e2
  exact e2
theorem take_two {left:List Tx} {t:ByteArray} (h:left.take 2=cutB 32 t) (hl:(cutB 32 t).length=2):hd left++(⟨⟨[32]⟩⟩:ByteArray)++hd left.tail=t:=by
 cases left with
 | nil=>exact absurd h.symm (cutB_ne 32 t)
 | cons a r =>
  cases r with
  | nil=>rw [← h] at hl; simp at hl
  | cons b r =>
   have e:=joinT_cut1 32 t
   rw [← h] at e
   rw [← e]
   have e2:=joinT_snoc (l:=[a]) (by simp) b (⟨⟨[32]⟩⟩:ByteArray)
   rw [joinT_one] at e2
   exact e2.symm
end Go.Proofs.YtpkmhkbkohppiaaGreatDoor
