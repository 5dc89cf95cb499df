/-
  Copies that share no memory: of whole numbers, fractions, amounts, rates, and of lists of these.
-/
import Derived.Test.YtccnjccabllcaaaGreatDoorGrow
import Derived.Test.YtccnjccabllcaaaGreatDoorStr
import Derived.Test.YtccnjccabllcaaaGreatDoorNumB
namespace Go.Proofs.YtccnjccabllcaaaGreatDoor
open Sx
set_option maxRecDepth 100000
theorem setl_all {xs ys:List Value} (h:ys.length=xs.length):setl xs 0 ys=ys:=by
 simp only [setl,List.take_zero,List.nil_append,Nat.zero_add]
 rw [List.drop_of_length_le (by omega),List.append_nil]
theorem cI_moneyCopy (V:Know) (c0:ByteArray) (c1:Bool) (c2:SlV) (l:List Lim) (f:List Nat) (h:LR rI V c2 l f) (hl:l.length≤1048576) :
  CallX Tryz.prog V gI_moneyCopy [Sh1.val (.g [.s,.b,.l]) (c0,c1,c2,())] (fun V' r=>V.le V'∧∃ s f',r=Sh1.val (.g [.s,.b,.l]) (c0,c1,s,())∧LR rI V' s l f'∧Own V V' f'):=by
 refine CallX.of_fits Tryz.mix (fI_moneyCopy _) fun _=>?_
 simp only [tI_moneyCopy,T.wp]
 obtain⟨h1,h2⟩:=h.rdI
 have hn:=h.1
 refine⟨⟨by omega,by omega,by omega,by omega⟩,_,h1,h2,h2,?_⟩
 intro b cap spare hb hc _
 have htk:List.take (Nat.min c2.n (c2.n:Int).toNat) (l.map cellI)=l.map cellI:=by
  apply List.take_of_length_le
  have:Nat.min c2.n (c2.n:Int).toNat=c2.n:=by
   have e:(c2.n:Int).toNat=c2.n:=by omega
   rw [e]; exact Nat.min_self _
  rw [this]; simp; omega
 have hset:setl (madeCells ⟨[.int .i64 (0:Int)]⟩ ((c2.n:Int).toNat*1)).toList 0 (List.take (Nat.min c2.n (c2.n:Int).toNat) (l.map cellI))=l.map cellI:=by
  rw [htk]
  exact setl_all (by rw [made_len]; simp; omega)
 have hc':l.length≤cap:=by omega
 have hk:=newI (V:=V) (b:=b) (cap:=l.length) (o:=l) (spare:=spare) (t:=3) hb (Nat.le_refl _) (by omega)
 refine⟨⟨by omega,by omega,by omega,by omega⟩,?_⟩
 have hV:=kset_le (x:=(l.map cellI++spare,((3:TypeId),((0,0):Nat × Nat)))) hb
 have e1:((((c2.n:Int).toNat:Nat):Int).toNat-Int.toNat (0:Int))=l.length:=by omega
 have e2:(if (((c2.n:Int).toNat:Nat):Int).toNat=Int.toNat (0:Int) then (some ⟨b,0,none⟩:Option Addr) else Option.map (fun(x:Addr)=>x.add (Int.toNat (0:Int)*Tryz.prog.types[(3:Nat)].size)) (some (⟨b,0,none⟩:Addr)))=some ⟨b,0,none⟩:=by
  split
  ·rfl
  ·simp [Addr.add]
 show V.le (kset V b (setl (madeCells ⟨[.int .i64 (0:Int)]⟩ ((c2.n:Int).toNat*1)).toList 0 (List.take (Nat.min c2.n (c2.n:Int).toNat) (l.map cellI))++spare,((3:TypeId),((0,0):Nat × Nat))))∧_
 rw [hset]
 refine⟨hV,⟨some ⟨b,0,none⟩,l.length,l.length⟩,[b],?_,hk.1,hk.2⟩
 show Sh1.val (.g [.s,.b,.l]) (c0,c1,⟨(if (((c2.n:Int).toNat:Nat):Int).toNat=Int.toNat (0:Int) then (some ⟨b,0,none⟩:Option Addr) else Option.map (fun(x:Addr)=>x.add (Int.toNat (0:Int)*Tryz.prog.types[(3:Nat)].size)) (some (⟨b,0,none⟩:Addr))),
  ((((c2.n:Int).toNat:Nat):Int).toNat-Int.toNat (0:Int)),((((c2.n:Int).toNat:Nat):Int).toNat-Int.toNat (0:Int))⟩,())=_
 rw [e1,e2]
theorem cS_l17Money (V:Know) (c0:ByteArray) (c1:Bool) (c2:SlV) (l:List Lim) (f:List Nat) (h:LR rI V c2 l f) (hl:l.length≤1048576) :
  CallX Tryz.prog V gS_l17Money [Sh1.val (.g [.s,.b,.l]) (c0,c1,c2,())] (fun V' r=>V.le V'∧∃ s f',r=Sh1.val (.g [.s,.b,.l]) (c0,c1,s,())∧LR rI V' s l f'∧Own V V' f'):=by
 refine CallX.of_fits Tryz.mix (fS_l17Money _) fun _=>?_
 simp only [tS_l17Money,T.wp]
 obtain⟨h1,h2⟩:=h.rdI
 have hn:=h.1
 intro b1 hb1
 have hV1:=kset_le (x:=(([]:List Value),((3:TypeId),((0,0):Nat × Nat)))) hb1
 refine⟨l.map cellI,?_,⟨h2,(by omega:c2.n*8≤140737488355328),(by omega:c2.n≤9223372036854775807)⟩,fun hz=>?_,fun hz b3 cap spare hb3 hc _=>?_⟩
 ·rcases h1 with ⟨q1,_,q3⟩ | q
  ·exact .inl ⟨q1,q3⟩
  ·exact .inr q
 ·have hz':c2.n=0:=of_decide_eq_true hz
  have:l=[]:=List.eq_nil_of_length_eq_zero (by omega)
  subst this
  have hk:=newI (V:=V) (b:=b1) (cap:=0) (o:=[]) (spare:=[]) (t:=3) hb1 (Nat.le_refl _) (by simp)
  exact⟨hV1,_,_,rfl,hk.1,hk.2⟩
 ·have hc':l.length≤cap:=by rw [← hn]; exact hc
  have hk:=newI (V:=kset V b1 (([]:List Value),((3:TypeId),((0,0):Nat × Nat)))) (b:=b3) (cap:=cap) (o:=l) (spare:=spare) (t:=3) hb3 hc' (by omega)
  have hV3:=kset_le (x:=(l.map cellI++spare,((3:TypeId),((0,0):Nat × Nat)))) hb3
  refine⟨hV1.trans hV3,⟨some ⟨b3,0,none⟩,c2.n,cap⟩,[b3],rfl,?_,hk.2.pre hV1⟩
  rw [hn]; exact hk.1
theorem kI_natCopy:ToSC Tryz.prog gI_natCopy rI:=fun _ _ _ _ h ht=>cI_natCopy _ _ _ _ h (by omega)
theorem kI_intCopy:ToC Tryz.prog gI_intCopy rSigned:=by
 rintro V ⟨c1,c2,cu⟩ ⟨x1,x2,xu⟩ f hx ht
 obtain⟨ec1,hx⟩:=hx
 replace ec1:c1=x1:=ec1
 subst ec1
 obtain⟨f2,fr2,ec2,sc2,hx⟩:=hx
 subst ec2
 replace sc2:LR rI _ c2 x2 f2:=sc2
 replace hx:_=[]:=hx
 subst hx
 replace ht:(x2.length+totE rI x2+0)≤1048576:=ht
 refine CallX.of_fits Tryz.mix (fI_intCopy _) fun _=>?_
 simp only [tI_intCopy,T.wp]
 refine(cI_natCopy _ _ x2 _ sc2 (by omega)).mono ?_
 rintro V1 r ⟨hle1,s,k,rfl,hr,ho⟩
 exact⟨fun _=>hle1,s,rfl,hle1,(c1,s,()),_,rfl,rBool.mk (rSl.mk hr rNil.mk),by simpa using ho⟩
theorem kI_moneyCopy:ToC Tryz.prog gI_moneyCopy rMoney:=by
 rintro V ⟨c0,c1,c2,cu⟩ ⟨x0,x1,x2,xu⟩ f hx ht
 obtain⟨⟨ec0,zc0⟩,hx⟩:=hx
 replace ec0:c0=x0:=ec0
 subst ec0
 obtain⟨ec1,hx⟩:=hx
 replace ec1:c1=x1:=ec1
 subst ec1
 obtain⟨f2,fr2,ec2,sc2,hx⟩:=hx
 subst ec2
 replace sc2:LR rI _ c2 x2 f2:=sc2
 replace hx:_=[]:=hx
 subst hx
 replace ht:(c0.size+(x2.length+totE rI x2+0))≤1048576:=ht
 refine(cI_moneyCopy _ _ _ _ x2 _ sc2 (by omega)).mono ?_
 rintro V1 r ⟨hle1,s,k,rfl,hr,ho⟩
 exact⟨hle1,(c0,c1,s,()),_,rfl,rStr.mk zc0 (rBool.mk (rSl.mk hr rNil.mk)),by simpa using ho⟩
theorem kS_l17Money:ToC Tryz.prog gS_l17Money rMoney:=by
 rintro V ⟨c0,c1,c2,cu⟩ ⟨x0,x1,x2,xu⟩ f hx ht
 obtain⟨⟨ec0,zc0⟩,hx⟩:=hx
 replace ec0:c0=x0:=ec0
 subst ec0
 obtain⟨ec1,hx⟩:=hx
 replace ec1:c1=x1:=ec1
 subst ec1
 obtain⟨f2,fr2,ec2,sc2,hx⟩:=hx
 subst ec2
 replace sc2:LR rI _ c2 x2 f2:=sc2
 replace hx:_=[]:=hx
 subst hx
 replace ht:(c0.size+(x2.length+totE rI x2+0))≤1048576:=ht
 refine(cS_l17Money _ _ _ _ x2 _ sc2 (by omega)).mono ?_
 rintro V1 r ⟨hle1,s,k,rfl,hr,ho⟩
 exact⟨hle1,(c0,c1,s,()),_,rfl,rStr.mk zc0 (rBool.mk (rSl.mk hr rNil.mk)),by simpa using ho⟩
abbrev acT:TypeId:=135
abbrev ratT:TypeId:=60
theorem growI_book (V:Know) (c:Scs [.l]) (x:DBook) (f:List Nat) (hx:rBook.R V c x f) (ht:rBook.tot x≤1048576):CallX Tryz.prog V gI_bookCopy [Sh1.val (.g [.l]) c] (fun V' r=>V.le V'∧∃ s f,r=Sh1.val (.g [.l]) (s,())∧GR rAcct acT V' s x.1 f∧Own V V' f):=by
 obtain⟨s,cu⟩:=c
 obtain⟨l,xu⟩:=x
 obtain⟨f1,fr1,ef,sc,hx⟩:=hx
 subst ef
 replace sc:LR rAcct _ s l f1:=sc
 replace hx:_=[]:=hx
 subst hx
 replace ht:(l.length+totE rAcct l+0)≤1048576:=ht
 have hn:=sc.1
 refine CallX.of_fits Tryz.mix (fI_bookCopy _) fun _=>?_
 simp only [tI_bookCopy,ap_d,T.wp]
 have ew:IntKind.i64.wrap ((s.n:Int)+1)=((s.n+1:Nat):Int):=by rw [wrap_i64 (by omega)]; omega
 rw [ew]
 refine⟨⟨by omega,by omega,by omega,by omega⟩,fun b cap spare hb hc hsp=>?_⟩
 refine⟨fun y V'=>CopyI rAcct 135 V l y.1 y.2.1 V',fun y _=>((l.length:Int)-(y.1:Int)).toNat,⟨((0:Int),⟨some ⟨b,0,none⟩,0,cap⟩,()),rfl,CopyI.start_made (Know.le.refl _) hb (by rw [hsp]; rfl)⟩,?_⟩
 rintro⟨(i:Int),s1,u⟩ V' hI
 have hI':CopyI rAcct 135 V l i s1 V':=hI
 refine⟨fun hlt=>?_,fun hge=>?_⟩
 ·have hI0:=hI'
  obtain⟨hle,k,f0,rfl,hk,_,_⟩:=hI'
  have h1:k<l.length:=by
   have:(k:Int)<(s.n:Int):=by simpa using hlt
   omega
  obtain⟨b1,o1,c1,fc,a1,l1,r1,_⟩:=(sc.le hle).at h1
  have htx:=totE_mem rAcct h1
  refine⟨_,a1,(by omega:(0:Int)≤(k:Int)),(by omega:(k:Int)<(s.n:Int)),c1,l1,?_⟩
  obtain⟨n1,m1⟩:=c1
  obtain⟨en,zn⟩:=r1.1
  refine(kI_moneyCopy V' m1 l[k].2 fc r1.2 (by have:l[k].1.size+rMoney.tot l[k].2=rAcct.tot l[k]:=rfl; omega)).mono ?_
  rintro V2 r ⟨hle2,⟨c2,c3,c4,cv⟩,f2,rfl,hR,hO⟩
  refine⟨fun _=>hle2,(c2,c3,c4,()),rfl,rfl,rfl,?_⟩
  refine copy_end (sh:=[.s,.s,.b,.l]) (c:=(n1,c2,c3,c4,())) hI0 h1 hle2 (e:=rAcct) (bytes:=64) (fx:=f2) ⟨⟨en,zn⟩,hR⟩ hO (by kernel_rfl) (by omega) (by omega) fun s' V3 h3=>?_
  refine⟨_,rfl,(((k+1:Nat):Int),s',()),by rw [nxt h1 (by omega)]; rfl,h3,?_⟩
  show((l.length:Int)-((k+1:Nat):Int)).toNat<((l.length:Int)-(k:Int)).toNat
  omega
 ·have hi:¬ i<(l.length:Int):=by
   have:¬ i<(s.n:Int):=by simpa using hge
   omega
  obtain⟨hle,f3,hL,hO⟩:=hI'.finG hi
  exact⟨hle,s1,f3,rfl,hL,hO⟩
theorem kI_bookCopy:ToC Tryz.prog gI_bookCopy rBook:=fun V c x f hx ht=>(growI_book V c x f hx ht).mono (by
 rintro V' _ ⟨le,s,g,rfl,G,O⟩
 have e:rBook.tot x=x.1.length+totE rAcct x.1+0:=rfl
 exact⟨le,(s,()),g++[],rfl,rSl.mk (G.lr (by omega)) rNil.mk,by simpa using O⟩)
theorem kS_l17Copy:ToC Tryz.prog gS_l17Copy rBook:=by
 rintro V ⟨s,cu⟩ ⟨l,xu⟩ f hx ht
 obtain⟨f1,fr1,ef,sc,hx⟩:=hx
 subst ef
 replace sc:LR rAcct _ s l f1:=sc
 replace hx:_=[]:=hx
 subst hx
 replace ht:(l.length+totE rAcct l+0)≤1048576:=ht
 have hn:=sc.1
 refine CallX.of_fits Tryz.mix (fS_l17Copy _) fun _=>?_
 simp only [tS_l17Copy,ap_d,T.wp]
 refine⟨fun y V'=>CopyI rAcct 135 V l y.1 y.2.1 V',fun y _=>((l.length:Int)-(y.1:Int)).toNat,⟨((0:Int),⟨none,0,0⟩,()),rfl,CopyI.start⟩,?_⟩
 rintro⟨(i:Int),s1,u⟩ V' hI
 have hI':CopyI rAcct 135 V l i s1 V':=hI
 refine⟨fun hlt=>?_,fun hge=>?_⟩
 ·have hI0:=hI'
  obtain⟨hle,k,f0,rfl,hk,_,_⟩:=hI'
  have h1:k<l.length:=by
   have:(k:Int)<(s.n:Int):=by simpa using hlt
   omega
  obtain⟨b1,o1,c1,fc,a1,l1,r1,_⟩:=(sc.le hle).at h1
  have htx:=totE_mem rAcct h1
  refine⟨_,a1,(by omega:(0:Int)≤(k:Int)),(by omega:(k:Int)<(s.n:Int)),c1,l1,?_⟩
  obtain⟨n1,m1⟩:=c1
  obtain⟨en,zn⟩:=r1.1
  refine(kS_l17Money V' m1 l[k].2 fc r1.2 (by have:l[k].1.size+rMoney.tot l[k].2=rAcct.tot l[k]:=rfl; omega)).mono ?_
  rintro V2 r ⟨hle2,⟨c2,c3,c4,cv⟩,f2,rfl,hR,hO⟩
  refine⟨fun _=>hle2,(c2,c3,c4,()),rfl,rfl,rfl,?_⟩
  refine copy_end (sh:=[.s,.s,.b,.l]) (c:=(n1,c2,c3,c4,())) hI0 h1 hle2 (e:=rAcct) (bytes:=64) (fx:=f2) ⟨⟨en,zn⟩,hR⟩ hO (by kernel_rfl) (by omega) (by omega) fun s' V3 h3=>?_
  refine⟨_,rfl,(((k+1:Nat):Int),s',()),by rw [nxt h1 (by omega)]; rfl,h3,?_⟩
  show((l.length:Int)-((k+1:Nat):Int)).toNat<((l.length:Int)-(k:Int)).toNat
  omega
 ·have hi:¬ i<(l.length:Int):=by
   have:¬ i<(s.n:Int):=by simpa using hge
   omega
  obtain⟨hle,f3,hL,hO⟩:=hI'.fin (by omega) hi
  exact⟨hle,(s1,()),f3++[],rfl,rSl.mk hL rNil.mk,by simpa using hO⟩
theorem kI_decCopy:ToC Tryz.prog gI_decCopy rDec:=by
 rintro V ⟨c0,c1,c2,cu⟩ ⟨x0,x1,x2,xu⟩ f hx ht
 obtain⟨ec0,hx⟩:=hx
 replace ec0:c0=x0:=ec0
 subst ec0
 obtain⟨f1,fr1,ec1,sc1,hx⟩:=hx
 subst ec1
 replace sc1:LR rI _ c1 x1 f1:=sc1
 obtain⟨ec2,hx⟩:=hx
 replace ec2:c2=x2:=ec2
 subst ec2
 replace hx:_=[]:=hx
 subst hx
 replace ht:(x1.length+totE rI x1+0)≤1048576:=ht
 refine CallX.of_fits Tryz.mix (fI_decCopy _) fun _=>?_
 simp only [tI_decCopy,T.wp]
 refine(kI_intCopy _ _ (c0,x1,()) _ (rBool.mk (rSl.mk sc1 rNil.mk)) (by show(x1.length+totE rI x1+0)≤1048576; omega)).mono ?_
 rintro V0 r ⟨hle0,⟨d0,d1,du0⟩,k0,rfl,hr0,ho0⟩
 obtain⟨ed0,hr0⟩:=hr0
 replace ed0:d0=c0:=ed0
 subst ed0
 obtain⟨k0f1,k0r1,ed1,sd1,hr0⟩:=hr0
 subst ed1
 replace sd1:LR rI _ d1 x1 k0f1:=sd1
 replace hr0:_=[]:=hr0
 subst hr0
 refine⟨fun _=>hle0,(d0,d1,()),rfl,?_⟩
 exact⟨hle0,(d0,d1,c2,()),_,rfl,(rBool.mk (rSl.mk sd1 (rInt.mk rNil.mk))),by simpa using ho0⟩
theorem kI_rateCopy:ToC Tryz.prog gI_rateCopy rRate:=by
 rintro V ⟨c0,c1,c2,c3,c4,cu⟩ ⟨x0,x1,x2,x3,x4,xu⟩ f hx ht
 obtain⟨⟨ec0,zc0⟩,hx⟩:=hx
 replace ec0:c0=x0:=ec0
 subst ec0
 replace zc0:c0.size≤9223372036854775807:=zc0
 obtain⟨⟨ec1,zc1⟩,hx⟩:=hx
 replace ec1:c1=x1:=ec1
 subst ec1
 replace zc1:c1.size≤9223372036854775807:=zc1
 obtain⟨ec2,hx⟩:=hx
 replace ec2:c2=x2:=ec2
 subst ec2
 obtain⟨f3,fr3,ec3,sc3,hx⟩:=hx
 subst ec3
 replace sc3:LR rI _ c3 x3 f3:=sc3
 obtain⟨ec4,hx⟩:=hx
 replace ec4:c4=x4:=ec4
 subst ec4
 replace hx:_=[]:=hx
 subst hx
 replace ht:(c0.size+(c1.size+(x3.length+totE rI x3+0)))≤1048576:=ht
 refine CallX.of_fits Tryz.mix (fI_rateCopy _) fun _=>?_
 simp only [tI_rateCopy,T.wp]
 refine(kI_decCopy _ _ (c2,x3,c4,()) _ (rBool.mk (rSl.mk sc3 (rInt.mk rNil.mk))) (by show(x3.length+totE rI x3+0)≤1048576; omega)).mono ?_
 rintro V2 r ⟨hle2,⟨d2,d3,d4,du2⟩,k2,rfl,hr2,ho2⟩
 obtain⟨ed2,hr2⟩:=hr2
 replace ed2:d2=c2:=ed2
 subst ed2
 obtain⟨k2f3,k2r3,ed3,sd3,hr2⟩:=hr2
 subst ed3
 replace sd3:LR rI _ d3 x3 k2f3:=sd3
 obtain⟨ed4,hr2⟩:=hr2
 replace ed4:d4=c4:=ed4
 subst ed4
 replace hr2:_=[]:=hr2
 subst hr2
 refine⟨fun _=>hle2,(d2,d3,d4,()),rfl,?_⟩
 exact⟨hle2,(c0,c1,d2,d3,d4,()),_,rfl,(rStr.mk zc0 (rStr.mk zc1 (rBool.mk (rSl.mk sd3 (rInt.mk rNil.mk))))),by simpa using ho2⟩
theorem kI_ratCopy:ToC Tryz.prog gI_ratCopy rRat:=by
 rintro V ⟨c0,c1,c2,cu⟩ ⟨x0,x1,x2,xu⟩ f hx ht
 obtain⟨ec0,hx⟩:=hx
 replace ec0:c0=x0:=ec0
 subst ec0
 obtain⟨f1,fr1,ec1,sc1,hx⟩:=hx
 subst ec1
 replace sc1:LR rI _ c1 x1 f1:=sc1
 obtain⟨f2,fr2,ec2,sc2,hx⟩:=hx
 subst ec2
 replace sc2:LR rI _ c2 x2 f2:=sc2
 replace hx:_=[]:=hx
 subst hx
 replace ht:(x1.length+totE rI x1+(x2.length+totE rI x2+0))≤1048576:=ht
 refine CallX.of_fits Tryz.mix (fI_ratCopy _) fun _=>?_
 simp only [tI_ratCopy,T.wp]
 refine(kI_intCopy _ _ (c0,x1,()) _ (rBool.mk (rSl.mk sc1 rNil.mk)) (by show(x1.length+totE rI x1+0)≤1048576; omega)).mono ?_
 rintro V0 r ⟨hle0,⟨d0,d1,du0⟩,k0,rfl,hr0,ho0⟩
 obtain⟨ed0,hr0⟩:=hr0
 replace ed0:d0=c0:=ed0
 subst ed0
 obtain⟨k0f1,k0r1,ed1,sd1,hr0⟩:=hr0
 subst ed1
 replace sd1:LR rI _ d1 x1 k0f1:=sd1
 replace hr0:_=[]:=hr0
 subst hr0
 refine⟨fun _=>hle0,(d0,d1,()),rfl,?_⟩
 refine(kI_natCopy _ _ x2 _ (sc2.le hle0) (by omega)).mono ?_
 rintro V2 r ⟨hle2,d2,k2,rfl,sd2,ho2⟩
 refine⟨fun _=>hle2,d2,rfl,?_⟩
 have hA2:=ho0.append ho2 hle0 hle2
 have hL2:=hle0.trans hle2
 replace sd1:=sd1.le hle2
 exact⟨hL2,(d0,d1,d2,()),_,rfl,(rBool.mk (rSl.mk sd1 (rSl.mk sd2 rNil.mk))),by simpa using hA2⟩
abbrev GrowPost (V:Know) (x:DRates):Know→Value→Prop:=fun V' r=>V.le V'∧∃ s f,r=Sh1.val (.g [.s,.l]) (x.1,s,())∧GR rRate ratT V' s x.2.1 f∧Own V V' f
theorem growI_rates (V:Know) (c:Scs [.s,.l]) (x:DRates) (f:List Nat) (hx:rRates.R V c x f) (ht:rRates.tot x≤1048576):CallX Tryz.prog V gI_ratesCopy [Sh1.val (.g [.s,.l]) c] (GrowPost V x):=by
 obtain⟨p0,s,cu⟩:=c
 obtain⟨q0,l,xu⟩:=x
 obtain⟨⟨ep,zp⟩,hx⟩:=hx
 replace ep:p0=q0:=ep
 subst ep
 obtain⟨f1,fr1,ef,sc,hx⟩:=hx
 subst ef
 replace sc:LR rRate _ s l f1:=sc
 replace hx:_=[]:=hx
 subst hx
 replace ht:(p0.size+(l.length+totE rRate l+0))≤1048576:=ht
 have hn:=sc.1
 refine CallX.of_fits Tryz.mix (fI_ratesCopy _) fun _=>?_
 simp only [tI_ratesCopy,ap_d,T.wp]
 refine⟨fun y V'=>y.2.1=p0∧CopyI rRate ratT V l y.1 y.2.2.1 V',fun y _=>((l.length:Int)-(y.1:Int)).toNat,⟨((0:Int),p0,⟨none,0,0⟩,()),rfl,rfl,CopyI.start⟩,?_⟩
 rintro⟨(i:Int),p1,s1,u⟩ V' ⟨hp,hI⟩
 replace hp:p1=p0:=hp
 subst hp
 have hI':CopyI rRate ratT V l i s1 V':=hI
 refine⟨fun hlt=>?_,fun hge=>?_⟩
 ·have hI0:=hI'
  obtain⟨hle,k,f0,rfl,hk,_,_⟩:=hI'
  have h1:k<l.length:=by
   have:(k:Int)<(s.n:Int):=by simpa using hlt
   omega
  obtain⟨b1,o1,c1,fc,a1,l1,r1,_⟩:=(sc.le hle).at h1
  have htx:=totE_mem rRate h1
  refine⟨_,a1,(by omega:(0:Int)≤(k:Int)),(by omega:(k:Int)<(s.n:Int)),c1,l1,?_⟩
  refine(kI_rateCopy V' c1 l[k] fc r1 (by omega)).mono ?_
  rintro V2 r ⟨hle2,⟨c2,c3,c4,c5,c6,cv⟩,f2,rfl,hR,hO⟩
  refine⟨fun _=>hle2,(c2,c3,c4,c5,c6,()),rfl,rfl,rfl,?_⟩
  refine copy_end (sh:=[.s,.s,.b,.l,.i .i64]) (c:=(c2,c3,c4,c5,c6,())) hI0 h1 hle2 (e:=rRate) (bytes:=72) (fx:=f2) hR hO (by kernel_rfl) (by omega) (by omega) fun s' V3 h3=>?_
  refine⟨_,rfl,(((k+1:Nat):Int),p1,s',()),by rw [nxt h1 (by omega)]; rfl,⟨rfl,h3⟩,?_⟩
  show((l.length:Int)-((k+1:Nat):Int)).toNat<((l.length:Int)-(k:Int)).toNat
  omega
 ·have hi:¬ i<(l.length:Int):=by
   have:¬ i<(s.n:Int):=by simpa using hge
   omega
  obtain⟨hle,f3,hL,hO⟩:=hI'.finG hi
  exact⟨hle,s1,f3,rfl,hL,hO⟩
theorem kI_ratesCopy:ToC Tryz.prog gI_ratesCopy rRates:=fun V c x f hx ht=>(growI_rates V c x f hx ht).mono (by
 rintro V' _ ⟨le,s,g,rfl,G,O⟩
 have e:rRates.tot x=x.1.size+(x.2.1.length+totE rRate x.2.1+0):=rfl
 exact⟨le,(x.1,s,()),g++[],rfl,rStr.mk hx.1.2 (rSl.mk (G.lr (by omega)) rNil.mk),by simpa using O⟩)
theorem kI_restsCopy:ToSC Tryz.prog gI_restsCopy rRest:=by
 intro V s l f sc ht
 have hn:=sc.1
 refine CallX.of_fits Tryz.mix (fI_restsCopy _) fun _=>?_
 simp only [tI_restsCopy,ap_d,T.wp]
 intro b cap spare hb hc hsp
 refine⟨fun y V'=>CopyI rRest 143 V l y.2.1 y.1 V',fun y _=>((l.length:Int)-(y.2.1:Int)).toNat,⟨(⟨some ⟨b,0,none⟩,0,cap⟩,(0:Int),()),rfl,CopyI.start_made (Know.le.refl _) hb (by rw [hsp]; rfl)⟩,?_⟩
 rintro⟨s1,(i:Int),u⟩ V' hI
 have hI':CopyI rRest 143 V l i s1 V':=hI
 refine⟨fun hlt=>?_,fun hge=>?_⟩
 ·have hI0:=hI'
  obtain⟨hle,k,f0,rfl,hk,_,_⟩:=hI'
  have h1:k<l.length:=by
   have:(k:Int)<(s.n:Int):=by simpa using hlt
   omega
  obtain⟨b1,o1,c1,fc,a1,l1,r1,_⟩:=(sc.le hle).at h1
  have htx:=totE_mem rRest h1
  refine⟨_,a1,(by omega:(0:Int)≤(k:Int)),(by omega:(k:Int)<(s.n:Int)),c1,l1,?_⟩
  obtain⟨n1,m1⟩:=c1
  obtain⟨en,zn⟩:=r1.1
  refine(kI_ratCopy V' m1 l[k].2 fc r1.2 (by have:l[k].1.size+rRat.tot l[k].2=rRest.tot l[k]:=rfl; omega)).mono ?_
  rintro V2 r ⟨hle2,⟨c2,c3,c4,cv⟩,f2,rfl,hR,hO⟩
  refine⟨fun _=>hle2,(c2,c3,c4,()),rfl,rfl,rfl,?_⟩
  refine copy_end (sh:=[.s,.b,.l,.l]) (c:=(n1,c2,c3,c4,())) hI0 h1 hle2 (e:=rRest) (bytes:=72) (fx:=f2) ⟨⟨en,zn⟩,hR⟩ hO (by kernel_rfl) (by omega) (by omega) fun s' V3 h3=>?_
  refine⟨_,rfl,(s',((k+1:Nat):Int),()),by rw [nxt h1 (by omega)]; rfl,h3,?_⟩
  show((l.length:Int)-((k+1:Nat):Int)).toNat<((l.length:Int)-(k:Int)).toNat
  omega
 ·have hi:¬ i<(l.length:Int):=by
   have:¬ i<(s.n:Int):=by simpa using hge
   omega
  obtain⟨hle,f3,hL,hO⟩:=hI'.fin (by omega) hi
  exact⟨hle,s1,f3,rfl,hL,hO⟩
theorem kI_ledgerCopy:ToC Tryz.prog gI_ledgerCopy rLedger:=by
 rintro V ⟨c0,c1,c2,c3,cu⟩ ⟨x0,x1,x2,x3,xu⟩ f hx ht
 obtain⟨f0,fr0,ec0,sc0,hx⟩:=hx
 subst ec0
 replace sc0:LR rAcct _ c0 x0 f0:=sc0
 obtain⟨f1,fr1,ec1,sc1,hx⟩:=hx
 subst ec1
 replace sc1:LR rRest _ c1 x1 f1:=sc1
 obtain⟨⟨ec2,zc2⟩,hx⟩:=hx
 replace ec2:c2=x2:=ec2
 subst ec2
 replace zc2:c2.size≤9223372036854775807:=zc2
 obtain⟨f3,fr3,ec3,sc3,hx⟩:=hx
 subst ec3
 replace sc3:LR rRate _ c3 x3 f3:=sc3
 replace hx:_=[]:=hx
 subst hx
 replace ht:(x0.length+totE rAcct x0+(x1.length+totE rRest x1+(c2.size+(x3.length+totE rRate x3+0))))≤1048576:=ht
 refine CallX.of_fits Tryz.mix (fI_ledgerCopy _) fun _=>?_
 simp only [tI_ledgerCopy,T.wp]
 refine(kI_bookCopy _ _ (x0,()) _ (rSl.mk sc0 rNil.mk) (by show(x0.length+totE rAcct x0+0)≤1048576; omega)).mono ?_
 rintro V0 r ⟨hle0,⟨d0,du0⟩,k0,rfl,hr0,ho0⟩
 obtain⟨k0f0,k0r0,ed0,sd0,hr0⟩:=hr0
 subst ed0
 replace sd0:LR rAcct _ d0 x0 k0f0:=sd0
 replace hr0:_=[]:=hr0
 subst hr0
 refine⟨fun _=>hle0,(d0,()),rfl,?_⟩
 refine(kI_restsCopy _ _ x1 _ (sc1.le hle0) (by omega)).mono ?_
 rintro V1 r ⟨hle1,d1,k1,rfl,sd1,ho1⟩
 refine⟨fun _=>hle1,d1,rfl,?_⟩
 have hA1:=ho0.append ho1 hle0 hle1
 have hL1:=hle0.trans hle1
 replace sd0:=sd0.le hle1
 refine(kI_ratesCopy _ _ (c2,x3,()) _ (rStr.mk zc2 (rSl.mk (sc3.le hL1) rNil.mk)) (by show(c2.size+(x3.length+totE rRate x3+0))≤1048576; omega)).mono ?_
 rintro V2 r ⟨hle2,⟨d2,d3,du2⟩,k2,rfl,hr2,ho2⟩
 obtain⟨⟨ed2,zd2⟩,hr2⟩:=hr2
 replace ed2:d2=c2:=ed2
 subst ed2
 replace zd2:d2.size≤9223372036854775807:=zd2
 obtain⟨k2f3,k2r3,ed3,sd3,hr2⟩:=hr2
 subst ed3
 replace sd3:LR rRate _ d3 x3 k2f3:=sd3
 replace hr2:_=[]:=hr2
 subst hr2
 refine⟨fun _=>hle2,(d2,d3,()),rfl,?_⟩
 have hA2:=hA1.append ho2 hL1 hle2
 have hL2:=hL1.trans hle2
 replace sd0:=sd0.le hle2
 replace sd1:=sd1.le hle2
 exact⟨hL2,(d0,d1,d2,d3,()),_,rfl,(rSl.mk sd0 (rSl.mk sd1 (rStr.mk zd2 (rSl.mk sd3 rNil.mk)))),by simpa using hA2⟩
def litT (s:SlV) (k:SlV→T):T :=
 .es [] 3 fun b1=>.ra ⟨s.a,s.n,s.c⟩ 1 fun y2 =>
 .rq (one y2=true∧s.n*(8:Nat)≤(140737488355328:Nat)∧s.n≤(9223372036854775807:Nat)) <|
 .br (decide (s.n=(0:Nat))) (k ⟨some ⟨b1,0,none⟩,0,0⟩) (.fz s.n y2 3 fun b3 c3=>k ⟨some ⟨b3,0,none⟩,s.n,c3⟩)
theorem litT_wp {P:Program} {K:Know→List Value→Prop} {V V0:Know} {Ns:List (List LV→Know→Prop)} {s:SlV} {l:List Lim} {f:List Nat} {k:SlV→T} (h:LR rI V0 s l f) (hl:l.length≤1048576)
  (hk:∀ V2 s' f',V.le V2→LR rI V2 s' l f'→Own V V2 f'→(k s').wp P K V2 V0 Ns):(litT s k).wp P K V V0 Ns:=by
 simp only [litT,T.wp]
 obtain⟨h1,h2⟩:=h.rdI
 have hn:=h.1
 intro b1 hb1
 have hV1:=kset_le (x:=(([]:List Value),((3:TypeId),((0,0):Nat × Nat)))) hb1
 refine⟨l.map cellI,?_,⟨h2,(by omega:s.n*8≤140737488355328),(by omega:s.n≤9223372036854775807)⟩,fun hz=>?_,fun hz b3 cap spare hb3 hc _=>?_⟩
 ·rcases h1 with ⟨q1,_,q3⟩ | q
  ·exact .inl ⟨q1,q3⟩
  ·exact .inr q
 ·have hz':s.n=0:=of_decide_eq_true hz
  have:l=[]:=List.eq_nil_of_length_eq_zero (by omega)
  subst this
  have hk':=newI (V:=V) (b:=b1) (cap:=0) (o:=[]) (spare:=[]) (t:=3) hb1 (Nat.le_refl _) (by simp)
  exact hk _ _ _ hV1 hk'.1 hk'.2
 ·have hc':l.length≤cap:=by rw [← hn]; exact hc
  have hk':=newI (V:=kset V b1 (([]:List Value),((3:TypeId),((0,0):Nat × Nat)))) (b:=b3) (cap:=cap) (o:=l) (spare:=spare) (t:=3) hb3 hc' (by omega)
  have hV3:=kset_le (x:=(l.map cellI++spare,((3:TypeId),((0,0):Nat × Nat)))) hb3
  refine hk _ _ [b3] (hV1.trans hV3) ?_ (hk'.2.pre hV1)
  rw [hn]; exact hk'.1
theorem kS_l19Rat:ToC Tryz.prog gS_l19Rat rRat:=by
 rintro V ⟨c0,c1,c2,cu⟩ ⟨x0,x1,x2,xu⟩ f hx ht
 obtain⟨ec0,hx⟩:=hx
 replace ec0:c0=x0:=ec0
 subst ec0
 obtain⟨f1,fr1,ec1,sc1,hx⟩:=hx
 subst ec1
 replace sc1:LR rI _ c1 x1 f1:=sc1
 obtain⟨f2,fr2,ec2,sc2,hx⟩:=hx
 subst ec2
 replace sc2:LR rI _ c2 x2 f2:=sc2
 replace hx:_=[]:=hx
 subst hx
 replace ht:(x1.length+totE rI x1+(x2.length+totE rI x2+0))≤1048576:=ht
 refine CallX.of_fits Tryz.mix (fS_l19Rat _) fun _=>?_
 show T.wp _ _ (litT c1 fun s1=>litT c2 fun s2=>.ret [Sh1.val (.g [.b,.l,.l]) (c0,s1,s2,())]) V V []
 refine litT_wp sc1 (by omega) fun V1 s1 g1 hle1 L1 O1=>?_
 refine litT_wp sc2 (by omega) fun V2 s2 g2 hle2 L2 O2=>?_
 exact⟨hle1.trans hle2,(c0,s1,s2,()),_,rfl,rBool.mk (rSl.mk (L1.le hle2) (rSl.mk L2 rNil.mk)),by simpa using O1.append O2 hle1 hle2⟩
theorem kS_l19Copy:ToSC Tryz.prog gS_l19Copy rRest:=by
 intro V s l f sc ht
 have hn:=sc.1
 refine CallX.of_fits Tryz.mix (fS_l19Copy _) fun _=>?_
 simp only [tS_l19Copy,ap_d,T.wp]
 intro b cap spare hb hc hsp
 refine⟨fun y V'=>CopyI rRest 143 V l y.2.1 y.1 V',fun y _=>((l.length:Int)-(y.2.1:Int)).toNat,⟨(⟨some ⟨b,0,none⟩,0,cap⟩,(0:Int),()),rfl,CopyI.start_made (Know.le.refl _) hb (by rw [hsp]; rfl)⟩,?_⟩
 rintro⟨s1,(i:Int),u⟩ V' hI
 have hI':CopyI rRest 143 V l i s1 V':=hI
 refine⟨fun hlt=>?_,fun hge=>?_⟩
 ·have hI0:=hI'
  obtain⟨hle,k,f0,rfl,hk,_,_⟩:=hI'
  have h1:k<l.length:=by
   have:(k:Int)<(s.n:Int):=by simpa using hlt
   omega
  obtain⟨b1,o1,c1,fc,a1,l1,r1,_⟩:=(sc.le hle).at h1
  have htx:=totE_mem rRest h1
  refine⟨_,a1,(by omega:(0:Int)≤(k:Int)),(by omega:(k:Int)<(s.n:Int)),c1,l1,?_⟩
  obtain⟨n1,m1⟩:=c1
  obtain⟨en,zn⟩:=r1.1
  refine(kS_l19Rat V' m1 l[k].2 fc r1.2 (by have:l[k].1.size+rRat.tot l[k].2=rRest.tot l[k]:=rfl; omega)).mono ?_
  rintro V2 r ⟨hle2,⟨c2,c3,c4,cv⟩,f2,rfl,hR,hO⟩
  refine⟨fun _=>hle2,(c2,c3,c4,()),rfl,rfl,rfl,?_⟩
  refine copy_end (sh:=[.s,.b,.l,.l]) (c:=(n1,c2,c3,c4,())) hI0 h1 hle2 (e:=rRest) (bytes:=72) (fx:=f2) ⟨⟨en,zn⟩,hR⟩ hO (by kernel_rfl) (by omega) (by omega) fun s' V3 h3=>?_
  refine⟨_,rfl,(s',((k+1:Nat):Int),()),by rw [nxt h1 (by omega)]; rfl,h3,?_⟩
  show((l.length:Int)-((k+1:Nat):Int)).toNat<((l.length:Int)-(k:Int)).toNat
  omega
 ·have hi:¬ i<(l.length:Int):=by
   have:¬ i<(s.n:Int):=by simpa using hge
   omega
  obtain⟨hle,f3,hL,hO⟩:=hI'.fin (by omega) hi
  exact⟨hle,s1,f3,rfl,hL,hO⟩
end Go.Proofs.YtccnjccabllcaaaGreatDoor
