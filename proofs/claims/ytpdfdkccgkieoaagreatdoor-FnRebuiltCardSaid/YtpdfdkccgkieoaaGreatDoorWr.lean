/-
  Memory that is written: what stays, and one limb replaced in place.
-/
import Derived.Test.YtpdfdkccgkieoaaGreatDoorPut
import Derived.Test.YtpdfdkccgkieoaaGreatDoorStr
import Derived.Test.YtpdfdkccgkieoaaGreatDoorNumB
namespace Go.Proofs.YtpdfdkccgkieoaaGreatDoor
open Sx
set_option maxRecDepth 100000
theorem setl_all {xs ys:List Value} (h:ys.length=xs.length):setl xs 0 ys=ys:=by
 simp only [setl,List.take_zero,List.nil_append,Nat.zero_add]
 rw [List.drop_of_length_le (by omega),List.append_nil]
theorem cI_moneyCopy (V:Know) (c0:ByteArray) (c1:Bool) (c2:SlV) (l:List Lim) (f:List Nat) (h:LR rI V c2 l f) (hl:l.length≤1048576) :
  CallX Tryz.prog V 122 [qv2 (c0,c1,c2,())] (fun V' r=>V.le V'∧∃ s f',r=qv2 (c0,c1,s,())∧LR rI V' s l f'∧Own V V' f'):=by
 refine CallX.of_fits Tryz.mix (fI_moneyCopy _) fun _=>?_
 simp only [tI_moneyCopy,T.wp]
 obtain⟨h1,h2⟩:=h.rdI
 have hn:=h.1
 refine⟨⟨by omega,by omega,by omega,by omega⟩,_,h1,h2,h2,?_⟩
 intro b cap spare hb hc _
 have htk:List.take (Nat.min c2.n (c2.n:Int).toNat) (l.map cellI)=l.map cellI:=by
  apply List.take_of_length_le
  have:Nat.min c2.n (c2.n:Int).toNat=c2.n:=by
   have e:(c2.n:Int).toNat=c2.n:=by omega
   rw [e]; exact Nat.min_self _
  rw [this]; simp; omega
 have hset:setl (madeCells ⟨[.int .i64 (0:Int)]⟩ ((c2.n:Int).toNat*1)).toList 0 (List.take (Nat.min c2.n (c2.n:Int).toNat) (l.map cellI))=l.map cellI:=by
  rw [htk]
  exact setl_all (by rw [made_len]; simp; omega)
 have hc':l.length≤cap:=by omega
 have hk:=newI (V:=V) (b:=b) (cap:=l.length) (o:=l) (spare:=spare) (t:=3) hb (Nat.le_refl _) (by omega)
 refine⟨⟨by omega,by omega,by omega,by omega⟩,?_⟩
 have hV:=kset_le (x:=(l.map cellI++spare,((3:TypeId),((0,0):Nat × Nat)))) hb
 have e1:((((c2.n:Int).toNat:Nat):Int).toNat-Int.toNat (0:Int))=l.length:=by omega
 have e2:(if (((c2.n:Int).toNat:Nat):Int).toNat=Int.toNat (0:Int) then (some ⟨b,0,none⟩:Option Addr) else Option.map (fun(x:Addr)=>x.add (Int.toNat (0:Int)*Tryz.prog.types[(3:Nat)].size)) (some (⟨b,0,none⟩:Addr)))=some ⟨b,0,none⟩:=by
  split
  ·rfl
  ·simp [Addr.add]
 show V.le (kset V b (setl (madeCells ⟨[.int .i64 (0:Int)]⟩ ((c2.n:Int).toNat*1)).toList 0 (List.take (Nat.min c2.n (c2.n:Int).toNat) (l.map cellI))++spare,((3:TypeId),((0,0):Nat × Nat))))∧_
 rw [hset]
 refine⟨hV,⟨some ⟨b,0,none⟩,l.length,l.length⟩,[b],?_,hk.1,hk.2⟩
 show qv2 (c0,c1,⟨(if (((c2.n:Int).toNat:Nat):Int).toNat=Int.toNat (0:Int) then (some ⟨b,0,none⟩:Option Addr) else Option.map (fun(x:Addr)=>x.add (Int.toNat (0:Int)*Tryz.prog.types[(3:Nat)].size)) (some (⟨b,0,none⟩:Addr))),
  ((((c2.n:Int).toNat:Nat):Int).toNat-Int.toNat (0:Int)),((((c2.n:Int).toNat:Nat):Int).toNat-Int.toNat (0:Int))⟩,())=_
 rw [e1,e2]
theorem cS_l17Money (V:Know) (c0:ByteArray) (c1:Bool) (c2:SlV) (l:List Lim) (f:List Nat) (h:LR rI V c2 l f) (hl:l.length≤1048576) :
  CallX Tryz.prog V 149 [qv2 (c0,c1,c2,())] (fun V' r=>V.le V'∧∃ s f',r=qv2 (c0,c1,s,())∧LR rI V' s l f'∧Own V V' f'):=by
 refine CallX.of_fits Tryz.mix (fS_l17Money _) fun _=>?_
 simp only [tS_l17Money,T.wp]
 obtain⟨h1,h2⟩:=h.rdI
 have hn:=h.1
 intro b1 hb1
 have hV1:=kset_le (x:=(([]:List Value),((3:TypeId),((0,0):Nat × Nat)))) hb1
 refine⟨l.map cellI,?_,⟨h2,(by omega:c2.n*8≤140737488355328),(by omega:c2.n≤9223372036854775807)⟩,fun hz=>?_,fun hz b3 cap spare hb3 hc _=>?_⟩
 ·rcases h1 with ⟨q1,_,q3⟩ | q
  ·exact .inl ⟨q1,q3⟩
  ·exact .inr q
 ·have hz':c2.n=0:=of_decide_eq_true hz
  have:l=[]:=List.eq_nil_of_length_eq_zero (by omega)
  subst this
  have hk:=newI (V:=V) (b:=b1) (cap:=0) (o:=[]) (spare:=[]) (t:=3) hb1 (Nat.le_refl _) (by simp)
  exact⟨hV1,_,_,rfl,hk.1,hk.2⟩
 ·have hc':l.length≤cap:=by rw [← hn]; exact hc
  have hk:=newI (V:=kset V b1 (([]:List Value),((3:TypeId),((0,0):Nat × Nat)))) (b:=b3) (cap:=cap) (o:=l) (spare:=spare) (t:=3) hb3 hc' (by omega)
  have hV3:=kset_le (x:=(l.map cellI++spare,((3:TypeId),((0,0):Nat × Nat)))) hb3
  refine⟨hV1.trans hV3,⟨some ⟨b3,0,none⟩,c2.n,cap⟩,[b3],rfl,?_,hk.2.pre hV1⟩
  rw [hn]; exact hk.1
theorem kI_natCopy:ToSC Tryz.prog 95 rI:=fun _ _ _ _ h ht=>cI_natCopy _ _ _ _ h (by omega)
theorem kI_intCopy:ToC Tryz.prog 167 rSigned:=by
 rintro V ⟨c1,c2,cu⟩ ⟨x1,x2,xu⟩ f hx ht
 obtain⟨ec1,hx⟩:=hx
 replace ec1:c1=x1:=ec1
 subst ec1
 obtain⟨f2,fr2,ec2,sc2,hx⟩:=hx
 subst ec2
 replace sc2:LR rI _ c2 x2 f2:=sc2
 replace hx:_=[]:=hx
 subst hx
 replace ht:(x2.length+totE rI x2+0)≤1048576:=ht
 refine CallX.of_fits Tryz.mix (fI_intCopy _) fun _=>?_
 simp only [tI_intCopy,T.wp]
 refine(cI_natCopy _ _ x2 _ sc2 (by omega)).mono ?_
 rintro V1 r ⟨hle1,s,k,rfl,hr,ho⟩
 exact⟨fun _=>hle1,s,rfl,hle1,(c1,s,()),_,rfl,rBool.mk (rSl.mk hr rNil.mk),by simpa using ho⟩
theorem kI_moneyCopy:ToC Tryz.prog 122 rMoney:=by
 rintro V ⟨c0,c1,c2,cu⟩ ⟨x0,x1,x2,xu⟩ f hx ht
 obtain⟨⟨ec0,zc0⟩,hx⟩:=hx
 replace ec0:c0=x0:=ec0
 subst ec0
 obtain⟨ec1,hx⟩:=hx
 replace ec1:c1=x1:=ec1
 subst ec1
 obtain⟨f2,fr2,ec2,sc2,hx⟩:=hx
 subst ec2
 replace sc2:LR rI _ c2 x2 f2:=sc2
 replace hx:_=[]:=hx
 subst hx
 replace ht:(c0.size+(x2.length+totE rI x2+0))≤1048576:=ht
 refine(cI_moneyCopy _ _ _ _ x2 _ sc2 (by omega)).mono ?_
 rintro V1 r ⟨hle1,s,k,rfl,hr,ho⟩
 exact⟨hle1,(c0,c1,s,()),_,rfl,rStr.mk zc0 (rBool.mk (rSl.mk hr rNil.mk)),by simpa using ho⟩
theorem kS_l17Money:ToC Tryz.prog 149 rMoney:=by
 rintro V ⟨c0,c1,c2,cu⟩ ⟨x0,x1,x2,xu⟩ f hx ht
 obtain⟨⟨ec0,zc0⟩,hx⟩:=hx
 replace ec0:c0=x0:=ec0
 subst ec0
 obtain⟨ec1,hx⟩:=hx
 replace ec1:c1=x1:=ec1
 subst ec1
 obtain⟨f2,fr2,ec2,sc2,hx⟩:=hx
 subst ec2
 replace sc2:LR rI _ c2 x2 f2:=sc2
 replace hx:_=[]:=hx
 subst hx
 replace ht:(c0.size+(x2.length+totE rI x2+0))≤1048576:=ht
 refine(cS_l17Money _ _ _ _ x2 _ sc2 (by omega)).mono ?_
 rintro V1 r ⟨hle1,s,k,rfl,hr,ho⟩
 exact⟨hle1,(c0,c1,s,()),_,rfl,rStr.mk zc0 (rBool.mk (rSl.mk hr rNil.mk)),by simpa using ho⟩
abbrev acT:TypeId:=76
abbrev rateTy:TypeId:=57
theorem growI_book (V:Know) (c:Scs [.l]) (x:DBook) (f:List Nat) (hx:rBook.R V c x f) (ht:rBook.tot x≤1048576):CallX Tryz.prog V 78 [qv4 c] (fun V' r=>V.le V'∧∃ s f,r=qv4 (s,())∧GR rAcct acT V' s x.1 f∧Own V V' f):=by
 obtain⟨s,cu⟩:=c
 obtain⟨l,xu⟩:=x
 obtain⟨f1,fr1,ef,sc,hx⟩:=hx
 subst ef
 replace sc:LR rAcct _ s l f1:=sc
 replace hx:_=[]:=hx
 subst hx
 replace ht:(l.length+totE rAcct l+0)≤1048576:=ht
 have hn:=sc.1
 refine CallX.of_fits Tryz.mix (fI_bookCopy _) fun _=>?_
 simp only [tI_bookCopy,ap_d,T.wp]
 have ew:IntKind.i64.wrap ((s.n:Int)+1)=((s.n+1:Nat):Int):=by rw [wrap_i64 (by omega)]; omega
 rw [ew]
 refine⟨⟨by omega,by omega,by omega,by omega⟩,fun b cap spare hb hc hsp=>?_⟩
 refine⟨fun y V'=>CopyI rAcct 76 V l y.1 y.2.1 V',fun y _=>((l.length:Int)-(y.1:Int)).toNat,⟨((0:Int),⟨some ⟨b,0,none⟩,0,cap⟩,()),rfl,CopyI.start_made (Know.le.refl _) hb (by rw [hsp]; rfl)⟩,?_⟩
 rintro⟨(i:Int),s1,u⟩ V' hI
 have hI':CopyI rAcct 76 V l i s1 V':=hI
 refine⟨fun hlt=>?_,fun hge=>?_⟩
 ·have hI0:=hI'
  obtain⟨hle,k,f0,rfl,hk,_,_⟩:=hI'
  have h1:k<l.length:=by
   have:(k:Int)<(s.n:Int):=by simpa using hlt
   omega
  obtain⟨b1,o1,c1,fc,a1,l1,r1,_⟩:=(sc.le hle).at h1
  have htx:=totE_mem rAcct h1
  refine⟨_,a1,(by omega:(0:Int)≤(k:Int)),(by omega:(k:Int)<(s.n:Int)),c1,l1,?_⟩
  obtain⟨n1,m1⟩:=c1
  obtain⟨en,zn⟩:=r1.1
  refine(kI_moneyCopy V' m1 l[k].2 fc r1.2 (by have:l[k].1.size+rMoney.tot l[k].2=rAcct.tot l[k]:=rfl; omega)).mono ?_
  rintro V2 r ⟨hle2,⟨c2,c3,c4,cv⟩,f2,rfl,hR,hO⟩
  refine⟨fun _=>hle2,(c2,c3,c4,()),rfl,rfl,rfl,?_⟩
  refine copy_end (sh:=[.s,.s,.b,.l]) (c:=(n1,c2,c3,c4,())) hI0 h1 hle2 (e:=rAcct) (bytes:=64) (fx:=f2) ⟨⟨en,zn⟩,hR⟩ hO (by kernel_rfl) (by omega) (by omega) fun s' V3 h3=>?_
  refine⟨_,rfl,(((k+1:Nat):Int),s',()),by rw [nxt h1 (by omega)]; rfl,h3,?_⟩
  show((l.length:Int)-((k+1:Nat):Int)).toNat<((l.length:Int)-(k:Int)).toNat
  omega
 ·have hi:¬ i<(l.length:Int):=by
   have:¬ i<(s.n:Int):=by simpa using hge
   omega
  obtain⟨hle,f3,hL,hO⟩:=hI'.finG hi
  exact⟨hle,s1,f3,rfl,hL,hO⟩
theorem kI_bookCopy:ToC Tryz.prog 78 rBook:=fun V c x f hx ht=>(growI_book V c x f hx ht).mono (by
 rintro V' _ ⟨le,s,g,rfl,G,O⟩
 have e:rBook.tot x=x.1.length+totE rAcct x.1+0:=rfl
 exact⟨le,(s,()),g++[],rfl,rSl.mk (G.lr (by omega)) rNil.mk,by simpa using O⟩)
theorem kS_l17Copy:ToC Tryz.prog 98 rBook:=by
 rintro V ⟨s,cu⟩ ⟨l,xu⟩ f hx ht
 obtain⟨f1,fr1,ef,sc,hx⟩:=hx
 subst ef
 replace sc:LR rAcct _ s l f1:=sc
 replace hx:_=[]:=hx
 subst hx
 replace ht:(l.length+totE rAcct l+0)≤1048576:=ht
 have hn:=sc.1
 refine CallX.of_fits Tryz.mix (fS_l17Copy _) fun _=>?_
 simp only [tS_l17Copy,ap_d,T.wp]
 refine⟨fun y V'=>CopyI rAcct 76 V l y.1 y.2.1 V',fun y _=>((l.length:Int)-(y.1:Int)).toNat,⟨((0:Int),⟨none,0,0⟩,()),rfl,CopyI.start⟩,?_⟩
 rintro⟨(i:Int),s1,u⟩ V' hI
 have hI':CopyI rAcct 76 V l i s1 V':=hI
 refine⟨fun hlt=>?_,fun hge=>?_⟩
 ·have hI0:=hI'
  obtain⟨hle,k,f0,rfl,hk,_,_⟩:=hI'
  have h1:k<l.length:=by
   have:(k:Int)<(s.n:Int):=by simpa using hlt
   omega
  obtain⟨b1,o1,c1,fc,a1,l1,r1,_⟩:=(sc.le hle).at h1
  have htx:=totE_mem rAcct h1
  refine⟨_,a1,(by omega:(0:Int)≤(k:Int)),(by omega:(k:Int)<(s.n:Int)),c1,l1,?_⟩
  obtain⟨n1,m1⟩:=c1
  obtain⟨en,zn⟩:=r1.1
  refine(kS_l17Money V' m1 l[k].2 fc r1.2 (by have:l[k].1.size+rMoney.tot l[k].2=rAcct.tot l[k]:=rfl; omega)).mono ?_
  rintro V2 r ⟨hle2,⟨c2,c3,c4,cv⟩,f2,rfl,hR,hO⟩
  refine⟨fun _=>hle2,(c2,c3,c4,()),rfl,rfl,rfl,?_⟩
  refine copy_end (sh:=[.s,.s,.b,.l]) (c:=(n1,c2,c3,c4,())) hI0 h1 hle2 (e:=rAcct) (bytes:=64) (fx:=f2) ⟨⟨en,zn⟩,hR⟩ hO (by kernel_rfl) (by omega) (by omega) fun s' V3 h3=>?_
  refine⟨_,rfl,(((k+1:Nat):Int),s',()),by rw [nxt h1 (by omega)]; rfl,h3,?_⟩
  show((l.length:Int)-((k+1:Nat):Int)).toNat<((l.length:Int)-(k:Int)).toNat
  omega
 ·have hi:¬ i<(l.length:Int):=by
   have:¬ i<(s.n:Int):=by simpa using hge
   omega
  obtain⟨hle,f3,hL,hO⟩:=hI'.fin (by omega) hi
  exact⟨hle,(s1,()),f3++[],rfl,rSl.mk hL rNil.mk,by simpa using hO⟩
theorem kI_decCopy:ToC Tryz.prog 168 rDec:=by
 rintro V ⟨c0,c1,c2,cu⟩ ⟨x0,x1,x2,xu⟩ f hx ht
 obtain⟨ec0,hx⟩:=hx
 replace ec0:c0=x0:=ec0
 subst ec0
 obtain⟨f1,fr1,ec1,sc1,hx⟩:=hx
 subst ec1
 replace sc1:LR rI _ c1 x1 f1:=sc1
 obtain⟨ec2,hx⟩:=hx
 replace ec2:c2=x2:=ec2
 subst ec2
 replace hx:_=[]:=hx
 subst hx
 replace ht:(x1.length+totE rI x1+0)≤1048576:=ht
 refine CallX.of_fits Tryz.mix (fI_decCopy _) fun _=>?_
 simp only [tI_decCopy,T.wp]
 refine(kI_intCopy _ _ (c0,x1,()) _ (rBool.mk (rSl.mk sc1 rNil.mk)) (by show(x1.length+totE rI x1+0)≤1048576; omega)).mono ?_
 rintro V0 r ⟨hle0,⟨d0,d1,du0⟩,k0,rfl,hr0,ho0⟩
 obtain⟨ed0,hr0⟩:=hr0
 replace ed0:d0=c0:=ed0
 subst ed0
 obtain⟨k0f1,k0r1,ed1,sd1,hr0⟩:=hr0
 subst ed1
 replace sd1:LR rI _ d1 x1 k0f1:=sd1
 replace hr0:_=[]:=hr0
 subst hr0
 refine⟨fun _=>hle0,(d0,d1,()),rfl,?_⟩
 exact⟨hle0,(d0,d1,c2,()),_,rfl,(rBool.mk (rSl.mk sd1 (rInt.mk rNil.mk))),by simpa using ho0⟩
theorem kI_rateCopy:ToC Tryz.prog 124 rRate:=by
 rintro V ⟨c0,c1,c2,c3,c4,cu⟩ ⟨x0,x1,x2,x3,x4,xu⟩ f hx ht
 obtain⟨⟨ec0,zc0⟩,hx⟩:=hx
 replace ec0:c0=x0:=ec0
 subst ec0
 replace zc0:c0.size≤9223372036854775807:=zc0
 obtain⟨⟨ec1,zc1⟩,hx⟩:=hx
 replace ec1:c1=x1:=ec1
 subst ec1
 replace zc1:c1.size≤9223372036854775807:=zc1
 obtain⟨ec2,hx⟩:=hx
 replace ec2:c2=x2:=ec2
 subst ec2
 obtain⟨f3,fr3,ec3,sc3,hx⟩:=hx
 subst ec3
 replace sc3:LR rI _ c3 x3 f3:=sc3
 obtain⟨ec4,hx⟩:=hx
 replace ec4:c4=x4:=ec4
 subst ec4
 replace hx:_=[]:=hx
 subst hx
 replace ht:(c0.size+(c1.size+(x3.length+totE rI x3+0)))≤1048576:=ht
 refine CallX.of_fits Tryz.mix (fI_rateCopy _) fun _=>?_
 simp only [tI_rateCopy,T.wp]
 refine(kI_decCopy _ _ (c2,x3,c4,()) _ (rBool.mk (rSl.mk sc3 (rInt.mk rNil.mk))) (by show(x3.length+totE rI x3+0)≤1048576; omega)).mono ?_
 rintro V2 r ⟨hle2,⟨d2,d3,d4,du2⟩,k2,rfl,hr2,ho2⟩
 obtain⟨ed2,hr2⟩:=hr2
 replace ed2:d2=c2:=ed2
 subst ed2
 obtain⟨k2f3,k2r3,ed3,sd3,hr2⟩:=hr2
 subst ed3
 replace sd3:LR rI _ d3 x3 k2f3:=sd3
 obtain⟨ed4,hr2⟩:=hr2
 replace ed4:d4=c4:=ed4
 subst ed4
 replace hr2:_=[]:=hr2
 subst hr2
 refine⟨fun _=>hle2,(d2,d3,d4,()),rfl,?_⟩
 exact⟨hle2,(c0,c1,d2,d3,d4,()),_,rfl,(rStr.mk zc0 (rStr.mk zc1 (rBool.mk (rSl.mk sd3 (rInt.mk rNil.mk))))),by simpa using ho2⟩
theorem kI_ratCopy:ToC Tryz.prog 123 rRat:=by
 rintro V ⟨c0,c1,c2,cu⟩ ⟨x0,x1,x2,xu⟩ f hx ht
 obtain⟨ec0,hx⟩:=hx
 replace ec0:c0=x0:=ec0
 subst ec0
 obtain⟨f1,fr1,ec1,sc1,hx⟩:=hx
 subst ec1
 replace sc1:LR rI _ c1 x1 f1:=sc1
 obtain⟨f2,fr2,ec2,sc2,hx⟩:=hx
 subst ec2
 replace sc2:LR rI _ c2 x2 f2:=sc2
 replace hx:_=[]:=hx
 subst hx
 replace ht:(x1.length+totE rI x1+(x2.length+totE rI x2+0))≤1048576:=ht
 refine CallX.of_fits Tryz.mix (fI_ratCopy _) fun _=>?_
 simp only [tI_ratCopy,T.wp]
 refine(kI_intCopy _ _ (c0,x1,()) _ (rBool.mk (rSl.mk sc1 rNil.mk)) (by show(x1.length+totE rI x1+0)≤1048576; omega)).mono ?_
 rintro V0 r ⟨hle0,⟨d0,d1,du0⟩,k0,rfl,hr0,ho0⟩
 obtain⟨ed0,hr0⟩:=hr0
 replace ed0:d0=c0:=ed0
 subst ed0
 obtain⟨k0f1,k0r1,ed1,sd1,hr0⟩:=hr0
 subst ed1
 replace sd1:LR rI _ d1 x1 k0f1:=sd1
 replace hr0:_=[]:=hr0
 subst hr0
 refine⟨fun _=>hle0,(d0,d1,()),rfl,?_⟩
 refine(kI_natCopy _ _ x2 _ (sc2.le hle0) (by omega)).mono ?_
 rintro V2 r ⟨hle2,d2,k2,rfl,sd2,ho2⟩
 refine⟨fun _=>hle2,d2,rfl,?_⟩
 have hA2:=ho0.append ho2 hle0 hle2
 have hL2:=hle0.trans hle2
 replace sd1:=sd1.le hle2
 exact⟨hL2,(d0,d1,d2,()),_,rfl,(rBool.mk (rSl.mk sd1 (rSl.mk sd2 rNil.mk))),by simpa using hA2⟩
abbrev GrowPost (V:Know) (x:DRates):Know→Value→Prop:=fun V' r=>V.le V'∧∃ s f,r=qv7 (x.1,s,())∧GR rRate rateTy V' s x.2.1 f∧Own V V' f
theorem growI_rates (V:Know) (c:Scs [.s,.l]) (x:DRates) (f:List Nat) (hx:rRates.R V c x f) (ht:rRates.tot x≤1048576):CallX Tryz.prog V 80 [qv7 c] (GrowPost V x):=by
 obtain⟨p0,s,cu⟩:=c
 obtain⟨q0,l,xu⟩:=x
 obtain⟨⟨ep,zp⟩,hx⟩:=hx
 replace ep:p0=q0:=ep
 subst ep
 obtain⟨f1,fr1,ef,sc,hx⟩:=hx
 subst ef
 replace sc:LR rRate _ s l f1:=sc
 replace hx:_=[]:=hx
 subst hx
 replace ht:(p0.size+(l.length+totE rRate l+0))≤1048576:=ht
 have hn:=sc.1
 refine CallX.of_fits Tryz.mix (fI_ratesCopy _) fun _=>?_
 simp only [tI_ratesCopy,ap_d,T.wp]
 refine⟨fun y V'=>y.2.1=p0∧CopyI rRate rateTy V l y.1 y.2.2.1 V',fun y _=>((l.length:Int)-(y.1:Int)).toNat,⟨((0:Int),p0,⟨none,0,0⟩,()),rfl,rfl,CopyI.start⟩,?_⟩
 rintro⟨(i:Int),p1,s1,u⟩ V' ⟨hp,hI⟩
 replace hp:p1=p0:=hp
 subst hp
 have hI':CopyI rRate rateTy V l i s1 V':=hI
 refine⟨fun hlt=>?_,fun hge=>?_⟩
 ·have hI0:=hI'
  obtain⟨hle,k,f0,rfl,hk,_,_⟩:=hI'
  have h1:k<l.length:=by
   have:(k:Int)<(s.n:Int):=by simpa using hlt
   omega
  obtain⟨b1,o1,c1,fc,a1,l1,r1,_⟩:=(sc.le hle).at h1
  have htx:=totE_mem rRate h1
  refine⟨_,a1,(by omega:(0:Int)≤(k:Int)),(by omega:(k:Int)<(s.n:Int)),c1,l1,?_⟩
  refine(kI_rateCopy V' c1 l[k] fc r1 (by omega)).mono ?_
  rintro V2 r ⟨hle2,⟨c2,c3,c4,c5,c6,cv⟩,f2,rfl,hR,hO⟩
  refine⟨fun _=>hle2,(c2,c3,c4,c5,c6,()),rfl,rfl,rfl,?_⟩
  refine copy_end (sh:=[.s,.s,.b,.l,.i .i64]) (c:=(c2,c3,c4,c5,c6,())) hI0 h1 hle2 (e:=rRate) (bytes:=72) (fx:=f2) hR hO (by kernel_rfl) (by omega) (by omega) fun s' V3 h3=>?_
  refine⟨_,rfl,(((k+1:Nat):Int),p1,s',()),by rw [nxt h1 (by omega)]; rfl,⟨rfl,h3⟩,?_⟩
  show((l.length:Int)-((k+1:Nat):Int)).toNat<((l.length:Int)-(k:Int)).toNat
  omega
 ·have hi:¬ i<(l.length:Int):=by
   have:¬ i<(s.n:Int):=by simpa using hge
   omega
  obtain⟨hle,f3,hL,hO⟩:=hI'.finG hi
  exact⟨hle,s1,f3,rfl,hL,hO⟩
theorem kI_ratesCopy:ToC Tryz.prog 80 rRates:=fun V c x f hx ht=>(growI_rates V c x f hx ht).mono (by
 rintro V' _ ⟨le,s,g,rfl,G,O⟩
 have e:rRates.tot x=x.1.size+(x.2.1.length+totE rRate x.2.1+0):=rfl
 exact⟨le,(x.1,s,()),g++[],rfl,rStr.mk hx.1.2 (rSl.mk (G.lr (by omega)) rNil.mk),by simpa using O⟩)
theorem kI_restsCopy:ToSC Tryz.prog 79 rRest:=by
 intro V s l f sc ht
 have hn:=sc.1
 refine CallX.of_fits Tryz.mix (fI_restsCopy _) fun _=>?_
 simp only [tI_restsCopy,ap_d,T.wp]
 intro b cap spare hb hc hsp
 refine⟨fun y V'=>CopyI rRest 105 V l y.2.1 y.1 V',fun y _=>((l.length:Int)-(y.2.1:Int)).toNat,⟨(⟨some ⟨b,0,none⟩,0,cap⟩,(0:Int),()),rfl,CopyI.start_made (Know.le.refl _) hb (by rw [hsp]; rfl)⟩,?_⟩
 rintro⟨s1,(i:Int),u⟩ V' hI
 have hI':CopyI rRest 105 V l i s1 V':=hI
 refine⟨fun hlt=>?_,fun hge=>?_⟩
 ·have hI0:=hI'
  obtain⟨hle,k,f0,rfl,hk,_,_⟩:=hI'
  have h1:k<l.length:=by
   have:(k:Int)<(s.n:Int):=by simpa using hlt
   omega
  obtain⟨b1,o1,c1,fc,a1,l1,r1,_⟩:=(sc.le hle).at h1
  have htx:=totE_mem rRest h1
  refine⟨_,a1,(by omega:(0:Int)≤(k:Int)),(by omega:(k:Int)<(s.n:Int)),c1,l1,?_⟩
  obtain⟨n1,m1⟩:=c1
  obtain⟨en,zn⟩:=r1.1
  refine(kI_ratCopy V' m1 l[k].2 fc r1.2 (by have:l[k].1.size+rRat.tot l[k].2=rRest.tot l[k]:=rfl; omega)).mono ?_
  rintro V2 r ⟨hle2,⟨c2,c3,c4,cv⟩,f2,rfl,hR,hO⟩
  refine⟨fun _=>hle2,(c2,c3,c4,()),rfl,rfl,rfl,?_⟩
  refine copy_end (sh:=[.s,.b,.l,.l]) (c:=(n1,c2,c3,c4,())) hI0 h1 hle2 (e:=rRest) (bytes:=72) (fx:=f2) ⟨⟨en,zn⟩,hR⟩ hO (by kernel_rfl) (by omega) (by omega) fun s' V3 h3=>?_
  refine⟨_,rfl,(s',((k+1:Nat):Int),()),by rw [nxt h1 (by omega)]; rfl,h3,?_⟩
  show((l.length:Int)-((k+1:Nat):Int)).toNat<((l.length:Int)-(k:Int)).toNat
  omega
 ·have hi:¬ i<(l.length:Int):=by
   have:¬ i<(s.n:Int):=by simpa using hge
   omega
  obtain⟨hle,f3,hL,hO⟩:=hI'.fin (by omega) hi
  exact⟨hle,s1,f3,rfl,hL,hO⟩
theorem kI_ledgerCopy:ToC Tryz.prog 35 rLedger:=by
 rintro V ⟨c0,c1,c2,c3,cu⟩ ⟨x0,x1,x2,x3,xu⟩ f hx ht
 obtain⟨f0,fr0,ec0,sc0,hx⟩:=hx
 subst ec0
 replace sc0:LR rAcct _ c0 x0 f0:=sc0
 obtain⟨f1,fr1,ec1,sc1,hx⟩:=hx
 subst ec1
 replace sc1:LR rRest _ c1 x1 f1:=sc1
 obtain⟨⟨ec2,zc2⟩,hx⟩:=hx
 replace ec2:c2=x2:=ec2
 subst ec2
 replace zc2:c2.size≤9223372036854775807:=zc2
 obtain⟨f3,fr3,ec3,sc3,hx⟩:=hx
 subst ec3
 replace sc3:LR rRate _ c3 x3 f3:=sc3
 replace hx:_=[]:=hx
 subst hx
 replace ht:(x0.length+totE rAcct x0+(x1.length+totE rRest x1+(c2.size+(x3.length+totE rRate x3+0))))≤1048576:=ht
 refine CallX.of_fits Tryz.mix (fI_ledgerCopy _) fun _=>?_
 simp only [tI_ledgerCopy,T.wp]
 refine(kI_bookCopy _ _ (x0,()) _ (rSl.mk sc0 rNil.mk) (by show(x0.length+totE rAcct x0+0)≤1048576; omega)).mono ?_
 rintro V0 r ⟨hle0,⟨d0,du0⟩,k0,rfl,hr0,ho0⟩
 obtain⟨k0f0,k0r0,ed0,sd0,hr0⟩:=hr0
 subst ed0
 replace sd0:LR rAcct _ d0 x0 k0f0:=sd0
 replace hr0:_=[]:=hr0
 subst hr0
 refine⟨fun _=>hle0,(d0,()),rfl,?_⟩
 refine(kI_restsCopy _ _ x1 _ (sc1.le hle0) (by omega)).mono ?_
 rintro V1 r ⟨hle1,d1,k1,rfl,sd1,ho1⟩
 refine⟨fun _=>hle1,d1,rfl,?_⟩
 have hA1:=ho0.append ho1 hle0 hle1
 have hL1:=hle0.trans hle1
 replace sd0:=sd0.le hle1
 refine(kI_ratesCopy _ _ (c2,x3,()) _ (rStr.mk zc2 (rSl.mk (sc3.le hL1) rNil.mk)) (by show(c2.size+(x3.length+totE rRate x3+0))≤1048576; omega)).mono ?_
 rintro V2 r ⟨hle2,⟨d2,d3,du2⟩,k2,rfl,hr2,ho2⟩
 obtain⟨⟨ed2,zd2⟩,hr2⟩:=hr2
 replace ed2:d2=c2:=ed2
 subst ed2
 replace zd2:d2.size≤9223372036854775807:=zd2
 obtain⟨k2f3,k2r3,ed3,sd3,hr2⟩:=hr2
 subst ed3
 replace sd3:LR rRate _ d3 x3 k2f3:=sd3
 replace hr2:_=[]:=hr2
 subst hr2
 refine⟨fun _=>hle2,(d2,d3,()),rfl,?_⟩
 have hA2:=hA1.append ho2 hL1 hle2
 have hL2:=hL1.trans hle2
 replace sd0:=sd0.le hle2
 replace sd1:=sd1.le hle2
 exact⟨hL2,(d0,d1,d2,d3,()),_,rfl,(rSl.mk sd0 (rSl.mk sd1 (rStr.mk zd2 (rSl.mk sd3 rNil.mk)))),by simpa using hA2⟩
def litT (s:SlV) (k:SlV→T):T :=
 .es [] 3 fun b1=>.ra ⟨s.a,s.n,s.c⟩ 1 fun y2 =>
 .rq (one y2=true∧s.n*(8:Nat)≤(140737488355328:Nat)∧s.n≤(9223372036854775807:Nat)) <|
 .br (decide (s.n=(0:Nat))) (k ⟨some ⟨b1,0,none⟩,0,0⟩) (.fz s.n y2 3 fun b3 c3=>k ⟨some ⟨b3,0,none⟩,s.n,c3⟩)
theorem litT_wp {P:Program} {K:Know→List Value→Prop} {V V0:Know} {Ns:List (List LV→Know→Prop)} {s:SlV} {l:List Lim} {f:List Nat} {k:SlV→T} (h:LR rI V0 s l f) (hl:l.length≤1048576)
  (hk:∀ V2 s' f',V.le V2→LR rI V2 s' l f'→Own V V2 f'→(k s').wp P K V2 V0 Ns):(litT s k).wp P K V V0 Ns:=by
 simp only [litT,T.wp]
 obtain⟨h1,h2⟩:=h.rdI
 have hn:=h.1
 intro b1 hb1
 have hV1:=kset_le (x:=(([]:List Value),((3:TypeId),((0,0):Nat × Nat)))) hb1
 refine⟨l.map cellI,?_,⟨h2,(by omega:s.n*8≤140737488355328),(by omega:s.n≤9223372036854775807)⟩,fun hz=>?_,fun hz b3 cap spare hb3 hc _=>?_⟩
 ·rcases h1 with ⟨q1,_,q3⟩ | q
  ·exact .inl ⟨q1,q3⟩
  ·exact .inr q
 ·have hz':s.n=0:=of_decide_eq_true hz
  have:l=[]:=List.eq_nil_of_length_eq_zero (by omega)
  subst this
  have hk':=newI (V:=V) (b:=b1) (cap:=0) (o:=[]) (spare:=[]) (t:=3) hb1 (Nat.le_refl _) (by simp)
  exact hk _ _ _ hV1 hk'.1 hk'.2
 ·have hc':l.length≤cap:=by rw [← hn]; exact hc
  have hk':=newI (V:=kset V b1 (([]:List Value),((3:TypeId),((0,0):Nat × Nat)))) (b:=b3) (cap:=cap) (o:=l) (spare:=spare) (t:=3) hb3 hc' (by omega)
  have hV3:=kset_le (x:=(l.map cellI++spare,((3:TypeId),((0,0):Nat × Nat)))) hb3
  refine hk _ _ [b3] (hV1.trans hV3) ?_ (hk'.2.pre hV1)
  rw [hn]; exact hk'.1
theorem kS_l19Rat:ToC Tryz.prog 111 rRat:=by
 rintro V ⟨c0,c1,c2,cu⟩ ⟨x0,x1,x2,xu⟩ f hx ht
 obtain⟨ec0,hx⟩:=hx
 replace ec0:c0=x0:=ec0
 subst ec0
 obtain⟨f1,fr1,ec1,sc1,hx⟩:=hx
 subst ec1
 replace sc1:LR rI _ c1 x1 f1:=sc1
 obtain⟨f2,fr2,ec2,sc2,hx⟩:=hx
 subst ec2
 replace sc2:LR rI _ c2 x2 f2:=sc2
 replace hx:_=[]:=hx
 subst hx
 replace ht:(x1.length+totE rI x1+(x2.length+totE rI x2+0))≤1048576:=ht
 refine CallX.of_fits Tryz.mix (fS_l19Rat _) fun _=>?_
 show T.wp _ _ (litT c1 fun s1=>litT c2 fun s2=>.ret [qv5 (c0,s1,s2,())]) V V []
 refine litT_wp sc1 (by omega) fun V1 s1 g1 hle1 L1 O1=>?_
 refine litT_wp sc2 (by omega) fun V2 s2 g2 hle2 L2 O2=>?_
 exact⟨hle1.trans hle2,(c0,s1,s2,()),_,rfl,rBool.mk (rSl.mk (L1.le hle2) (rSl.mk L2 rNil.mk)),by simpa using O1.append O2 hle1 hle2⟩
theorem kS_l19Copy:ToSC Tryz.prog 66 rRest:=by
 intro V s l f sc ht
 have hn:=sc.1
 refine CallX.of_fits Tryz.mix (fS_l19Copy _) fun _=>?_
 simp only [tS_l19Copy,ap_d,T.wp]
 intro b cap spare hb hc hsp
 refine⟨fun y V'=>CopyI rRest 105 V l y.2.1 y.1 V',fun y _=>((l.length:Int)-(y.2.1:Int)).toNat,⟨(⟨some ⟨b,0,none⟩,0,cap⟩,(0:Int),()),rfl,CopyI.start_made (Know.le.refl _) hb (by rw [hsp]; rfl)⟩,?_⟩
 rintro⟨s1,(i:Int),u⟩ V' hI
 have hI':CopyI rRest 105 V l i s1 V':=hI
 refine⟨fun hlt=>?_,fun hge=>?_⟩
 ·have hI0:=hI'
  obtain⟨hle,k,f0,rfl,hk,_,_⟩:=hI'
  have h1:k<l.length:=by
   have:(k:Int)<(s.n:Int):=by simpa using hlt
   omega
  obtain⟨b1,o1,c1,fc,a1,l1,r1,_⟩:=(sc.le hle).at h1
  have htx:=totE_mem rRest h1
  refine⟨_,a1,(by omega:(0:Int)≤(k:Int)),(by omega:(k:Int)<(s.n:Int)),c1,l1,?_⟩
  obtain⟨n1,m1⟩:=c1
  obtain⟨en,zn⟩:=r1.1
  refine(kS_l19Rat V' m1 l[k].2 fc r1.2 (by have:l[k].1.size+rRat.tot l[k].2=rRest.tot l[k]:=rfl; omega)).mono ?_
  rintro V2 r ⟨hle2,⟨c2,c3,c4,cv⟩,f2,rfl,hR,hO⟩
  refine⟨fun _=>hle2,(c2,c3,c4,()),rfl,rfl,rfl,?_⟩
  refine copy_end (sh:=[.s,.b,.l,.l]) (c:=(n1,c2,c3,c4,())) hI0 h1 hle2 (e:=rRest) (bytes:=72) (fx:=f2) ⟨⟨en,zn⟩,hR⟩ hO (by kernel_rfl) (by omega) (by omega) fun s' V3 h3=>?_
  refine⟨_,rfl,(s',((k+1:Nat):Int),()),by rw [nxt h1 (by omega)]; rfl,h3,?_⟩
  show((l.length:Int)-((k+1:Nat):Int)).toNat<((l.length:Int)-(k:Int)).toNat
  omega
 ·have hi:¬ i<(l.length:Int):=by
   have:¬ i<(s.n:Int):=by simpa using hge
   omega
  obtain⟨hle,f3,hL,hO⟩:=hI'.fin (by omega) hi
  exact⟨hle,s1,f3,rfl,hL,hO⟩
end Go.Proofs.YtpdfdkccgkieoaaGreatDoor
namespace Go.Proofs.YtpdfdkccgkieoaaGreatDoor
open Sx
theorem pw_add (i j:Nat):(1000000000:Int) ^ (i+j)=1000000000 ^ i*1000000000 ^ j:=by
 induction j with
 | zero=>simp
 | succ j ih=>rw [← Nat.add_assoc,Int.pow_succ,ih,Int.pow_succ,Int.mul_assoc]
theorem limb_set {l:List Lim} {i j:Nat} {x:Int} (h:i<l.length):limb (l.set i (x,())) j=if j=i then x else limb l j:=by
 unfold limb
 by_cases e:j=i
 ·subst e; simp [List.getD_eq_getElem?_getD,h]
 ·have e':¬ i=j:=fun k=>e k.symm
  rw [if_neg e]
  simp [List.getD_eq_getElem?_getD,e']
theorem valTo_set {l:List Lim} {i:Nat} {x:Int} (h:i<l.length):∀ j,valTo (l.set i (x,())) j=valTo l j+(if i<j then (x-limb l i)*1000000000 ^ i else 0)
 | 0=>by simp [valTo]
 | j+1=>by
  rw [valTo,valTo,valTo_set h j,limb_set h]
  by_cases e:j=i
  ·subst e
   rw [if_pos rfl,if_neg (Nat.lt_irrefl _),if_pos (Nat.lt_succ_self _),Int.sub_mul]
   omega
  ·rw [if_neg e]
   by_cases c:i<j
   ·rw [if_pos c,if_pos (by omega)]; omega
   ·rw [if_neg c,if_neg (by omega)]; omega
theorem valN_set {l:List Lim} {i:Nat} {x:Int} (h:i<l.length):valN (l.set i (x,()))=valN l+(x-limb l i)*1000000000 ^ i:=by
 unfold valN
 rw [List.length_set,valTo_set h,if_pos h]
theorem lims_set {l:List Lim} {i:Nat} {x:Int} (h:Lims l) (hi:i<l.length) (hx:0≤x∧x<1000000000):Lims (l.set i (x,())):=by
 intro j
 rw [limb_set hi]
 split
 ·exact hx
 ·exact h j
def zer (n:Nat):List Lim:=List.replicate n (0,())
theorem limb_zer (n i:Nat):limb (zer n) i=0:=by
 unfold limb zer
 by_cases h:i<n
 ·simp [List.getD_eq_getElem?_getD,h]
 ·simp [List.getD_eq_getElem?_getD,h]
theorem valTo_zer (n:Nat):∀ i,valTo (zer n) i=0
 | 0=>rfl
 | i+1=>by rw [valTo,valTo_zer n i,limb_zer]; simp
theorem valN_zer (n:Nat):valN (zer n)=0:=valTo_zer n _
theorem lims_zer (n:Nat):Lims (zer n):=fun i=>by rw [limb_zer]; omega
theorem len_zer (n:Nat):(zer n).length=n:=List.length_replicate
theorem valTo_mono {l:List Lim} (h:Lims l) {i j:Nat} (hij:i≤j):valTo l i≤valTo l j:=by
 induction j with
 | zero =>
  have:i=0:=by omega
  subst this; exact Int.le_refl _
 | succ j ih =>
  by_cases e:i=j+1
  ·subst e; exact Int.le_refl _
  ·have:=ih (by omega)
   have:=mul_pw_nonneg (h j).1 j
   rw [valTo]; omega
theorem valTo_le {l:List Lim} (h:Lims l) (i:Nat):valTo l i≤valN l:=by
 by_cases e:i≤l.length
 ·exact valTo_mono h e
 ·rw [valTo_ge (by omega)]; exact Int.le_refl _
theorem limb_top {l:List Lim} (h:Lims l) {k j:Nat} (hv:valN l<1000000000 ^ k) (hj:k≤j):limb l j=0:=by
 by_cases e:limb l j=0
 ·exact e
 ·exfalso
  have h1:=h j
  have h2:=mul_pw_le (show 1≤limb l j by omega) j
  have h3:=valTo_le h (j+1)
  rw [valTo] at h3
  have h4:=(valTo_bd h j).1
  have h5:=pw_mono hj
  omega
theorem limb_drop (u:List Lim) (j i:Nat):limb (u.drop j) i=limb u (j+i):=by
 simp [limb,List.getD_eq_getElem?_getD,List.getElem?_drop]
theorem valTo_drop (u:List Lim) (j:Nat):∀ i,valTo u (j+i)=valTo u j+valTo (u.drop j) i*1000000000 ^ j
 | 0=>by simp [valTo]
 | i+1=>by
  have e:limb u (j+i)*(1000000000 ^ j*1000000000 ^ i)=limb u (j+i)*1000000000 ^ i*1000000000 ^ j:=by
   rw [Int.mul_comm (1000000000 ^ j),Int.mul_assoc]
  rw [← Nat.add_assoc,valTo,valTo_drop u j i,valTo,limb_drop,Int.add_mul,pw_add,e]
  omega
theorem limb_app_lt {x y:List Lim} {i:Nat} (h:i<x.length):limb (x++y) i=limb x i:=by
 simp [limb,List.getD_eq_getElem?_getD,List.getElem?_append_left h]
theorem limb_app_ge {x y:List Lim} {i:Nat} (h:x.length≤i):limb (x++y) i=limb y (i-x.length):=by
 simp [limb,List.getD_eq_getElem?_getD,List.getElem?_append_right h]
theorem valTo_app {x y:List Lim}:∀ {i:Nat},i≤x.length→valTo (x++y) i=valTo x i
 | 0,_=>rfl
 | i+1,h=>by rw [valTo,valTo,valTo_app (by omega),limb_app_lt (by omega)]
theorem valN_app (x y:List Lim):valN (x++y)=valN x+valN y*1000000000 ^ x.length:=by
 have h:=valTo_drop (x++y) x.length y.length
 rw [List.drop_left,valTo_app (Nat.le_refl _)] at h
 unfold valN
 rw [List.length_append]; exact h
theorem lims_app {x y:List Lim} (hx:Lims x) (hy:Lims y):Lims (x++y):=by
 intro i
 by_cases h:i<x.length
 ·rw [limb_app_lt h]; exact hx i
 ·rw [limb_app_ge (by omega)]; exact hy _
theorem lims_drop {l:List Lim} (h:Lims l) (n:Nat):Lims (l.drop n):=fun i=>by rw [limb_drop]; exact h _
theorem lims_one {x:Int} (h:0≤x∧x<1000000000):Lims [(x,())]:=lims_snoc (l:=[]) lims_nil h
theorem valN_one (x:Int):valN [(x,())]=x:=by simp [valN,valTo,limb]
theorem valN_nil:valN []=0:=rfl
theorem valN_put {p w w' r:List Lim} (h:w'.length=w.length):valN (p++(w'++r))=valN (p++(w++r))+(valN w'-valN w)*1000000000 ^ p.length:=by
 rw [valN_app,valN_app,valN_app,valN_app,h,Int.add_mul,Int.add_mul,Int.sub_mul]
 omega
theorem val_top2 {v:List Lim} {m:Nat} (h:v.length=m+2):valN v=(limb v (m+1)*1000000000+limb v m)*1000000000 ^ m+valTo v m:=by
 rw [valN,h,valTo,valTo,pw_succ,Int.add_mul,Int.mul_assoc]
 omega
theorem val_top3 {v:List Lim} {m:Nat} (h:v.length=m+3):valN v=((limb v (m+2)*1000000000+limb v (m+1))*1000000000+limb v m)*1000000000 ^ m+valTo v m:=by
 rw [valN,h,valTo,valTo,valTo]
 have h1:=pw_succ m
 have h2:=pw_succ (m+1)
 rw [show m+2=m+1+1 from rfl,h2,h1]
 grind
theorem est_drop {u v v1 v2 vl top u2 ul P q:Int} (hP:0<P) (hv:v=(v1*1000000000+v2)*P+vl) (hvl:0≤vl) (hu:u=(top*1000000000+u2)*P+ul) (hul:ul<P) (hq:0≤q)
  (h:q*v2 > (top-q*v1)*1000000000+u2):u<q*v:=by
 have h1:top*1000000000+u2+1≤q*(v1*1000000000+v2):=by
  rw [Int.mul_add,← Int.mul_assoc]
  rw [Int.sub_mul] at h
  omega
 have h2:=Int.mul_le_mul_of_nonneg_right h1 (Int.le_of_lt hP)
 rw [Int.add_mul,Int.one_mul,Int.mul_assoc q] at h2
 have h3:0≤q*vl:=Int.mul_nonneg hq hvl
 rw [hv,Int.mul_add,hu]
 omega
theorem est_keep {u v v1 v2 vl top u2 ul P q:Int} (hP:0<P) (hv:v=(v1*1000000000+v2)*P+vl) (hvl:0≤vl∧vl<P) (hv1:1≤v1) (hv2:0≤v2∧v2<1000000000) (hu:u=(top*1000000000+u2)*P+ul) (hul:0≤ul) (hu2:0≤u2)
  (hq:0≤q∧q<1000000000) (h:q=0∨top-q*v1≥1000000000∨q*v2≤(top-q*v1)*1000000000+u2) (hu0:0≤u):(q-1)*v≤u:=by
 have hvp:P≤v:=by
  have h1:1≤v1*1000000000+v2:=by omega
  have:=Int.mul_le_mul_of_nonneg_right h1 (Int.le_of_lt hP)
  rw [hv]; omega
 rcases Int.lt_or_le 0 q with hpos | hz
 ·have key:q*v2≤(top-q*v1)*1000000000+u2:=by
   rcases h with h | h | h
   ·omega
   ·have:q*v2≤999999999*999999999:=Int.mul_le_mul (by omega) (by omega) hv2.1 (by omega)
    have:1000000000*1000000000≤(top-q*v1)*1000000000:=Int.mul_le_mul_of_nonneg_right h (by omega)
    omega
   ·exact h
  have h1:q*(v1*1000000000+v2)≤top*1000000000+u2:=by
   rw [Int.mul_add,← Int.mul_assoc]
   rw [Int.sub_mul] at key
   omega
  have h2:=Int.mul_le_mul_of_nonneg_right h1 (Int.le_of_lt hP)
  rw [Int.mul_assoc] at h2
  have h3:q*vl≤999999999*P:=Int.mul_le_mul (by omega) (by omega) hvl.1 (by omega)
  have h4:1000000000*P≤v:=by
   have:1000000000≤v1*1000000000+v2:=by omega
   have:=Int.mul_le_mul_of_nonneg_right this (Int.le_of_lt hP)
   rw [hv]; omega
  have h5:q*v=q*((v1*1000000000+v2)*P)+q*vl:=by rw [hv,Int.mul_add]
  rw [Int.sub_mul,Int.one_mul]
  omega
 ·have:q=0:=by omega
  subst this
  omega
theorem est_first {u v v1 v2 vl top u2 ul P q:Int} (hP:0<P) (hv:v=(v1*1000000000+v2)*P+vl) (hvl:0≤vl) (hv2:0≤v2) (hu:u=(top*1000000000+u2)*P+ul) (hul:ul<P) (hu2:u2<1000000000) (hq:0≤q)
  (h:top<(q+1)*v1):u<(q+1)*v:=by
 have h1:top*1000000000+u2+1≤(q+1)*v1*1000000000:=by omega
 have h2:=Int.mul_le_mul_of_nonneg_right h1 (Int.le_of_lt hP)
 have h3:0≤(q+1)*vl:=Int.mul_nonneg (by omega) hvl
 have h4:0≤(q+1)*v2*P:=Int.mul_nonneg (Int.mul_nonneg (by omega) hv2) (Int.le_of_lt hP)
 have h5:(q+1)*v=(q+1)*v1*1000000000*P+(q+1)*v2*P+(q+1)*vl:=by grind
 have h6:(top*1000000000+u2+1)*P=(top*1000000000+u2)*P+P:=by grind
 omega
theorem subt_step {w v:List Lim} {k:Nat} {q b b' t W:Int} (hk:k<w.length) (hv:valN w=W+b*1000000000 ^ k-q*valTo v k) (ht:t=limb w k-limb v k*q-b+b'*1000000000) :
  valN (w.set k (t,()))=W+b'*1000000000 ^ (k+1)-q*valTo v (k+1):=by
 rw [valN_set hk,hv,valTo,pw_succ,ht]
 grind
theorem addb_step {w v:List Lim} {k:Nat} {c d e W:Int} (hk:k<w.length) (hv:valN w+c*1000000000 ^ k=W+valTo v k) (hs:c+limb w k+limb v k=d+1000000000*e) :
  valN (w.set k (d,()))+e*1000000000 ^ (k+1)=W+valTo v (k+1):=by
 rw [valN_set hk,valTo,pw_succ]
 have h1:(c+limb w k+limb v k)*1000000000 ^ k=(d+1000000000*e)*1000000000 ^ k:=by rw [hs]
 grind
theorem mul_step {o b:List Lim} {i k:Nat} {c d e x W:Int} (hk:i+k<o.length) (hv:valN o+c*1000000000 ^ (i+k)=W+x*valTo b k*1000000000 ^ i) (hs:c+limb o (i+k)+x*limb b k=d+1000000000*e) :
  valN (o.set (i+k) (d,()))+e*1000000000 ^ (i+(k+1))=W+x*valTo b (k+1)*1000000000 ^ i:=by
 rw [valN_set hk,valTo,← Nat.add_assoc,pw_succ]
 have h1:(c+limb o (i+k)+x*limb b k)*1000000000 ^ (i+k)=(d+1000000000*e)*1000000000 ^ (i+k):=by rw [hs]
 have h2:=pw_add i k
 grind
theorem carry_step {o:List Lim} {k:Nat} {c d e T:Int} (hk:k<o.length) (hv:valN o+c*1000000000 ^ k=T) (hs:c+limb o k=d+1000000000*e) :
  valN (o.set k (d,()))+e*1000000000 ^ (k+1)=T:=by
 rw [valN_set hk,pw_succ]
 have h1:(c+limb o k)*1000000000 ^ k=(d+1000000000*e)*1000000000 ^ k:=by rw [hs]
 grind
theorem quot_step {o a:List Lim} {i:Nat} {r r' d x T:Int} (hi:i<o.length) (ho:limb o i=0) (hv:valN o*d+r*1000000000 ^ (i+1)+valTo a (i+1)=T) (hs:r*1000000000+limb a i=x*d+r') :
  valN (o.set i (x,()))*d+r'*1000000000 ^ i+valTo a i=T:=by
 rw [valN_set hi,ho,← hv,valTo,pw_succ]
 have h1:(r*1000000000+limb a i)*1000000000 ^ i=(x*d+r')*1000000000 ^ i:=by rw [hs]
 grind
theorem place_step {o:List Lim} {j:Nat} {u u' w w' v x T:Int} (hj:j<o.length) (ho:limb o j=0) (hv:valN o*v+u=T) (hu:u'=u+(w'-w)*1000000000 ^ j) (hw:w'=w-x*v) :
  valN (o.set j (x,()))*v+u'=T:=by
 rw [valN_set hj,ho,hu,hw,← hv]
 grind
theorem quot_unique {a b q r q' r':Int} (h:a=q*b+r) (h':a=q'*b+r') (hr:0≤r∧r<b) (hr':0≤r'∧r'<b):q=q'∧r=r':=by
 have e1:a / b=q∧a % b=r:=by
  rw [h,Int.add_comm,Int.add_mul_ediv_right _ _ (by omega),Int.add_mul_emod_self_right,Int.ediv_eq_zero_of_lt hr.1 hr.2,Int.emod_eq_of_lt hr.1 hr.2]
  exact⟨by omega,rfl⟩
 have e2:a / b=q'∧a % b=r':=by
  rw [h',Int.add_comm,Int.add_mul_ediv_right _ _ (by omega),Int.add_mul_emod_self_right,Int.ediv_eq_zero_of_lt hr'.1 hr'.2,Int.emod_eq_of_lt hr'.1 hr'.2]
  exact⟨by omega,rfl⟩
 exact⟨e1.1.symm.trans e2.1,e1.2.symm.trans e2.2⟩
theorem can_inj {l l':List Lim} (h:Can l) (h':Can l') (e:valN l=valN l'):l=l':=by
 have hc:=cmpL_val h h'
 have hz:cmpL l l'=0:=by
  rcases hc with ⟨_,h⟩ | ⟨h,_⟩ | ⟨_,h⟩
  ·omega
  ·exact h
  ·omega
 unfold cmpL at hz
 by_cases c:l.length=l'.length
 ·rw [if_neg (by simpa using c)] at hz
  have key:∀ n,cmpAt l l' n=0→∀ i,i<n→limb l i=limb l' i:=by
   intro n
   induction n with
   | zero=>intro _ i hi; omega
   | succ n ih =>
    intro hz i hi
    unfold cmpAt at hz
    split at hz
    ·omega
    ·split at hz
     ·omega
     ·by_cases e:i=n
      ·subst e; omega
      ·exact ih hz i (by omega)
  have hk:=key _ hz
  refine List.ext_getElem c fun i h1 h2=>?_
  have:=hk i h1
  rw [limb_lt h1,limb_lt h2] at this
  exact Prod.ext this rfl
 ·rw [if_pos c] at hz
  split at hz <;> omega
end Go.Proofs.YtpdfdkccgkieoaaGreatDoor
namespace Go.Proofs.YtpdfdkccgkieoaaGreatDoor
open Sx
set_option maxRecDepth 100000
def LeBut (f:List Nat) (V V':Know):Prop:=∀ b x,b ∉ f→V b=some x→V' b=some x
theorem LeBut.refl {f:List Nat} {V:Know}:LeBut f V V:=fun _ _ _ h=>h
theorem LeBut.trans {f:List Nat} {V V1 V2:Know} (h:LeBut f V V1) (k:LeBut f V1 V2):LeBut f V V2:=fun b x hb hx=>k b x hb (h b x hb hx)
theorem LeBut.of_le {f:List Nat} {V V':Know} (h:V.le V'):LeBut f V V':=fun b x _ hx=>h b x hx
theorem LeBut.sub {f g:List Nat} {V V':Know} (h:LeBut f V V') (hs:∀ b∈f,b∈g):LeBut g V V':=fun b x hb hx=>h b x (fun hm=>hb (hs b hm)) hx
theorem LeBut.kset {f:List Nat} {V:Know} {b:Nat} {x} (h:b∈f):LeBut f V (kset V b x):=fun k y hk hy=>by
 simp only [Sx.kset]
 rw [if_neg (fun e=>hk (by rw [e]; exact h))]; exact hy
theorem le_but {f:List Nat} {V V1 V2:Know} (h:V.le V1) (hf:∀ b∈f,V b=none) (k:LeBut f V1 V2):V.le V2:=fun b x hx=>k b x (fun hm=>by rw [hf b hm] at hx; cases hx) (h b x hx)
theorem Rp.but {sh:List Sc} {α:Type} (r:Rp sh α) {V V':Know} {c:Scs sh} {x:α} {fp f:List Nat} (h:r.R V c x fp) (hd:∀ b∈fp,b ∉ f) (k:LeBut f V V'):r.R V' c x fp :=
 r.loc h fun b hb=>by obtain⟨y,hy⟩:=r.kn h b hb; rw [hy]; exact k b y (hd b hb) hy
theorem LR.but {sh:List Sc} {α:Type} {r:Rp sh α} {V V':Know} {s:SlV} {l:List α} {fp f:List Nat} (h:LR r V s l fp) (hd:∀ b∈fp,b ∉ f) (k:LeBut f V V'):LR r V' s l fp :=
 h.loc fun b hb=>by obtain⟨y,hy⟩:=h.kn b hb; rw [hy]; exact k b y (hd b hb) hy
theorem LR.put {V:Know} {s:SlV} {l:List Lim} {f:List Nat} (h:LR rI V s l f) (hw:Wr V f) {i:Nat} (hi:i<l.length) (x:Int) :
  ∃ b o cs u,s.a=some ⟨b,o,none⟩∧V b=some (cs,(u,(0,0)))∧o+i*1+1≤cs.length∧b∈f∧LR rI (kset V b (setl cs (o+i*1) [.int .i64 x],(u,(0,0)))) s (l.set i (x,())) f∧Wr (kset V b (setl cs (o+i*1) [.int .i64 x],(u,(0,0)))) f:=by
 obtain⟨h1,h2,h3,h4⟩:=h
 rcases h4 with ⟨h0,_,_⟩ | ⟨b,pre,post,t,fps,cs,k1,k2,k3,rfl⟩
 ·omega
 ·obtain⟨rfl,rfl⟩:=els_int_eq k3
  obtain⟨c',t',hk⟩:=hw b (by simp)
  rw [k2] at hk
  simp only [Option.some.injEq,Prod.mk.injEq] at hk
  obtain⟨rfl,rfl⟩:=hk
  refine⟨b,pre.length,_,t',k1,k2,?_,by simp,⟨by simp; exact h1,h2,h3,.inr ⟨b,pre,post,(t',(0,0)),[],cs.set i (x,()),k1,?_,els_int _,rfl⟩⟩,?_⟩
  ·rw [flat_int]
   simp
   omega
  ·rw [kset_same,flat_int,flat_int]
   have e1:pre++(cs.map cellI++post)=(pre++(cs.take i).map cellI)++((cs.drop i).map cellI++post):=by
    rw [List.append_assoc,← List.append_assoc ((cs.take i).map cellI),← List.map_append,List.take_append_drop]
   have e3:(cs.drop i).map cellI++post=cellI cs[i] :: ((cs.drop (i+1)).map cellI++post):=by rw [List.drop_eq_getElem_cons hi]; rfl
   have e2:cs.set i (x,())=cs.take i++(x,()) :: cs.drop (i+1):=by
    rw [List.set_eq_take_append_cons_drop,if_pos hi]
   rw [e1,e3,setl_mid (by simp; omega) (by simp),e2]
   simp only [List.length_singleton,List.drop_succ_cons,List.drop_zero,List.map_append,List.map_cons,List.append_assoc,List.cons_append,List.nil_append]
   rfl
  ·intro b' hb'
   simp at hb'
   subst hb'
   exact⟨_,_,kset_same⟩
end Go.Proofs.YtpdfdkccgkieoaaGreatDoor
