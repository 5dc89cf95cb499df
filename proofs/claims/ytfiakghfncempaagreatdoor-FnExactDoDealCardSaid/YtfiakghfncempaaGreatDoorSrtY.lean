/-
  The library's symmetric merging, on a list of parts in a block of its own.
-/
import Derived.Test.YtfiakghfncempaaGreatDoorSrtA
import Derived.Test.YtfiakghfncempaaGreatDoorCur
namespace Go.Proofs.YtfiakghfncempaaGreatDoor
open Sx Srt
set_option maxRecDepth 100000
abbrev prSh:List Sc:=[.i .i64,.l]
abbrev PrC:Type:=qy10
abbrev fnP:Value:=.func (.func 315) #[] #[]
def Cmp (U:Know) (lt:PrC→PrC→Prop) (Z:List PrC):Prop:=∀ (V:Know) (c d:PrC),U.le V→c∈Z→d∈Z→CallX Tryz.prog V 315 [Sh1.val (.g prSh) c,Sh1.val (.g prSh) d] (fun V' r=>V.le V'∧∃ z:Int,r=.int .i64 z∧(z<0↔lt c d))
theorem cX_swapRange {U V:Know} {b:Nat} {t:TypeId} {post:List Value} {s:SlV} {Z:List PrC} (ha:s.a=some ⟨b,0,none⟩) (hn:s.n=Z.length) (hl:Z.length≤1048576) (h:AtR (sh:=prSh) U b t post Z V) {x y n:Nat} (hx:x+n≤y) (hy:y+n≤Z.length) :
  CallX Tryz.prog V 342 [Sc.val .l s,.int .i64 (x:Int),.int .i64 (y:Int),.int .i64 (n:Int),fnP] (fun V' r=>r=.tuple #[]∧∃ Z',AtR (sh:=prSh) U b t post Z' V'∧Upd x (y+n) Z Z'∧gt Z'=sw x y n (gt Z)):=by
 refine CallX.of_fits Tryz.mix (fX_swapRangeCmpFunc_part _ _ _ _) fun _=>?_
 simp only [tX_swapRangeCmpFunc_part,T.wp]
 refine⟨fun q V'=>q.1=s∧∃ (i:Nat) (Y:List PrC),q.2.1=(i:Int)∧i≤n∧AtR (sh:=prSh) U b t post Y V'∧Upd x (y+n) Z Y∧gt Y=sw x y i (gt Z),fun q _=>((n:Int)-(q.2.1:Int)).toNat,⟨(s,(0:Int),()),rfl,rfl,0,Z,rfl,Nat.zero_le _,h,.rf,sw_zero.symm⟩,?_⟩
 rintro⟨(s':SlV),(i:Int),u⟩ V' ⟨e1,k,Y,e2,hk,hA,hU,hG⟩
 replace e1:s'=s:=e1
 replace e2:i=(k:Int):=e2
 subst e1 e2
 have hyl:=hU.len
 refine⟨fun hlt=>?_,fun hge=>?_⟩
 ·have h1:k<n:=by
   have:(k:Int)<(n:Int):=of_decide_eq_true hlt
   omega
  have w1:IntKind.i64.wrap ((x:Int)+(k:Int))=((x+k:Nat):Int):=by rw [wrap_i64 (by omega)]; omega
  have w2:IntKind.i64.wrap ((y:Int)+(k:Int))=((y+k:Nat):Int):=by rw [wrap_i64 (by omega)]; omega
  obtain⟨ci,cj,cs,u1,cs',u2,_,_,li,lj,v1,f1,s1,s2,v2,f2,hA'⟩:=hA.swp (i:=x+k) (j:=y+k) (by omega) (by omega)
  dsimp only
  rw [w1,w2,Int.toNat_natCast,Int.toNat_natCast]
  refine⟨_,ha,(by omega:(0:Int)≤((y+k:Nat):Int)),(by omega:((y+k:Nat):Int)<(s'.n:Int)),cj,lj,_,ha,(by omega:(0:Int)≤((x+k:Nat):Int)),(by omega:((x+k:Nat):Int)<(s'.n:Int)),ci,li,_,ha,(by omega:(0:Int)≤((x+k:Nat):Int)),(by omega:((x+k:Nat):Int)<(s'.n:Int)),cs,u1,s1,v1,f1,
   _,ha,(by omega:(0:Int)≤((y+k:Nat):Int)),(by omega:((y+k:Nat):Int)<(s'.n:Int)),cs',u2,s2,v2,f2,_,rfl,(s',((k+1:Nat):Int),()),by rw [nxt h1 (by omega)]; rfl,⟨rfl,k+1,_,rfl,h1,hA',hU.tr (swp_upd (by omega) (by omega) (by omega) (by omega) (by omega) (by omega)),sw_step hx h1 (by omega) hG⟩,?_⟩
  show((n:Int)-((k+1:Nat):Int)).toNat<((n:Int)-(k:Int)).toNat
  omega
 ·have h1:k=n:=by
   have:¬ (k:Int)<(n:Int):=of_decide_eq_false hge
   omega
  subst h1
  exact⟨rfl,Y,hA,hU,hG⟩
theorem cX_rotate {U V:Know} {b:Nat} {t:TypeId} {post:List Value} {s:SlV} {Z:List PrC} (ha:s.a=some ⟨b,0,none⟩) (hn:s.n=Z.length) (hl:Z.length≤1048576) (h:AtR (sh:=prSh) U b t post Z V) {x m y:Nat} (hx:x<m) (hm:m<y) (hy:y≤Z.length) :
  CallX Tryz.prog V 333 [Sc.val .l s,.int .i64 (x:Int),.int .i64 (m:Int),.int .i64 (y:Int),fnP] (fun V' r=>r=.tuple #[]∧∃ Z',AtR (sh:=prSh) U b t post Z' V'∧Upd x y Z Z'∧gt Z'=rt x m y (gt Z)):=by
 refine CallX.of_fits Tryz.mix (fX_rotateCmpFunc_part _ _ _ _) fun _=>?_
 simp only [tX_rotateCmpFunc_part,T.wp]
 have w1:IntKind.i64.wrap ((m:Int)-(x:Int))=((m-x:Nat):Int):=by rw [wrap_i64 (by omega)]; omega
 have w2:IntKind.i64.wrap ((y:Int)-(m:Int))=((y-m:Nat):Int):=by rw [wrap_i64 (by omega)]; omega
 rw [w1,w2]
 refine⟨fun q V'=>∃ (i j:Nat) (Y:List PrC),q.1=(i:Int)∧q.2.1=(j:Int)∧0<i∧0<j∧i≤m-x∧j≤y-m∧AtR (sh:=prSh) U b t post Y V'∧Upd x y Z Y∧rt (m-i) m (m+j) (gt Y)=rt x m y (gt Z),fun q _=>((q.1:Int)+(q.2.1:Int)).toNat,⟨(((m-x:Nat):Int),((y-m:Nat):Int),()),rfl,m-x,y-m,Z,rfl,rfl,by omega,by omega,Nat.le_refl _,Nat.le_refl _,h,.rf,by rw [show m-(m-x)=x by omega,show m+(y-m)=y by omega]⟩,?_⟩
 rintro⟨(i':Int),(j':Int),u⟩ V' ⟨i,j,Y,e1,e2,hi0,hj0,hi,hj,hA,hU,hG⟩
 replace e1:i'=(i:Int):=e1
 replace e2:j'=(j:Int):=e2
 subst e1 e2
 have hyl:=hU.len
 have wa:IntKind.i64.wrap ((m:Int)-(i:Int))=((m-i:Nat):Int):=by rw [wrap_i64 (by omega)]; omega
 dsimp only
 rw [wa]
 refine⟨fun hne=>⟨fun hgt=>?_,fun hle=>?_⟩,fun heq=>?_⟩
 ·have h1:j<i:=by
   have:(i:Int) > (j:Int):=of_decide_eq_true hgt
   omega
  refine(cX_swapRange ha (by omega) (by omega) hA (x:=m-i) (y:=m) (n:=j) (by omega) (by omega)).mono ?_
  rintro V2 r ⟨rfl,Y2,hA2,hU2,hG2⟩
  have wb:IntKind.i64.wrap ((i:Int)-(j:Int))=((i-j:Nat):Int):=by rw [wrap_i64 (by omega)]; omega
  refine⟨nofun,(),rfl,_,rfl,(((i-j:Nat):Int),(j:Int),()),by rw [wb]; rfl,⟨i-j,j,Y2,rfl,rfl,by omega,hj0,by omega,hj,hA2,hU.tr (hU2.mono (by omega) (by omega)),?_⟩,?_⟩
  ·rw [hG2,rt_hi h1 (by omega) hj0]; exact hG
  ·show(((i-j:Nat):Int)+(j:Int)).toNat<((i:Int)+(j:Int)).toNat
   omega
 ·have h1:i<j:=by
   have a1:¬ (i:Int) > (j:Int):=of_decide_eq_false hle
   have a2:(i:Int)≠(j:Int):=by simpa using hne
   omega
  have wb:IntKind.i64.wrap (IntKind.i64.wrap ((m:Int)+(j:Int))-(i:Int))=((m+j-i:Nat):Int):=by rw [wrap_i64 (n:=(m:Int)+(j:Int)) (by omega),wrap_i64 (by omega)]; omega
  have wc:IntKind.i64.wrap ((j:Int)-(i:Int))=((j-i:Nat):Int):=by rw [wrap_i64 (by omega)]; omega
  rw [wb]
  refine(cX_swapRange ha (by omega) (by omega) hA (x:=m-i) (y:=m+j-i) (n:=i) (by omega) (by omega)).mono ?_
  rintro V2 r ⟨rfl,Y2,hA2,hU2,hG2⟩
  refine⟨nofun,(),rfl,_,rfl,((i:Int),((j-i:Nat):Int),()),by rw [wc]; rfl,⟨i,j-i,Y2,rfl,rfl,hi0,by omega,hi,by omega,hA2,hU.tr (hU2.mono (by omega) (by omega)),?_⟩,?_⟩
  ·rw [hG2,rt_lo h1 (by omega) hi0]; exact hG
  ·show((i:Int)+((j-i:Nat):Int)).toNat<((i:Int)+(j:Int)).toNat
   omega
 ·have h1:i=j:=by
   have:(i:Int)=(j:Int):=by simpa using heq
   omega
  subst h1
  refine(cX_swapRange ha (by omega) (by omega) hA (x:=m-i) (y:=m) (n:=i) (by omega) (by omega)).mono ?_
  rintro V2 r ⟨rfl,Y2,hA2,hU2,hG2⟩
  refine⟨nofun,(),rfl,rfl,Y2,hA2,hU.tr (hU2.mono (by omega) (by omega)),?_⟩
  rw [hG2,rt_eq (by omega)]; exact hG
theorem Cmp.upd {U:Know} {lt:PrC→PrC→Prop} {Z Y:List PrC} {a b:Nat} (h:Cmp U lt Z) (k:Upd a b Z Y):Cmp U lt Y:=fun V c d le hc hd=>h V c d le (k.1.mem_iff.1 hc) (k.1.mem_iff.1 hd)
theorem cX_insertionSort {lt:PrC→PrC→Prop} (tr:∀ x y z,lt x y→lt y z→lt x z) {U V:Know} {b:Nat} {t:TypeId} {post:List Value} {s:SlV} {Z:List PrC} (ha:s.a=some ⟨b,0,none⟩) (hn:s.n=Z.length) (hl:Z.length≤1048576) (h:AtR (sh:=prSh) U b t post Z V) (lin:Lin lt Z) (hC:Cmp U lt Z) {x y:Nat} (hy:y≤Z.length) (hx:x≤Z.length) :
  CallX Tryz.prog V 329 [Sc.val .l s,.int .i64 (x:Int),.int .i64 (y:Int),fnP] (fun V' r=>r=.tuple #[]∧∃ Z',AtR (sh:=prSh) U b t post Z' V'∧Upd x y Z Z'∧Sr lt x y Z'):=by
 refine CallX.of_fits Tryz.mix (fX_insertionSortCmpFunc_part _ _ _) fun _=>?_
 simp only [tX_insertionSortCmpFunc_part,T.wp]
 have w1:IntKind.i64.wrap ((x:Int)+1)=((x+1:Nat):Int):=by rw [wrap_i64 (by omega)]; omega
 rw [w1]
 refine⟨fun q V'=>q.1=s∧∃ (i:Nat) (Y:List PrC),q.2.1=(i:Int)∧AtR (sh:=prSh) U b t post Y V'∧Upd x y Z Y∧((i≤y∧x+1≤i∧Sr lt x i Y)∨(y≤x∧i=x+1)),fun q _=>((y:Int)-(q.2.1:Int)).toNat,⟨(s,((x+1:Nat):Int),()),rfl,rfl,x+1,Z,rfl,h,.rf,?_⟩,?_⟩
 ·by_cases k:y≤x
  ·exact .inr ⟨k,rfl⟩
  ·exact .inl ⟨by omega,Nat.le_refl _,Sr.one⟩
 rintro⟨(s':SlV),(i':Int),u⟩ V' ⟨e1,i,Y,e2,hA,hU,hS⟩
 replace e1:s'=s:=e1
 replace e2:i'=(i:Int):=e2
 subst e1 e2
 have hyl:=hU.len
 refine⟨fun hlt=>?_,fun hge=>?_⟩
 ·have h1:i<y:=by
   have:(i:Int)<(y:Int):=of_decide_eq_true hlt
   omega
  obtain⟨hs1,hs2,hs3⟩:i≤y∧x+1≤i∧Sr lt x i Y:=by
   rcases hS with k | k
   ·exact k
   ·omega
  have wn:IntKind.i64.wrap ((i:Int)+1)=((i+1:Nat):Int):=by rw [wrap_i64 (by omega)]; omega
  refine⟨fun q V2=>q.1=s'∧∃ (j:Nat) (X:List PrC),q.2.1=(j:Int)∧x≤j∧j≤i∧AtR (sh:=prSh) U b t post X V2∧Upd x y Z X∧InsP lt x i j X,fun q _=>(q.2.1:Int).toNat,⟨(s',(i:Int),()),rfl,rfl,i,Y,rfl,by omega,Nat.le_refl _,hA,hU,InsP.start hs3⟩,?_⟩
  rintro⟨(s2:SlV),(j':Int),u2⟩ V2 ⟨e3,j,X,e4,hj1,hj2,hA2,hU2,hI⟩
  replace e3:s2=s':=e3
  replace e4:j'=(j:Int):=e4
  subst e3 e4
  have hxl:=hU2.len
  have done:(j≤x∨∀ c d,X[j]?=some c→X[j-1]?=some d→¬ lt c d)→∃ i2:Nat,((i:Int)+1=(i2:Int))∧((i2≤y∧x+1≤i2∧Sr lt x i2 X)∨(y≤x∧i2=x+1)):=fun hd=>⟨i+1,by omega,.inl ⟨h1,by omega,hI.done tr (lin.upd hU2) hj2 (by omega) hd⟩⟩
  dsimp only
  rw [wn]
  refine⟨fun hgt=>?_,fun hle=>?_⟩
  ·have h2:x<j:=by
    have:(j:Int) > (x:Int):=of_decide_eq_true hgt
    omega
   have wj:IntKind.i64.wrap ((j:Int)-1)=((j-1:Nat):Int):=by rw [wrap_i64 (by omega)]; omega
   obtain⟨ci,cj,cs,u1,cs',u2',g1,g2,li,lj,v1,f1,s1,s3,v2,f2,hA'⟩:=hA2.swp (i:=j) (j:=j-1) (by omega) (by omega)
   rw [wj,Int.toNat_natCast,Int.toNat_natCast]
   refine⟨_,ha,(by omega:(0:Int)≤(j:Int)),(by omega:(j:Int)<(s2.n:Int)),ci,li,_,ha,(by omega:(0:Int)≤((j-1:Nat):Int)),(by omega:((j-1:Nat):Int)<(s2.n:Int)),cj,lj,((hC.upd hU2) V2 ci cj hA2.2.1 (List.mem_of_getElem? g1) (List.mem_of_getElem? g2)).mono ?_⟩
   rintro V3 r ⟨le3,z,rfl,hz⟩
   refine⟨nofun,z,rfl,fun hneg=>?_,fun hpos=>?_⟩
   ·have hlt2:lt ci cj:=hz.1 (of_decide_eq_true hneg)
    obtain⟨ci3,cj3,cs3,u3,cs3',u3',g13,g23,li3,lj3,v13,f13,s13,s33,v23,f23,hA3⟩:=(hA2.le le3).swp (i:=j) (j:=j-1) (by omega) (by omega)
    refine⟨_,ha,(by omega:(0:Int)≤((j-1:Nat):Int)),(by omega:((j-1:Nat):Int)<(s2.n:Int)),cj3,lj3,_,ha,(by omega:(0:Int)≤(j:Int)),(by omega:(j:Int)<(s2.n:Int)),ci3,li3,_,ha,(by omega:(0:Int)≤(j:Int)),(by omega:(j:Int)<(s2.n:Int)),cs3,u3,s13,v13,f13,_,ha,(by omega:(0:Int)≤((j-1:Nat):Int)),(by omega:((j-1:Nat):Int)<(s2.n:Int)),cs3',u3',s33,v23,f23,
     _,rfl,(s2,((j-1:Nat):Int),()),rfl,⟨rfl,j-1,_,rfl,by omega,by omega,hA3,hU2.tr (swp_upd (by omega) (by omega) (by omega) (by omega) (by omega) (by omega)),hI.step h2 hj2 (by omega) g1 g2 hlt2⟩,?_⟩
    show(((j-1:Nat):Int)).toNat<((j:Int)).toNat
    omega
   ·have hnl:¬ lt ci cj:=fun q=>absurd (hz.2 q) (of_decide_eq_false hpos)
    obtain⟨i2,ei2,hd⟩:=done (.inr fun c d k1 k2=>by rw [g1] at k1; rw [g2] at k2; cases k1; cases k2; exact hnl)
    refine⟨_,rfl,(s2,((i+1:Nat):Int),()),rfl,⟨rfl,i2,X,by show((i+1:Nat):Int)=_; omega,hA2.le le3,hU2,hd⟩,?_⟩
    show((y:Int)-((i+1:Nat):Int)).toNat<((y:Int)-(i:Int)).toNat
    omega
  ·have h2:j≤x:=by
    have:¬ (j:Int) > (x:Int):=of_decide_eq_false hle
    omega
   obtain⟨i2,ei2,hd⟩:=done (.inl h2)
   refine⟨_,rfl,(s2,((i+1:Nat):Int),()),rfl,⟨rfl,i2,X,by show((i+1:Nat):Int)=_; omega,hA2,hU2,hd⟩,?_⟩
   show((y:Int)-((i+1:Nat):Int)).toNat<((y:Int)-(i:Int)).toNat
   omega
 ·have h1:¬ i<y:=by
   have:¬ (i:Int)<(y:Int):=of_decide_eq_false hge
   omega
  refine⟨rfl,Y,hA,hU,?_⟩
  rcases hS with ⟨k1,_,k3⟩ | ⟨k1,_⟩
  ·have:i=y:=by omega
   rw [← this]; exact k3
  ·exact Sr.nil k1
end Go.Proofs.YtfiakghfncempaaGreatDoor
namespace Go.Proofs.YtfiakghfncempaaGreatDoor
open Sx Srt
set_option maxRecDepth 100000
theorem half_w {x y:Nat} (h:x+y≤4194304):IntKind.i64.wrap ((IntKind.u64.wrap (IntKind.i64.wrap ((x:Int)+(y:Int)))).fdiv ((2:Int) ^ min (Int.toNat (1:Int)) (64:Nat)))=(((x+y) / 2:Nat):Int):=by
 have e1:(2:Int) ^ min (Int.toNat (1:Int)) (64:Nat)=2:=by decide
 have e2:IntKind.u64.wrap ((x:Int)+(y:Int))=(x:Int)+(y:Int):=by
  show(((x:Int)+(y:Int)) % 18446744073709551616)=_
  omega
 rw [e1,wrap_i64 (n:=(x:Int)+(y:Int)) (by omega),e2,Int.fdiv_eq_ediv_of_nonneg _ (by decide),wrap_i64 (by omega)]
 omega
theorem rt_id {β:Type} {s m e:Nat} {f:Nat→β} (h:¬ (s<m∧m<e)) (h1:s≤m) (h2:m≤e):rt s m e f=f:=funext fun q=>by
 unfold rt
 by_cases k:s=m
 ·subst k
  split
  ·congr 1; omega
  ·split
   ·omega
   ·rfl
 ·have:e=m:=by omega
  subst this
  split
  ·omega
  ·split
   ·congr 1; omega
   ·rfl
theorem cX_symMerge {lt:PrC→PrC→Prop} (tr:∀ x y z,lt x y→lt y z→lt x z) {U:Know} {b:Nat} {t:TypeId} {post:List Value} {s:SlV} (ha:s.a=some ⟨b,0,none⟩):∀ (n:Nat) (V:Know) (Z:List PrC) (x m y:Nat),y-x≤n→s.n=Z.length→Z.length≤1048576→AtR (sh:=prSh) U b t post Z V→Lin lt Z→Cmp U lt Z→x<m→m<y→y≤Z.length→Sr lt x m Z→Sr lt m y Z →
  CallX Tryz.prog V 330 [Sc.val .l s,.int .i64 (x:Int),.int .i64 (m:Int),.int .i64 (y:Int),fnP] (fun V' r=>r=.tuple #[]∧∃ Z',AtR (sh:=prSh) U b t post Z' V'∧Upd x y Z Z'∧Sr lt x y Z')
 | 0,V,Z,x,m,y,h0,_,_,_,_,_,hx,hm,_,_,_=>by omega
 | n+1,V,Z,x,m,y,h0,hn,hl,h,lin,hC,hx,hm,hy,hs1,hs2=>by
  refine CallX.of_fits Tryz.mix (fX_symMergeCmpFunc_part _ _ _ _) fun _=>?_
  simp only [tX_symMergeCmpFunc_part,T.wp]
  have w1:IntKind.i64.wrap ((m:Int)-(x:Int))=((m-x:Nat):Int):=by rw [wrap_i64 (by omega)]; omega
  have w2:IntKind.i64.wrap ((y:Int)-(m:Int))=((y-m:Nat):Int):=by rw [wrap_i64 (by omega)]; omega
  rw [w1,w2,half_w (x:=x) (y:=y) (by omega)]
  obtain⟨c0,hc0⟩:=at_ex (Z:=Z) (k:=x) (by omega)
  obtain⟨cm,hcm⟩:=at_ex (Z:=Z) (k:=m) (by omega)
  have mem:∀ {k c},Z[k]?=some c→c∈Z:=fun h=>List.mem_of_getElem? h
  refine⟨fun hb1=>?_,fun hb1=>⟨fun hb2=>?_,fun hb2=>?_⟩⟩
  ·have hmx:m=x+1:=by
    have:((m-x:Nat):Int)=1:=by simpa using hb1
    omega
   refine⟨fun q V'=>∃ i j:Nat,q.1=(i:Int)∧q.2.1=(j:Int)∧m≤i∧i≤j∧j≤y∧AtR (sh:=prSh) U b t post Z V'∧(∀ k c,m≤k→k<i→Z[k]?=some c→lt c c0)∧(∀ k c,j≤k→k<y→Z[k]?=some c→¬ lt c c0),fun q _=>((q.2.1:Int)-(q.1:Int)).toNat,
    ⟨((m:Int),(y:Int),()),rfl,m,y,rfl,rfl,Nat.le_refl _,by omega,Nat.le_refl _,h,fun k c _ _=>by omega,fun k c _ _=>by omega⟩,?_⟩
   rintro⟨(i':Int),(j':Int),u⟩ V1 ⟨i,j,e1,e2,hi,hij,hj,hA,hlo,hhi⟩
   replace e1:i'=(i:Int):=e1
   replace e2:j'=(j:Int):=e2
   subst e1 e2
   dsimp only
   rw [half_w (x:=i) (y:=j) (by omega)]
   refine⟨fun hlt=>?_,fun hge=>?_⟩
   ·have h1:i<j:=by
     have:(i:Int)<(j:Int):=of_decide_eq_true hlt
     omega
    obtain⟨p,hp⟩:∃ p,p=(i+j) / 2:=⟨_,rfl⟩
    rw [← hp]
    have hp1:i≤p:=by omega
    have hp2:p<j:=by omega
    obtain⟨ch,hch⟩:=at_ex (Z:=Z) (k:=p) (by omega)
    have wp1:IntKind.i64.wrap ((p:Int)+1)=((p+1:Nat):Int):=by rw [wrap_i64 (by omega)]; omega
    rw [wp1,Int.toNat_natCast,Int.toNat_natCast]
    refine⟨_,ha,(by omega:(0:Int)≤(p:Int)),(by omega:(p:Int)<(s.n:Int)),ch,hA.ldA hch,_,ha,(by omega:(0:Int)≤(x:Int)),(by omega:(x:Int)<(s.n:Int)),c0,hA.ldA hc0,(hC V1 ch c0 hA.2.1 (mem hch) (mem hc0)).mono ?_⟩
    rintro V3 r ⟨le3,z,rfl,hz⟩
    refine⟨nofun,z,rfl,fun hneg=>?_,fun hpos=>?_⟩
    ·have hl1:lt ch c0:=hz.1 (of_decide_eq_true hneg)
     refine⟨_,rfl,(((p+1:Nat):Int),(j:Int),()),rfl,⟨p+1,j,rfl,rfl,by omega,by omega,hj,hA.le le3,fun k c k1 k2 k3=>?_,hhi⟩,?_⟩
     ·by_cases e:k=p
      ·subst e; rw [hch] at k3; cases k3; exact hl1
      ·exact tr _ _ _ (hs2 k p c ch k1 (by omega) (by omega) k3 hch) hl1
     ·show((j:Int)-((p+1:Nat):Int)).toNat<((j:Int)-(i:Int)).toNat
      omega
    ·have hl1:¬ lt ch c0:=fun q=>absurd (hz.2 q) (of_decide_eq_false hpos)
     refine⟨_,rfl,((i:Int),(p:Int),()),rfl,⟨i,p,rfl,rfl,hi,hp1,by omega,hA.le le3,hlo,fun k c k1 k2 k3 q=>?_⟩,?_⟩
     ·by_cases e:k=p
      ·subst e; rw [hch] at k3; cases k3; exact hl1 q
      ·exact hl1 (tr _ _ _ (hs2 p k ch c (by omega) (by omega) k2 hch k3) q)
     ·show((p:Int)-(i:Int)).toNat<((j:Int)-(i:Int)).toNat
      omega
   ·have h1:i=j:=by
     have:¬ (i:Int)<(j:Int):=of_decide_eq_false hge
     omega
    subst h1
    have wi:IntKind.i64.wrap ((i:Int)-1)=((i-1:Nat):Int):=by rw [wrap_i64 (by omega)]; omega
    rw [wi]
    refine⟨fun q V'=>q.1=s∧∃ (k:Nat) (Y:List PrC),q.2.1=(k:Int)∧x≤k∧k≤i-1∧AtR (sh:=prSh) U b t post Y V'∧Upd x y Z Y∧MvR x k Z Y,fun q _=>(((i-1:Nat):Int)-(q.2.1:Int)).toNat,⟨(s,(x:Int),()),rfl,rfl,x,Z,rfl,Nat.le_refl _,by omega,hA,.rf,MvR.start⟩,?_⟩
    rintro⟨(s':SlV),(k':Int),u'⟩ V4 ⟨e3,k,Y,e4,k1,k2,hA4,hU,hM⟩
    replace e3:s'=s:=e3
    replace e4:k'=(k:Int):=e4
    subst e3 e4
    have hyl:=hU.len
    have wk:IntKind.i64.wrap ((k:Int)+1)=((k+1:Nat):Int):=by rw [wrap_i64 (by omega)]; omega
    dsimp only
    rw [wk]
    refine⟨fun hlt=>?_,fun hge=>?_⟩
    ·have k3:k<i-1:=by
      have:(k:Int)<((i-1:Nat):Int):=of_decide_eq_true hlt
      omega
     obtain⟨ci,cj,cs,u1,cs',u2',g1,g2,li,lj,v1,f1,s1,s3,v2,f2,hA'⟩:=hA4.swp (i:=k) (j:=k+1) (by omega) (by omega)
     rw [Int.toNat_natCast,Int.toNat_natCast]
     refine⟨_,ha,(by omega:(0:Int)≤((k+1:Nat):Int)),(by omega:((k+1:Nat):Int)<(s'.n:Int)),cj,lj,_,ha,(by omega:(0:Int)≤(k:Int)),(by omega:(k:Int)<(s'.n:Int)),ci,li,_,ha,(by omega:(0:Int)≤(k:Int)),(by omega:(k:Int)<(s'.n:Int)),cs,u1,s1,v1,f1,_,ha,(by omega:(0:Int)≤((k+1:Nat):Int)),(by omega:((k+1:Nat):Int)<(s'.n:Int)),cs',u2',s3,v2,f2,
      _,rfl,(s',((k+1:Nat):Int),()),rfl,⟨rfl,k+1,_,rfl,by omega,by omega,hA',hU.tr (swp_upd (by omega) (by omega) (by omega) (by omega) (by omega) (by omega)),hM.step k1 (by omega)⟩,?_⟩
     show(((i-1:Nat):Int)-((k+1:Nat):Int)).toNat<(((i-1:Nat):Int)-(k:Int)).toNat
     omega
    ·have k3:k=i-1:=by
      have:¬ (k:Int)<((i-1:Nat):Int):=of_decide_eq_false hge
      omega
     subst k3
     exact⟨rfl,Y,hA4,hU,ins_right tr lin hmx hs2 hi hj hy hc0 hlo hhi hM⟩
  ·have hym:y=m+1:=by
    have:((y-m:Nat):Int)=1:=by simpa using hb2
    omega
   refine⟨fun q V'=>∃ i j:Nat,q.1=(i:Int)∧q.2.1=(j:Int)∧x≤i∧i≤j∧j≤m∧AtR (sh:=prSh) U b t post Z V'∧(∀ k c,x≤k→k<i→Z[k]?=some c→¬ lt cm c)∧(∀ k c,j≤k→k<m→Z[k]?=some c→lt cm c),fun q _=>((q.2.1:Int)-(q.1:Int)).toNat,
    ⟨((x:Int),(m:Int),()),rfl,x,m,rfl,rfl,Nat.le_refl _,by omega,Nat.le_refl _,h,fun k c _ _=>by omega,fun k c _ _=>by omega⟩,?_⟩
   rintro⟨(i':Int),(j':Int),u⟩ V1 ⟨i,j,e1,e2,hi,hij,hj,hA,hlo,hhi⟩
   replace e1:i'=(i:Int):=e1
   replace e2:j'=(j:Int):=e2
   subst e1 e2
   dsimp only
   rw [half_w (x:=i) (y:=j) (by omega)]
   refine⟨fun hlt=>?_,fun hge=>?_⟩
   ·have h1:i<j:=by
     have:(i:Int)<(j:Int):=of_decide_eq_true hlt
     omega
    obtain⟨p,hp⟩:∃ p,p=(i+j) / 2:=⟨_,rfl⟩
    rw [← hp]
    have hp1:i≤p:=by omega
    have hp2:p<j:=by omega
    obtain⟨ch,hch⟩:=at_ex (Z:=Z) (k:=p) (by omega)
    have wp1:IntKind.i64.wrap ((p:Int)+1)=((p+1:Nat):Int):=by rw [wrap_i64 (by omega)]; omega
    rw [wp1,Int.toNat_natCast,Int.toNat_natCast]
    refine⟨_,ha,(by omega:(0:Int)≤(m:Int)),(by omega:(m:Int)<(s.n:Int)),cm,hA.ldA hcm,_,ha,(by omega:(0:Int)≤(p:Int)),(by omega:(p:Int)<(s.n:Int)),ch,hA.ldA hch,(hC V1 cm ch hA.2.1 (mem hcm) (mem hch)).mono ?_⟩
    rintro V3 r ⟨le3,z,rfl,hz⟩
    refine⟨nofun,z,rfl,fun hneg=>?_,fun hpos=>?_⟩
    ·have hl1:¬ lt cm ch:=fun q=>by
      have:=hz.2 q
      rw [decide_eq_true this] at hneg
      cases hneg
     refine⟨_,rfl,(((p+1:Nat):Int),(j:Int),()),rfl,⟨p+1,j,rfl,rfl,by omega,by omega,hj,hA.le le3,fun k c k1 k2 k3 q=>?_,hhi⟩,?_⟩
     ·by_cases e:k=p
      ·subst e; rw [hch] at k3; cases k3; exact hl1 q
      ·exact hl1 (tr _ _ _ q (hs1 k p c ch k1 (by omega) (by omega) k3 hch))
     ·show((j:Int)-((p+1:Nat):Int)).toNat<((j:Int)-(i:Int)).toNat
      omega
    ·have hl1:lt cm ch:=hz.1 (by
      refine Classical.byContradiction fun q=>?_
      rw [decide_eq_false q] at hpos
      cases hpos)
     refine⟨_,rfl,((i:Int),(p:Int),()),rfl,⟨i,p,rfl,rfl,hi,hp1,by omega,hA.le le3,hlo,fun k c k1 k2 k3=>?_⟩,?_⟩
     ·by_cases e:k=p
      ·subst e; rw [hch] at k3; cases k3; exact hl1
      ·exact tr _ _ _ hl1 (hs1 p k ch c (by omega) (by omega) k2 hch k3)
     ·show((p:Int)-(i:Int)).toNat<((j:Int)-(i:Int)).toNat
      omega
   ·have h1:i=j:=by
     have:¬ (i:Int)<(j:Int):=of_decide_eq_false hge
     omega
    subst h1
    refine⟨fun q V'=>q.1=s∧∃ (k:Nat) (Y:List PrC),q.2.1=(k:Int)∧i≤k∧k≤m∧AtR (sh:=prSh) U b t post Y V'∧Upd x y Z Y∧MvL m k Z Y,fun q _=>((q.2.1:Int)-(i:Int)).toNat,⟨(s,(m:Int),()),rfl,rfl,m,Z,rfl,hj,Nat.le_refl _,hA,.rf,MvL.start⟩,?_⟩
    rintro⟨(s':SlV),(k':Int),u'⟩ V4 ⟨e3,k,Y,e4,k1,k2,hA4,hU,hM⟩
    replace e3:s'=s:=e3
    replace e4:k'=(k:Int):=e4
    subst e3 e4
    have hyl:=hU.len
    dsimp only
    refine⟨fun hlt=>?_,fun hge=>?_⟩
    ·have k3:i<k:=by
      have:(k:Int) > (i:Int):=of_decide_eq_true hlt
      omega
     have wk:IntKind.i64.wrap ((k:Int)-1)=((k-1:Nat):Int):=by rw [wrap_i64 (by omega)]; omega
     obtain⟨ci,cj,cs,u1,cs',u2',g1,g2,li,lj,v1,f1,s1,s3,v2,f2,hA'⟩:=hA4.swp (i:=k) (j:=k-1) (by omega) (by omega)
     rw [wk,Int.toNat_natCast,Int.toNat_natCast]
     refine⟨_,ha,(by omega:(0:Int)≤((k-1:Nat):Int)),(by omega:((k-1:Nat):Int)<(s'.n:Int)),cj,lj,_,ha,(by omega:(0:Int)≤(k:Int)),(by omega:(k:Int)<(s'.n:Int)),ci,li,_,ha,(by omega:(0:Int)≤(k:Int)),(by omega:(k:Int)<(s'.n:Int)),cs,u1,s1,v1,f1,_,ha,(by omega:(0:Int)≤((k-1:Nat):Int)),(by omega:((k-1:Nat):Int)<(s'.n:Int)),cs',u2',s3,v2,f2,
      _,rfl,(s',((k-1:Nat):Int),()),rfl,⟨rfl,k-1,_,rfl,by omega,by omega,hA',hU.tr (swp_upd (by omega) (by omega) (by omega) (by omega) (by omega) (by omega)),hM.step (by omega) k2 (by omega)⟩,?_⟩
     show(((k-1:Nat):Int)-(i:Int)).toNat<((k:Int)-(i:Int)).toNat
     omega
    ·have k3:k=i:=by
      have:¬ (k:Int) > (i:Int):=of_decide_eq_false hge
      omega
     subst k3
     exact⟨rfl,Y,hA4,hU,ins_left tr lin hym hs1 hi hj hy hcm hlo hhi hM⟩
  ·have n1:m≠x+1:=fun e=>by
    have:((m-x:Nat):Int)≠1:=by simpa using hb1
    omega
   have n2:y≠m+1:=fun e=>by
    have:((y-m:Nat):Int)≠1:=by simpa using hb2
    omega
   obtain⟨mid,hmid⟩:∃ k,k=(x+y) / 2:=⟨_,rfl⟩
   rw [← hmid]
   have wA:IntKind.i64.wrap ((mid:Int)+(m:Int))=((mid+m:Nat):Int):=by rw [wrap_i64 (by omega)]; omega
   have wB:IntKind.i64.wrap (((mid+m:Nat):Int)-(y:Int))=((mid+m:Nat):Int)-(y:Int):=wrap_i64 (by omega)
   have wC:IntKind.i64.wrap (((mid+m:Nat):Int)-1)=((mid+m-1:Nat):Int):=by rw [wrap_i64 (by omega)]; omega
   rw [wA,wB,wC]
   refine⟨fun q V'=>AtR (sh:=prSh) U b t post Z V'∧∃ lo hi:Nat,q.1=(lo:Int)∧q.2.1=(hi:Int)∧((mid<m∧lo=mid+m-y∧hi=mid)∨(m≤mid∧lo=x∧hi=m)),⟨fun hgt=>?_,fun hle=>?_⟩,?_⟩
   ·have k1:mid<m:=by
     have:(m:Int) > (mid:Int):=of_decide_eq_true hgt
     omega
    exact⟨_,rfl,(((mid+m:Nat):Int)-(y:Int),(mid:Int),()),rfl,h,mid+m-y,mid,by show((mid+m:Nat):Int)-(y:Int)=_; omega,rfl,.inl ⟨k1,rfl,rfl⟩⟩
   ·have k1:m≤mid:=by
     have:¬ (m:Int) > (mid:Int):=of_decide_eq_false hle
     omega
    exact⟨_,rfl,((x:Int),(m:Int),()),rfl,h,x,m,rfl,rfl,.inr ⟨k1,rfl,rfl⟩⟩
   rintro⟨(lo':Int),(hi':Int),u⟩ V1 ⟨hA0,lo,hi,e1,e2,hcase⟩
   replace e1:lo'=(lo:Int):=e1
   replace e2:hi'=(hi:Int):=e2
   subst e1 e2
   have q1:x≤lo:=by omega
   have q2:lo≤hi:=by omega
   have q3:hi≤m:=by omega
   have q4:∀ c,lo≤c→c<hi→m≤mid+m-1-c∧mid+m-1-c<y:=fun c _ _=>by omega
   refine⟨fun q V'=>∃ i j:Nat,q.1=(i:Int)∧q.2.1=(j:Int)∧lo≤i∧i≤j∧j≤hi∧AtR (sh:=prSh) U b t post Z V'∧(∀ c u v,lo≤c→c<i→Z[c]?=some u→Z[mid+m-1-c]?=some v→¬ lt v u)∧(∀ c u v,j≤c→c<hi→Z[c]?=some u→Z[mid+m-1-c]?=some v→lt v u),fun q _=>((q.2.1:Int)-(q.1:Int)).toNat,
    ⟨((lo:Int),(hi:Int),()),rfl,lo,hi,rfl,rfl,Nat.le_refl _,q2,Nat.le_refl _,hA0,fun c _ _ _ _=>by omega,fun c _ _ _ _=>by omega⟩,?_⟩
   rintro⟨(i':Int),(j':Int),u'⟩ V2 ⟨i,j,e3,e4,hi1,hij,hj1,hA,hlo,hhi⟩
   replace e3:i'=(i:Int):=e3
   replace e4:j'=(j:Int):=e4
   subst e3 e4
   dsimp only
   rw [half_w (x:=i) (y:=j) (by omega)]
   refine⟨fun hlt=>?_,fun hge=>?_⟩
   ·have h1:i<j:=by
     have:(i:Int)<(j:Int):=of_decide_eq_true hlt
     omega
    obtain⟨p,hp⟩:∃ p,p=(i+j) / 2:=⟨_,rfl⟩
    rw [← hp]
    have hp1:i≤p:=by omega
    have hp2:p<j:=by omega
    obtain⟨r1,r2⟩:=q4 p (by omega) (by omega)
    obtain⟨cu,hcu⟩:=at_ex (Z:=Z) (k:=p) (by omega)
    obtain⟨cv,hcv⟩:=at_ex (Z:=Z) (k:=mid+m-1-p) (by omega)
    have wp1:IntKind.i64.wrap ((p:Int)+1)=((p+1:Nat):Int):=by rw [wrap_i64 (by omega)]; omega
    have wp2:IntKind.i64.wrap (((mid+m-1:Nat):Int)-(p:Int))=((mid+m-1-p:Nat):Int):=by rw [wrap_i64 (by omega)]; omega
    rw [wp1,wp2,Int.toNat_natCast,Int.toNat_natCast]
    refine⟨_,ha,(by omega:(0:Int)≤((mid+m-1-p:Nat):Int)),(by omega:((mid+m-1-p:Nat):Int)<(s.n:Int)),cv,hA.ldA hcv,_,ha,(by omega:(0:Int)≤(p:Int)),(by omega:(p:Int)<(s.n:Int)),cu,hA.ldA hcu,(hC V2 cv cu hA.2.1 (mem hcv) (mem hcu)).mono ?_⟩
    rintro V3 r ⟨le3,z,rfl,hz⟩
    refine⟨nofun,z,rfl,fun hneg=>?_,fun hpos=>?_⟩
    ·have hl1:¬ lt cv cu:=fun q=>by
      have:=hz.2 q
      rw [decide_eq_true this] at hneg
      cases hneg
     refine⟨_,rfl,(((p+1:Nat):Int),(j:Int),()),rfl,⟨p+1,j,rfl,rfl,by omega,by omega,hj1,hA.le le3,fun c u v k1 k2 k3 k4 q=>?_,hhi⟩,?_⟩
     ·by_cases e:c=p
      ·subst e; rw [hcu] at k3; rw [hcv] at k4; cases k3; cases k4; exact hl1 q
      ·obtain⟨t1,t2⟩:=q4 c (by omega) (by omega)
       exact hl1 (tr _ _ _ (hs2 (mid+m-1-p) (mid+m-1-c) cv v (by omega) (by omega) (by omega) hcv k4) (tr _ _ _ q (hs1 c p u cu (by omega) (by omega) (by omega) k3 hcu)))
     ·show((j:Int)-((p+1:Nat):Int)).toNat<((j:Int)-(i:Int)).toNat
      omega
    ·have hl1:lt cv cu:=hz.1 (by
      refine Classical.byContradiction fun q=>?_
      rw [decide_eq_false q] at hpos
      cases hpos)
     refine⟨_,rfl,((i:Int),(p:Int),()),rfl,⟨i,p,rfl,rfl,hi1,hp1,by omega,hA.le le3,hlo,fun c u v k1 k2 k3 k4=>?_⟩,?_⟩
     ·by_cases e:c=p
      ·subst e; rw [hcu] at k3; rw [hcv] at k4; cases k3; cases k4; exact hl1
      ·obtain⟨t1,t2⟩:=q4 c (by omega) (by omega)
       exact tr _ _ _ (hs2 (mid+m-1-c) (mid+m-1-p) v cv (by omega) (by omega) (by omega) k4 hcv) (tr _ _ _ hl1 (hs1 p c cu u (by omega) (by omega) (by omega) hcu k3))
     ·show((p:Int)-(i:Int)).toNat<((j:Int)-(i:Int)).toNat
      omega
   ·have h1:i=j:=by
     have:¬ (i:Int)<(j:Int):=of_decide_eq_false hge
     omega
    subst h1
    obtain⟨e,he⟩:∃ e,e=mid+m-i:=⟨_,rfl⟩
    have wE:IntKind.i64.wrap (((mid+m:Nat):Int)-(i:Int))=(e:Int):=by rw [wrap_i64 (by omega)]; omega
    rw [wE]
    have z1:i≤m:=by omega
    have z2:m≤e:=by omega
    have z3:e≤y:=by omega
    have z4:i+(e-m)=mid:=by omega
    have hL:∀ u v,x<i→e<y→Z[i-1]?=some u→Z[e]?=some v→lt u v:=fun u v k1 k2 k3 k4=>by
     have t0:lo≤i-1:=by omega
     have t1:mid+m-1-(i-1)=e:=by omega
     have t2:=hlo (i-1) u v t0 (by omega) k3 (by rw [t1]; exact k4)
     rcases lin.at (show i-1≠e by omega) k3 k4 with g | g
     ·exact g
     ·exact absurd g t2
    have hR:∀ u v,i<m→m<e→Z[e-1]?=some u→Z[i]?=some v→lt u v:=fun u v k1 k2 k3 k4=>by
     have t0:i<hi:=by omega
     have t1:mid+m-1-i=e-1:=by omega
     exact hhi i v u (Nat.le_refl _) t0 k4 (by rw [t1]; exact k3)
    refine⟨fun _ V'=>∃ Y:List PrC,AtR (sh:=prSh) U b t post Y V'∧Upd x y Z Y∧gt Y=rt i m e (gt Z),⟨fun k1=>⟨fun k2=>?_,fun k2=>?_⟩,fun k1=>?_⟩,?_⟩
    ·have k1':(i:Int)<(m:Int):=of_decide_eq_true k1
     have k2':(m:Int)<(e:Int):=of_decide_eq_true k2
     refine(cX_rotate ha hn hl hA (x:=i) (m:=m) (y:=e) (by omega) (by omega) (by omega)).mono ?_
     rintro V3 r ⟨rfl,Y,hA3,hU3,hG3⟩
     exact⟨nofun,(),rfl,_,rfl,(),rfl,Y,hA3,hU3.mono (by omega) z3,hG3⟩
    ·have k2':¬ (m:Int)<(e:Int):=of_decide_eq_false k2
     exact⟨_,rfl,(),rfl,Z,hA,.rf,(rt_id (fun q=>by omega) z1 z2).symm⟩
    ·have k1':¬ (i:Int)<(m:Int):=of_decide_eq_false k1
     exact⟨_,rfl,(),rfl,Z,hA,.rf,(rt_id (fun q=>by omega) z1 z2).symm⟩
    rintro _ V3 ⟨Y,hA3,hU3,hG3⟩
    have hyl:=hU3.len
    obtain⟨y1,y2,y3,y4,y5⟩:=halves tr hs1 hs2 (by omega) z1 z2 z3 hL hR hy hG3
    rw [z4] at y2 y3 y5
    refine⟨fun _ V'=>∃ Y2:List PrC,AtR (sh:=prSh) U b t post Y2 V'∧Upd x mid Y Y2∧Sr lt x mid Y2,⟨fun k1=>⟨fun k2=>?_,fun k2=>?_⟩,fun k1=>?_⟩,?_⟩
    ·have k1':(x:Int)<(i:Int):=of_decide_eq_true k1
     have k2':(i:Int)<(mid:Int):=of_decide_eq_true k2
     refine(cX_symMerge tr ha n V3 Y x i mid (by omega) (by omega) (by omega) hA3 (lin.upd hU3) (hC.upd hU3) (by omega) (by omega) (by omega) y1 y2).mono ?_
     rintro V4 r ⟨rfl,Y2,hA4,hU4,hS4⟩
     exact⟨nofun,(),rfl,_,rfl,(),rfl,Y2,hA4,hU4,hS4⟩
    ·have k2':¬ (i:Int)<(mid:Int):=of_decide_eq_false k2
     have:i=mid:=by omega
     exact⟨_,rfl,(),rfl,Y,hA3,.rf,by rw [← this]; exact y1⟩
    ·have k1':¬ (x:Int)<(i:Int):=of_decide_eq_false k1
     have:i=x:=by omega
     exact⟨_,rfl,(),rfl,Y,hA3,.rf,by rw [← this]; exact y2⟩
    rintro _ V4 ⟨Y2,hA4,hU4,hS4⟩
    have hyl4:=hU4.len
    have b1:Sr lt mid e Y2:=y3.congr fun k k1 k2=>hU4.hi k1
    have b2:Sr lt e y Y2:=y4.congr fun k k1 k2=>hU4.hi (by omega)
    have fin:∀ {V5:Know} {Y3:List PrC},AtR (sh:=prSh) U b t post Y3 V5→Upd mid y Y2 Y3→Sr lt mid y Y3→∃ Z',AtR (sh:=prSh) U b t post Z' V5∧Upd x y Z Z'∧Sr lt x y Z':=fun {V5 Y3} hA5 hU5 hS5=>by
     refine⟨Y3,hA5,(hU3.tr (hU4.mono (Nat.le_refl _) (by omega))).tr (hU5.mono (by omega) (Nat.le_refl _)),Sr.join (hS4.congr fun k k1 k2=>hU5.lo k2) hS5 fun u v ⟨k,k1,k2,k3⟩ hv=>?_⟩
     have m1:Mem x mid Y u:=(hU4.mem (by omega)).1 ⟨k,k1,k2,by rw [← hU5.lo k2]; exact k3⟩
     obtain⟨k',k1',k2',k3'⟩:=(hU5.mem (by omega)).1 hv
     exact y5 u v m1 ⟨k',k1',k2',by rw [← hU4.hi k1']; exact k3'⟩
    refine⟨fun k1=>⟨fun k2=>?_,fun k2=>?_⟩,fun k1=>?_⟩
    ·have k1':(mid:Int)<(e:Int):=of_decide_eq_true k1
     have k2':(e:Int)<(y:Int):=of_decide_eq_true k2
     refine(cX_symMerge tr ha n V4 Y2 mid e y (by omega) (by omega) (by omega) hA4 ((lin.upd hU3).upd hU4) ((hC.upd hU3).upd hU4) (by omega) (by omega) (by omega) b1 b2).mono ?_
     rintro V5 r ⟨rfl,Y3,hA5,hU5,hS5⟩
     exact⟨nofun,(),rfl,rfl,fin hA5 hU5 hS5⟩
    ·have k2':¬ (e:Int)<(y:Int):=of_decide_eq_false k2
     have:e=y:=by omega
     exact⟨rfl,fin hA4 .rf (by rw [← this]; exact b1)⟩
    ·have k1':¬ (mid:Int)<(e:Int):=of_decide_eq_false k1
     have:e=mid:=by omega
     exact⟨rfl,fin hA4 .rf (by rw [← this]; exact b2)⟩
end Go.Proofs.YtfiakghfncempaaGreatDoor
