/-
  Contracts of the laws' helpers, by type: sizes, copies, comparisons.
-/
import Derived.Test.YtpdfdkccgkieoaaGreatDoorTB
import Derived.Test.YtpdfdkccgkieoaaGreatDoorRead

namespace Go.Proofs.YtpdfdkccgkieoaaGreatDoor
open Sx
set_option maxRecDepth 100000
theorem Tryz.mix:Tryz.prog.follows .mixedOrders=true:=Tryz.checked.mixed
abbrev CurRow:Type:=Scs [.s,.s,.i .i64,.i .i64]
def curI:List CurRow:=[
 (⟨#[67,72,70]⟩,⟨#[55,53,54]⟩,2,5,()),
 (⟨#[69,85,82]⟩,⟨#[57,55,56]⟩,2,1,()),
 (⟨#[85,83,68]⟩,⟨#[56,52,48]⟩,2,1,()),
 (⟨#[71,66,80]⟩,⟨#[56,50,54]⟩,2,1,()),
 (⟨#[74,80,89]⟩,⟨#[51,57,50]⟩,0,1,()),
 (⟨#[83,69,75]⟩,⟨#[55,53,50]⟩,2,100,()),
 (⟨#[78,79,75]⟩,⟨#[53,55,56]⟩,2,100,()),
 (⟨#[68,75,75]⟩,⟨#[50,48,56]⟩,2,50,()),
 (⟨#[67,90,75]⟩,⟨#[50,48,51]⟩,2,100,()),
 (⟨#[72,85,70]⟩,⟨#[51,52,56]⟩,2,500,()),
 (⟨#[80,76,78]⟩,⟨#[57,56,53]⟩,2,1,()),
 (⟨#[67,65,68]⟩,⟨#[49,50,52]⟩,2,5,()),
 (⟨#[65,85,68]⟩,⟨#[48,51,54]⟩,2,5,()),
 (⟨#[78,90,68]⟩,⟨#[53,53,52]⟩,2,10,()),
 (⟨#[75,87,68]⟩,⟨#[52,49,52]⟩,3,5,()),
 (⟨#[66,72,68]⟩,⟨#[48,52,56]⟩,3,5,()),
 (⟨#[84,78,68]⟩,⟨#[55,56,56]⟩,3,10,()),
 (⟨#[73,83,75]⟩,⟨#[51,53,50]⟩,0,1,()),
 (⟨#[75,82,87]⟩,⟨#[52,49,48]⟩,0,10,()),
 (⟨#[67,76,70]⟩,⟨#[57,57,48]⟩,4,1,())]
def curS:List CurRow:=[
 (⟨#[65,85,68]⟩,⟨#[48,51,54]⟩,2,5,()),
 (⟨#[66,72,68]⟩,⟨#[48,52,56]⟩,3,5,()),
 (⟨#[67,65,68]⟩,⟨#[49,50,52]⟩,2,5,()),
 (⟨#[67,72,70]⟩,⟨#[55,53,54]⟩,2,5,()),
 (⟨#[67,76,70]⟩,⟨#[57,57,48]⟩,4,1,()),
 (⟨#[67,90,75]⟩,⟨#[50,48,51]⟩,2,100,()),
 (⟨#[68,75,75]⟩,⟨#[50,48,56]⟩,2,50,()),
 (⟨#[69,85,82]⟩,⟨#[57,55,56]⟩,2,1,()),
 (⟨#[71,66,80]⟩,⟨#[56,50,54]⟩,2,1,()),
 (⟨#[72,85,70]⟩,⟨#[51,52,56]⟩,2,500,()),
 (⟨#[73,83,75]⟩,⟨#[51,53,50]⟩,0,1,()),
 (⟨#[74,80,89]⟩,⟨#[51,57,50]⟩,0,1,()),
 (⟨#[75,82,87]⟩,⟨#[52,49,48]⟩,0,10,()),
 (⟨#[75,87,68]⟩,⟨#[52,49,52]⟩,3,5,()),
 (⟨#[78,79,75]⟩,⟨#[53,55,56]⟩,2,100,()),
 (⟨#[78,90,68]⟩,⟨#[53,53,52]⟩,2,10,()),
 (⟨#[80,76,78]⟩,⟨#[57,56,53]⟩,2,1,()),
 (⟨#[83,69,75]⟩,⟨#[55,53,50]⟩,2,100,()),
 (⟨#[84,78,68]⟩,⟨#[55,56,56]⟩,3,10,()),
 (⟨#[85,83,68]⟩,⟨#[56,52,48]⟩,2,1,())]
def rowC (r:CurRow):List Value:=Scs.vals [.s,.s,.i .i64,.i .i64] r
def curCells (l:List CurRow):List Value:=l.flatMap rowC
theorem rowC_len (r:CurRow):(rowC r).length=4:=rfl
theorem cur_at {l:List CurRow} {n:Nat} (h:n<l.length) (r:List Value):cutv (curCells l++r) (n*4) 4=some (rowC l[n]):=cutv_flat rowC_len h r
theorem cur_at' {l:List CurRow} {n:Nat} (h:n<l.length):cutv (curCells l) (n*4) 4=some (rowC l[n]):=by
 have:=cur_at h []
 rwa [List.append_nil] at this
def curHas (x:ByteArray) (r:CurRow):Bool:=r.1.toList == x.toList
def curFrom (l:List CurRow) (x:ByteArray) (n:Nat):Option CurRow:=(l.drop n).find? (curHas x)
theorem curFrom_step {l:List CurRow} {x:ByteArray} {n:Nat} (h:n<l.length):curFrom l x n=if curHas x l[n] then some l[n] else curFrom l x (n+1):=by
 unfold curFrom
 rw [List.drop_eq_getElem_cons h,List.find?_cons]
 cases curHas x l[n] <;> rfl
theorem curFrom_end {l:List CurRow} {x:ByteArray}:curFrom l x l.length=none:=by
 unfold curFrom; rw [List.drop_length]; rfl
def curRow0:CurRow:=(⟨#[]⟩,⟨#[]⟩,0,0,())
def curRowOf (x:ByteArray):CurRow:=(curFrom curI x 0).getD curRow0
def known (x:ByteArray):Bool:=(curFrom curI x 0).isSome
theorem cur_both (x:ByteArray):curFrom curS x 0=curFrom curI x 0:=by
 have key:∀ c∈curI.map (fun r=>r.1.toList),(curS.find? fun r=>r.1.toList == c)=(curI.find? fun r=>r.1.toList == c):=by decide +kernel
 by_cases h:x.toList∈curI.map (fun r=>r.1.toList)
 ·exact key _ h
 ·have hS:∀ r∈curS,r.1.toList∈curI.map (fun r=>r.1.toList):=by decide +kernel
  have h1:curFrom curS x 0=none:=by
   refine List.find?_eq_none.2 fun r hr hx=>h ?_
   have:=hS r hr
   rw [show x.toList=r.1.toList from(beq_iff_eq.1 hx).symm]; exact this
  have h2:curFrom curI x 0=none:=by
   refine List.find?_eq_none.2 fun r hr hx=>h ?_
   rw [show x.toList=r.1.toList from(beq_iff_eq.1 hx).symm]
   exact List.mem_map_of_mem hr
  rw [h1,h2]
theorem known_iff (x:ByteArray):known x=!((curRowOf x).1.toList == (⟨#[]⟩:ByteArray).toList):=by
 unfold known curRowOf
 cases h:curFrom curI x 0 with
 | none=>simp [curRow0]
 | some r =>
  have hm:r∈curI:=List.mem_of_find?_eq_some h
  have:∀ r∈curI,(!(r.1.toList == (⟨#[]⟩:ByteArray).toList))=true:=by decide +kernel
  exact(this r hm).symm
theorem cS_l08Table (V:Know):CallX Tryz.prog V 163 [] (fun V' r=>∃ b c spare t,V b=none∧V'=kset V b (curCells curS++spare,t)∧r=.slice (some ⟨b,0,none⟩) 20 c):=by
 refine CallX.of_fits Tryz.mix fS_l08Table fun _=>?_
 simp only [tS_l08Table,T.wp]
 intro b c spare hb hc _
 exact⟨b,c,spare,_,hb,rfl,rfl⟩
theorem cS_l08Find (V:Know) (x:ByteArray):CallX Tryz.prog V 112 [.string x] (fun V' r=>V.le V'∧r=qv12 (curRowOf x)):=by
 refine CallX.of_fits Tryz.mix (fS_l08Find x) fun _=>?_
 simp only [tS_l08Find,T.wp]
 refine(cS_l08Table V).mono ?_
 rintro V1 r ⟨b,c,spare,t,hb,rfl,rfl⟩
 refine⟨nofun,⟨some ⟨b,0,none⟩,20,c⟩,rfl,?_⟩
 refine⟨fun y V'=>V'=kset V b (curCells curS++spare,t)∧∃ n:Nat,y.1=(n:Int)∧n≤20∧curFrom curS x n=curFrom curS x 0,fun y=>(20-(y.1:Int)).toNat,
  ⟨((0:Int),⟨#[]⟩,⟨#[]⟩,(0:Int),(0:Int),()),rfl,rfl,0,rfl,by omega,rfl⟩,?_⟩
 rintro⟨(i:Int),s1,s2,(i1:Int),(i2:Int),u⟩ V' ⟨rfl,n,hi,hn,hf⟩
 replace hi:i=(n:Int):=hi
 subst hi
 have hlen:curS.length=20:=rfl
 refine⟨fun h=>?_,fun h=>?_⟩
 ·have hb1:n<curS.length:=by (have:(n:Int)<20:=(by simpa using h); omega)
  refine⟨_,rfl,by omega,(by omega:(n:Int)<20),curS[n],?_,fun h=>?_,fun h=>?_⟩
  ·simp only [addr_add_eq,loadV,kset_same,Bool.false_eq_true,if_false,Nat.zero_add,Int.toNat_natCast]
   exact cur_at hb1 spare
  ·have h2:curFrom curS x 0=some curS[n]:=by
    rw [← hf,curFrom_step hb1,if_pos (show curHas x _=true from h)]
   refine⟨kset_le hb,?_⟩
   rw [curRowOf,← cur_both,h2]; rfl
  ·have h2:curFrom curS x (n+1)=curFrom curS x 0:=by
    rw [← hf,curFrom_step hb1,if_neg (by rw [curHas,h]; decide)]
   have hw:IntKind.i64.wrap ((n:Int)+1)=((n+1:Nat):Int):=by rw [wrap_i64 (by omega)]; omega
   refine⟨_,rfl,(((n+1:Nat):Int),s1,s2,i1,i2,()),by rw [hw]; rfl,⟨rfl,n+1,rfl,by omega,h2⟩,?_⟩
   show(20-((n+1:Nat):Int)).toNat<(20-(n:Int)).toNat
   omega
 ·have hn20:n=20:=by (have:¬ (n:Int)<20:=(by simpa using h); omega)
  subst hn20
  refine⟨kset_le hb,?_⟩
  have h2:curFrom curS x 0=none:=by rw [← hf]; exact curFrom_end
  rw [curRowOf,← cur_both,h2]; rfl
theorem cS_CurKnown (V:Know) (x:ByteArray):CallX Tryz.prog V 65 [.string x] (fun V' r=>V.le V'∧r=.bool (known x)):=by
 refine CallX.of_fits Tryz.mix (fS_CurKnown x) fun _=>?_
 simp only [tS_CurKnown,T.wp]
 refine(cS_l08Find V x).mono ?_
 rintro V1 r ⟨hle,rfl⟩
 exact⟨nofun,_,rfl,hle,by rw [known_iff]; rfl⟩
def curY:Scs (List.replicate 20 [Sc.s,.s,.i .i64,.i .i64]).flatten:=(⟨#[67,72,70]⟩,⟨#[55,53,54]⟩,2,5,⟨#[69,85,82]⟩,⟨#[57,55,56]⟩,2,1,⟨#[85,83,68]⟩,⟨#[56,52,48]⟩,2,1,⟨#[71,66,80]⟩,⟨#[56,50,54]⟩,2,1,⟨#[74,80,89]⟩,⟨#[51,57,50]⟩,0,1,⟨#[83,69,75]⟩,⟨#[55,53,50]⟩,2,100,⟨#[78,79,75]⟩,⟨#[53,55,56]⟩,2,100,⟨#[68,75,75]⟩,⟨#[50,48,56]⟩,2,50,⟨#[67,90,75]⟩,⟨#[50,48,51]⟩,2,100,⟨#[72,85,70]⟩,⟨#[51,52,56]⟩,2,500,⟨#[80,76,78]⟩,⟨#[57,56,53]⟩,2,1,⟨#[67,65,68]⟩,⟨#[49,50,52]⟩,2,5,⟨#[65,85,68]⟩,⟨#[48,51,54]⟩,2,5,⟨#[78,90,68]⟩,⟨#[53,53,52]⟩,2,10,⟨#[75,87,68]⟩,⟨#[52,49,52]⟩,3,5,⟨#[66,72,68]⟩,⟨#[48,52,56]⟩,3,5,⟨#[84,78,68]⟩,⟨#[55,56,56]⟩,3,10,⟨#[73,83,75]⟩,⟨#[51,53,50]⟩,0,1,⟨#[75,82,87]⟩,⟨#[52,49,48]⟩,0,10,⟨#[67,76,70]⟩,⟨#[57,57,48]⟩,4,1,())
def hasCur (V:Know):Prop:=∃ t,V 0=some (curCells curI,t)
theorem hasCur.le {V V':Know} (h:hasCur V) (hle:V.le V'):hasCur V':=let ⟨t,ht⟩:=h; ⟨t,hle _ _ ht⟩
theorem cI_currencyOf {V:Know} (hV:hasCur V) (x:ByteArray):CallX Tryz.prog V 37 [.string x] (fun V' r=>V'=V∧r=.tuple #[qv12 (curRowOf x),.bool (known x)]):=by
 obtain⟨t,hV⟩:=hV
 refine CallX.of_fits Tryz.mix (fI_currencyOf x) fun _=>?_
 simp only [tI_currencyOf,T.wp]
 refine⟨curY,by simp only [loadV,hV,Bool.false_eq_true,if_false]; exact by kernel_rfl,?_⟩
 refine⟨fun y V'=>V'=V∧∃ n:Nat,y.1=(n:Int)∧n≤20∧curFrom curI x n=curFrom curI x 0,fun y=>(20-(y.1:Int)).toNat,
  ⟨((0:Int),⟨#[]⟩,⟨#[]⟩,(0:Int),(0:Int),()),rfl,rfl,0,rfl,by omega,rfl⟩,?_⟩
 rintro⟨(i:Int),s1,s2,(i1:Int),(i2:Int),u⟩ V' ⟨rfl,n,hi,hn,hf⟩
 replace hi:i=(n:Int):=hi
 subst hi
 have hlen:curI.length=20:=rfl
 refine⟨fun h=>?_,fun h=>?_⟩
 ·have hb1:n<curI.length:=by (have:(n:Int)<20:=(by simpa using h); omega)
  refine⟨⟨by omega,(by omega:(n:Int)<20)⟩,curI[n],?_,fun h=>?_,fun h=>?_⟩
  ·simp only [Int.toNat_natCast]
   exact cur_at' hb1
  ·have h2:curFrom curI x 0=some curI[n]:=by
    rw [← hf,curFrom_step hb1,if_pos (show curHas x _=true from h)]
   refine⟨rfl,?_⟩
   rw [curRowOf,known,h2]; rfl
  ·have h2:curFrom curI x (n+1)=curFrom curI x 0:=by
    rw [← hf,curFrom_step hb1,if_neg (by rw [curHas,h]; decide)]
   have hw:IntKind.i64.wrap ((n:Int)+1)=((n+1:Nat):Int):=by rw [wrap_i64 (by omega)]; omega
   refine⟨_,rfl,(((n+1:Nat):Int),s1,s2,i1,i2,()),by rw [hw]; rfl,⟨rfl,n+1,rfl,by omega,h2⟩,?_⟩
   show(20-((n+1:Nat):Int)).toNat<(20-(n:Int)).toNat
   omega
 ·have hn20:n=20:=by (have:¬ (n:Int)<20:=(by simpa using h); omega)
  subst hn20
  refine⟨rfl,?_⟩
  have h2:curFrom curI x 0=none:=by rw [← hf]; exact curFrom_end
  rw [curRowOf,known,h2]; rfl
theorem cI_CurKnown {V:Know} (hV:hasCur V) (x:ByteArray):CallX Tryz.prog V 14 [.string x] (fun V' r=>V'=V∧r=.bool (known x)):=by
 refine CallX.of_fits Tryz.mix (fI_CurKnown x) fun _=>?_
 simp only [tI_CurKnown,T.wp]
 refine(cI_currencyOf hV x).mono ?_
 rintro V1 r ⟨rfl,rfl⟩
 exact⟨nofun,(curRowOf x,known x,()),rfl,rfl,rfl⟩
end Go.Proofs.YtpdfdkccgkieoaaGreatDoor
namespace Go.Proofs.YtpdfdkccgkieoaaGreatDoor
open Sx
abbrev rString:Rp [.s] (ByteArray × Unit):=rStr rNil
theorem LR.txt {V:Know} {s:SlV} {l:List (ByteArray × Unit)} {f:List Nat} (h:LR rString V s l f) {i:Nat} (hi:i<l.length) :
  (∃ b o,s.a=some ⟨b,o,none⟩∧loadV V ((⟨b,o,none⟩:Addr).add (i*1)) 1=some [.string l[i].1])∧l[i].1.size≤9223372036854775807:=by
 obtain⟨b1,o1,c1,f1,a1,l1,r1,_⟩:=h.at hi
 have e:c1.1=l[i].1:=r1.1.1
 refine⟨?_,r1.1.2⟩
 rw [← e]
 exact⟨b1,o1,a1,l1⟩
end Go.Proofs.YtpdfdkccgkieoaaGreatDoor
namespace Go.Proofs.YtpdfdkccgkieoaaGreatDoor
open Sx
set_option maxRecDepth 100000
theorem rNil.mk {V:Know}:rNil.R V () () []:=rfl
theorem rInt.mk {sh:List Sc} {α:Type} {r:Rp sh α} {V:Know} {c:Scs sh} {x:α} {fp:List Nat} {n:Int} (h:r.R V c x fp):(rInt r).R V (n,c) (n,x) fp:=⟨rfl,h⟩
theorem rBool.mk {sh:List Sc} {α:Type} {r:Rp sh α} {V:Know} {c:Scs sh} {x:α} {fp:List Nat} {n:Bool} (h:r.R V c x fp):(rBool r).R V (n,c) (n,x) fp:=⟨rfl,h⟩
theorem rStr.mk {sh:List Sc} {α:Type} {r:Rp sh α} {V:Know} {c:Scs sh} {x:α} {fp:List Nat} {n:ByteArray} (z:n.size≤9223372036854775807) (h:r.R V c x fp):(rStr r).R V (n,c) (n,x) fp:=⟨⟨rfl,z⟩,h⟩
theorem rSl.mk {se sh:List Sc} {α β:Type} {e:Rp se α} {r:Rp sh β} {V:Know} {s:SlV} {l:List α} {c:Scs sh} {x:β} {f g:List Nat} (hs:LR e V s l f) (h:r.R V c x g):(rSl e r).R V (s,c) (l,x) (f++g):=⟨f,g,rfl,hs,h⟩
abbrev DSigned:Type:=Bool × List (Int × Unit) × Unit
abbrev rSigned:Rp [.b,.l] DSigned:=rBool (rSl rI (rNil))
abbrev DMoney:Type:=ByteArray × Bool × List (Int × Unit) × Unit
abbrev rMoney:Rp [.s,.b,.l] DMoney:=rStr (rBool (rSl rI (rNil)))
abbrev DAcct:Type:=ByteArray × ByteArray × Bool × List (Int × Unit) × Unit
abbrev rAcct:Rp [.s,.s,.b,.l] DAcct:=rStr (rStr (rBool (rSl rI (rNil))))
abbrev DBook:Type:=List DAcct × Unit
abbrev rBook:Rp [.l] DBook:=rSl rAcct (rNil)
abbrev DRat:Type:=Bool × List (Int × Unit) × List (Int × Unit) × Unit
abbrev rRat:Rp [.b,.l,.l] DRat:=rBool (rSl rI (rSl rI (rNil)))
abbrev DRest:Type:=ByteArray × Bool × List (Int × Unit) × List (Int × Unit) × Unit
abbrev rRest:Rp [.s,.b,.l,.l] DRest:=rStr (rBool (rSl rI (rSl rI (rNil))))
abbrev DDec:Type:=Bool × List (Int × Unit) × Int × Unit
abbrev rDec:Rp [.b,.l,.i .i64] DDec:=rBool (rSl rI (rInt (rNil)))
abbrev DRate:Type:=ByteArray × ByteArray × Bool × List (Int × Unit) × Int × Unit
abbrev rRate:Rp [.s,.s,.b,.l,.i .i64] DRate:=rStr (rStr (rBool (rSl rI (rInt (rNil)))))
abbrev DRates:Type:=ByteArray × List DRate × Unit
abbrev rRates:Rp [.s,.l] DRates:=rStr (rSl rRate (rNil))
abbrev DLedger:Type:=List DAcct × List DRest × ByteArray × List DRate × Unit
abbrev rLedger:Rp [.l,.l,.s,.l] DLedger:=rSl rAcct (rSl rRest (rStr (rSl rRate (rNil))))
theorem totE_rI:∀ l:List (Int × Unit),totE rI l=0
 | []=>rfl
 | _ :: l=>by rw [totE,totE_rI l]; rfl
end Go.Proofs.YtpdfdkccgkieoaaGreatDoor
