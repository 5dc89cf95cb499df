/-
  Mathematics of products and long division: limbs replaced in place, parts of a list of limbs, the estimate of a digit.
-/
import Derived.Test.YtpkmhkbkohppiaaGreatDoorTB
import Derived.Test.YtpkmhkbkohppiaaGreatDoorMath

namespace Go.Proofs.YtpkmhkbkohppiaaGreatDoor
open Sx
set_option maxRecDepth 100000
theorem Tryz.mix:Tryz.prog.follows .mixedOrders=true:=Tryz.checked.mixed
abbrev CurRow:Type:=Scs [.s,.s,.i .i64,.i .i64]
def curI:List CurRow:=[
 (⟨#[67,72,70]⟩,⟨#[55,53,54]⟩,2,5,()),
 (⟨#[69,85,82]⟩,⟨#[57,55,56]⟩,2,1,()),
 (⟨#[85,83,68]⟩,⟨#[56,52,48]⟩,2,1,()),
 (⟨#[71,66,80]⟩,⟨#[56,50,54]⟩,2,1,()),
 (⟨#[74,80,89]⟩,⟨#[51,57,50]⟩,0,1,()),
 (⟨#[83,69,75]⟩,⟨#[55,53,50]⟩,2,100,()),
 (⟨#[78,79,75]⟩,⟨#[53,55,56]⟩,2,100,()),
 (⟨#[68,75,75]⟩,⟨#[50,48,56]⟩,2,50,()),
 (⟨#[67,90,75]⟩,⟨#[50,48,51]⟩,2,100,()),
 (⟨#[72,85,70]⟩,⟨#[51,52,56]⟩,2,500,()),
 (⟨#[80,76,78]⟩,⟨#[57,56,53]⟩,2,1,()),
 (⟨#[67,65,68]⟩,⟨#[49,50,52]⟩,2,5,()),
 (⟨#[65,85,68]⟩,⟨#[48,51,54]⟩,2,5,()),
 (⟨#[78,90,68]⟩,⟨#[53,53,52]⟩,2,10,()),
 (⟨#[75,87,68]⟩,⟨#[52,49,52]⟩,3,5,()),
 (⟨#[66,72,68]⟩,⟨#[48,52,56]⟩,3,5,()),
 (⟨#[84,78,68]⟩,⟨#[55,56,56]⟩,3,10,()),
 (⟨#[73,83,75]⟩,⟨#[51,53,50]⟩,0,1,()),
 (⟨#[75,82,87]⟩,⟨#[52,49,48]⟩,0,10,()),
 (⟨#[67,76,70]⟩,⟨#[57,57,48]⟩,4,1,())]
def curS:List CurRow:=[
 (⟨#[65,85,68]⟩,⟨#[48,51,54]⟩,2,5,()),
 (⟨#[66,72,68]⟩,⟨#[48,52,56]⟩,3,5,()),
 (⟨#[67,65,68]⟩,⟨#[49,50,52]⟩,2,5,()),
 (⟨#[67,72,70]⟩,⟨#[55,53,54]⟩,2,5,()),
 (⟨#[67,76,70]⟩,⟨#[57,57,48]⟩,4,1,()),
 (⟨#[67,90,75]⟩,⟨#[50,48,51]⟩,2,100,()),
 (⟨#[68,75,75]⟩,⟨#[50,48,56]⟩,2,50,()),
 (⟨#[69,85,82]⟩,⟨#[57,55,56]⟩,2,1,()),
 (⟨#[71,66,80]⟩,⟨#[56,50,54]⟩,2,1,()),
 (⟨#[72,85,70]⟩,⟨#[51,52,56]⟩,2,500,()),
 (⟨#[73,83,75]⟩,⟨#[51,53,50]⟩,0,1,()),
 (⟨#[74,80,89]⟩,⟨#[51,57,50]⟩,0,1,()),
 (⟨#[75,82,87]⟩,⟨#[52,49,48]⟩,0,10,()),
 (⟨#[75,87,68]⟩,⟨#[52,49,52]⟩,3,5,()),
 (⟨#[78,79,75]⟩,⟨#[53,55,56]⟩,2,100,()),
 (⟨#[78,90,68]⟩,⟨#[53,53,52]⟩,2,10,()),
 (⟨#[80,76,78]⟩,⟨#[57,56,53]⟩,2,1,()),
 (⟨#[83,69,75]⟩,⟨#[55,53,50]⟩,2,100,()),
 (⟨#[84,78,68]⟩,⟨#[55,56,56]⟩,3,10,()),
 (⟨#[85,83,68]⟩,⟨#[56,52,48]⟩,2,1,())]
def rowC (r:CurRow):List Value:=Scs.vals [.s,.s,.i .i64,.i .i64] r
def curCells (l:List CurRow):List Value:=l.flatMap rowC
theorem rowC_len (r:CurRow):(rowC r).length=4:=rfl
theorem cur_at {l:List CurRow} {n:Nat} (h:n<l.length) (r:List Value):cutv (curCells l++r) (n*4) 4=some (rowC l[n]):=cutv_flat rowC_len h r
theorem cur_at' {l:List CurRow} {n:Nat} (h:n<l.length):cutv (curCells l) (n*4) 4=some (rowC l[n]):=by
 have:=cur_at h []
 rwa [List.append_nil] at this
def curHas (x:ByteArray) (r:CurRow):Bool:=r.1.toList == x.toList
def curFrom (l:List CurRow) (x:ByteArray) (n:Nat):Option CurRow:=(l.drop n).find? (curHas x)
theorem curFrom_step {l:List CurRow} {x:ByteArray} {n:Nat} (h:n<l.length):curFrom l x n=if curHas x l[n] then some l[n] else curFrom l x (n+1):=by
 unfold curFrom
 rw [List.drop_eq_getElem_cons h,List.find?_cons]
 cases curHas x l[n] <;> rfl
theorem curFrom_end {l:List CurRow} {x:ByteArray}:curFrom l x l.length=none:=by
 unfold curFrom; rw [List.drop_length]; rfl
def curRow0:CurRow:=(⟨#[]⟩,⟨#[]⟩,0,0,())
def curRowOf (x:ByteArray):CurRow:=(curFrom curI x 0).getD curRow0
def known (x:ByteArray):Bool:=(curFrom curI x 0).isSome
theorem cur_both (x:ByteArray):curFrom curS x 0=curFrom curI x 0:=by
 have key:∀ c∈curI.map (fun r=>r.1.toList),(curS.find? fun r=>r.1.toList == c)=(curI.find? fun r=>r.1.toList == c):=by decide +kernel
 by_cases h:x.toList∈curI.map (fun r=>r.1.toList)
 ·exact key _ h
 ·have hS:∀ r∈curS,r.1.toList∈curI.map (fun r=>r.1.toList):=by decide +kernel
  have h1:curFrom curS x 0=none:=by
   refine List.find?_eq_none.2 fun r hr hx=>h ?_
   have:=hS r hr
   rw [show x.toList=r.1.toList from(beq_iff_eq.1 hx).symm]; exact this
  have h2:curFrom curI x 0=none:=by
   refine List.find?_eq_none.2 fun r hr hx=>h ?_
   rw [show x.toList=r.1.toList from(beq_iff_eq.1 hx).symm]
   exact List.mem_map_of_mem hr
  rw [h1,h2]
theorem known_iff (x:ByteArray):known x=!((curRowOf x).1.toList == (⟨#[]⟩:ByteArray).toList):=by
 unfold known curRowOf
 cases h:curFrom curI x 0 with
 | none=>simp [curRow0]
 | some r =>
  have hm:r∈curI:=List.mem_of_find?_eq_some h
  have:∀ r∈curI,(!(r.1.toList == (⟨#[]⟩:ByteArray).toList))=true:=by decide +kernel
  exact(this r hm).symm
theorem cS_l08Table (V:Know):CallX Tryz.prog V 149 [] (fun V' r=>∃ b c spare t,V b=none∧V'=kset V b (curCells curS++spare,t)∧r=.slice (some ⟨b,0,none⟩) 20 c):=by
 refine CallX.of_fits Tryz.mix fS_l08Table fun _=>?_
 simp only [tS_l08Table,T.wp]
 intro b c spare hb hc _
 exact⟨b,c,spare,_,hb,rfl,rfl⟩
theorem cS_l08Find (V:Know) (x:ByteArray):CallX Tryz.prog V 116 [.string x] (fun V' r=>V.le V'∧r=qv5 (curRowOf x)):=by
 refine CallX.of_fits Tryz.mix (fS_l08Find x) fun _=>?_
 simp only [tS_l08Find,T.wp]
 refine(cS_l08Table V).mono ?_
 rintro V1 r ⟨b,c,spare,t,hb,rfl,rfl⟩
 refine⟨nofun,⟨some ⟨b,0,none⟩,20,c⟩,rfl,?_⟩
 refine⟨fun y V'=>V'=kset V b (curCells curS++spare,t)∧∃ n:Nat,y.1=(n:Int)∧n≤20∧curFrom curS x n=curFrom curS x 0,fun y=>(20-(y.1:Int)).toNat,
  ⟨((0:Int),⟨#[]⟩,⟨#[]⟩,(0:Int),(0:Int),()),rfl,rfl,0,rfl,by omega,rfl⟩,?_⟩
 rintro⟨(i:Int),s1,s2,(i1:Int),(i2:Int),u⟩ V' ⟨rfl,n,hi,hn,hf⟩
 replace hi:i=(n:Int):=hi
 subst hi
 have hlen:curS.length=20:=rfl
 refine⟨fun h=>?_,fun h=>?_⟩
 ·have hb1:n<curS.length:=by (have:(n:Int)<20:=(by simpa using h); omega)
  refine⟨_,rfl,by omega,(by omega:(n:Int)<20),curS[n],?_,fun h=>?_,fun h=>?_⟩
  ·simp only [addr_add_eq,loadV,kset_same,Bool.false_eq_true,if_false,Nat.zero_add,Int.toNat_natCast]
   exact cur_at hb1 spare
  ·have h2:curFrom curS x 0=some curS[n]:=by
    rw [← hf,curFrom_step hb1,if_pos (show curHas x _=true from h)]
   refine⟨kset_le hb,?_⟩
   rw [curRowOf,← cur_both,h2]; rfl
  ·have h2:curFrom curS x (n+1)=curFrom curS x 0:=by
    rw [← hf,curFrom_step hb1,if_neg (by rw [curHas,h]; decide)]
   have hw:IntKind.i64.wrap ((n:Int)+1)=((n+1:Nat):Int):=by rw [wrap_i64 (by omega)]; omega
   refine⟨_,rfl,(((n+1:Nat):Int),s1,s2,i1,i2,()),by rw [hw]; rfl,⟨rfl,n+1,rfl,by omega,h2⟩,?_⟩
   show(20-((n+1:Nat):Int)).toNat<(20-(n:Int)).toNat
   omega
 ·have hn20:n=20:=by (have:¬ (n:Int)<20:=(by simpa using h); omega)
  subst hn20
  refine⟨kset_le hb,?_⟩
  have h2:curFrom curS x 0=none:=by rw [← hf]; exact curFrom_end
  rw [curRowOf,← cur_both,h2]; rfl
theorem cS_CurKnown (V:Know) (x:ByteArray):CallX Tryz.prog V 80 [.string x] (fun V' r=>V.le V'∧r=.bool (known x)):=by
 refine CallX.of_fits Tryz.mix (fS_CurKnown x) fun _=>?_
 simp only [tS_CurKnown,T.wp]
 refine(cS_l08Find V x).mono ?_
 rintro V1 r ⟨hle,rfl⟩
 exact⟨nofun,_,rfl,hle,by rw [known_iff]; rfl⟩
def curY:Scs (List.replicate 20 [Sc.s,.s,.i .i64,.i .i64]).flatten:=(⟨#[67,72,70]⟩,⟨#[55,53,54]⟩,2,5,⟨#[69,85,82]⟩,⟨#[57,55,56]⟩,2,1,⟨#[85,83,68]⟩,⟨#[56,52,48]⟩,2,1,⟨#[71,66,80]⟩,⟨#[56,50,54]⟩,2,1,⟨#[74,80,89]⟩,⟨#[51,57,50]⟩,0,1,⟨#[83,69,75]⟩,⟨#[55,53,50]⟩,2,100,⟨#[78,79,75]⟩,⟨#[53,55,56]⟩,2,100,⟨#[68,75,75]⟩,⟨#[50,48,56]⟩,2,50,⟨#[67,90,75]⟩,⟨#[50,48,51]⟩,2,100,⟨#[72,85,70]⟩,⟨#[51,52,56]⟩,2,500,⟨#[80,76,78]⟩,⟨#[57,56,53]⟩,2,1,⟨#[67,65,68]⟩,⟨#[49,50,52]⟩,2,5,⟨#[65,85,68]⟩,⟨#[48,51,54]⟩,2,5,⟨#[78,90,68]⟩,⟨#[53,53,52]⟩,2,10,⟨#[75,87,68]⟩,⟨#[52,49,52]⟩,3,5,⟨#[66,72,68]⟩,⟨#[48,52,56]⟩,3,5,⟨#[84,78,68]⟩,⟨#[55,56,56]⟩,3,10,⟨#[73,83,75]⟩,⟨#[51,53,50]⟩,0,1,⟨#[75,82,87]⟩,⟨#[52,49,48]⟩,0,10,⟨#[67,76,70]⟩,⟨#[57,57,48]⟩,4,1,())
def hasCur (V:Know):Prop:=∃ t,V 1=some (curCells curI,t)
theorem hasCur.le {V V':Know} (h:hasCur V) (hle:V.le V'):hasCur V':=let ⟨t,ht⟩:=h; ⟨t,hle _ _ ht⟩
theorem cI_currencyOf {V:Know} (hV:hasCur V) (x:ByteArray):CallX Tryz.prog V 184 [.string x] (fun V' r=>V'=V∧r=.tuple #[qv5 (curRowOf x),.bool (known x)]):=by
 obtain⟨t,hV⟩:=hV
 refine CallX.of_fits Tryz.mix (fI_currencyOf x) fun _=>?_
 simp only [tI_currencyOf,T.wp]
 refine⟨curY,by simp only [loadV,hV,Bool.false_eq_true,if_false]; exact by kernel_rfl,?_⟩
 refine⟨fun y V'=>V'=V∧∃ n:Nat,y.1=(n:Int)∧n≤20∧curFrom curI x n=curFrom curI x 0,fun y=>(20-(y.1:Int)).toNat,
  ⟨((0:Int),⟨#[]⟩,⟨#[]⟩,(0:Int),(0:Int),()),rfl,rfl,0,rfl,by omega,rfl⟩,?_⟩
 rintro⟨(i:Int),s1,s2,(i1:Int),(i2:Int),u⟩ V' ⟨rfl,n,hi,hn,hf⟩
 replace hi:i=(n:Int):=hi
 subst hi
 have hlen:curI.length=20:=rfl
 refine⟨fun h=>?_,fun h=>?_⟩
 ·have hb1:n<curI.length:=by (have:(n:Int)<20:=(by simpa using h); omega)
  refine⟨⟨by omega,(by omega:(n:Int)<20)⟩,curI[n],?_,fun h=>?_,fun h=>?_⟩
  ·simp only [Int.toNat_natCast]
   exact cur_at' hb1
  ·have h2:curFrom curI x 0=some curI[n]:=by
    rw [← hf,curFrom_step hb1,if_pos (show curHas x _=true from h)]
   refine⟨rfl,?_⟩
   rw [curRowOf,known,h2]; rfl
  ·have h2:curFrom curI x (n+1)=curFrom curI x 0:=by
    rw [← hf,curFrom_step hb1,if_neg (by rw [curHas,h]; decide)]
   have hw:IntKind.i64.wrap ((n:Int)+1)=((n+1:Nat):Int):=by rw [wrap_i64 (by omega)]; omega
   refine⟨_,rfl,(((n+1:Nat):Int),s1,s2,i1,i2,()),by rw [hw]; rfl,⟨rfl,n+1,rfl,by omega,h2⟩,?_⟩
   show(20-((n+1:Nat):Int)).toNat<(20-(n:Int)).toNat
   omega
 ·have hn20:n=20:=by (have:¬ (n:Int)<20:=(by simpa using h); omega)
  subst hn20
  refine⟨rfl,?_⟩
  have h2:curFrom curI x 0=none:=by rw [← hf]; exact curFrom_end
  rw [curRowOf,known,h2]; rfl
theorem cI_CurKnown {V:Know} (hV:hasCur V) (x:ByteArray):CallX Tryz.prog V 147 [.string x] (fun V' r=>V'=V∧r=.bool (known x)):=by
 refine CallX.of_fits Tryz.mix (fI_CurKnown x) fun _=>?_
 simp only [tI_CurKnown,T.wp]
 refine(cI_currencyOf hV x).mono ?_
 rintro V1 r ⟨rfl,rfl⟩
 exact⟨nofun,(curRowOf x,known x,()),rfl,rfl,rfl⟩
end Go.Proofs.YtpkmhkbkohppiaaGreatDoor
namespace Go.Proofs.YtpkmhkbkohppiaaGreatDoor
open Sx
set_option maxRecDepth 100000
theorem els_int {V:Know}:∀ o:List Lim,Els rI V o o []
 | []=>rfl
 | _ :: o=>⟨[],[],rfl,⟨rfl,rfl⟩,els_int o⟩
theorem els_int_eq {V:Know}:∀ {cs l:List Lim} {f:List Nat},Els rI V cs l f→cs=l∧f=[]
 | [],[],_,h=>⟨rfl,h⟩
 | (c,()) :: cs,(x,()) :: l,_,⟨f,g,rfl,h1,h2⟩=>by
  obtain⟨rfl,rfl⟩:=els_int_eq h2
  have e1:c=x:=h1.1
  have e2:f=[]:=h1.2
  subst e1; subst e2
  exact⟨rfl,rfl⟩
def cellI (x:Lim):Value:=.int .i64 x.1
theorem flat_int:∀ o:List Lim,o.flatMap (Scs.vals [.i .i64])=o.map cellI
 | []=>rfl
 | x :: o=>by rw [List.flatMap_cons,flat_int o]; rfl
theorem one_int:∀ o:List Lim,one (o.map cellI)=true
 | []=>rfl
 | x :: o=>by
  have:=one_int o
  unfold one at this ⊢
  rw [List.map_cons,List.all_cons,this]; rfl
theorem LR.shrink {V:Know} {s:SlV} {l:List Lim} {f:List Nat} (h:LR rI V s l f) {k:Nat} (hk:k≤l.length):LR rI V ⟨s.a,k,s.c⟩ (l.take k) f:=by
 obtain⟨h1,h2,h3,h4⟩:=h
 refine⟨by simp; omega,(by omega:k≤s.c),(by omega:k≤9223372036854775807),?_⟩
 rcases h4 with ⟨h0,hc,hf⟩ | ⟨b,pre,post,t,fps,cs,k1,k2,k3,rfl⟩
 ·exact .inl ⟨(by omega:k=0),hc,hf⟩
 ·obtain⟨rfl,rfl⟩:=els_int_eq k3
  refine .inr ⟨b,pre,(cs.drop k).flatMap (Scs.vals [.i .i64])++post,t,[],cs.take k,k1,?_,els_int _,rfl⟩
  have e:(cs.take k).flatMap (Scs.vals [.i .i64])++((cs.drop k).flatMap (Scs.vals [.i .i64])++post)=cs.flatMap (Scs.vals [.i .i64])++post:=by
   rw [← List.append_assoc,← List.flatMap_append,List.take_append_drop]
  rw [k2,e]
theorem LR.rdI {V:Know} {s:SlV} {l:List Lim} {f:List Nat} (h:LR rI V s l f) :
  ((s.n=0∧(s.a=none→s.c=0)∧l.map cellI=[])∨∃ ad,s.a=some ad∧loadV V ad (s.n*1)=some (l.map cellI))∧one (l.map cellI)=true:=by
 obtain⟨h1,h2,h3,h4⟩:=h
 refine⟨?_,one_int l⟩
 rcases h4 with ⟨h0,hc,hf⟩ | ⟨b,pre,post,t,fps,cs,k1,k2,k3,rfl⟩
 ·have:l=[]:=List.eq_nil_of_length_eq_zero (by omega)
  subst this
  exact .inl ⟨h0,hc,rfl⟩
 ·obtain⟨rfl,rfl⟩:=els_int_eq k3
  refine .inr ⟨_,k1,?_⟩
  simp only [loadV,k2]
  have:=cutv_skip (x:=pre) (y:=cs.flatMap (Scs.vals [.i .i64])++post) (o:=0) (n:=s.n*1)
  rw [Nat.add_zero] at this
  rw [this,flat_int,h1,Nat.mul_one]
  have:=cutv_head (x:=cs.map cellI) (y:=post)
  rwa [List.length_map] at this
theorem newI {V:Know} {b cap:Nat} {o:List Lim} {spare:List Value} {t:TypeId} (hb:V b=none) (hc:o.length≤cap) (hl:o.length≤9223372036854775807) :
  LR rI (kset V b (o.map cellI++spare,(t,(0,0)))) ⟨some ⟨b,0,none⟩,o.length,cap⟩ o [b]∧Own V (kset V b (o.map cellI++spare,(t,(0,0)))) [b]:=by
 refine⟨⟨rfl,hc,hl,.inr ⟨b,[],spare,(t,(0,0)),[],o,rfl,?_,els_int o,rfl⟩⟩,by simp,?_,?_⟩
 ·rw [kset_same,flat_int]; rfl
 ·intro b' hb'; simp at hb'; subst hb'; exact hb
 ·intro b' hb'; simp at hb'; subst hb'; exact⟨_,_,kset_same⟩
theorem cI_trim (V:Know) (s:SlV) (l:List Lim) (f:List Nat) (h:LR rI V s l f) :
  CallX Tryz.prog V 187 [Sc.val .l s] (fun V' r=>V'=V∧∃ s',r=Sc.val .l s'∧LR rI V s' (trimL l) f):=by
 refine CallX.of_fits Tryz.mix (fI_trim s) fun _=>?_
 simp only [tI_trim,T.wp]
 refine⟨fun y V'=>V'=V∧∃ m:Nat,m≤l.length∧tl l m=tl l l.length∧LR rI V y.1 (l.take m) f,fun y=>y.1.n,
  ⟨(s,()),rfl,rfl,l.length,Nat.le_refl _,rfl,by rw [List.take_length]; exact h⟩,?_⟩
 rintro⟨s1,u⟩ V' ⟨rfl,m,hm,htl,hL⟩
 replace hL:LR rI V' s1 (l.take m) f:=hL
 have hn:s1.n=m:=by have:=hL.1; simp at this; omega
 have hcap:=hL.2.1
 have h63:=hL.2.2.1
 refine⟨fun hpos=>?_,fun hz=>?_⟩
 ·have hp:(s1.n:Int) > 0:=of_decide_eq_true hpos
  obtain⟨j,rfl⟩:∃ j,m=j+1:=⟨m-1,by omega⟩
  have hj:j<(l.take (j+1)).length:=by simp; omega
  have hjl:j<l.length:=by omega
  obtain⟨b,o,a1,l1⟩:=hL.int hj
  have hw:IntKind.i64.wrap ((s1.n:Int)-1)=(j:Int):=by rw [wrap_i64 (by omega)]; omega
  show ∃ ad,s1.a=some ad∧_
  rw [hw]
  refine⟨_,a1,(by omega:(0:Int)≤(j:Int)),(by omega:(j:Int)<(s1.n:Int)),(l.take (j+1))[j].1,l1,fun h0=>?_,fun h0=>?_⟩
  ·have e0:limb l j=0:=by
    rw [limb_lt hjl]
    have:(l.take (j+1))[j].1=0:=by simpa using h0
    simpa using this
   have hsame:(if (s1.c:Int).toNat=Int.toNat (0:Int) then s1.a else Option.map (fun x=>x.add (Int.toNat (0:Int)*Tryz.prog.types[(3:Nat)].size)) s1.a)=s1.a:=by
    split
    ·rfl
    ·cases s1.a with
     | none=>rfl
     | some ad=>simp [Addr.add]
   have hL2:=hL.shrink (k:=j) (by simp; omega)
   refine⟨⟨(by omega:(0:Int)≤0),(by omega:(0:Int)≤(j:Int)),(by omega:(j:Int)≤(s1.c:Int)),(by omega:(s1.c:Int)≤(s1.c:Int))⟩,_,rfl,((⟨if (s1.c:Int).toNat=Int.toNat (0:Int) then s1.a else Option.map (fun x=>x.add (Int.toNat (0:Int)*Tryz.prog.types[(3:Nat)].size)) s1.a,(j:Int).toNat-Int.toNat (0:Int),(s1.c:Int).toNat-Int.toNat (0:Int)⟩:SlV),()),rfl,⟨rfl,j,by omega,?_,?_⟩,?_⟩
   ·rw [← htl,tl,if_pos e0]
   ·have e3:((j:Int).toNat-Int.toNat (0:Int))=j:=by omega
    have e4:((s1.c:Int).toNat-Int.toNat (0:Int))=s1.c:=by omega
    show LR rI V' ⟨if (s1.c:Int).toNat=Int.toNat (0:Int) then s1.a else Option.map (fun x=>x.add (Int.toNat (0:Int)*Tryz.prog.types[(3:Nat)].size)) s1.a,(j:Int).toNat-Int.toNat (0:Int),(s1.c:Int).toNat-Int.toNat (0:Int)⟩ _ _
    rw [hsame,e3,e4]
    rw [List.take_take] at hL2
    rwa [Nat.min_eq_left (by omega)] at hL2
   ·show(j:Int).toNat-Int.toNat (0:Int)<s1.n
    omega
  ·have e0:limb l j≠0:=by
    rw [limb_lt hjl]
    have:¬ (l.take (j+1))[j].1=0:=by simpa using h0
    simpa using this
   refine⟨rfl,s1,rfl,?_⟩
   rw [tl,if_neg e0] at htl
   unfold trimL
   rw [← htl]; exact hL
 ·have hz':¬ (s1.n:Int) > 0:=of_decide_eq_false hz
  have:m=0:=by omega
  subst this
  refine⟨rfl,s1,rfl,?_⟩
  unfold trimL
  rw [← htl]; exact hL
theorem cI_natCopy (V:Know) (s:SlV) (l:List Lim) (f:List Nat) (h:LR rI V s l f) (hl:l.length≤1048576) :
  CallX Tryz.prog V 203 [Sc.val .l s] (fun V' r=>V.le V'∧∃ s' f',r=Sc.val .l s'∧LR rI V' s' l f'∧Own V V' f'):=by
 refine CallX.of_fits Tryz.mix (fI_natCopy s) fun _=>?_
 simp only [tI_natCopy,T.wp]
 obtain⟨h1,h2⟩:=h.rdI
 have hn:=h.1
 refine⟨_,h1,h2,⟨h2,(by omega:(0+s.n)*8≤140737488355328),(by omega:0+s.n≤9223372036854775807)⟩,?_⟩
 intro b cap spare hb hc _
 have hk:=newI (o:=l) (spare:=spare) (t:=3) (cap:=cap) hb (by omega) (by omega)
 refine⟨kset_le hb,⟨some ⟨b,0,none⟩,0+s.n,cap⟩,[b],rfl,?_,hk.2⟩
 rw [Nat.zero_add,hn]; exact hk.1
theorem cmp_body {l l':List Lim} {n:Nat}:cmpAt l l' (n+1)=if limb l n<limb l' n then -1 else if limb l n > limb l' n then 1 else cmpAt l l' n:=rfl
theorem cI_natCmp (V:Know) (s s':SlV) (l l':List Lim) (f f':List Nat) (h:LR rI V s l f) (h':LR rI V s' l' f') :
  CallX Tryz.prog V 202 [Sc.val .l s,Sc.val .l s'] (fun V' r=>V'=V∧r=.int .i64 (cmpL l l')):=by
 refine CallX.of_fits Tryz.mix (fI_natCmp _ _) fun _=>?_
 simp only [tI_natCmp,T.wp]
 have hn:=h.1
 have hn':=h'.1
 have hb:=h.2.2.1
 refine⟨fun hne=>?_,fun heq=>?_⟩
 ·have hne':l.length≠l'.length:=by
   have:((s.n:Nat):Int)≠((s'.n:Nat):Int):=by simpa using hne
   omega
  refine⟨fun hlt=>⟨by trivial,?_⟩,fun hge=>⟨by trivial,?_⟩⟩
  ·have:(s.n:Int)<(s'.n:Int):=of_decide_eq_true hlt
   rw [cmpL,if_pos hne',if_pos (by omega)]; rfl
  ·have:¬ (s.n:Int)<(s'.n:Int):=of_decide_eq_false hge
   rw [cmpL,if_pos hne',if_neg (by omega)]; rfl
 have hl:l.length=l'.length:=by
  have:((s.n:Nat):Int)=((s'.n:Nat):Int):=by simpa using heq
  omega
 have hc:cmpL l l'=cmpAt l l' l.length:=by rw [cmpL,if_neg (by simpa using hl)]
 rw [hc]
 have hw:IntKind.i64.wrap ((s.n:Int)-1)=(s.n:Int)-1:=wrap_i64 (by omega)
 refine⟨fun y V'=>V'=V∧∃ n:Nat,y.1=(n:Int)-1∧n≤l.length∧cmpAt l l' n=cmpAt l l' l.length,fun y=>((y.1:Int)+1).toNat,
  ⟨((s.n:Int)-1,()),by rw [hw]; rfl,rfl,l.length,by rw [hn],Nat.le_refl _,rfl⟩,?_⟩
 rintro⟨(i:Int),u⟩ V' ⟨rfl,n,hi,hle,hcm⟩
 replace hi:i=(n:Int)-1:=hi
 refine⟨fun hge=>?_,fun hlt=>?_⟩
 ·have hge':i≥0:=of_decide_eq_true hge
  obtain⟨m,rfl⟩:∃ m,n=m+1:=⟨n-1,by omega⟩
  have hi:i=(m:Int):=by omega
  subst hi
  have h1:m<l.length:=hle
  have h2:m<l'.length:=by omega
  obtain⟨b1,o1,a1,l1⟩:=h.int h1
  obtain⟨b2,o2,a2,l2⟩:=h'.int h2
  rw [cmp_body,limb_lt h1,limb_lt h2] at hcm
  refine⟨_,a1,by omega,(by omega:(m:Int)<(s.n:Int)),l[m].1,l1,_,a2,by omega,(by omega:(m:Int)<(s'.n:Int)),l'[m].1,l2,fun hne=>?_,fun heq=>?_⟩
  ·have hne':l[m].1≠l'[m].1:=by simpa using hne
   refine⟨_,a1,by omega,(by omega:(m:Int)<(s.n:Int)),l[m].1,l1,_,a2,by omega,(by omega:(m:Int)<(s'.n:Int)),l'[m].1,l2,fun hlt=>⟨rfl,?_⟩,fun hge1=>⟨rfl,?_⟩⟩
   ·rw [if_pos (of_decide_eq_true hlt)] at hcm
    rw [← hcm]; rfl
   ·have:¬ l[m].1<l'[m].1:=of_decide_eq_false hge1
    rw [if_neg this,if_pos (by omega)] at hcm
    rw [← hcm]; rfl
  ·have heq':l[m].1=l'[m].1:=by simpa using heq
   rw [if_neg (by omega),if_neg (by omega)] at hcm
   refine⟨_,rfl,((m:Int)-1,()),by rw [show IntKind.i64.wrap ((m:Int)-1)=(m:Int)-1 from wrap_i64 (by omega)]; rfl,⟨rfl,m,rfl,by omega,hcm⟩,?_⟩
   show((m:Int)-1+1).toNat<((m:Int)+1).toNat
   omega
 ·have:¬ i≥0:=of_decide_eq_false hlt
  have hz:n=0:=by omega
  subst hz
  refine⟨rfl,?_⟩
  rw [← hcm]; rfl
theorem cS_l02Cmp (V:Know) (s s':SlV) (l l':List Lim) (f f':List Nat) (h:LR rI V s l f) (h':LR rI V s' l' f') :
  CallX Tryz.prog V 150 [Sc.val .l s,Sc.val .l s'] (fun V' r=>V'=V∧r=.int .i64 (cmpL l l')):=by
 refine CallX.of_fits Tryz.mix (fS_l02Cmp _ _) fun _=>?_
 simp only [tS_l02Cmp,T.wp]
 have hn:=h.1
 have hn':=h'.1
 have hb:=h.2.2.1
 refine⟨fun hne=>?_,fun heq=>?_⟩
 ·have hne':l.length≠l'.length:=by
   have:((s.n:Nat):Int)≠((s'.n:Nat):Int):=by simpa using hne
   omega
  refine⟨fun hlt=>⟨by trivial,?_⟩,fun hge=>⟨by trivial,?_⟩⟩
  ·have:(s.n:Int)<(s'.n:Int):=of_decide_eq_true hlt
   rw [cmpL,if_pos hne',if_pos (by omega)]; rfl
  ·have:¬ (s.n:Int)<(s'.n:Int):=of_decide_eq_false hge
   rw [cmpL,if_pos hne',if_neg (by omega)]; rfl
 have hl:l.length=l'.length:=by
  have:((s.n:Nat):Int)=((s'.n:Nat):Int):=by simpa using heq
  omega
 have hc:cmpL l l'=cmpAt l l' l.length:=by rw [cmpL,if_neg (by simpa using hl)]
 rw [hc]
 have hw:IntKind.i64.wrap ((s.n:Int)-1)=(s.n:Int)-1:=wrap_i64 (by omega)
 refine⟨fun y V'=>V'=V∧∃ n:Nat,y.1=(n:Int)-1∧n≤l.length∧cmpAt l l' n=cmpAt l l' l.length,fun y=>((y.1:Int)+1).toNat,
  ⟨((s.n:Int)-1,()),by rw [hw]; rfl,rfl,l.length,by rw [hn],Nat.le_refl _,rfl⟩,?_⟩
 rintro⟨(i:Int),u⟩ V' ⟨rfl,n,hi,hle,hcm⟩
 replace hi:i=(n:Int)-1:=hi
 refine⟨fun hge=>?_,fun hlt=>?_⟩
 ·have hge':i≥0:=of_decide_eq_true hge
  obtain⟨m,rfl⟩:∃ m,n=m+1:=⟨n-1,by omega⟩
  have hi:i=(m:Int):=by omega
  subst hi
  have h1:m<l.length:=hle
  have h2:m<l'.length:=by omega
  obtain⟨b1,o1,a1,l1⟩:=h.int h1
  obtain⟨b2,o2,a2,l2⟩:=h'.int h2
  rw [cmp_body,limb_lt h1,limb_lt h2] at hcm
  refine⟨_,a1,by omega,(by omega:(m:Int)<(s.n:Int)),l[m].1,l1,_,a2,by omega,(by omega:(m:Int)<(s'.n:Int)),l'[m].1,l2,fun hlt=>⟨rfl,?_⟩,fun hge1=>?_⟩
  ·rw [if_pos (of_decide_eq_true hlt)] at hcm
   rw [← hcm]; rfl
  rw [if_neg (of_decide_eq_false hge1)] at hcm
  refine⟨_,a1,by omega,(by omega:(m:Int)<(s.n:Int)),l[m].1,l1,_,a2,by omega,(by omega:(m:Int)<(s'.n:Int)),l'[m].1,l2,fun hgt=>⟨rfl,?_⟩,fun hle1=>?_⟩
  ·rw [if_pos (of_decide_eq_true hgt)] at hcm
   rw [← hcm]; rfl
  rw [if_neg (of_decide_eq_false hle1)] at hcm
  refine⟨_,rfl,((m:Int)-1,()),by rw [show IntKind.i64.wrap ((m:Int)-1)=(m:Int)-1 from wrap_i64 (by omega)]; rfl,⟨rfl,m,rfl,by omega,hcm⟩,?_⟩
  show((m:Int)-1+1).toNat<((m:Int)+1).toNat
  omega
 ·have:¬ i≥0:=of_decide_eq_false hlt
  have hz:n=0:=by omega
  subst hz
  refine⟨rfl,?_⟩
  rw [← hcm]; rfl
end Go.Proofs.YtpkmhkbkohppiaaGreatDoor
namespace Go.Proofs.YtpkmhkbkohppiaaGreatDoor
open Sx
theorem pw_add (i j:Nat):(1000000000:Int) ^ (i+j)=1000000000 ^ i*1000000000 ^ j:=by
 induction j with
 | zero=>simp
 | succ j ih=>rw [← Nat.add_assoc,Int.pow_succ,ih,Int.pow_succ,Int.mul_assoc]
theorem limb_set {l:List Lim} {i j:Nat} {x:Int} (h:i<l.length):limb (l.set i (x,())) j=if j=i then x else limb l j:=by
 unfold limb
 by_cases e:j=i
 ·subst e; simp [List.getD_eq_getElem?_getD,h]
 ·have e':¬ i=j:=fun k=>e k.symm
  rw [if_neg e]
  simp [List.getD_eq_getElem?_getD,e']
theorem valTo_set {l:List Lim} {i:Nat} {x:Int} (h:i<l.length):∀ j,valTo (l.set i (x,())) j=valTo l j+(if i<j then (x-limb l i)*1000000000 ^ i else 0)
 | 0=>by simp [valTo]
 | j+1=>by
  rw [valTo,valTo,valTo_set h j,limb_set h]
  by_cases e:j=i
  ·subst e
   rw [if_pos rfl,if_neg (Nat.lt_irrefl _),if_pos (Nat.lt_succ_self _),Int.sub_mul]
   omega
  ·rw [if_neg e]
   by_cases c:i<j
   ·rw [if_pos c,if_pos (by omega)]; omega
   ·rw [if_neg c,if_neg (by omega)]; omega
theorem valN_set {l:List Lim} {i:Nat} {x:Int} (h:i<l.length):valN (l.set i (x,()))=valN l+(x-limb l i)*1000000000 ^ i:=by
 unfold valN
 rw [List.length_set,valTo_set h,if_pos h]
theorem lims_set {l:List Lim} {i:Nat} {x:Int} (h:Lims l) (hi:i<l.length) (hx:0≤x∧x<1000000000):Lims (l.set i (x,())):=by
 intro j
 rw [limb_set hi]
 split
 ·exact hx
 ·exact h j
def zer (n:Nat):List Lim:=List.replicate n (0,())
theorem limb_zer (n i:Nat):limb (zer n) i=0:=by
 unfold limb zer
 by_cases h:i<n
 ·simp [List.getD_eq_getElem?_getD,h]
 ·simp [List.getD_eq_getElem?_getD,h]
theorem valTo_zer (n:Nat):∀ i,valTo (zer n) i=0
 | 0=>rfl
 | i+1=>by rw [valTo,valTo_zer n i,limb_zer]; simp
theorem valN_zer (n:Nat):valN (zer n)=0:=valTo_zer n _
theorem lims_zer (n:Nat):Lims (zer n):=fun i=>by rw [limb_zer]; omega
theorem len_zer (n:Nat):(zer n).length=n:=List.length_replicate
theorem valTo_mono {l:List Lim} (h:Lims l) {i j:Nat} (hij:i≤j):valTo l i≤valTo l j:=by
 induction j with
 | zero =>
  have:i=0:=by omega
  subst this; exact Int.le_refl _
 | succ j ih =>
  by_cases e:i=j+1
  ·subst e; exact Int.le_refl _
  ·have:=ih (by omega)
   have:=mul_pw_nonneg (h j).1 j
   rw [valTo]; omega
theorem valTo_le {l:List Lim} (h:Lims l) (i:Nat):valTo l i≤valN l:=by
 by_cases e:i≤l.length
 ·exact valTo_mono h e
 ·rw [valTo_ge (by omega)]; exact Int.le_refl _
theorem limb_top {l:List Lim} (h:Lims l) {k j:Nat} (hv:valN l<1000000000 ^ k) (hj:k≤j):limb l j=0:=by
 by_cases e:limb l j=0
 ·exact e
 ·exfalso
  have h1:=h j
  have h2:=mul_pw_le (show 1≤limb l j by omega) j
  have h3:=valTo_le h (j+1)
  rw [valTo] at h3
  have h4:=(valTo_bd h j).1
  have h5:=pw_mono hj
  omega
theorem limb_drop (u:List Lim) (j i:Nat):limb (u.drop j) i=limb u (j+i):=by
 simp [limb,List.getD_eq_getElem?_getD,List.getElem?_drop]
theorem valTo_drop (u:List Lim) (j:Nat):∀ i,valTo u (j+i)=valTo u j+valTo (u.drop j) i*1000000000 ^ j
 | 0=>by simp [valTo]
 | i+1=>by
  have e:limb u (j+i)*(1000000000 ^ j*1000000000 ^ i)=limb u (j+i)*1000000000 ^ i*1000000000 ^ j:=by
   rw [Int.mul_comm (1000000000 ^ j),Int.mul_assoc]
  rw [← Nat.add_assoc,valTo,valTo_drop u j i,valTo,limb_drop,Int.add_mul,pw_add,e]
  omega
theorem limb_app_lt {x y:List Lim} {i:Nat} (h:i<x.length):limb (x++y) i=limb x i:=by
 simp [limb,List.getD_eq_getElem?_getD,List.getElem?_append_left h]
theorem limb_app_ge {x y:List Lim} {i:Nat} (h:x.length≤i):limb (x++y) i=limb y (i-x.length):=by
 simp [limb,List.getD_eq_getElem?_getD,List.getElem?_append_right h]
theorem valTo_app {x y:List Lim}:∀ {i:Nat},i≤x.length→valTo (x++y) i=valTo x i
 | 0,_=>rfl
 | i+1,h=>by rw [valTo,valTo,valTo_app (by omega),limb_app_lt (by omega)]
theorem valN_app (x y:List Lim):valN (x++y)=valN x+valN y*1000000000 ^ x.length:=by
 have h:=valTo_drop (x++y) x.length y.length
 rw [List.drop_left,valTo_app (Nat.le_refl _)] at h
 unfold valN
 rw [List.length_append]; exact h
theorem lims_app {x y:List Lim} (hx:Lims x) (hy:Lims y):Lims (x++y):=by
 intro i
 by_cases h:i<x.length
 ·rw [limb_app_lt h]; exact hx i
 ·rw [limb_app_ge (by omega)]; exact hy _
theorem lims_drop {l:List Lim} (h:Lims l) (n:Nat):Lims (l.drop n):=fun i=>by rw [limb_drop]; exact h _
theorem lims_one {x:Int} (h:0≤x∧x<1000000000):Lims [(x,())]:=lims_snoc (l:=[]) lims_nil h
theorem valN_one (x:Int):valN [(x,())]=x:=by simp [valN,valTo,limb]
theorem valN_nil:valN []=0:=rfl
theorem valN_put {p w w' r:List Lim} (h:w'.length=w.length):valN (p++(w'++r))=valN (p++(w++r))+(valN w'-valN w)*1000000000 ^ p.length:=by
 rw [valN_app,valN_app,valN_app,valN_app,h,Int.add_mul,Int.add_mul,Int.sub_mul]
 omega
theorem val_top2 {v:List Lim} {m:Nat} (h:v.length=m+2):valN v=(limb v (m+1)*1000000000+limb v m)*1000000000 ^ m+valTo v m:=by
 rw [valN,h,valTo,valTo,pw_succ,Int.add_mul,Int.mul_assoc]
 omega
theorem val_top3 {v:List Lim} {m:Nat} (h:v.length=m+3):valN v=((limb v (m+2)*1000000000+limb v (m+1))*1000000000+limb v m)*1000000000 ^ m+valTo v m:=by
 rw [valN,h,valTo,valTo,valTo]
 have h1:=pw_succ m
 have h2:=pw_succ (m+1)
 rw [show m+2=m+1+1 from rfl,h2,h1]
 grind
theorem est_drop {u v v1 v2 vl top u2 ul P q:Int} (hP:0<P) (hv:v=(v1*1000000000+v2)*P+vl) (hvl:0≤vl) (hu:u=(top*1000000000+u2)*P+ul) (hul:ul<P) (hq:0≤q)
  (h:q*v2 > (top-q*v1)*1000000000+u2):u<q*v:=by
 have h1:top*1000000000+u2+1≤q*(v1*1000000000+v2):=by
  rw [Int.mul_add,← Int.mul_assoc]
  rw [Int.sub_mul] at h
  omega
 have h2:=Int.mul_le_mul_of_nonneg_right h1 (Int.le_of_lt hP)
 rw [Int.add_mul,Int.one_mul,Int.mul_assoc q] at h2
 have h3:0≤q*vl:=Int.mul_nonneg hq hvl
 rw [hv,Int.mul_add,hu]
 omega
theorem est_keep {u v v1 v2 vl top u2 ul P q:Int} (hP:0<P) (hv:v=(v1*1000000000+v2)*P+vl) (hvl:0≤vl∧vl<P) (hv1:1≤v1) (hv2:0≤v2∧v2<1000000000) (hu:u=(top*1000000000+u2)*P+ul) (hul:0≤ul) (hu2:0≤u2)
  (hq:0≤q∧q<1000000000) (h:q=0∨top-q*v1≥1000000000∨q*v2≤(top-q*v1)*1000000000+u2) (hu0:0≤u):(q-1)*v≤u:=by
 have hvp:P≤v:=by
  have h1:1≤v1*1000000000+v2:=by omega
  have:=Int.mul_le_mul_of_nonneg_right h1 (Int.le_of_lt hP)
  rw [hv]; omega
 rcases Int.lt_or_le 0 q with hpos | hz
 ·have key:q*v2≤(top-q*v1)*1000000000+u2:=by
   rcases h with h | h | h
   ·omega
   ·have:q*v2≤999999999*999999999:=Int.mul_le_mul (by omega) (by omega) hv2.1 (by omega)
    have:1000000000*1000000000≤(top-q*v1)*1000000000:=Int.mul_le_mul_of_nonneg_right h (by omega)
    omega
   ·exact h
  have h1:q*(v1*1000000000+v2)≤top*1000000000+u2:=by
   rw [Int.mul_add,← Int.mul_assoc]
   rw [Int.sub_mul] at key
   omega
  have h2:=Int.mul_le_mul_of_nonneg_right h1 (Int.le_of_lt hP)
  rw [Int.mul_assoc] at h2
  have h3:q*vl≤999999999*P:=Int.mul_le_mul (by omega) (by omega) hvl.1 (by omega)
  have h4:1000000000*P≤v:=by
   have:1000000000≤v1*1000000000+v2:=by omega
   have:=Int.mul_le_mul_of_nonneg_right this (Int.le_of_lt hP)
   rw [hv]; omega
  have h5:q*v=q*((v1*1000000000+v2)*P)+q*vl:=by rw [hv,Int.mul_add]
  rw [Int.sub_mul,Int.one_mul]
  omega
 ·have:q=0:=by omega
  subst this
  omega
theorem est_first {u v v1 v2 vl top u2 ul P q:Int} (hP:0<P) (hv:v=(v1*1000000000+v2)*P+vl) (hvl:0≤vl) (hv2:0≤v2) (hu:u=(top*1000000000+u2)*P+ul) (hul:ul<P) (hu2:u2<1000000000) (hq:0≤q)
  (h:top<(q+1)*v1):u<(q+1)*v:=by
 have h1:top*1000000000+u2+1≤(q+1)*v1*1000000000:=by omega
 have h2:=Int.mul_le_mul_of_nonneg_right h1 (Int.le_of_lt hP)
 have h3:0≤(q+1)*vl:=Int.mul_nonneg (by omega) hvl
 have h4:0≤(q+1)*v2*P:=Int.mul_nonneg (Int.mul_nonneg (by omega) hv2) (Int.le_of_lt hP)
 have h5:(q+1)*v=(q+1)*v1*1000000000*P+(q+1)*v2*P+(q+1)*vl:=by grind
 have h6:(top*1000000000+u2+1)*P=(top*1000000000+u2)*P+P:=by grind
 omega
theorem subt_step {w v:List Lim} {k:Nat} {q b b' t W:Int} (hk:k<w.length) (hv:valN w=W+b*1000000000 ^ k-q*valTo v k) (ht:t=limb w k-limb v k*q-b+b'*1000000000) :
  valN (w.set k (t,()))=W+b'*1000000000 ^ (k+1)-q*valTo v (k+1):=by
 rw [valN_set hk,hv,valTo,pw_succ,ht]
 grind
theorem addb_step {w v:List Lim} {k:Nat} {c d e W:Int} (hk:k<w.length) (hv:valN w+c*1000000000 ^ k=W+valTo v k) (hs:c+limb w k+limb v k=d+1000000000*e) :
  valN (w.set k (d,()))+e*1000000000 ^ (k+1)=W+valTo v (k+1):=by
 rw [valN_set hk,valTo,pw_succ]
 have h1:(c+limb w k+limb v k)*1000000000 ^ k=(d+1000000000*e)*1000000000 ^ k:=by rw [hs]
 grind
theorem mul_step {o b:List Lim} {i k:Nat} {c d e x W:Int} (hk:i+k<o.length) (hv:valN o+c*1000000000 ^ (i+k)=W+x*valTo b k*1000000000 ^ i) (hs:c+limb o (i+k)+x*limb b k=d+1000000000*e) :
  valN (o.set (i+k) (d,()))+e*1000000000 ^ (i+(k+1))=W+x*valTo b (k+1)*1000000000 ^ i:=by
 rw [valN_set hk,valTo,← Nat.add_assoc,pw_succ]
 have h1:(c+limb o (i+k)+x*limb b k)*1000000000 ^ (i+k)=(d+1000000000*e)*1000000000 ^ (i+k):=by rw [hs]
 have h2:=pw_add i k
 grind
theorem carry_step {o:List Lim} {k:Nat} {c d e T:Int} (hk:k<o.length) (hv:valN o+c*1000000000 ^ k=T) (hs:c+limb o k=d+1000000000*e) :
  valN (o.set k (d,()))+e*1000000000 ^ (k+1)=T:=by
 rw [valN_set hk,pw_succ]
 have h1:(c+limb o k)*1000000000 ^ k=(d+1000000000*e)*1000000000 ^ k:=by rw [hs]
 grind
theorem quot_step {o a:List Lim} {i:Nat} {r r' d x T:Int} (hi:i<o.length) (ho:limb o i=0) (hv:valN o*d+r*1000000000 ^ (i+1)+valTo a (i+1)=T) (hs:r*1000000000+limb a i=x*d+r') :
  valN (o.set i (x,()))*d+r'*1000000000 ^ i+valTo a i=T:=by
 rw [valN_set hi,ho,← hv,valTo,pw_succ]
 have h1:(r*1000000000+limb a i)*1000000000 ^ i=(x*d+r')*1000000000 ^ i:=by rw [hs]
 grind
theorem place_step {o:List Lim} {j:Nat} {u u' w w' v x T:Int} (hj:j<o.length) (ho:limb o j=0) (hv:valN o*v+u=T) (hu:u'=u+(w'-w)*1000000000 ^ j) (hw:w'=w-x*v) :
  valN (o.set j (x,()))*v+u'=T:=by
 rw [valN_set hj,ho,hu,hw,← hv]
 grind
theorem quot_unique {a b q r q' r':Int} (h:a=q*b+r) (h':a=q'*b+r') (hr:0≤r∧r<b) (hr':0≤r'∧r'<b):q=q'∧r=r':=by
 have e1:a / b=q∧a % b=r:=by
  rw [h,Int.add_comm,Int.add_mul_ediv_right _ _ (by omega),Int.add_mul_emod_self_right,Int.ediv_eq_zero_of_lt hr.1 hr.2,Int.emod_eq_of_lt hr.1 hr.2]
  exact⟨by omega,rfl⟩
 have e2:a / b=q'∧a % b=r':=by
  rw [h',Int.add_comm,Int.add_mul_ediv_right _ _ (by omega),Int.add_mul_emod_self_right,Int.ediv_eq_zero_of_lt hr'.1 hr'.2,Int.emod_eq_of_lt hr'.1 hr'.2]
  exact⟨by omega,rfl⟩
 exact⟨e1.1.symm.trans e2.1,e1.2.symm.trans e2.2⟩
theorem can_inj {l l':List Lim} (h:Can l) (h':Can l') (e:valN l=valN l'):l=l':=by
 have hc:=cmpL_val h h'
 have hz:cmpL l l'=0:=by
  rcases hc with ⟨_,h⟩ | ⟨h,_⟩ | ⟨_,h⟩
  ·omega
  ·exact h
  ·omega
 unfold cmpL at hz
 by_cases c:l.length=l'.length
 ·rw [if_neg (by simpa using c)] at hz
  have key:∀ n,cmpAt l l' n=0→∀ i,i<n→limb l i=limb l' i:=by
   intro n
   induction n with
   | zero=>intro _ i hi; omega
   | succ n ih =>
    intro hz i hi
    unfold cmpAt at hz
    split at hz
    ·omega
    ·split at hz
     ·omega
     ·by_cases e:i=n
      ·subst e; omega
      ·exact ih hz i (by omega)
  have hk:=key _ hz
  refine List.ext_getElem c fun i h1 h2=>?_
  have:=hk i h1
  rw [limb_lt h1,limb_lt h2] at this
  exact Prod.ext this rfl
 ·rw [if_pos c] at hz
  split at hz <;> omega
end Go.Proofs.YtpkmhkbkohppiaaGreatDoor
