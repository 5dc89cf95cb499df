/-
  A line of a ledger's text, read by the program into the ledger behind a pointer.
-/
import Derived.Test.YtagkjnpggkmehaaGreatDoorLnM
import Derived.Test.YtagkjnpggkmehaaGreatDoorRdE
namespace Go.Proofs.YtagkjnpggkmehaaGreatDoor
open Sx Go.RowKit
set_option maxRecDepth 100000
def hasMax (V:Know):Prop:=∃ m cs t,V 1=some (.int .i64 m :: cs,t)
theorem hasMax.le {V V':Know} (h:hasMax V) (k:V.le V'):hasMax V':=let ⟨m,cs,t,e⟩:=h; ⟨m,cs,t,k _ _ e⟩
theorem max_of {V:Know} (h:hasMax V) {w:World} (hw:V.on w):∃ m,w.cell? ⟨1,0,none⟩=some (.int .i64 m):=by
 obtain⟨m,cs,t,e⟩:=h
 refine⟨m,?_⟩
 rw [hw.cell e 0 (fun es k=>by cases k) (Nat.zero_lt_succ _)]; rfl
def HrI (V:Know):Prop:=HtI V∧hasMax V
theorem HrI.le {V V':Know} (h:HrI V) (k:V.le V'):HrI V':=⟨h.1.le k,h.2.le k⟩
theorem cX_Cut {V:Know} (hV:hasMax V) (s sep:ByteArray) (hs:s.size≤1048576):CallX Tryz.prog V 94 [.string s,.string sep] (fun V' r=>V'=V∧r=.tuple #[.string (ofL (Go.Lib.cut (bl s) (bl sep)).1),.string (ofL (Go.Lib.cut (bl s) (bl sep)).2.1),.bool (Go.Lib.cut (bl s) (bl sep)).2.2]):=by
 refine CallX.of_calls ⟨_,Tryz.func94,by kernel_rfl,by kernel_rfl⟩ fun w hw=>?_
 obtain⟨m,hm⟩:=max_of hV hw
 refine(Tryz.strings_Cut s sep m w (by omega) hm).mono ?_
 rintro e w' ⟨rfl,n,rfl⟩
 exact⟨rfl,⟨rfl,rfl,rfl,Nat.le_refl _,fun _ _=>rfl⟩⟩
theorem cut_size (s sep:ByteArray):(ofL (Go.Lib.cut (bl s) (bl sep)).1).size≤s.size∧(ofL (Go.Lib.cut (bl s) (bl sep)).2.1).size≤s.size:=by
 rw [of_size (Go.Lib.cut (bl s) (bl sep)).1,of_size (Go.Lib.cut (bl s) (bl sep)).2.1]
 have hl:∀ L:List UInt8,bl s=L→L.length=s.size:=fun L e=>by rw [← e]; exact bl_len s
 generalize hL:bl s=L
 have hl:=hl L hL
 unfold Go.Lib.cut
 split
 ·simp only [List.length_take,List.length_drop]; omega
 ·simp only [List.length_nil]; omega
end Go.Proofs.YtagkjnpggkmehaaGreatDoor
namespace Go.Proofs.YtagkjnpggkmehaaGreatDoor
open Sx
set_option maxRecDepth 100000
theorem str_size:Tryz.prog.types[(9:Nat)].size=1:=by kernel_rfl
theorem LR.takeT {V:Know} {t:SlV} {l:List Tx} {f:List Nat} (h:LR rString V t l f) {k:Nat} (hk:k≤l.length):∃ f',LR rString V ⟨t.a,k,t.c⟩ (l.take k) f':=by
 obtain⟨h1,h2,h3,h4⟩:=h
 rcases h4 with ⟨h0,hc,rfl⟩ | ⟨b,pre,post,u,fps,cs,ha,hb,he,rfl⟩
 ·exact⟨[],by rw [List.length_take]; show k=_; omega,by show k≤t.c; omega,by show k≤_; omega,.inl ⟨by show k=0; omega,hc,rfl⟩⟩
 ·obtain⟨rfl,rfl⟩:=els_txt_eq he
  have hz:∀ x∈cs.take k,x.1.size≤9223372036854775807:=fun x hx=>by
   obtain⟨i,hi,rfl⟩:=List.mem_iff_getElem.1 (List.mem_of_mem_take hx)
   have L:LR rString V t cs [b]:=⟨h1,h2,h3,.inr ⟨b,pre,post,u,[],cs,ha,hb,he,rfl⟩⟩
   exact(L.txt hi).2
  refine⟨[b],by rw [List.length_take]; show k=_; omega,by show k≤t.c; omega,by show k≤_; omega,.inr ⟨b,pre,(cs.drop k).flatMap (Scs.vals [.s])++post,u,[],cs.take k,ha,?_,els_txt _ hz,rfl⟩⟩
  rw [hb,← List.append_assoc (List.flatMap _ (cs.take k)),← List.flatMap_append,List.take_append_drop]
theorem LR.dropT {V:Know} {t:SlV} {l:List Tx} {f:List Nat} (h:LR rString V t l f) (hp:1≤l.length):∃ f',LR rString V ⟨(if t.c=1 then t.a else t.a.map fun x=>x.add 1),t.n-1,t.c-1⟩ l.tail f':=by
 obtain⟨h1,h2,h3,h4⟩:=h
 rcases h4 with ⟨h0,hc,rfl⟩ | ⟨b,pre,post,u,fps,cs,ha,hb,he,rfl⟩
 ·omega
 ·obtain⟨rfl,rfl⟩:=els_txt_eq he
  have hl:t.n-1=cs.tail.length:=by rw [List.length_tail]; omega
  by_cases c1:t.c=1
  ·rw [if_pos c1]
   exact⟨[],hl,by show t.n-1≤t.c-1; omega,by show t.n-1≤_; omega,.inl ⟨by show t.n-1=0; omega,fun _=>by show t.c-1=0; omega,rfl⟩⟩
  ·rw [if_neg c1,ha]
   have hz:∀ x∈cs.tail,x.1.size≤9223372036854775807:=fun x hx=>by
    obtain⟨i,hi,rfl⟩:=List.mem_iff_getElem.1 (List.mem_of_mem_tail hx)
    have L:LR rString V t cs [b]:=⟨h1,h2,h3,.inr ⟨b,pre,post,u,[],cs,ha,hb,he,rfl⟩⟩
    exact(L.txt hi).2
   cases cs with
   | nil=>simp at hp
   | cons c cs =>
    refine⟨[b],hl,by show t.n-1≤t.c-1; omega,by show t.n-1≤_; omega,.inr ⟨b,pre++Scs.vals [.s] c,post,u,[],cs,?_,?_,els_txt _ hz,rfl⟩⟩
    ·show some ((⟨b,pre.length,none⟩:Addr).add 1)=_
     rw [addr_add_eq]
     simp [Scs.vals]
    ·rw [hb,List.flatMap_cons]
     simp only [List.append_assoc]
abbrev LinePost (V:Know) (s:ByteArray):Know→Value→Prop:=fun V' r=>V.le V'∧∃ t f,r=Sc.val .l t∧LR rString V' t (linesB s) f
noncomputable def linesT (x0:ByteArray) (g:Nat):T :=
 .call false g [.string (x0),.string ({ data:={ toList:=[(10:UInt8)]:Array UInt8 }:ByteArray })] (.v (.o (.l))) fun y1 =>
 .el (y1.1) (y1.n) (Go.IntKind.i64.wrap ((↑y1.n:Int)-(1:Int))) fun y2 =>
 .ld false (y2.add ((Go.IntKind.i64.wrap ((↑y1.n:Int)-(1:Int))).toNat*(1:Nat))) (.o (.s)) fun y3 =>
 .br (y3.toList == { data:={ toList:=[]:Array UInt8 }:ByteArray }.toList) (
  .rq ((0:Int)≤(0:Int)∧(0:Int)≤Go.IntKind.i64.wrap ((↑y1.n:Int)-(1:Int))∧Go.IntKind.i64.wrap ((↑y1.n:Int)-(1:Int))≤(↑y1.c:Int)∧(↑y1.c:Int)≤(↑y1.c:Int)) <|
  .ret [.slice (if (↑y1.c:Int).toNat=Int.toNat (0:Int) then y1.1 else Option.map (fun x=>x.add (Int.toNat (0:Int)*Tryz.prog.types[(9:Nat)].size)) y1.1) ((Go.IntKind.i64.wrap ((↑y1.n:Int)-(1:Int))).toNat-Int.toNat (0:Int)) ((↑y1.c:Int).toNat-Int.toNat (0:Int))]) <|
 .ret [Sc.val .l (y1)]
theorem sl_same0 {a:Option Addr} {k z:Nat}:(if k=Int.toNat (0:Int) then a else Option.map (fun x=>x.add (Int.toNat (0:Int)*z)) a)=a:=by
 split
 ·rfl
 ·cases a with
  | none=>rfl
  | some x =>
   show some (x.add (0*z))=some x
   rw [Nat.zero_mul]
   obtain⟨b,o,sp⟩:=x
   cases sp <;> rfl
theorem linesT_wp {V Vd:Know} {Ns:List (List LV→Know→Prop)} {s:ByteArray} {g:Nat} (_:s.size≤1048576) (hg:CallX Tryz.prog V g [.string s,.string ⟨#[10]⟩] (CutPost V 10 s)):(linesT s g).wp Tryz.prog (fun V' vs=>LinePost V s V' (packed vs)) V Vd Ns:=by
 simp only [linesT,T.wp]
 refine hg.mono ?_
 rintro V1 _ ⟨le1,t,f,rfl,L,_⟩
 have hn:=L.1
 have hc:=L.2.1
 have h63:=L.2.2.1
 have hp:=cutB_pos 10 s
 have hlen:=cutB_len 10 s
 have hw:IntKind.i64.wrap ((t.n:Int)-1)=((t.n-1:Nat):Int):=by rw [wrap_i64 (by omega)]; omega
 obtain⟨x,hx⟩:∃ x,(cutB 10 s)[t.n-1]?=some x:=⟨_,List.getElem?_eq_getElem (by omega)⟩
 obtain⟨b,o,ha,hld⟩:=L.atK hx
 have hlast:(cutB 10 s).getLast?=some x:=by rw [List.getLast?_eq_getElem?,← hn]; exact hx
 refine⟨nofun,t,rfl,?_⟩
 rw [hw,ha,Int.toNat_natCast]
 refine⟨_,rfl,(by omega:(0:Int)≤((t.n-1:Nat):Int)),(by omega:((t.n-1:Nat):Int)<(t.n:Int)),x.1,hld,fun he=>⟨⟨Int.le_refl _,by omega,by omega,Int.le_refl _⟩,?_⟩,fun he=>?_⟩
 ·have hx0:x=(⟨#[]⟩,()):=by
   have:x.1=⟨#[]⟩:=text_eq.1 he
   obtain⟨x1,xu⟩:=x
   subst this; rfl
  have e:linesB s=(cutB 10 s).take (t.n-1):=by
   unfold linesB
   rw [if_pos (by rw [hlast,hx0]),List.dropLast_eq_take,hn]
  obtain⟨f',L'⟩:=L.takeT (k:=t.n-1) (by omega)
  rw [ha] at L'
  rw [sl_same0]
  exact⟨le1,⟨some ⟨b,o,none⟩,t.n-1,t.c⟩,f',rfl,by rw [e]; exact L'⟩
 ·have hx0:x≠(⟨#[]⟩,()):=fun k=>by
   rw [k] at he
   have h1:((⟨#[]⟩:ByteArray).toList == (⟨#[]⟩:ByteArray).toList)=true:=text_eq.2 rfl
   have h2:((⟨#[]⟩:ByteArray).toList == (⟨#[]⟩:ByteArray).toList)=false:=he
   rw [h1] at h2; cases h2
  have e:linesB s=cutB 10 s:=by
   unfold linesB
   rw [if_neg (by rw [hlast]; exact fun k=>hx0 (Option.some.inj k))]
  exact⟨le1,t,f,rfl,by rw [e]; exact L⟩
theorem cI_Lines (V:Know) (s:ByteArray) (hs:s.size≤1048576):CallX Tryz.prog V 70 [.string s] (LinePost V s):=by
 refine CallX.of_fits Tryz.mix (fI_Lines _) fun _=>?_
 exact linesT_wp (g:=129) hs (cI_CutAt V s 10 hs)
theorem cS_Lines (V:Know) (s:ByteArray) (hs:s.size≤1048576):CallX Tryz.prog V 66 [.string s] (LinePost V s):=by
 refine CallX.of_fits Tryz.mix (fS_Lines _) fun _=>?_
 exact linesT_wp (g:=85) hs (cS_CutAt V s 10 hs)
def headT (l:List Tx):ByteArray:=match l with | []=>⟨#[]⟩ | x :: _=>x.1
theorem cS_l22Take (V:Know) (t:SlV) (l:List Tx) (f:List Nat) (h:LR rString V t l f) :
  CallX Tryz.prog V 122 [Sc.val .l t] (fun V' r=>V'=V∧∃ t' f',r=.tuple #[.string (headT l),Sc.val .l t']∧LR rString V t' l.tail f'):=by
 refine CallX.of_fits Tryz.mix (fS_l22Take _) fun _=>?_
 simp only [tS_l22Take,T.wp]
 have hn:=h.1
 have hc:=h.2.1
 refine⟨fun h0=>?_,fun h0=>?_⟩
 ·have:(t.n:Int)=0:=by simpa using h0
  obtain rfl:l=[]:=List.eq_nil_of_length_eq_zero (by omega)
  exact⟨trivial,t,f,rfl,h⟩
 ·have hne:¬ (t.n:Int)=0:=by simpa using h0
  cases l with
  | nil=>simp at hn; omega
  | cons x l =>
   obtain⟨b,o,ha,hld⟩:=h.atK (i:=0) (x:=x) rfl
   obtain⟨f',L'⟩:=h.dropT (by simp)
   refine⟨_,ha,Int.le_refl _,by omega,x.1,hld,⟨by decide,by omega,by omega,Int.le_refl _⟩,trivial,⟨(if t.c=1 then t.a else t.a.map fun x=>x.add 1),t.n-1,t.c-1⟩,f',?_,L'⟩
   rw [str_size]
   rfl
section
variable {sh:List Sc} {α:Type}
def maskF (V:Know) (F:List Nat):Know:=fun b=>if b∈F then none else V b
theorem maskF_le {V:Know} {F:List Nat}:(maskF V F).le V:=fun b x hx=>by
 unfold maskF at hx
 split at hx
 ·cases hx
 ·exact hx
theorem ap_among {P:Program} {r:Rp sh α} {t:TypeId} {V0 V Vd:Know} {s:SlV} {l:List α} {g f fx:List Nat} {c:Scs sh} {x:α} {bytes:Nat} {k:SlV→T} {K:Know→List Value→Prop} {Ns:List (List LV→Know→Prop)}
  (h:GR r t V s l f) (hx:r.R V c x fx) (hO:Own V0 V (g++(f++fx))) (hle:V0.le V) (hP:P.cellsOf t=sh.length)
  (hb:(l.length+1)*bytes≤140737488355328) (hl:l.length+1≤9223372036854775807)
  (hk:∀ s' V' f',GR r t V' s' (l++[x]) f'→Own V0 V' (g++f')→V0.le V'→(∀ b∈g,V' b=V b)→(k s').wp P K V' Vd Ns) :
  (T.ap s sh.length bytes (Scs.vals sh c) 1 t k).wp P K V Vd Ns:=by
 obtain⟨o1,o2,o3⟩:=hO
 obtain⟨n1,n2,n3⟩:=List.nodup_append.1 o1
 refine ap_row (V0:=maskF V (f++fx)) h hx ⟨n2,fun b hb=>by unfold maskF; rw [if_pos hb],fun b hb=>o3 b (List.mem_append_right _ hb)⟩ maskF_le hP hb hl fun s' V' f' hG hO' hle'=>?_
 have keep:∀ b y,V b=some y→b ∉ f++fx→V' b=some y:=fun b y hy hn=>hle' b y (by unfold maskF; rw [if_neg hn]; exact hy)
 have hg:∀ b∈g,V' b=V b:=fun b hb=>by
  obtain⟨cs,u,e⟩:=o3 b (List.mem_append_left _ hb)
  rw [e]
  exact keep b _ e fun k=>n3 b hb b k rfl
 refine hk s' V' f' hG ⟨List.nodup_append.2 ⟨n1,hO'.1,fun a ha b hb e=>?_⟩,fun b hb=>?_,fun b hb=>?_⟩ (fun b y hy=>?_) hg
 ·subst e
  have:=hO'.2.1 a hb
  unfold maskF at this
  rw [if_neg (fun k=>n3 a ha a k rfl)] at this
  obtain⟨cs,u,e⟩:=o3 a (List.mem_append_left _ ha)
  rw [e] at this; cases this
 ·rcases List.mem_append.1 hb with hb | hb
  ·exact o2 b (List.mem_append_left _ hb)
  ·have:=hO'.2.1 b hb
   unfold maskF at this
   split at this
   ·rename_i hm; exact o2 b (List.mem_append_right _ hm)
   ·exact none_of_le hle this
 ·rcases List.mem_append.1 hb with hb | hb
  ·rw [hg b hb]; exact o3 b (List.mem_append_left _ hb)
  ·exact hO'.2.2 b hb
 ·refine keep b y (hle b y hy) fun hm=>?_
  have:=o2 b (List.mem_append_right _ hm)
  rw [hy] at this; cases this
end
theorem ratX_len {x:DRat} (h:RatX x):x.2.1.length+x.2.2.1.length≤(ratX x).size+1:=by
 have h1:=natT_len h.1.1.1
 have h2:=natT_len h.2.1.1
 have e:(natT x.2.1).size≤(intT x.1 x.2.1).size:=by
  unfold intT
  split
  ·rw [ByteArray.size_append]; omega
  ·exact Nat.le_refl _
 show _≤(ratT x.1 x.2.1 x.2.2.1).size+1
 unfold ratT
 split
 ·rename_i k
  rw [k]
  show x.2.1.length+1≤_
  omega
 ·rw [ByteArray.size_append,ByteArray.size_append]
  omega
theorem cut_sum (l sep:List UInt8):(Go.Lib.cut l sep).1.length+(Go.Lib.cut l sep).2.1.length≤l.length:=by
 unfold Go.Lib.cut
 split
 ·simp only [List.length_take,List.length_drop]; omega
 ·simp only [List.length_nil]; omega
theorem cut_found {l:List UInt8} {c:UInt8} (h:(Go.Lib.cut l [c]).2.2=true):(Go.Lib.cut l [c]).1.length+1+(Go.Lib.cut l [c]).2.1.length≤l.length:=by
 by_cases hc:c∈l
 ·obtain⟨a,b,rfl,hn⟩:=List.eq_append_cons_of_mem hc
  rw [cut_one hn]
  simp only [List.length_append,List.length_cons]; omega
 ·exfalso
  have:=index_none1 hc
  unfold Go.Lib.cut at h
  rw [this] at h
  simp at h
abbrev ResRd2 (V:Know) (s:ByteArray):Know→Value→Prop:=fun V' r=>V.le V'∧∃ c x f ok,r=.tuple #[qv8 c,.bool ok]∧rRest.R V' c x f∧Own V V' f∧(ok=true→x.1.size+x.2.2.1.length+x.2.2.2.1.length≤s.size)∧∀ y:DRest,ResP y→restX y=s→ok=true∧x=y
theorem cI_textRest2 {V:Know} (hV:HrI V) (s:ByteArray) (hs:s.size≤1048576):CallX Tryz.prog V 38 [.string s] (ResRd2 V s):=by
 refine CallX.of_fits Tryz.mix (fI_textRest _) fun _=>?_
 simp only [tI_textRest,T.wp]
 obtain⟨z1,z2⟩:=cut_size s ⟨#[32]⟩
 refine(cX_Cut hV.2 s ⟨#[32]⟩ hs).mono ?_
 rintro V1 _ ⟨rfl,rfl⟩
 have hb:bl (⟨#[32]⟩:ByteArray)=[32]:=rfl
 have key:∀ y:DRest,ResP y→restX y=s→Go.Lib.cut (bl s) (bl (⟨#[32]⟩:ByteArray))=(bl y.1,bl (ratX y.2),true):=fun y hy e=>by
  rw [← e,hb,restX_bl]
  exact cut_one (known_space hy.1).1
 have fnd:(Go.Lib.cut (bl s) (bl (⟨#[32]⟩:ByteArray))).2.2=true→(Go.Lib.cut (bl s) (bl (⟨#[32]⟩:ByteArray))).1.length+1+(Go.Lib.cut (bl s) (bl (⟨#[32]⟩:ByteArray))).2.1.length≤s.size:=fun h=>by
  rw [← bl_len s]
  exact cut_found h
 revert z1 z2 key fnd
 generalize Go.Lib.cut (bl s) (bl (⟨#[32]⟩:ByteArray))=p
 obtain⟨p1,p2,p3⟩:=p
 intro z1 z2 key fnd
 refine⟨nofun,(ofL p1,ofL p2,p3,()),rfl,(cI_TextRat V1 (ofL p2) (Nat.le_trans z2 hs)).mono ?_⟩
 rintro V2 _ ⟨le2,c,x,f,ok,rfl,R2,O2,k⟩
 have hR:rRest.R V2 ((ofL p1,c):Scs [.s,.b,.l,.l]) ((ofL p1,x):DRest) f:=⟨⟨rfl,by show(ofL p1).size≤_; exact Nat.le_trans z1 (by omega)⟩,R2⟩
 refine⟨nofun,(c,ok,()),rfl,fun hp=>⟨le2,(ofL p1,c),(ofL p1,x),f,ok,rfl,hR,O2,fun hok=>?_,fun y hy e=>?_⟩,fun hp=>⟨le2,(ofL p1,c),(ofL p1,x),f,false,rfl,hR,O2,nofun,fun y hy e=>?_⟩⟩
 ·have h3:=fnd hp
  rcases k with ⟨_,k2,k3⟩ | ⟨k1,_⟩
  ·have h4:=ratX_len k2
   rw [k3,of_size p2] at h4
   show(ofL p1).size+x.2.1.length+x.2.2.1.length≤s.size
   rw [of_size p1]
   have h3':p1.length+1+p2.length≤s.size:=h3
   omega
  ·rw [k1] at hok; cases hok
 ·have:=key y hy e
  simp only [Prod.mk.injEq] at this
  obtain⟨rfl,rfl,_⟩:=this
  rw [of_bl] at k
  rcases k with ⟨k1,k2,k3⟩ | ⟨_,_,k3⟩
  ·exact⟨k1,by rw [of_bl,ratX_inj k2 hy.2 (k3.trans (of_bl _))]⟩
  ·exact absurd ⟨y.2,hy.2,(of_bl _).symm⟩ k3
 ·have:=key y hy e
  simp only [Prod.mk.injEq] at this
  have h3:p3=false:=hp
  rw [h3] at this
  cases this.2.2
end Go.Proofs.YtagkjnpggkmehaaGreatDoor
namespace Go.Proofs.YtagkjnpggkmehaaGreatDoor
open Sx
set_option maxRecDepth 100000
abbrev ldA:TypeId:=109
abbrev ldX:TypeId:=40
abbrev ldR:TypeId:=104
abbrev ldL:TypeId:=56
abbrev LSh:List Sc:=[.l,.l,.s,.l]
def Ls (V:Know) (X:DLedger) (a x r:SlV) (fA fX fR:List Nat):Prop:=GR rAcct ldA V a X.1 fA∧GR rRest ldX V x X.2.1 fX∧GR rRate ldR V r X.2.2.2.1 fR
theorem Ls.loc {V V':Know} {X:DLedger} {a x r:SlV} {fA fX fR:List Nat} (h:Ls V X a x r fA fX fR) (hb:∀ b∈fA++(fX++fR),V' b=V b):Ls V' X a x r fA fX fR :=
 ⟨h.1.loc fun b k=>hb b (by simp [k]),h.2.1.loc fun b k=>hb b (by simp [k]),h.2.2.loc fun b k=>hb b (by simp [k])⟩
theorem Ls.le {V V':Know} {X:DLedger} {a x r:SlV} {fA fX fR:List Nat} (h:Ls V X a x r fA fX fR) (hle:V.le V'):Ls V' X a x r fA fX fR:=⟨h.1.le hle,h.2.1.le hle,h.2.2.le hle⟩
abbrev lcells (a x:SlV) (p:ByteArray) (r:SlV):List Value:=Scs.vals LSh (a,x,p,r,())
def Lb (V0 V:Know) (b:Nat) (X:DLedger):Prop:=V0.le V∧∃ a x r fA fX fR,V b=some (lcells a x X.2.2.1 r,(ldL,(0,0)))∧Ls V X a x r fA fX fR∧Own V0 V (b :: (fA++(fX++fR)))
theorem own_put {V0 V:Know} {b:Nat} {F:List Nat} {y:List Value} {t:TypeId} (le:V0.le V) (hO:Own V0 V (b :: F)) :
  V0.le (kset V b (y,(t,(0,0))))∧Own V0 (kset V b (y,(t,(0,0)))) (b :: F)∧∀ x∈F,(kset V b (y,(t,(0,0)))) x=V x:=by
 obtain⟨o1,o2,o3⟩:=hO
 have hb:b ∉ F:=(List.nodup_cons.1 o1).1
 have hne:∀ x∈F,x≠b:=fun x hx e=>hb (e ▸ hx)
 have hk:∀ x,x≠b→(kset V b (y,(t,(0,0)))) x=V x:=fun x hx=>by simp only [kset]; rw [if_neg hx]
 refine⟨fun x z hx=>?_,⟨o1,o2,fun x hx=>?_⟩,fun x hx=>hk x (hne x hx)⟩
 ·rw [hk x (fun e=>by rw [e,o2 b (by simp)] at hx; cases hx)]
  exact le x z hx
 ·rcases List.mem_cons.1 hx with rfl | hx
  ·exact⟨_,_,kset_same⟩
  ·rw [hk x (hne x hx)]
   exact o3 x (by simp [hx])
theorem led_tot (X:DLedger):rLedger.tot X=X.1.length+totE rAcct X.1+(X.2.1.length+totE rRest X.2.1+(X.2.2.1.size+(X.2.2.2.1.length+totE rRate X.2.2.2.1+0))):=rfl
theorem totE_snoc {sh:List Sc} {α:Type} (r:Rp sh α):∀ (l:List α) (x:α),totE r (l++[x])=totE r l+r.tot x
 | [],x=>by show r.tot x+0=0+r.tot x; omega
 | y :: l,x=>by
  show r.tot y+totE r (l++[x])=r.tot y+totE r l+r.tot x
  rw [totE_snoc r l]; omega
theorem qrate_tot (x:DRate):rRate.tot x=x.1.size+x.2.1.size+x.2.2.2.1.length:=by
 show x.1.size+(x.2.1.size+(x.2.2.2.1.length+totE rI x.2.2.2.1+0))=_
 rw [totE_rI]; omega
theorem qacct_tot (x:DAcct):rAcct.tot x=x.1.size+x.2.1.size+x.2.2.2.1.length:=by
 show x.1.size+(x.2.1.size+(x.2.2.2.1.length+totE rI x.2.2.2.1+0))=_
 rw [totE_rI]; omega
theorem qrest_tot (x:DRest):rRest.tot x=x.1.size+x.2.2.1.length+x.2.2.2.1.length:=by
 show x.1.size+(x.2.2.1.length+totE rI x.2.2.1+(x.2.2.2.1.length+totE rI x.2.2.2.1+0))=_
 rw [totE_rI,totE_rI]; omega
theorem step_r (X:DLedger) (x:DRate):rLedger.tot (stepL X (.r x))=rLedger.tot X+1+rRate.tot x:=by
 rw [led_tot,led_tot]
 show X.1.length+totE rAcct X.1+(X.2.1.length+totE rRest X.2.1+(X.2.2.1.size+((X.2.2.2.1++[x]).length+totE rRate (X.2.2.2.1++[x])+0)))=_
 rw [totE_snoc,List.length_append,List.length_singleton]; omega
theorem step_a (X:DLedger) (x:DAcct):rLedger.tot (stepL X (.a x))=rLedger.tot X+1+rAcct.tot x:=by
 rw [led_tot,led_tot]
 show(X.1++[x]).length+totE rAcct (X.1++[x])+(X.2.1.length+totE rRest X.2.1+(X.2.2.1.size+(X.2.2.2.1.length+totE rRate X.2.2.2.1+0)))=_
 rw [totE_snoc,List.length_append,List.length_singleton]; omega
theorem step_x (X:DLedger) (x:DRest):rLedger.tot (stepL X (.x x))=rLedger.tot X+1+rRest.tot x:=by
 rw [led_tot,led_tot]
 show X.1.length+totE rAcct X.1+((X.2.1++[x]).length+totE rRest (X.2.1++[x])+(X.2.2.1.size+(X.2.2.2.1.length+totE rRate X.2.2.2.1+0)))=_
 rw [totE_snoc,List.length_append,List.length_singleton]; omega
theorem step_p (X:DLedger) (x:ByteArray):rLedger.tot (stepL X (.p x))≤rLedger.tot X+x.size:=by
 rw [led_tot,led_tot]
 show X.1.length+totE rAcct X.1+(X.2.1.length+totE rRest X.2.1+(x.size+(X.2.2.2.1.length+totE rRate X.2.2.2.1+0)))≤_
 omega
abbrev kwP:List UInt8:=[112,105,118,111,116]
abbrev kwR:List UInt8:=[114,97,116,101]
abbrev kwA:List UInt8:=[97,99,99,116]
abbrev kwX:List UInt8:=[114,101,115,116]
def lnK:LnD→List UInt8
 | .p _=>kwP
 | .r _=>kwR
 | .a _=>kwA
 | .x _=>kwX
noncomputable def lnB:LnD→List UInt8
 | .p x=>bl x
 | .r x=>bl (rateT x)
 | .a x=>bl x.1++32 :: bl (moneyT x.2.1 x.2.2.1 x.2.2.2.1)
 | .x x=>bl (restX x)
theorem lnT_bl (it:LnD):bl (lnT it)=lnK it++32 :: lnB it:=by
 cases it with
 | p x=>show bl (_++x)=_; rw [bl_append]; rfl
 | r x=>show bl (_++rateT x)=_; rw [bl_append]; rfl
 | a x =>
  show bl (((_++x.1)++_)++moneyT x.2.1 x.2.2.1 x.2.2.2.1)=_
  rw [bl_append,bl_append,bl_append]
  show((_++bl x.1)++[32])++_=_
  simp [lnK,lnB,kwA,bl]
 | x x =>
  show bl (((_++x.1)++_)++ratX x.2)=_
  rw [bl_append,bl_append,bl_append]
  show((_++bl x.1)++[32])++_=_++32 :: bl (restX x)
  rw [restX_bl]
  simp [lnK,kwX,bl]
theorem lnK_no:∀ it:LnD,(32:UInt8) ∉ lnK it
 | .p _=>(by decide:(32:UInt8) ∉ kwP)
 | .r _=>(by decide:(32:UInt8) ∉ kwR)
 | .a _=>(by decide:(32:UInt8) ∉ kwA)
 | .x _=>(by decide:(32:UInt8) ∉ kwX)
theorem lnT_cut (it:LnD):Go.Lib.cut (bl (lnT it)) [32]=(lnK it,lnB it,true):=by
 rw [lnT_bl]; exact cut_one (lnK_no it)
theorem kw_eq {p k:List UInt8}:((ofL p).toList == (⟨⟨k⟩⟩:ByteArray).toList)=true↔p=k:=by
 rw [text_eq]
 constructor
 ·intro h
  have:=congrArg bl h
  rw [bl_of] at this
  exact this
 ·rintro rfl; rfl
theorem kw_ne {p k:List UInt8} (h:((ofL p).toList == (⟨⟨k⟩⟩:ByteArray).toList)=false):p≠k:=fun e=>by
 rw [kw_eq.2 e] at h; cases h
abbrev RlPost (V0:Know) (b:Nat) (X:DLedger) (line:ByteArray):Know→Value→Prop:=fun V' r=>∃ ok,r=.bool ok∧V0.le V' ∧
 (ok=true→∃ X',Lb V0 V' b X'∧rLedger.tot X'≤rLedger.tot X+line.size∧∀ it,LnP it→lnT it=line→X'=stepL X it)∧∀ it,LnP it→lnT it=line→ok=true
theorem ld0 {V:Know} {b:Nat} {cs:List Value} {t:KTy} (h:V b=some (cs,t)) (k n:Nat):loadV V ((⟨b,0,none⟩:Addr).add k) n=cutv cs k n:=by
 simp only [addr_add_eq,loadV,h,Nat.zero_add]
theorem ld00 {V:Know} {b:Nat} {cs:List Value} {t:KTy} (h:V b=some (cs,t)) (k j n:Nat):loadV V (((⟨b,0,none⟩:Addr).add k).add j) n=cutv cs (k+j) n:=by
 simp only [addr_add_eq,loadV,h,Nat.zero_add]
theorem own_r {V0 V:Know} {b:Nat} {fA fX fR:List Nat}:Own V0 V (b :: (fA++(fX++fR)))↔Own V0 V ((b :: (fA++fX))++fR):=by
 rw [List.cons_append,List.append_assoc]
theorem own_a {V0 V:Know} {b:Nat} {fA fX fR:List Nat} (h:Own V0 V (b :: (fA++(fX++fR)))):Own V0 V ((b :: (fX++fR))++fA) :=
 h.perm (by rw [List.cons_append]; exact List.Perm.cons _ List.perm_append_comm)
theorem own_a' {V0 V:Know} {b:Nat} {fA fX fR:List Nat} (h:Own V0 V ((b :: (fX++fR))++fA)):Own V0 V (b :: (fA++(fX++fR))) :=
 h.perm (by rw [List.cons_append]; exact List.Perm.cons _ List.perm_append_comm)
theorem own_x {V0 V:Know} {b:Nat} {fA fX fR:List Nat} (h:Own V0 V (b :: (fA++(fX++fR)))):Own V0 V ((b :: (fA++fR))++fX) :=
 h.perm (by rw [List.cons_append,List.append_assoc]; exact List.Perm.cons _ (List.Perm.append_left _ List.perm_append_comm))
theorem own_x' {V0 V:Know} {b:Nat} {fA fX fR:List Nat} (h:Own V0 V ((b :: (fA++fR))++fX)):Own V0 V (b :: (fA++(fX++fR))) :=
 h.perm (by rw [List.cons_append,List.append_assoc]; exact List.Perm.cons _ (List.Perm.append_left _ List.perm_append_comm))
theorem own_more {V0 V V1:Know} {F f:List Nat} (h:Own V0 V F) (k:Own V V1 f) (le0:V0.le V) (le1:V.le V1):Own V0 V1 (F++f):=h.append k le0 le1
theorem cI_readLine {V0 V:Know} {b:Nat} {X:DLedger} (hV:HrI V0) (hb:Lb V0 V b X) (line:ByteArray) (hs:line.size≤1048576) (ht:rLedger.tot X≤1048576) :
  CallX Tryz.prog V 71 [.pointer (some ⟨b,0,none⟩),.string line] (RlPost V0 b X line):=by
 refine CallX.of_fits Tryz.mix (fI_readLine _ _) fun _=>?_
 simp only [tI_readLine,ap_d,T.wp]
 obtain⟨le0,sA,sX,sR,fA,fX,fR,hcb,⟨GA,GX,GR'⟩,hO⟩:=hb
 have htl:=led_tot X
 refine(cX_Cut (hV.le le0).2 line ⟨#[32]⟩ hs).mono ?_
 rintro V1 _ ⟨rfl,rfl⟩
 have hb32:bl (⟨#[32]⟩:ByteArray)=[32]:=rfl
 have key:∀ it,LnP it→lnT it=line→Go.Lib.cut (bl line) (bl (⟨#[32]⟩:ByteArray))=(lnK it,lnB it,true):=fun it _ e=>by
  rw [← e,hb32]; exact lnT_cut it
 have hsum:=cut_sum (bl line) (bl (⟨#[32]⟩:ByteArray))
 rw [bl_len] at hsum
 revert hsum key
 generalize Go.Lib.cut (bl line) (bl (⟨#[32]⟩:ByteArray))=p
 obtain⟨p1,p2,p3⟩:=p
 intro key hsum
 replace hsum:p1.length+p2.length≤line.size:=hsum
 have kw:∀ it,LnP it→lnT it=line→p1=lnK it∧p2=lnB it:=fun it a e=>by
  have:=key it a e
  simp only [Prod.mk.injEq] at this
  exact⟨this.1,this.2.1⟩
 have hp2:(ofL p2).size=p2.length:=of_size p2
 refine⟨nofun,(ofL p1,ofL p2,p3,()),rfl,fun hP=>?_,fun hP=>⟨fun hR=>?_,fun hR=>⟨fun hA=>?_,fun hA=>⟨fun hX=>?_,fun hX=>?_⟩⟩⟩⟩
 · -- pivot
  have e1:p1=kwP:=kw_eq.1 hP
  refine⟨_,_,rfl,hcb,(by decide:2+1≤4),?_⟩
  obtain⟨q1,q2,q3⟩:=own_put (y:=lcells sA sX (ofL p2) sR) (t:=ldL) le0 hO
  refine⟨true,rfl,q1,fun _=>⟨stepL X (.p (ofL p2)),⟨q1,sA,sX,sR,fA,fX,fR,kset_same,Ls.loc ⟨GA,GX,GR'⟩ q3,q2⟩,?_,fun it a e=>?_⟩,fun _ _ _=>rfl⟩
  ·have:=step_p X (ofL p2)
   omega
  ·obtain⟨k1,k2⟩:=kw it a e
   rw [e1] at k1
   cases it with
   | p x=>rw [k2]; show stepL X (.p (ofL (bl x)))=_; rw [of_bl]
   | r x=>exact absurd k1 (by show ¬ kwP=kwR; decide)
   | a x=>exact absurd k1 (by show ¬ kwP=kwA; decide)
   | x x=>exact absurd k1 (by show ¬ kwP=kwX; decide)
 · -- rate
  have e1:p1=kwR:=kw_eq.1 hR
  rw [e1] at hsum
  replace hsum:4+p2.length≤line.size:=hsum
  refine(cI_TextRate (hV.le le0).1 (ofL p2) (by omega)).mono ?_
  rintro V2 _ ⟨le2,x,t,f,ok,rfl,L2,O2,hz,hc⟩
  have leA:=le0.trans le2
  have hcb2:=le2 _ _ hcb
  have hO2:=own_more (own_r.1 hO) O2 le0 le2
  rw [List.append_assoc] at hO2
  refine⟨nofun,((x.1,x.2.1,x.2.2.1,t,x.2.2.2.2.1,()),ok,()),rfl,sR,(ld00 hcb2 2 1 1).trans rfl,rfl,rfl,?_⟩
  have hrow:rRate.R V2 (x.1,x.2.1,x.2.2.1,t,x.2.2.2.2.1,()) x f:=⟨⟨rfl,by omega⟩,⟨rfl,by omega⟩,rfl,f,[],(List.append_nil f).symm,L2,rfl,rfl⟩
  refine ap_among (r:=rRate) (c:=(x.1,x.2.1,x.2.2.1,t,x.2.2.2.2.1,())) (x:=x) (g:=b :: (fA++fX)) (GR'.le le2) hrow hO2 leA (by kernel_rfl) (by omega) (by omega) fun s3 V3 f3 G3 O3 le3 hg=>?_
  have hcb3:V3 b=_:=(hg b (by simp)).trans hcb2
  refine⟨_,_,rfl,hcb3,(by decide:3+1≤4),?_⟩
  rw [← own_r] at O3
  obtain⟨q1,q2,q3⟩:=own_put (y:=lcells sA sX X.2.2.1 s3) (t:=ldL) le3 O3
  refine⟨ok,rfl,q1,fun _=>⟨stepL X (.r x),⟨q1,sA,sX,s3,fA,fX,f3,kset_same,Ls.loc (V:=V3) ⟨(GA.le le2).loc fun y hy=>hg y (by simp [hy]),(GX.le le2).loc fun y hy=>hg y (by simp [hy]),G3⟩ q3,q2⟩,?_,fun it a e=>?_⟩,fun it a e=>?_⟩
  ·rw [step_r,qrate_tot]
   omega
  ·obtain⟨k1,k2⟩:=kw it a e
   rw [e1] at k1
   cases it with
   | p x=>exact absurd k1 (by show ¬ kwR=kwP; decide)
   | r y =>
    obtain⟨_,rfl⟩:=hc y a (by rw [k2]; exact(of_bl _).symm)
    rfl
   | a x=>exact absurd k1 (by show ¬ kwR=kwA; decide)
   | x x=>exact absurd k1 (by show ¬ kwR=kwX; decide)
  ·obtain⟨k1,k2⟩:=kw it a e
   rw [e1] at k1
   cases it with
   | p x=>exact absurd k1 (by show ¬ kwR=kwP; decide)
   | r y=>exact(hc y a (by rw [k2]; exact(of_bl _).symm)).1
   | a x=>exact absurd k1 (by show ¬ kwR=kwA; decide)
   | x x=>exact absurd k1 (by show ¬ kwR=kwX; decide)
 · -- acct
  have e1:p1=kwA:=kw_eq.1 hA
  rw [e1] at hsum
  replace hsum:4+p2.length≤line.size:=hsum
  refine(cX_Cut (hV.le le0).2 (ofL p2) ⟨#[32]⟩ (by omega)).mono ?_
  rintro V2 _ ⟨rfl,rfl⟩
  have key2:∀ x:DAcct,WordP x.1→p2=lnB (.a x)→Go.Lib.cut (bl (ofL p2)) (bl (⟨#[32]⟩:ByteArray))=(bl x.1,bl (moneyT x.2.1 x.2.2.1 x.2.2.2.1),true):=fun x hw e=>by
   rw [bl_of,e,hb32]; exact cut_one (word_no10 hw (by decide))
  have hsum2:=cut_sum (bl (ofL p2)) (bl (⟨#[32]⟩:ByteArray))
  rw [bl_len,hp2] at hsum2
  revert hsum2 key2
  generalize Go.Lib.cut (bl (ofL p2)) (bl (⟨#[32]⟩:ByteArray))=q
  obtain⟨q1,q2,q3⟩:=q
  intro key2 hsum2
  replace hsum2:q1.length+q2.length≤p2.length:=hsum2
  have hq1:(ofL q1).size=q1.length:=of_size q1
  have hq2:(ofL q2).size=q2.length:=of_size q2
  refine⟨nofun,(ofL q1,ofL q2,q3,()),rfl,(cI_TextMoney (hV.le le0).1 (ofL q2) (by omega)).mono ?_⟩
  rintro V2 _ ⟨le2,c,n,t,o,f,ok,rfl,L2,O2,hz,hc⟩
  have leA:=le0.trans le2
  have hcb2:=le2 _ _ hcb
  have hO2:=own_more (own_a hO) O2 le0 le2
  rw [List.append_assoc] at hO2
  refine⟨nofun,((c,n,t,()),ok,()),rfl,sA,(ld00 hcb2 0 0 1).trans rfl,rfl,rfl,?_⟩
  have hrow:rAcct.R V2 (ofL q1,c,n,t,()) (ofL q1,c,n,o,()) f:=⟨⟨rfl,by show(ofL q1).size≤_; omega⟩,⟨rfl,by show c.size≤_; omega⟩,rfl,f,[],(List.append_nil f).symm,L2,rfl⟩
  refine ap_among (r:=rAcct) (c:=(ofL q1,c,n,t,())) (x:=(ofL q1,c,n,o,())) (g:=b :: (fX++fR)) (GA.le le2) hrow hO2 leA (by kernel_rfl) (by omega) (by omega) fun s3 V3 f3 G3 O3 le3 hg=>?_
  have hcb3:V3 b=_:=(hg b (by simp)).trans hcb2
  refine⟨_,_,rfl,hcb3,(by decide:0+1≤4),?_⟩
  obtain⟨q1',q2',q3'⟩:=own_put (y:=lcells s3 sX X.2.2.1 sR) (t:=ldL) le3 (own_a' O3)
  have dn:∀ it,LnP it→lnT it=line→ok=true∧stepL X (.a (ofL q1,c,n,o,()))=stepL X it:=fun it a e=>by
   obtain⟨k1,k2⟩:=kw it a e
   rw [e1] at k1
   cases it with
   | p x=>exact absurd k1 (by show ¬ kwA=kwP; decide)
   | r y=>exact absurd k1 (by show ¬ kwA=kwR; decide)
   | a y =>
    have:=key2 y a.1 k2
    simp only [Prod.mk.injEq] at this
    obtain⟨rfl,rfl,_⟩:=this
    obtain⟨j1,j2,j3,j4⟩:=hc y.2.1 y.2.2.1 y.2.2.2.1 a.2 (of_bl _).symm
    refine⟨j1,?_⟩
    obtain⟨y0,y1,y2,y3,yu⟩:=y
    subst j2 j3 j4
    rw [of_bl]
   | x x=>exact absurd k1 (by show ¬ kwA=kwX; decide)
  refine⟨ok,rfl,q1',fun _=>⟨stepL X (.a (ofL q1,c,n,o,())),⟨q1',s3,sX,sR,f3,fX,fR,kset_same,Ls.loc (V:=V3) ⟨G3,(GX.le le2).loc fun y hy=>hg y (by simp [hy]),(GR'.le le2).loc fun y hy=>hg y (by simp [hy])⟩ q3',q2'⟩,?_,fun it a e=>(dn it a e).2⟩,fun it a e=>(dn it a e).1⟩
  rw [step_a,qacct_tot]
  show rLedger.tot X+1+((ofL q1).size+c.size+o.length)≤_
  omega
 · -- rest
  have e1:p1=kwX:=kw_eq.1 hX
  rw [e1] at hsum
  replace hsum:4+p2.length≤line.size:=hsum
  refine(cI_textRest2 (hV.le le0) (ofL p2) (by omega)).mono ?_
  rintro V2 _ ⟨le2,⟨c0,c1,c2,c3,cu⟩,x,f,ok,rfl,R2,O2,hz,hc⟩
  have leA:=le0.trans le2
  have hcb2:=le2 _ _ hcb
  have hO2:=own_more (own_x hO) O2 le0 le2
  rw [List.append_assoc] at hO2
  refine⟨nofun,((c0,c1,c2,c3,()),ok,()),rfl,sX,(ld0 hcb2 1 1).trans rfl,rfl,rfl,?_⟩
  refine ap_among (r:=rRest) (c:=(c0,c1,c2,c3,())) (x:=x) (g:=b :: (fA++fR)) (GX.le le2) R2 hO2 leA (by kernel_rfl) (by omega) (by omega) fun s3 V3 f3 G3 O3 le3 hg=>?_
  have hcb3:V3 b=_:=(hg b (by simp)).trans hcb2
  refine⟨_,_,rfl,hcb3,(by decide:1+1≤4),?_⟩
  obtain⟨q1',q2',q3'⟩:=own_put (y:=lcells sA s3 X.2.2.1 sR) (t:=ldL) le3 (own_x' O3)
  have dn:∀ it,LnP it→lnT it=line→ok=true∧stepL X (.x x)=stepL X it:=fun it a e=>by
   obtain⟨k1,k2⟩:=kw it a e
   rw [e1] at k1
   cases it with
   | p x=>exact absurd k1 (by show ¬ kwX=kwP; decide)
   | r y=>exact absurd k1 (by show ¬ kwX=kwR; decide)
   | a x=>exact absurd k1 (by show ¬ kwX=kwA; decide)
   | x y =>
    obtain⟨j1,rfl⟩:=hc y a (by rw [k2]; exact(of_bl _).symm)
    exact⟨j1,rfl⟩
  refine⟨ok,rfl,q1',fun hok=>⟨stepL X (.x x),⟨q1',sA,s3,sR,fA,f3,fR,kset_same,Ls.loc (V:=V3) ⟨(GA.le le2).loc fun y hy=>hg y (by simp [hy]),G3,(GR'.le le2).loc fun y hy=>hg y (by simp [hy])⟩ q3',q2'⟩,?_,fun it a e=>(dn it a e).2⟩,fun it a e=>(dn it a e).1⟩
  rw [step_x,qrest_tot]
  have:=hz hok
  omega
 ·refine⟨false,rfl,le0,nofun,fun it a e=>?_⟩
  exfalso
  obtain⟨k1,_⟩:=kw it a e
  cases it with
  | p x=>exact kw_ne hP k1
  | r x=>exact kw_ne hR k1
  | a x=>exact kw_ne hA k1
  | x x=>exact kw_ne hX k1
end Go.Proofs.YtagkjnpggkmehaaGreatDoor
