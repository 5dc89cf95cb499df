/-
  Texts of the fields of commands: names, weights, percents; in the program and in the reference.
-/
import Derived.Test.YtpdfdkccgkieoaaGreatDoorCmdC
import Derived.Test.YtpdfdkccgkieoaaGreatDoorTxt
import Derived.Test.YtpdfdkccgkieoaaGreatDoorStr
import Derived.Lib.Join
namespace Go.Proofs.YtpdfdkccgkieoaaGreatDoor
open Sx Go.RowKit
set_option maxRecDepth 100000
def places (x:ByteArray):Int:=(curRowOf x).2.2.1
theorem places_bd (x:ByteArray):0≤places x∧places x≤4:=by
 unfold places curRowOf
 cases h:curFrom curI x 0 with
 | none=>exact⟨by decide,by decide⟩
 | some r =>
  have hm:r∈curI:=List.mem_of_find?_eq_some h
  have:∀ r∈curI,0≤r.2.2.1∧r.2.2.1≤4:=by decide +kernel
  exact this r hm
theorem known_size {x:ByteArray} (h:known x=true):x.size=3:=by
 unfold known at h
 cases h2:curFrom curI x 0 with
 | none=>rw [h2] at h; cases h
 | some r =>
  have hm:r∈curI:=List.mem_of_find?_eq_some h2
  have hx:(r.1.toList == x.toList)=true:=List.find?_some (p:=curHas x) h2
  have:∀ r∈curI,r.1.size=3:=by decide +kernel
  rw [← text_eq.1 hx]
  exact this r hm
theorem cI_CurPlaces {V:Know} (hV:HtI V) (x:ByteArray):CallX Tryz.prog V 139 [.string x] (fun V' r=>V.le V'∧r=.int .i64 (places x)):=by
 refine CallX.of_fits Tryz.mix (fI_CurPlaces _) fun _=>?_
 simp only [tI_CurPlaces,T.wp]
 refine(cI_currencyOf hV.1 x).mono ?_
 rintro V1 _ ⟨rfl,rfl⟩
 exact⟨nofun,(curRowOf x,known x,()),rfl,Know.le.refl _,rfl⟩
noncomputable def moneyT (cur:ByteArray) (neg:Bool) (l:List Lim):ByteArray:=(cur++(⟨#[32]⟩:ByteArray))++decT neg l (places cur)
def rateT (r:DRate):ByteArray:=(((r.1++(⟨#[32]⟩:ByteArray))++r.2.1)++(⟨#[32]⟩:ByteArray))++decT r.2.2.1 r.2.2.2.1 r.2.2.2.2.1
theorem moneyT_size {cur:ByteArray} {neg:Bool} {l:List Lim} (h:MoneyOkP cur neg l):(moneyT cur neg l).size≤2200:=by
 have h1:=decT_size (neg:=neg) (sc:=places cur) h.2.1.1.1.1
 have h2:=known_size h.1
 have l1:=h.2.2
 unfold moneyT
 rw [ByteArray.size_append,ByteArray.size_append]
 show _+1+_≤_
 omega
theorem rateT_size {r:DRate} (h:RateOkP r):(rateT r).size≤2200:=by
 have h1:=decT_size (neg:=r.2.2.1) (sc:=r.2.2.2.2.1) h.2.2.2.1.1.1.1.1
 have h2:=known_size h.1
 have h3:=known_size h.2.1
 have l1:=h.2.2.2.1.2.1
 unfold rateT
 rw [ByteArray.size_append,ByteArray.size_append,ByteArray.size_append,ByteArray.size_append]
 show _+1+_+1+_≤_
 omega
theorem cI_MoneyOkH {V:Know} (hV:HtI V) (c0:ByteArray) (c1:Bool) (c2:SlV) (l:List Lim) (f:List Nat) (h:LR rI V c2 l f):CallX Tryz.prog V 74 [qv2 (c0,c1,c2,())] (fun V' r=>V.le V'∧∃ e,r=.bool e∧(e=true↔MoneyOkP c0 c1 l)):=cI_MoneyOk hV.1 c0 c1 c2 l f h
theorem cI_MoneyText {V:Know} (hV:HtI V) (c0:ByteArray) (c1:Bool) (c2:SlV) (l:List Lim) (f:List Nat) (h:LR rI V c2 l f) (hz:c0.size≤1048576) :
  CallX Tryz.prog V 88 [qv2 (c0,c1,c2,())] (TxPost V (okT (MoneyOkP c0 c1 l) (moneyT c0 c1 l))):=by
 refine CallX.of_fits Tryz.mix (fI_MoneyText _) fun _=>?_
 simp only [tI_MoneyText,T.wp]
 refine(cI_MoneyOkH hV c0 c1 c2 l f h).mono ?_
 rintro V1 r ⟨le1,e,rfl,he⟩
 refine⟨nofun,e,rfl,fun hf=>⟨le1,by rw [okT_neg (fun k=>by rw [he.2 k] at hf; cases hf)]; rfl⟩,fun ht=>?_⟩
 have ok:=he.1 (by simpa using ht)
 rw [okT_pos ok]
 refine⟨by show ByteArray.size c0+1≤_; omega,(cI_CurPlaces (hV.le le1) c0).mono ?_⟩
 rintro V2 _ ⟨le2,rfl⟩
 have l2:=le1.trans le2
 have hp:=places_bd c0
 refine⟨fun _=>le2,_,rfl,(cI_DecText (hV.le l2) c1 c2 (places c0) l f (h.le l2)).mono ?_⟩
 rintro V3 _ ⟨le3,rfl⟩
 have dok:DecOkP c1 l (places c0):=⟨ok.2.1,by have:=ok.2.2; omega,hp.1,by omega⟩
 rw [okT_pos dok]
 have hs:=decT_size (neg:=c1) (sc:=places c0) ok.2.1.1.1.1
 have h4:=ok.2.2
 refine⟨fun _=>le3,_,rfl,?_,l2.trans le3,rfl⟩
 rw [ByteArray.size_append]
 show ByteArray.size c0+1+(decT c1 l (places c0)).size≤_
 omega
theorem cI_RateText {V:Know} (hV:HtI V) (x:DRate) (s:SlV) (f:List Nat) (h:LR rI V s x.2.2.2.1 f) :
  CallX Tryz.prog V 92 [qv6 (x.1,x.2.1,x.2.2.1,s,x.2.2.2.2.1,())] (TxPost V (okT (RateOkP x) (rateT x))):=by
 refine CallX.of_fits Tryz.mix (fI_RateText _) fun _=>?_
 simp only [tI_RateText,T.wp]
 refine(cI_RateOk hV.c x s f h).mono ?_
 rintro V1 r ⟨le1,e,rfl,he⟩
 refine⟨nofun,e,rfl,fun hf=>⟨le1,by rw [okT_neg (fun k=>by rw [he.2 k] at hf; cases hf)]; rfl⟩,fun ht=>?_⟩
 have ok:=he.1 (by simpa using ht)
 rw [okT_pos ok]
 have k1:=known_size ok.1
 have k2:=known_size ok.2.1
 have hs:=decT_size (neg:=x.2.2.1) (sc:=x.2.2.2.2.1) ok.2.2.2.1.1.1.1.1
 have h4:=ok.2.2.2.1.2.1
 refine⟨by show ByteArray.size x.1+1≤_; omega,?_,?_,?_⟩
 ·rw [ByteArray.size_append]
  show ByteArray.size x.1+1+ByteArray.size x.2.1≤_
  omega
 ·rw [ByteArray.size_append,ByteArray.size_append]
  show ByteArray.size x.1+1+ByteArray.size x.2.1+1≤_
  omega
 refine(cI_DecText (hV.le le1) x.2.2.1 s x.2.2.2.2.1 x.2.2.2.1 f (h.le le1)).mono ?_
 rintro V3 _ ⟨le3,rfl⟩
 rw [okT_pos ok.2.2.2.1]
 refine⟨fun _=>le3,_,rfl,?_,le1.trans le3,rfl⟩
 rw [ByteArray.size_append,ByteArray.size_append,ByteArray.size_append]
 show ByteArray.size x.1+1+ByteArray.size x.2.1+1+(decT x.2.2.1 x.2.2.2.1 x.2.2.2.2.1).size≤_
 omega
end Go.Proofs.YtpdfdkccgkieoaaGreatDoor
namespace Go.Proofs.YtpdfdkccgkieoaaGreatDoor
open Sx
set_option maxRecDepth 100000
abbrev Tx:Type:=ByteArray × Unit
def bytesL (l:List Tx):List (List UInt8):=l.map fun x=>x.1.data.toList
def joinT (l:List Tx) (by':ByteArray):ByteArray:=⟨(Go.Lib.join (bytesL l) by'.data.toList).toArray⟩
def sumT (l:List Tx):Nat:=Go.Lib.lens (bytesL l)
theorem ba_mk (x:ByteArray):(⟨x.data.toList.toArray⟩:ByteArray)=x:=by simp
theorem joinT_one (x:Tx) (b:ByteArray):joinT [x] b=x.1:=by
 unfold joinT bytesL
 rw [List.map_cons,List.map_nil,Go.Lib.join_one]
theorem joinT_snoc {l:List Tx} (h:l≠[]) (x:Tx) (b:ByteArray):joinT (l++[x]) b=joinT l b++b++x.1:=by
 cases l with
 | nil=>exact absurd rfl h
 | cons a r =>
  have e:Go.Lib.join (bytesL (a :: r++[x])) b.data.toList=Go.Lib.join (bytesL (a :: r)) b.data.toList++b.data.toList++x.1.data.toList:=by
   unfold bytesL
   rw [List.cons_append,List.map_cons,List.map_cons,Go.Lib.join_cons,Go.Lib.join_cons,List.map_append]
   simp [Go.Lib.joinTail]
  unfold joinT
  rw [e,← ba_append,← ba_append,ba_mk,ba_mk]
theorem sumT_cons (l:List Tx) (x:Tx):sumT (x :: l)=x.1.size+sumT l:=by
 unfold sumT bytesL Go.Lib.lens
 simp
theorem sumT_le {B:Nat}:∀ (l:List Tx),(∀ x∈l,x.1.size≤B)→sumT l≤B*l.length
 | [],_=>Nat.le_refl _
 | x :: l,h=>by
  have h1:=sumT_le l fun y hy=>h y (by simp [hy])
  have h2:=h x (by simp)
  rw [sumT_cons,List.length_cons,Nat.mul_add]
  omega
theorem joinT_size (l:List Tx) (b:ByteArray):(joinT l b).size≤sumT l+l.length*b.size:=by
 cases l with
 | nil=>exact Nat.zero_le _
 | cons a r =>
  have e:(joinT (a :: r) b).size=(Go.Lib.join (bytesL (a :: r)) b.data.toList).length:=by
   show(Go.Lib.join (bytesL (a :: r)) b.data.toList).toArray.size=_
   simp
  rw [e]
  unfold bytesL
  rw [List.map_cons,Go.Lib.join_length,List.length_map,List.length_cons]
  have h1:b.data.toList.length=b.size:=by
   show b.data.toList.length=b.data.size
   simp
  have h2:sumT (a :: r)=Go.Lib.lens (a.1.data.toList :: List.map (fun x=>x.1.data.toList) r):=rfl
  rw [h1,h2,Nat.add_mul,Nat.mul_comm r.length]
  omega
end Go.Proofs.YtpdfdkccgkieoaaGreatDoor
namespace Go.Proofs.YtpdfdkccgkieoaaGreatDoor
open Sx Go.RowKit
set_option maxRecDepth 100000
def cellT (x:Tx):Value:=.string x.1
theorem els_txt {V:Know}:∀ o:List Tx,(∀ x∈o,x.1.size≤9223372036854775807)→Els rString V o o []
 | [],_=>rfl
 | x :: o,h=>⟨[],[],rfl,⟨⟨rfl,h x (by simp)⟩,rfl⟩,els_txt o fun y hy=>h y (by simp [hy])⟩
theorem els_txt_eq {V:Know}:∀ {cs l:List Tx} {f:List Nat},Els rString V cs l f→cs=l∧f=[]
 | [],[],_,h=>⟨rfl,h⟩
 | (c,()) :: cs,(x,()) :: l,_,⟨f,g,rfl,h1,h2⟩=>by
  obtain⟨rfl,rfl⟩:=els_txt_eq h2
  have e1:c=x:=h1.1.1
  have e2:f=[]:=h1.2
  subst e1; subst e2
  exact⟨rfl,rfl⟩
theorem flat_txt:∀ o:List Tx,o.flatMap (Scs.vals [.s])=o.map cellT
 | []=>rfl
 | x :: o=>by rw [List.flatMap_cons,flat_txt o]; rfl
theorem newT {V:Know} {b cap:Nat} {o:List Tx} {spare:List Value} {t:TypeId} (hb:V b=none) (hc:o.length≤cap) (hl:o.length≤9223372036854775807) (hz:∀ x∈o,x.1.size≤9223372036854775807) :
  LR rString (kset V b (o.map cellT++spare,(t,(0,0)))) ⟨some ⟨b,0,none⟩,o.length,cap⟩ o [b]∧Own V (kset V b (o.map cellT++spare,(t,(0,0)))) [b]:=by
 refine⟨⟨rfl,hc,hl,.inr ⟨b,[],spare,(t,(0,0)),[],o,rfl,?_,els_txt o hz,rfl⟩⟩,by simp,?_,?_⟩
 ·rw [kset_same,flat_txt]; rfl
 ·intro b' hb'; simp at hb'; subst hb'; exact hb
 ·intro b' hb'; simp at hb'; subst hb'; exact⟨_,_,kset_same⟩
theorem txt_obj {pre post:List Value} {cs:List Tx} {t:KTy} {x:Tx} (hx:x∈cs):objOf (pre++(cs.map cellT++post)) t=.cells (pre++(cs.map cellT++post)).toArray t.1 t.2:=by
 unfold objOf
 split
 ·rename_i es he
  exfalso
  have hm:cellT x∈pre++(cs.map cellT++post):=List.mem_append.2 (.inr (List.mem_append.2 (.inl (List.mem_map_of_mem hx))))
  rw [he] at hm
  simp [cellT] at hm
 ·rfl
theorem cI_SJoin (V:Know) (s:SlV) (l:List Tx) (f:List Nat) (b:ByteArray) (h:LR rString V s l f) (hs:sumT l+l.length*b.size≤1099511627776) (hl:l.length≤1099511627776) :
  CallX Tryz.prog V 93 [Sc.val .l s,.string b] (fun V' r=>V'=V∧r=.string (joinT l b)):=by
 have he:Sx.Enters Tryz.prog 93:=⟨_,Tryz.func93,by kernel_rfl,by kernel_rfl⟩
 obtain⟨hn,hc,h63,⟨h0,_,_⟩ | ⟨bk,pre,post,t,fps,cs,ha,hV,hE,_⟩⟩:=h
 ·have:l=[]:=List.eq_nil_of_length_eq_zero (by omega)
  subst this
  refine CallX.of_calls he fun w _=>?_
  have k:=Tryz.strings_Join_none s.a s.c b w
  have e:([Sc.val .l s,.string b]:List Value).toArray=#[.slice s.a 0 s.c,.string b]:=by
   show #[Value.slice s.a s.n s.c,_]=_
   rw [h0]
  rw [e]
  refine k.mono ?_
  rintro e w' ⟨rfl,rfl⟩
  exact⟨rfl,Below.refl _ _⟩
 ·obtain⟨rfl,_⟩:=els_txt_eq hE
  rw [flat_txt] at hV
  by_cases hemp:cs=[]
  ·subst hemp
   refine CallX.of_calls he fun w _=>?_
   have k:=Tryz.strings_Join_none s.a s.c b w
   have h0:s.n=0:=hn
   have e:([Sc.val .l s,.string b]:List Value).toArray=#[.slice s.a 0 s.c,.string b]:=by
    show #[Value.slice s.a s.n s.c,_]=_
    rw [h0]
   rw [e]
   refine k.mono ?_
   rintro e w' ⟨rfl,rfl⟩
   exact⟨rfl,Below.refl _ _⟩
  refine CallX.of_calls he fun w hw=>?_
  have hw':=hw _ _ _ hV
  obtain⟨x0,hx0⟩:∃ x,x∈cs:=List.exists_mem_of_ne_nil cs hemp
  rw [txt_obj hx0] at hw'
  have hlt:bk<w.heap.size:=(Array.getElem?_eq_some_iff.1 hw').1
  have hj:=joinT_size cs b
  have hlen:(Go.Lib.join ((cs.map (·.1)).map (·.data.toList)) b.data.toList).length≤140737488355328:=by
   have e:(joinT cs b).size=(Go.Lib.join ((cs.map (·.1)).map (·.data.toList)) b.data.toList).length:=by
    show(Go.Lib.join (bytesL cs) b.data.toList).toArray.size=_
    rw [List.map_map]
    simp [bytesL]
    rfl
   rw [← e]
   omega
  have k:=Tryz.strings_Join bk pre.length s.c (cs.map (·.1)) b w (fun j x hx=>?_) hlt (by rw [List.length_map]; omega) (by rw [List.length_map]; omega) hlen
  ·have e:([Sc.val .l s,.string b]:List Value).toArray=#[.slice (some ⟨bk,pre.length,none⟩) (cs.map (·.1)).length s.c,.string b]:=by
    show #[Value.slice s.a s.n s.c,_]=_
    rw [ha,hn,List.length_map]
   rw [e]
   refine k.mono ?_
   rintro e w' ⟨rfl,hb⟩
   refine⟨?_,hb⟩
   have:joinT cs b=⟨(Go.Lib.join ((cs.map (·.1)).map (·.data.toList)) b.data.toList).toArray⟩:=by
    unfold joinT bytesL
    rw [List.map_map]
    rfl
   rw [this]
  ·unfold World.cell?
   rw [hw']
   have hjl:j<cs.length:=by
    by_cases q:j<cs.length
    ·exact q
    ·rw [List.getElem?_eq_none (by rw [List.length_map]; omega)] at hx; cases hx
   have hx':cs[j].1=x:=by
    rw [List.getElem?_map,List.getElem?_eq_getElem hjl] at hx
    simpa using hx
   have q:(pre++(cs.map cellT++post))[pre.length+j]?=some (.string x):=by
    rw [List.getElem?_append_right (by omega),Nat.add_sub_cancel_left,List.getElem?_append_left (by rw [List.length_map]; exact hjl),List.getElem?_map,List.getElem?_eq_getElem hjl]
    show some (Value.string cs[j].1)=_
    rw [hx']
   simpa using q
theorem cI_Join (V:Know) (s:SlV) (l:List Tx) (f:List Nat) (b:ByteArray) (h:LR rString V s l f) (hs:sumT l+l.length*b.size≤1099511627776) (hl:l.length≤1099511627776) :
  CallX Tryz.prog V 52 [Sc.val .l s,.string b] (fun V' r=>V'=V∧r=.string (joinT l b)):=by
 refine CallX.of_fits Tryz.mix (fI_Join _ _) fun _=>?_
 simp only [tI_Join,T.wp]
 refine(cI_SJoin V s l f b h hs hl).mono ?_
 rintro V1 r ⟨rfl,rfl⟩
 exact⟨nofun,_,rfl,by trivial,rfl⟩
end Go.Proofs.YtpdfdkccgkieoaaGreatDoor
namespace Go.Proofs.YtpdfdkccgkieoaaGreatDoor
open Sx Go.RowKit
set_option maxRecDepth 100000
def opL:List Tx:=[(⟨⟨[]⟩⟩,()),(⟨⟨[111,112,101,110]⟩⟩,()),(⟨⟨[112,117,116]⟩⟩,()),(⟨⟨[116,97,107,101]⟩⟩,()),(⟨⟨[109,111,118,101]⟩⟩,()),(⟨⟨[115,119,97,112]⟩⟩,()),(⟨⟨[100,101,97,108]⟩⟩,()),(⟨⟨[116,97,120]⟩⟩,()),(⟨⟨[99,97,115,104]⟩⟩,()),(⟨⟨[114,97,116,101]⟩⟩,())]
def opT (op:Int):ByteArray:=(opL.getD op.toNat (noT,())).1
theorem opT_size {op:Int} (h:1≤op∧op≤9):(opT op).size≤4:=by
 have:op=1∨op=2∨op=3∨op=4∨op=5∨op=6∨op=7∨op=8∨op=9:=by omega
 rcases this with rfl | rfl | rfl | rfl | rfl | rfl | rfl | rfl | rfl <;> decide
theorem opL_size:∀ x∈opL,x.1.size≤9223372036854775807:=by
 intro x hx
 have:x.1.size≤4:=by
  simp only [opL,List.mem_cons,List.not_mem_nil,or_false] at hx
  rcases hx with rfl | rfl | rfl | rfl | rfl | rfl | rfl | rfl | rfl | rfl <;> decide
 omega
theorem cI_nameAt (V:Know) (s:SlV) (l:List Tx) (f:List Nat) (i:Nat) (h:LR rString V s l f) (hi:i<l.length):CallX Tryz.prog V 45 [.int .i64 (i:Int),Sc.val .l s] (fun V' r=>V'=V∧r=.string l[i].1):=by
 refine CallX.of_fits Tryz.mix (fI_nameAt _ _) fun _=>?_
 simp only [tI_nameAt,T.wp]
 have hn:=h.1
 obtain⟨⟨b,o,a1,l1⟩,_⟩:=h.txt hi
 refine⟨fun h0=>?_,fun _=>⟨fun h0=>?_,fun _=>⟨_,a1,by omega,by omega,l[i].1,l1,by trivial,rfl⟩⟩⟩
 ·have:=of_decide_eq_true h0
  omega
 ·have:=of_decide_eq_true h0
  omega
theorem cI_OpName (V:Know) (op:Int) (h:1≤op∧op≤9):CallX Tryz.prog V 49 [.int .i64 op] (fun V' r=>V.le V'∧r=.string (opT op)):=by
 refine CallX.of_fits Tryz.mix (fI_OpName _) fun _=>?_
 simp only [tI_OpName,T.wp]
 intro b cap spare hb hc _
 have k:=newT (V:=V) (b:=b) (cap:=cap) (o:=opL) (spare:=spare) (t:=9) hb hc (by decide) opL_size
 have ei:op=((op.toNat:Nat):Int):=by omega
 have hi:op.toNat<opL.length:=by show op.toNat<10; omega
 have key:=cI_nameAt _ _ opL _ op.toNat k.1 hi
 rw [← ei] at key
 refine key.mono ?_
 rintro V1 _ ⟨rfl,rfl⟩
 refine⟨nofun,_,rfl,kset_le hb,?_⟩
 show Value.string _=Value.string _
 rw [opT,List.getD_eq_getElem?_getD,List.getElem?_eq_getElem hi]
 rfl
end Go.Proofs.YtpdfdkccgkieoaaGreatDoor
