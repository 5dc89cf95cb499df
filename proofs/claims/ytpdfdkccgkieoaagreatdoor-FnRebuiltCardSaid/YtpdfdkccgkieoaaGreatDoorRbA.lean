/-
  A counter that goroutines may share is counted up by one.
-/
import Derived.Test.YtpdfdkccgkieoaaGreatDoorRxT
import Derived.Test.YtpdfdkccgkieoaaGreatDoorRbM
import Derived.Test.YtpdfdkccgkieoaaGreatDoorCmdB
import Derived.Test.YtpdfdkccgkieoaaGreatDoorCmdU
import Derived.Test.YtpdfdkccgkieoaaGreatDoorTcY
import Derived.Test.YtpdfdkccgkieoaaGreatDoorPostX
import Derived.Laws.LoneSync
namespace Go.Proofs.YtpdfdkccgkieoaaGreatDoor
open Sx Go.RowKit
set_option maxRecDepth 100000
abbrev CmSh:List Sc:=[.i .i64,.s,.s,.s,.s,.s,.b,.l,.i .i64,.l,.l,.b,.l,.i .i64,.s,.s,.b,.l,.i .i64]
abbrev cm (op:Int) (a u mc:ByteArray) (mm:SlV) (pf pt:ByteArray) (pn:Bool) (pm:SlV) (ps:Int):Scs CmSh:=(op,a,noT,noT,u,mc,false,mm,0,nilS,nilS,false,nilS,0,pf,pt,pn,pm,ps,())
def opN:Ln→Int
 | .r _=>9
 | .o _=>1
 | .p a=>if a.2.2.1=true then 3 else 2
def magN:Ln→List Lim
 | .r x=>x.2.2.2.1
 | .o _=>[]
 | .p a=>a.2.2.2.1
def cells (s:SlV):Ln→Scs CmSh
 | .r x=>cm 9 noT noT noT nilS x.1 x.2.1 x.2.2.1 s x.2.2.2.2.1
 | .o a=>cm 1 a.1 a.2.1 noT nilS noT noT false nilS 0
 | .p a=>cm (opN (.p a)) a.1 noT a.2.1 s noT noT false nilS 0
theorem cells_op (s:SlV) (i:Ln):(cells s i).1=opN i:=by cases i <;> rfl
theorem opN_rng (i:Ln):1≤opN i∧opN i≤9:=by
 cases i with
 | r x=>show(1:Int)≤9∧(9:Int)≤9; decide
 | o a=>show(1:Int)≤1∧(1:Int)≤9; decide
 | p a=>unfold opN; dsimp only; split <;> decide
theorem fl_p (a:DAcct):fieldsL (opN (.p a))=[(0,()),(4,())]:=by unfold opN; dsimp only; split <;> rfl
theorem fl_r (x:DRate):fieldsL (opN (.r x))=[(8,())]:=rfl
theorem fl_o (a:DAcct):fieldsL (opN (.o a))=[(0,()),(3,())]:=rfl
theorem known_code {x:ByteArray} (h:known x=true):CodeP x:=by
 have:∀ y∈curI.map (·.1),y.size=3∧∀ i,i<3→65≤at0 y i∧at0 y i≤90:=by decide +kernel
 exact this x (known_mem h)
theorem tx_self (s:ByteArray):(s.toList == s.toList)=true:=text_eq.2 rfl
abbrev TruePost (V:Know):Know→Value→Prop:=fun V' r=>V.le V'∧r=.bool true
theorem cI_fzR {V:Know} {b:Nat} {t:KTy} {op:Int} {a u mc:ByteArray} {mm:SlV} {pf pt:ByteArray} {pn:Bool} {pm:SlV} {ps:Int} (hb:V b=some (Scs.vals CmSh (cm op a u mc mm pf pt pn pm ps),t)) (k:Int) (hk:0≤k∧k≤8)
  (h0:k=0→a=noT) (h3:k=3→u=noT) (h4:k=4→mc=noT∧mm=nilS) (h8:k=8→pf=noT∧pt=noT∧pn=false∧pm=nilS∧ps=0) :
  CallX Tryz.prog V 85 [.pointer (some ⟨b,0,none⟩),.int .i64 k] (TruePost V):=by
 refine CallX.of_fits Tryz.mix (fI_fieldZero _ _) fun _=>?_
 have le:=Know.le.refl V
 have nt:Value.bool (noT.toList == noT.toList)=.bool true:=by rw [tx_self]
 have nt0:¬ (noT.toList == noT.toList)=false:=by rw [tx_self]; decide
 simp only [tI_fieldZero,T.wp]
 refine⟨fun q=>?_,fun q0=>⟨fun q=>?_,fun q1=>⟨fun q=>?_,fun q2=>⟨fun q=>?_,fun q3=>⟨fun q=>?_,fun q4=>⟨fun q=>?_,fun q5=>⟨fun q=>?_,fun q6=>⟨fun q=>?_,fun q7=>?_⟩⟩⟩⟩⟩⟩⟩⟩
 ·obtain rfl:=h0 (by simpa using q)
  exact⟨noT,ld_atC hb rfl,le,nt⟩
 ·exact⟨noT,ld_atC hb rfl,le,nt⟩
 ·exact⟨noT,ld_atC hb rfl,le,nt⟩
 ·obtain rfl:=h3 (by simpa using q)
  exact⟨noT,ld_atC hb rfl,le,nt⟩
 ·obtain⟨rfl,rfl⟩:=h4 (by simpa using q)
  refine⟨(noT,false,nilS,()),ld_atC hb rfl,(cI_MoneySame V _ _ (noT,false,[],()) (noT,false,[],()) [] [] (mon_mk (by decide) lr_nil0) (mon_mk (by decide) lr_nil0)).mono ?_⟩
  rintro V1 r ⟨rfl,e,rfl,he⟩
  exact⟨nofun,e,rfl,le,by rw [he.2 rfl]; rfl⟩
 ·exact⟨nilS,ld_atC hb rfl,fun _=>⟨nilS,ld_atC hb rfl,le,rfl⟩,fun z=>absurd z (by decide)⟩
 ·refine⟨(false,nilS,0,()),ld_atC hb rfl,(cI_decIsZero V false nilS 0 [] [] lr_nil0).mono ?_⟩
  rintro V1 r ⟨rfl,e,rfl,he⟩
  exact⟨nofun,e,rfl,le,by rw [he.2 ⟨⟨rfl,rfl⟩,rfl⟩]; rfl⟩
 ·exact⟨0,ld_atC hb rfl,le,rfl⟩
 ·simp only [beq_eq_false_iff_ne,ne_eq] at q0 q1 q2 q3 q4 q5 q6 q7
  obtain⟨rfl,rfl,rfl,rfl,rfl⟩:=h8 (by omega)
  refine⟨noT,ld_at2 hb rfl,fun _=>⟨noT,ld_at2 hb rfl,fun _=>⟨(false,nilS,0,()),ld_at2 hb rfl,(cI_decIsZero V false nilS 0 [] [] lr_nil0).mono ?_⟩,fun z=>absurd z nt0⟩,fun z=>absurd z nt0⟩
  rintro V1 r ⟨rfl,e,rfl,he⟩
  exact⟨nofun,e,rfl,le,by rw [he.2 ⟨⟨rfl,rfl⟩,rfl⟩]; rfl⟩
theorem cI_fzN {V:Know} {b:Nat} {t:KTy} {s:SlV} {i:Ln} (hb:V b=some (Scs.vals CmSh (cells s i),t)) {k:Int} (hk:0≤k∧k≤8) (hn:(k,()) ∉ fieldsL (opN i)):CallX Tryz.prog V 85 [.pointer (some ⟨b,0,none⟩),.int .i64 k] (TruePost V):=by
 cases i with
 | r x=>exact cI_fzR hb k hk (fun _=>rfl) (fun _=>rfl) (fun _=>⟨rfl,rfl⟩) (fun e=>absurd (by rw [e,fl_r]; decide) hn)
 | o a=>exact cI_fzR hb k hk (fun e=>absurd (by rw [e,fl_o]; decide) hn) (fun e=>absurd (by rw [e,fl_o]; decide) hn) (fun _=>⟨rfl,rfl⟩) (fun _=>⟨rfl,rfl,rfl,rfl,rfl⟩)
 | p a=>exact cI_fzR hb k hk (fun e=>absurd (by rw [e,fl_p]; decide) hn) (fun _=>rfl) (fun e=>absurd (by rw [e,fl_p]; decide) hn) (fun _=>⟨rfl,rfl,rfl,rfl,rfl⟩)
noncomputable def fT:Ln→Int→ByteArray
 | .r x,_=>rateT x
 | .o a,k=>if k=0 then a.1 else a.2.1
 | .p a,k=>if k=0 then a.1 else moneyT a.2.1 false a.2.2.2.1
theorem abs_ok {a:DAcct} (h:MonP a.2):MoneyOkP a.2.1 false a.2.2.2.1:=⟨h.1,⟨h.2.1.1,nofun⟩,h.2.2⟩
theorem cI_foN {V:Know} (hV:HtI V) {b:Nat} {t:KTy} {s:SlV} {f:List Nat} {i:Ln} (ok:LnOk i) (L:LR rI V s (magN i) f) (hb:V b=some (Scs.vals CmSh (cells s i),t)) {k:Int} (hk:(k,())∈fieldsL (opN i)) :
  CallX Tryz.prog V 87 [.pointer (some ⟨b,0,none⟩),.int .i64 k] (TruePost V)∧CallX Tryz.prog V 51 [.pointer (some ⟨b,0,none⟩),.int .i64 k] (TxPost V (fT i k)):=by
 have le:=Know.le.refl V
 have word:∀ {a:ByteArray},WordP a→loadV V ((⟨b,0,none⟩:Addr).add 1) 1=some [.string a]→CallX Tryz.prog V 87 [.pointer (some ⟨b,0,none⟩),.int .i64 0] (TruePost V)∧CallX Tryz.prog V 51 [.pointer (some ⟨b,0,none⟩),.int .i64 0] (TxPost V a):=by
  intro a hw hl
  refine⟨CallX.of_fits Tryz.mix (fI_fieldOk _ _) fun _=>?_,CallX.of_fits Tryz.mix (fI_fieldText _ _) fun _=>?_⟩
  ·simp only [tI_fieldOk,T.wp]
   refine⟨fun _=>⟨a,hl,(cI_IsWord V a (word_size hw)).mono ?_⟩,fun q=>by simp at q⟩
   rintro V1 r ⟨rfl,e,rfl,he⟩
   exact⟨nofun,e,rfl,le,by rw [he.2 hw]; rfl⟩
  ·simp only [tI_fieldText,T.wp]
   exact⟨fun _=>⟨a,hl,le,rfl⟩,fun q=>by simp at q⟩
 cases i with
 | r x =>
  obtain rfl:k=8:=by simpa [fl_r] using hk
  refine⟨CallX.of_fits Tryz.mix (fI_fieldOk _ _) fun _=>?_,CallX.of_fits Tryz.mix (fI_fieldText _ _) fun _=>?_⟩
  ·simp only [tI_fieldOk,T.wp]
   refine⟨fun q=>by simp at q,fun _=>⟨fun q=>by simp at q,fun _=>⟨fun q=>by simp at q,fun _=>⟨fun q=>by simp at q,fun _=>⟨fun q=>by simp at q,fun _=>⟨fun q=>by simp at q,fun _=>⟨fun q=>by simp at q,fun _=>⟨fun q=>by simp at q,fun _=>?_⟩⟩⟩⟩⟩⟩⟩⟩
   refine⟨(x.1,x.2.1,x.2.2.1,s,x.2.2.2.2.1,()),ld_atC hb rfl,(cI_RateOk hV.c x s f L).mono ?_⟩
   rintro V1 r ⟨le1,e,rfl,he⟩
   exact⟨nofun,e,rfl,le1,by rw [he.2 ok]; rfl⟩
  ·simp only [tI_fieldText,T.wp]
   refine⟨fun q=>by simp at q,fun _=>⟨fun q=>by simp at q,fun _=>⟨fun q=>by simp at q,fun _=>⟨fun q=>by simp at q,fun _=>⟨fun q=>by simp at q,fun _=>⟨fun q=>by simp at q,fun _=>⟨fun q=>by simp at q,fun _=>⟨fun q=>by simp at q,fun _=>?_⟩⟩⟩⟩⟩⟩⟩⟩
   refine⟨(x.1,x.2.1,x.2.2.1,s,x.2.2.2.2.1,()),ld_atC hb rfl,(cI_RateText hV x s f L).mono ?_⟩
   rintro V1 _ ⟨le1,rfl⟩
   rw [okT_pos (show RateOkP x from ok)]
   exact⟨nofun,_,rfl,le1,rfl⟩
 | o a =>
  rw [fl_o] at hk
  rcases List.mem_cons.1 hk with e | hk
  ·obtain rfl:k=0:=congrArg Prod.fst e
   exact word ok.1 (ld_atC hb rfl)
  ·obtain rfl:k=3:=by simpa using hk
   refine⟨CallX.of_fits Tryz.mix (fI_fieldOk _ _) fun _=>?_,CallX.of_fits Tryz.mix (fI_fieldText _ _) fun _=>?_⟩
   ·simp only [tI_fieldOk,T.wp]
    refine⟨fun q=>by simp at q,fun _=>⟨fun q=>by simp at q,fun _=>⟨fun q=>by simp at q,fun _=>⟨fun _=>⟨a.2.1,ld_atC hb rfl,(cI_IsCode V a.2.1).mono ?_⟩,fun q=>by simp at q⟩⟩⟩⟩
    rintro V1 r ⟨rfl,e,rfl,he⟩
    exact⟨nofun,e,rfl,le,by rw [he.2 (known_code ok.2)]; rfl⟩
   ·simp only [tI_fieldText,T.wp]
    exact⟨fun q=>by simp at q,fun _=>⟨fun q=>by simp at q,fun _=>⟨fun q=>by simp at q,fun _=>⟨fun _=>⟨a.2.1,ld_atC hb rfl,le,rfl⟩,fun q=>by simp at q⟩⟩⟩⟩
 | p a =>
  rw [fl_p] at hk
  have hm:=abs_ok ok.2.1
  have z3:=known_size hm.1
  rcases List.mem_cons.1 hk with e | hk
  ·obtain rfl:k=0:=congrArg Prod.fst e
   exact word ok.1 (ld_atC hb rfl)
  ·obtain rfl:k=4:=by simpa using hk
   refine⟨CallX.of_fits Tryz.mix (fI_fieldOk _ _) fun _=>?_,CallX.of_fits Tryz.mix (fI_fieldText _ _) fun _=>?_⟩
   ·simp only [tI_fieldOk,T.wp]
    refine⟨fun q=>by simp at q,fun _=>⟨fun q=>by simp at q,fun _=>⟨fun q=>by simp at q,fun _=>⟨fun q=>by simp at q,fun _=>⟨fun _=>⟨(a.2.1,false,s,()),ld_atC hb rfl,(cI_payable hV.c _ (a.2.1,false,a.2.2.2.1,()) f (mon_mk (by omega) L)).mono ?_⟩,fun q=>by simp at q⟩⟩⟩⟩⟩
    rintro V1 r ⟨le1,e,rfl,he⟩
    exact⟨nofun,e,rfl,le1,by rw [he.2 ⟨hm,rfl⟩]; rfl⟩
   ·simp only [tI_fieldText,T.wp]
    refine⟨fun q=>by simp at q,fun _=>⟨fun q=>by simp at q,fun _=>⟨fun q=>by simp at q,fun _=>⟨fun q=>by simp at q,fun _=>⟨fun _=>⟨(a.2.1,false,s,()),ld_atC hb rfl,(cI_MoneyText hV a.2.1 false s a.2.2.2.1 f L (by omega)).mono ?_⟩,fun q=>by simp at q⟩⟩⟩⟩⟩
    rintro V1 _ ⟨le1,rfl⟩
    rw [okT_pos hm]
    exact⟨nofun,_,rfl,le1,rfl⟩
theorem fl_rng (i:Ln):0<(fieldsL (opN i)).length∧(fieldsL (opN i)).length≤2∧∀ g∈fieldsL (opN i),0≤g.1∧g.1≤8:=by
 cases i with
 | r x=>rw [fl_r]; decide
 | o a=>rw [fl_o]; decide
 | p a=>rw [fl_p]; decide
theorem cI_CmdOkR {V:Know} (hV:HtI V) {s:SlV} {f:List Nat} {i:Ln} (ok:LnOk i) (L:LR rI V s (magN i) f):CallX Tryz.prog V 48 [qv8 (cells s i)] (TruePost V):=by
 refine CallX.of_fits Tryz.mix (fI_CmdOk _) fun _=>?_
 simp only [tI_CmdOk,T.wp]
 refine(cI_fieldsOf V _).mono ?_
 rintro V1 _ ⟨le1,s1,f1,rfl,L1,_⟩
 rw [cells_op] at L1
 refine⟨nofun,s1,rfl,fun b hb=>?_⟩
 have q:=kset_le (x:=(Scs.vals CmSh (cells s i),((74:TypeId),((0,0):Nat × Nat)))) hb
 have hbb:kset V1 b (Scs.vals CmSh (cells s i),(74,(0,0))) b=some (Scs.vals CmSh (cells s i),(74,(0,0))):=kset_same
 refine⟨fun y V'=>(kset V1 b (Scs.vals CmSh (cells s i),(74,(0,0)))).le V'∧∃ j:Nat,y.1=(j:Int)∧j≤9,fun y=>(9-(y.1:Int)).toNat,⟨((0:Int),()),rfl,Know.le.refl _,0,rfl,by omega⟩,?_⟩
 rintro⟨(j:Int),u⟩ V' ⟨hle,k,hk,hk9⟩
 replace hk:j=(k:Int):=hk
 subst hk
 have hle':=(le1.trans q).trans hle
 refine⟨fun hlt=>?_,fun hge=>⟨hle',?_⟩⟩
 ·have h8:(k:Int)≤8:=of_decide_eq_true hlt
  have next:∀ {V2:Know},V'.le V2→∃ N,([fun vs V'=>∃ y',vs=LShs.lvs [.o (.o (.i .i64))] y'∧((kset V1 b (Scs.vals CmSh (cells s i),(74,(0,0)))).le V'∧∃ j:Nat,y'.1=(j:Int)∧j≤9)∧(9-(y'.1:Int)).toNat<(9-(k:Int)).toNat]:List (List LV→Know→Prop))[0]?=some N∧N [.v (.int .i64 (IntKind.i64.wrap ((k:Int)+1)))] V2:=by
   intro V2 h2
   refine⟨_,rfl,(((k+1:Nat):Int),()),by rw [wrap_i64 (by omega)]; rfl,⟨hle.trans h2,k+1,rfl,by omega⟩,?_⟩
   show(9-((k+1:Nat):Int)).toNat<(9-(k:Int)).toNat
   omega
  refine(cI_Contains V' s1 _ f1 k ((L1.le q).le hle)).mono ?_
  rintro V2 r ⟨rfl,e,rfl,he⟩
  refine⟨nofun,e,rfl,fun ht=>?_,fun hf=>?_⟩
  ·refine(cI_foN (hV.le hle') ok (L.le hle') (hle _ _ hbb) (he.1 ht)).1.mono ?_
   rintro V3 _ ⟨le3,rfl⟩
   exact⟨nofun,true,rfl,fun z=>absurd z (by decide),fun _=>next le3⟩
  ·refine(cI_fzN (hle _ _ hbb) ⟨by omega,h8⟩ (fun z=>by rw [he.2 z] at hf; cases hf)).mono ?_
   rintro V3 _ ⟨le3,rfl⟩
   exact⟨nofun,true,rfl,fun z=>absurd z (by decide),fun _=>next le3⟩
 ·have hn:=L1.1
  have h0:=(fl_rng i).1
  rw [decide_eq_true (by omega)]; rfl
noncomputable def wordsR (i:Ln):List Tx:=(opT (opN i),()) :: (fieldsL (opN i)).map fun g=>(fT i g.1,())
noncomputable def lnX (i:Ln):ByteArray:=joinT (wordsR i) ⟨⟨[32]⟩⟩
theorem wordsR_len (i:Ln):(wordsR i).length=(fieldsL (opN i)).length+1:=by simp [wordsR]
theorem fT_size {i:Ln} (ok:LnOk i) (k:Int):(fT i k).size≤2200:=by
 cases i with
 | r x=>exact rateT_size ok
 | o a =>
  have h1:=ok.1.2.1
  have h2:=known_size ok.2
  unfold fT
  dsimp only
  split <;> omega
 | p a =>
  have h1:=ok.1.2.1
  have h2:=moneyT_size (abs_ok ok.2.1)
  unfold fT
  dsimp only
  split <;> omega
theorem wordsR_size {i:Ln} (ok:LnOk i):∀ y∈wordsR i,y.1.size≤2200:=by
 intro y hy
 rcases List.mem_cons.1 hy with rfl | hy
 ·have:=opT_size (opN_rng i)
  show(opT (opN i)).size≤_
  omega
 ·obtain⟨g,_,rfl⟩:=List.mem_map.1 hy
  exact fT_size ok g.1
theorem words_fitR {i:Ln} (ok:LnOk i):sumT (wordsR i)+(wordsR i).length*(⟨⟨[32]⟩⟩:ByteArray).size≤10000:=by
 have h1:=sumT_le _ (wordsR_size ok)
 have h2:=wordsR_len i
 have h3:=(fl_rng i).2.1
 have e:(⟨⟨[32]⟩⟩:ByteArray).size=1:=rfl
 rw [e]
 omega
theorem lnX_size {i:Ln} (ok:LnOk i):(lnX i).size≤10000:=Nat.le_trans (joinT_size _ _) (words_fitR ok)
theorem cI_CmdTextR {V:Know} (hV:HtI V) {s:SlV} {f:List Nat} {i:Ln} (ok:LnOk i) (L:LR rI V s (magN i) f):CallX Tryz.prog V 23 [qv8 (cells s i)] (TxPost V (lnX i)):=by
 refine CallX.of_fits Tryz.mix (fI_CmdText _) fun _=>?_
 simp only [tI_CmdText,T.wp]
 refine(cI_CmdOkR hV ok L).mono ?_
 rintro V1 _ ⟨le1,rfl⟩
 refine⟨nofun,true,rfl,fun z=>absurd z (by decide),fun _=>?_⟩
 rw [cells_op]
 refine(cI_OpName V1 _ (opN_rng i)).mono ?_
 rintro V2 _ ⟨le2,rfl⟩
 refine⟨nofun,_,rfl,(cI_fieldsOf V2 _).mono ?_⟩
 rintro V3 _ ⟨le3,s3,f3,rfl,L3,_⟩
 have l3:=(le1.trans le2).trans le3
 refine⟨nofun,s3,rfl,fun b hb=>?_⟩
 have q:=kset_le (x:=(Scs.vals CmSh (cells s i),((74:TypeId),((0,0):Nat × Nat)))) hb
 have hbb:kset V3 b (Scs.vals CmSh (cells s i),(74,(0,0))) b=some (Scs.vals CmSh (cells s i),(74,(0,0))):=kset_same
 have eb:(kset V3 b (Scs.vals CmSh (cells s i),(74,(0,0))))=(kset V3 b (Scs.vals CmSh (opN i,(cells s i).2),(74,(0,0)))):=by rw [← cells_op s i]
 have L4:=L3.le q
 have l4:=l3.trans q
 have hn:=L3.1
 have h6:=(fl_rng i).2.1
 refine⟨fun y V'=>(kset V3 b (Scs.vals CmSh (cells s i),(74,(0,0)))).le V'∧∃ j:Nat,y.2.1=(j:Int)∧j≤(fieldsL (opN i)).length∧y.1.1=1+j∧y.1.2=((wordsR i).take (j+1)).map cellT,
  fun y=>(((fieldsL (opN i)).length:Int)-(y.2.1:Int)).toNat,⟨((1,[.string (opT (opN i))]),(0:Int),()),rfl,(by rw [eb]; exact Know.le.refl _),0,rfl,by omega,rfl,rfl⟩,?_⟩
 rintro⟨⟨n1,ys⟩,(j:Int),u⟩ V' ⟨hle,k,hk1,hkl,hn1,hys⟩
 replace hk1:j=(k:Int):=hk1
 replace hn1:n1=1+k:=hn1
 replace hys:ys=((wordsR i).take (k+1)).map cellT:=hys
 subst hk1 hn1 hys
 have hle':=l4.trans hle
 refine⟨fun hlt=>?_,fun hge=>?_⟩
 ·have h1:k<(fieldsL (opN i)).length:=by
   have:(k:Int)<(s3.n:Int):=of_decide_eq_true hlt
   omega
  obtain⟨b1,o1,a1,l1⟩:=(L4.le hle).int h1
  have hmem:((fieldsL (opN i))[k].1,())∈fieldsL (opN i):=List.getElem_mem h1
  refine⟨_,a1,(by omega:(0:Int)≤(k:Int)),(by omega:(k:Int)<(s3.n:Int)),(fieldsL (opN i))[k].1,l1,(cI_foN (HtI.le hV hle') ok (L.le hle') (hle _ _ hbb) hmem).2.mono ?_⟩
  rintro V5 _ ⟨le5,rfl⟩
  refine⟨nofun,_,rfl,rfl,⟨rfl,(by omega:(1+k+1)*16≤140737488355328),(by omega:1+k+1≤9223372036854775807)⟩,_,rfl,((1+(k+1),((wordsR i).take (k+1+1)).map cellT),((k+1:Nat):Int),()),?_,⟨hle.trans le5,k+1,rfl,h1,rfl,rfl⟩,?_⟩
  ·have hw:k+1<(wordsR i).length:=by rw [wordsR_len]; omega
   have e1:(wordsR i).take (k+1+1)=(wordsR i).take (k+1)++[(wordsR i)[k+1]]:=List.take_succ_eq_append_getElem hw
   have e2:(wordsR i)[k+1]=(fT i (fieldsL (opN i))[k].1,()):=by simp [wordsR]
   rw [nxt h1 (by omega),e1,e2,List.map_append]
   rfl
  ·show(((fieldsL (opN i)).length:Int)-((k+1:Nat):Int)).toNat<(((fieldsL (opN i)).length:Int)-(k:Int)).toNat
   omega
 ·have h1:k=(fieldsL (opN i)).length:=by
   have:¬ (k:Int)<(s3.n:Int):=of_decide_eq_false hge
   omega
  intro b' cap spare hb0 hc _
  have hfull:(wordsR i).take (k+1)=wordsR i:=by rw [h1,← wordsR_len,List.take_length]
  have hlen:(wordsR i).length=1+k:=by rw [wordsR_len,h1]; omega
  rw [hfull]
  have hsz:=wordsR_size ok
  have q:=newT (V:=V') (b:=b') (cap:=cap) (o:=wordsR i) (spare:=spare) (t:=9) hb0 (by rw [hlen]; exact hc) (by omega) (fun y hy=>by have:=hsz y hy; omega)
  have key:=cI_Join _ _ _ _ (⟨⟨[32]⟩⟩:ByteArray) q.1 (Nat.le_trans (words_fitR ok) (by decide)) (by omega)
  rw [hlen] at key
  refine key.mono ?_
  rintro V6 _ ⟨rfl,rfl⟩
  exact⟨nofun,_,rfl,hle'.trans (kset_le hb0),rfl⟩
end Go.Proofs.YtpdfdkccgkieoaaGreatDoor
namespace Go.Proofs.YtpdfdkccgkieoaaGreatDoor
open Sx Go.RowKit
set_option maxRecDepth 100000
theorem wordB_no {s:ByteArray} (h:WordP s):(32:UInt8) ∉ bl s:=fun k=>by
 obtain⟨i,hi,e⟩:=List.mem_iff_getElem.1 k
 have hl:=bl_len s
 have:=h.2.2.2 i (by omega)
 rw [at0_bl hi,e] at this
 revert this; unfold LowerP DigitP; decide
theorem codeB_no {s:ByteArray} (h:CodeP s):(32:UInt8) ∉ bl s:=fun k=>by
 obtain⟨i,hi,e⟩:=List.mem_iff_getElem.1 k
 have hl:=bl_len s
 have h3:=h.1
 have:=h.2 i (by omega)
 rw [at0_bl hi,e] at this
 revert this; decide
theorem cut_lone {c:UInt8} {s:ByteArray} (h:c ∉ bl s):cutB c s=[(s,())]:=cutB_eq (by simp [joinC]) (by simp) (fun x hx=>by
 obtain rfl:x=(s,()):=by simpa using hx
 exact h)
theorem op_no {op:Int} (h:1≤op∧op≤9):(32:UInt8) ∉ bl (opT op):=by
 have h9:op=1∨op=2∨op=3∨op=4∨op=5∨op=6∨op=7∨op=8∨op=9:=by omega
 rcases h9 with rfl | rfl | rfl | rfl | rfl | rfl | rfl | rfl | rfl <;> decide
theorem lens_cutA (c:UInt8):∀ (p l:List UInt8),((cutA c p l).map List.length).sum+(cutA c p l).length=p.length+l.length+1
 | p,[]=>by simp [cutA]
 | p,b :: l=>by
  rw [cutA]
  split
  ·rw [List.map_cons,List.sum_cons,List.length_cons]
   have:=lens_cutA c [] l
   simp only [List.length_nil,List.length_cons] at this ⊢
   omega
  ·have:=lens_cutA c (p++[b]) l
   simp only [List.length_append,List.length_cons,List.length_nil] at this ⊢
   omega
theorem sumT_cut (c:UInt8) (s:ByteArray):sumT (cutB c s)+(cutB c s).length=s.size+1:=by
 have:=lens_cutA c [] (bl s)
 rw [bl_len] at this
 have e:sumT (cutB c s)=((cutA c [] (bl s)).map List.length).sum:=by
  unfold sumT bytesL cutB Go.Lib.lens
  rw [List.map_map,List.map_map]
  congr 1
 rw [e]
 have e2:(cutB c s).length=(cutA c [] (bl s)).length:=by unfold cutB; rw [List.length_map]
 rw [e2]
 simpa using this
theorem fT_nw {i:Ln} (ok:LnOk i) {g:Lim} (hg:g∈fieldsL (opN i)):(cutB 32 (fT i g.1)).length=nw g.1:=by
 cases i with
 | r x =>
  obtain rfl:g=(8,()):=by simpa [fl_r] using hg
  exact(congrArg List.length (rate_cut (show RateOkP x from ok))).trans rfl
 | o a =>
  rw [fl_o] at hg
  rcases List.mem_cons.1 hg with rfl | hg
  ·exact(congrArg List.length (cut_lone (wordB_no ok.1))).trans rfl
  ·obtain rfl:g=(3,()):=by simpa using hg
   exact(congrArg List.length (cut_lone (codeB_no (known_code ok.2)))).trans rfl
 | p a =>
  rw [fl_p] at hg
  rcases List.mem_cons.1 hg with rfl | hg
  ·exact(congrArg List.length (cut_lone (wordB_no ok.1))).trans rfl
  ·obtain rfl:g=(4,()):=by simpa using hg
   exact(congrArg List.length (money_cut (abs_ok ok.2.1))).trans rfl
noncomputable def restW (i:Ln) (k:Nat):List Tx:=((fieldsL (opN i)).drop k).flatMap fun g=>cutB 32 (fT i g.1)
theorem restW_step {i:Ln} {k:Nat} (h:k<(fieldsL (opN i)).length):restW i k=cutB 32 (fT i (fieldsL (opN i))[k].1)++restW i (k+1):=by
 unfold restW
 rw [List.drop_eq_getElem_cons h,List.flatMap_cons]
theorem restW_end (i:Ln):restW i (fieldsL (opN i)).length=[]:=by unfold restW; rw [List.drop_length]; rfl
theorem cut_lnX (i:Ln):cutB 32 (lnX i)=(opT (opN i),()) :: restW i 0:=by
 unfold lnX
 rw [cut_joinT 32 (by simp [wordsR])]
 unfold wordsR restW
 rw [List.flatMap_cons,cut_lone (op_no (opN_rng i)),List.flatMap_map,List.drop_zero]
 rfl
def nmN:Ln→ByteArray
 | .r _=>noT
 | .o a=>a.1
 | .p a=>a.1
def part (i:Ln) (k:Nat):Scs CmSh:=cm (opN i) (if k=0 then noT else nmN i) noT noT nilS noT noT false nilS 0
def PartR (V:Know) (i:Ln) (k:Nat) (c:Scs CmSh):Prop:=(k<(fieldsL (opN i)).length∧c=part i k)∨(k=(fieldsL (opN i)).length∧∃ s f,c=cells s i∧LR rI V s (magN i) f)
abbrev RdPost (V:Know) (b:Nat) (u:TypeId) (i:Ln) (k:Nat):Know→Value→Prop:=fun V' r=>r=.bool true∧∃ V1 c,V.le V1∧V'=kset V1 b (Scs.vals CmSh c,(u,(0,0)))∧PartR V' i (k+1) c
theorem own_loc {V V1:Know} {b:Nat} {y z:List Value × KTy} {t:SlV} {o:List Lim} {g:List Nat} (hb:V b=some z) (L:LR rI V1 t o g) (O:Own V V1 g):LR rI (kset V1 b y) t o g :=
 L.loc fun k hk=>kset_other fun e=>by
  have:=O.2.1 k hk
  rw [e,hb] at this; cases this
theorem cI_step {V:Know} (hV:HtI V) {i:Ln} (ok:LnOk i) {k:Nat} (hk:k<(fieldsL (opN i)).length) {b:Nat} {u:TypeId} (hb:V b=some (Scs.vals CmSh (part i k),(u,(0,0)))) :
  CallX Tryz.prog V 128 [.pointer (some ⟨b,0,none⟩),.string (fT i (fieldsL (opN i))[k].1),.int .i64 (fieldsL (opN i))[k].1] (RdPost V b u i k):=by
 have hz:=Nat.le_trans (fT_size ok (fieldsL (opN i))[k].1) (by decide:2200≤1048576)
 have word:∀ {a:ByteArray} {op:Int},V b=some (Scs.vals CmSh (cm op noT noT noT nilS noT noT false nilS 0),(u,(0,0)))→CallX Tryz.prog V 128 [.pointer (some ⟨b,0,none⟩),.string a,.int .i64 0] (fun V' r=>r=.bool true∧V'=kset V b (Scs.vals CmSh (cm op a noT noT nilS noT noT false nilS 0),(u,(0,0)))):=fun h =>
  (cI_field0 V b u _ _ _ _ _ _ _ _ _ _ _ _ _ _ _ _ _ _ _ _ h).mono fun _ _ h=>⟨h.2,h.1⟩
 cases i with
 | r x =>
  obtain rfl:k=0:=by
   have:(fieldsL (opN (.r x))).length=1:=rfl
   omega
  refine(cI_field8 hV b u _ _ _ _ _ _ _ _ _ _ _ _ _ _ _ _ _ _ _ (rateT x) hz hb).mono ?_
  rintro V' r ⟨V1,p,q,n,t,k,ok',le,⟨rfl,o,g,L,O,_,_,hu⟩ | ⟨_,_,_,_,_,_,h⟩,rfl,rfl⟩
  ·obtain rfl:=hu x ok rfl
   exact⟨rfl,V1,cells t (.r (p,q,n,o,k,())),le,rfl,.inr ⟨rfl,t,g,rfl,own_loc hb L O⟩⟩
  ·exact absurd rfl (h x ok)
 | o a =>
  have h2:(fieldsL (opN (.o a))).length=2:=rfl
  match k,hk with
  | 0,_ =>
   refine(word hb).mono ?_
   rintro V' r ⟨rfl,rfl⟩
   exact⟨rfl,V,part (.o a) 1,Know.le.refl _,rfl,.inl ⟨by omega,rfl⟩⟩
  | 1,_ =>
   refine(cI_field3 V b u _ _ _ _ _ _ _ _ _ _ _ _ _ _ _ _ _ _ _ _ hb).mono ?_
   rintro V' r ⟨rfl,rfl⟩
   exact⟨rfl,V,cells nilS (.o a),Know.le.refl _,rfl,.inr ⟨rfl,nilS,[],rfl,lr_nil0⟩⟩
 | p a =>
  have h2:(fieldsL (opN (.p a))).length=2:=by rw [fl_p]; rfl
  match k,hk with
  | 0,_ =>
   have e:(fieldsL (opN (.p a)))[0]=(0,()):=by simp [fl_p]
   rw [e]
   refine(word hb).mono ?_
   rintro V' r ⟨rfl,rfl⟩
   exact⟨rfl,V,part (.p a) 1,Know.le.refl _,rfl,.inl ⟨by omega,rfl⟩⟩
  | 1,_ =>
   have e:(fieldsL (opN (.p a)))[1]=(4,()):=by simp [fl_p]
   rw [e] at hz ⊢
   refine(cI_field4 hV b u _ _ _ _ _ _ _ _ _ _ _ _ _ _ _ _ _ _ _ (moneyT a.2.1 false a.2.2.2.1) hz hb).mono ?_
   rintro V' r ⟨V1,c,n,t,ok',le,⟨rfl,o,g,L,O,_,_,hu⟩ | ⟨_,_,_,_,h⟩,rfl,rfl⟩
   ·obtain⟨rfl,rfl,rfl⟩:=hu _ _ _ (abs_ok ok.2.1) rfl
    exact⟨rfl,V1,cells t (.p a),le,rfl,.inr ⟨h2.symm,t,g,rfl,own_loc hb L O⟩⟩
   ·exact absurd rfl (h _ _ _ (abs_ok ok.2.1))
  | k+2,h=>exact absurd h (by rw [h2]; omega)
abbrev CmPost (V:Know) (i:Ln):Know→Value→Prop:=fun V' r=>V.le V'∧∃ s f,r=.tuple #[qv8 (cells s i),.bool true]∧LR rI V' s (magN i) f
theorem cI_TextCmdR {V:Know} (hV:HtI V) {i:Ln} (ok:LnOk i):CallX Tryz.prog V 81 [.string (lnX i)] (CmPost V i):=by
 refine CallX.of_fits Tryz.mix (fI_TextCmd _) fun _=>?_
 simp only [tI_TextCmd,T.wp]
 have hs:=Nat.le_trans (lnX_size ok) (by decide:10000≤1048576)
 refine(cI_Cut V _ hs).mono ?_
 rintro V1 _ ⟨le1,t,f,rfl,L,_⟩
 rw [cut_lnX] at L
 have hn:=L.1
 rw [List.length_cons] at hn
 have hc:=L.2.1
 obtain⟨⟨b0,o0,a0,ld0⟩,_⟩:=L.txt (i:=0) (by simp)
 refine⟨nofun,t,rfl,_,a0,by decide,(by omega:(0:Int)<(t.n:Int)),_,ld0,(cI_NameOp V1 _).mono ?_⟩
 rintro V2 _ ⟨le2,op,rfl,ho⟩
 have eo:op=opN i:=by
  rcases ho with ⟨a,b,c⟩ | ⟨_,c⟩
  ·exact opT_inj ⟨a,b⟩ (opN_rng i) c
  ·exact absurd rfl (c _ (opN_rng i).1 (opN_rng i).2)
 subst eo
 refine⟨nofun,opN i,rfl,⟨by decide,by omega,by omega,by omega⟩,(cI_fieldsOf V2 _).mono ?_⟩
 rintro V3 _ ⟨le3,sf,ff,rfl,LF,_⟩
 refine⟨nofun,sf,rfl,fun b hb=>?_⟩
 have l3:=(le1.trans le2).trans le3
 obtain⟨t',f',et,L'⟩:=(L.le (le2.trans le3)).dropS (k:=1) (by decide) (by rw [List.length_cons]; omega)
 have hfn:=LF.1
 have h6:=(fl_rng i).2.1
 have h0n:=(fl_rng i).1
 refine⟨fun y V'=>V3.le V'∧∃ (k:Nat) (c:Scs CmSh) (g:List Nat),y.2.1=(k:Int)∧k≤(fieldsL (opN i)).length∧V' b=some (Scs.vals CmSh c,(74,(0,0)))∧PartR V' i k c∧LR rString V3 y.1 (restW i k) g,
  fun y _=>(((fieldsL (opN i)).length:Int)-(y.2.1:Int)).toNat,⟨(t',(0:Int),()),?_,kset_le hb,0,part i 0,f',rfl,Nat.zero_le _,kset_same,.inl ⟨h0n,rfl⟩,L'⟩,?_⟩
 ·rw [et]; rfl
 rintro⟨(tw:SlV),(j:Int),u⟩ V' ⟨le3',k,c,g,e1,hkl,hBx,hP,LW⟩
 replace e1:j=(k:Int):=e1
 replace LW:LR rString V3 tw (restW i k) g:=LW
 subst e1
 have hwn:=LW.1
 have hwc:=LW.2.1
 refine⟨fun hlt=>?_,fun hge=>?_⟩
 ·have h1:k<(fieldsL (opN i)).length:=by
   have:(k:Int)<(sf.n:Int):=of_decide_eq_true hlt
   omega
  have hmem:(fieldsL (opN i))[k]∈fieldsL (opN i):=List.getElem_mem h1
  obtain⟨b1,o1,a1,l1⟩:=(LF.le le3').int h1
  have hnw:=fT_nw ok hmem
  have hst:=restW_step h1
  rw [hst,List.length_append] at hwn
  have hc1:=sumT_cut 32 (fT i (fieldsL (opN i))[k].1)
  have hsz:=fT_size ok (fieldsL (opN i))[k].1
  obtain⟨_,rfl⟩:=hP.resolve_right fun h=>by omega
  refine⟨_,a1,(by omega:(0:Int)≤(k:Int)),(by omega:(k:Int)<(sf.n:Int)),(fieldsL (opN i))[k].1,l1,(cI_wordsOf V' _).mono ?_⟩
  rintro V4 _ ⟨rfl,rfl⟩
  refine⟨nofun,_,rfl,fun hlow=>?_,fun _=>?_⟩
  ·have:(tw.n:Int)<(nw (fieldsL (opN i))[k].1:Int):=of_decide_eq_true hlow
   omega
  have q1:((nw (fieldsL (opN i))[k].1:Nat):Int)≤(tw.c:Int):=by omega
  have q2:((nw (fieldsL (opN i))[k].1:Nat):Int)≤(tw.n:Int):=by omega
  have q3:(tw.n:Int)≤(tw.c:Int):=by omega
  have q4:((nw (fieldsL (opN i))[k].1:Nat):Int)≤((restW i k).length:Int):=by rw [hst,List.length_append]; omega
  obtain⟨t2,f2,et2,L2⟩:=(LW.le le3').takeS (k:=(nw (fieldsL (opN i))[k].1:Int)) (by omega) q4
  rw [Int.toNat_natCast,hst,List.take_left' hnw] at L2
  refine⟨⟨Int.le_refl _,Int.natCast_nonneg _,q1,Int.le_refl _⟩,?_⟩
  rw [et2]
  refine(cI_Join V4 t2 _ f2 (⟨⟨[32]⟩⟩:ByteArray) L2 ?_ ?_).mono ?_
  ·have h3:(⟨⟨[32]⟩⟩:ByteArray).size=1:=rfl
   rw [h3]
   omega
  ·omega
  rintro V5 _ ⟨rfl,rfl⟩
  rw [joinT_cut1]
  refine⟨nofun,_,rfl,(cI_step (hV.le (l3.trans le3')) ok h1 hBx).mono ?_⟩
  rintro V6 _ ⟨rfl,V7,c',le7,rfl,hP'⟩
  refine⟨nofun,true,rfl,fun z=>absurd z (by decide),fun _=>?_⟩
  obtain⟨t3,f3,et3,L3⟩:=LW.dropS (k:=(nw (fieldsL (opN i))[k].1:Int)) (by omega) q4
  rw [Int.toNat_natCast,hst,List.drop_left' hnw] at L3
  refine⟨⟨Int.natCast_nonneg _,q2,q3,Int.le_refl _⟩,?_⟩
  rw [et3]
  refine⟨_,rfl,(t3,((k+1:Nat):Int),()),by rw [nxt h1 (by omega)]; rfl,⟨kset_le2 (le3'.trans le7) hb,k+1,c',f3,rfl,h1,kset_same,hP',L3⟩,?_⟩
  show(((fieldsL (opN i)).length:Int)-((k+1:Nat):Int)).toNat<(((fieldsL (opN i)).length:Int)-(k:Int)).toNat
  omega
 ·have h1:k=(fieldsL (opN i)).length:=by
   have:¬ (k:Int)<(sf.n:Int):=of_decide_eq_false hge
   omega
  rw [h1,restW_end] at hwn
  have lv:=l3.trans le3'
  rcases hP with ⟨h,_⟩ | ⟨_,s,fs,rfl,Ls⟩
  ·omega
  refine⟨fun h0=>?_,fun _=>⟨cells s i,ld_atC (k:=0) (n:=19) hBx rfl,(cI_CmdOkR (hV.le lv) ok Ls).mono ?_⟩⟩
  ·have:(tw.n:Int) > 0:=of_decide_eq_true h0
   rw [List.length_nil] at hwn
   omega
  rintro V7 _ ⟨le7,rfl⟩
  refine⟨nofun,true,rfl,fun z=>absurd z (by decide),fun _=>?_⟩
  exact⟨cells s i,ld_atC (k:=0) (n:=19) (le7 _ _ hBx) rfl,lv.trans le7,s,fs,rfl,Ls.le le7⟩
end Go.Proofs.YtpdfdkccgkieoaaGreatDoor
namespace Go.Proofs.YtpdfdkccgkieoaaGreatDoor
open Sx Go.RowKit
set_option maxRecDepth 100000
noncomputable abbrev tx (i:Ln):Tx:=(lnX i,())
theorem cells_p2 {a:DAcct} (s:SlV) (h:a.2.2.1=false):cells s (.p a)=(2,a.1,noT,noT,noT,a.2.1,a.2.2.1,s,0,nilS,nilS,false,nilS,0,noT,noT,false,nilS,0,()):=by
 unfold cells opN
 dsimp only
 rw [h]; rfl
theorem cells_p3 {a:DAcct} (s:SlV) (h:a.2.2.1=true):cells s (.p a)=(3,a.1,noT,noT,noT,(negM a.2).1,(negM a.2).2.1,s,0,nilS,nilS,false,nilS,0,noT,noT,false,nilS,0,()):=by
 unfold cells opN negM
 dsimp only
 rw [h]; rfl
theorem sgn_cases {e:Bool} {m:List Lim} (h:IntOkP e m):(sgn (sval e m)=1→e=false∧m≠[])∧(sgn (sval e m)=-1→e=true∧m≠[])∧(sgn (sval e m)≠1→sgn (sval e m)≠-1→m=[]):=by
 have hc:=can_pos h.1.1
 have hn:=valN_nonneg h.1.1.1
 have hl:m≠[]↔0<m.length:=List.length_pos_iff.symm
 unfold sgn sval
 cases e with
 | true =>
  have:=hc.1 (h.2 rfl)
  rw [if_pos rfl,if_pos (by omega)]
  exact⟨fun k=>absurd k (by decide),fun _=>⟨rfl,hl.2 (h.2 rfl)⟩,fun _ k=>absurd rfl k⟩
 | false =>
  rw [show(if false=true then -valN m else valN m)=valN m from rfl,if_neg (by omega:¬ valN m<0)]
  by_cases k:valN m=0
  ·rw [if_pos k]
   exact⟨fun k=>absurd k (by decide),fun k=>absurd k (by decide),fun _ _=>List.eq_nil_of_length_eq_zero (by omega)⟩
  ·rw [if_neg k]
   exact⟨fun _=>⟨rfl,hl.2 (hc.2 (by omega))⟩,fun k=>absurd k (by decide),fun k=>absurd rfl k⟩
set_option maxHeartbeats 2000000 in
theorem cI_ScriptR {V:Know} (hV:HtI V) (c:Scs LedSh) (x:DLedger) (fp:List Nat) (hx:rLedger.R V c x fp) (hL:LedgerOkP x) :
  CallX Tryz.prog V 9 [qv0 c] (fun V' r=>V.le V'∧∃ s f,r=Sc.val .l s∧LR rString V' s ((itemsR x).map tx) f):=by
 have hOk:=cI_LedgerOk hV.c c x fp hx
 have oks:=itm_ok hL
 obtain⟨c0,c1,c3,f0,f1,f3,rfl,h0,_,h3⟩:=ledger_elim hx
 refine CallX.of_fits Tryz.mix (fI_Script _) fun _=>?_
 simp only [tI_Script,T.wp]
 refine hOk.mono ?_
 rintro V1 r ⟨le1,e,rfl,he⟩
 refine⟨nofun,e,rfl,fun hf=>absurd hL (bf he hf),fun _=>?_⟩
 have hn0:=h0.1
 have hn3:=h3.1
 have l12:x.2.2.2.1.length≤12:=hL.2.2.2.1
 have l0:x.1.length≤12:=hL.1.1
 -- rates
 refine⟨fun y V'=>V1.le V'∧∃ i:Nat,y.2.1=(i:Int)∧i≤x.2.2.2.1.length∧y.1.1=i∧y.1.2=(((x.2.2.2.1.take i).map Ln.r).map tx).map cellT,fun y=>((x.2.2.2.1.length:Int)-(y.2.1:Int)).toNat,⟨((0,[]),(0:Int),()),rfl,Know.le.refl _,0,rfl,by omega,rfl,rfl⟩,?_⟩
 rintro⟨⟨n1,ys⟩,(i:Int),u⟩ V2 ⟨hle,k,hk,hkl,hn1,hys⟩
 replace hk:i=(k:Int):=hk
 replace hn1:n1=k:=hn1
 replace hys:ys=(((x.2.2.2.1.take k).map Ln.r).map tx).map cellT:=hys
 subst hk hn1 hys
 have hle':=le1.trans hle
 refine⟨fun hlt=>?_,fun hge=>?_⟩
 ·have hi:n1<x.2.2.2.1.length:=by
   have:(n1:Int)<(c3.n:Int):=of_decide_eq_true hlt
   omega
  obtain⟨b1,o1,cc,ff,a1,ld1,R1,_⟩:=(h3.le hle').at hi
  obtain⟨s4,g4,ec,L4⟩:=rate_elim R1
  subst ec
  have key:=cI_CmdTextR (hV.le hle') (oks _ (mem_r hi)) L4
  refine⟨_,a1,(by omega:(0:Int)≤(n1:Int)),(by omega:(n1:Int)<(c3.n:Int)),_,ld1,key.mono ?_⟩
  rintro V3 _ ⟨le3,rfl⟩
  refine⟨nofun,_,rfl,rfl,⟨rfl,(by omega:(n1+1)*16≤140737488355328),(by omega:n1+1≤9223372036854775807)⟩,_,rfl,((n1+1,(((x.2.2.2.1.take (n1+1)).map Ln.r).map tx).map cellT),((n1+1:Nat):Int),()),?_,⟨hle.trans le3,n1+1,rfl,hi,rfl,rfl⟩,?_⟩
  ·rw [nxt hi (by omega),List.take_succ_eq_append_getElem hi,List.map_append,List.map_append,List.map_append]
   rfl
  ·show((x.2.2.2.1.length:Int)-((n1+1:Nat):Int)).toNat<((x.2.2.2.1.length:Int)-(n1:Int)).toNat
   omega
 have hk3:n1=x.2.2.2.1.length:=by
  have:¬ (n1:Int)<(c3.n:Int):=of_decide_eq_false hge
  omega
 subst hk3
 rw [List.take_length]
 -- accounts
 refine⟨fun y V'=>V1.le V'∧∃ i:Nat,y.2.1=(i:Int)∧i≤x.1.length∧y.1.1=x.2.2.2.1.length+((x.1.take i).flatMap acI).length∧y.1.2=((x.2.2.2.1.map Ln.r++(x.1.take i).flatMap acI).map tx).map cellT,fun y=>((x.1.length:Int)-(y.2.1:Int)).toNat,
  ⟨((x.2.2.2.1.length,((x.2.2.2.1.map Ln.r).map tx).map cellT),(0:Int),()),rfl,hle,0,rfl,by omega,rfl,by simp⟩,?_⟩
 rintro⟨⟨n2,ys⟩,(i:Int),u⟩ V4 ⟨hle4,k,hk,hkl,hn2,hys⟩
 replace hk:i=(k:Int):=hk
 replace hn2:n2=x.2.2.2.1.length+((x.1.take k).flatMap acI).length:=hn2
 replace hys:ys=((x.2.2.2.1.map Ln.r++(x.1.take k).flatMap acI).map tx).map cellT:=hys
 subst hk hys
 have hle4':=le1.trans hle4
 have h24:((x.1.take k).flatMap acI).length≤24:=by
  have h:=flat_lenR (x.1.take k)
  rw [List.length_take] at h
  omega
 refine⟨fun hlt=>?_,fun hge=>?_⟩
 ·have hi:k<x.1.length:=by
   have:(k:Int)<(c0.n:Int):=of_decide_eq_true hlt
   omega
  obtain⟨b1,o1,cc,ff,a1,ld1,R1,_⟩:=(h0.le hle4').at hi
  obtain⟨_,_,hm,_⟩:=hL.1.2 k hi
  obtain⟨w1,w2,w3⟩:=sgn_cases hm.2.1
  have hl4:=hm.2.2
  have z3:=known_size hm.1
  obtain⟨s5,g5,ec,L5⟩:=acct_elim R1
  subst ec
  have eo:Ln.o x.1[k]∈acI x.1[k]:=List.mem_cons_self
  have eP:x.1[k].2.2.2.1≠[]→acI x.1[k]=[.o x.1[k],.p x.1[k]]:=fun h=>by unfold acI; rw [if_neg h]
  -- the invariant,one account further
  have next:∀ (V':Know) (n':Nat) (t:List Value),V4.le V'→n'=n2+(acI x.1[k]).length→t=((x.2.2.2.1.map Ln.r++(x.1.take k).flatMap acI).map tx).map cellT++((acI x.1[k]).map tx).map cellT →
    ∃ y':LShs [.a 9,.o (.o (.i .i64))],[LV.a 9 n' t,.v (.int .i64 (IntKind.i64.wrap ((k:Int)+1)))]=LShs.lvs _ y'∧(V1.le V'∧∃ i:Nat,y'.2.1=(i:Int)∧i≤x.1.length∧y'.1.1=x.2.2.2.1.length+((x.1.take i).flatMap acI).length∧y'.1.2=((x.2.2.2.1.map Ln.r++(x.1.take i).flatMap acI).map tx).map cellT) ∧
     ((x.1.length:Int)-(y'.2.1:Int)).toNat<((x.1.length:Int)-(k:Int)).toNat:=by
   intro V' n' t hl hn' ht
   have e1:x.1.take (k+1)=x.1.take k++[x.1[k]]:=List.take_succ_eq_append_getElem hi
   refine⟨((n',t),((k+1:Nat):Int),()),by rw [nxt hi (by omega)]; rfl,⟨hle4.trans hl,k+1,rfl,hi,?_,?_⟩,?_⟩
   ·show n'=_
    rw [e1,List.flatMap_append,List.length_append,hn',hn2]
    simp
    omega
   ·show t=_
    rw [e1,List.flatMap_append,ht]
    simp
   ·show((x.1.length:Int)-((k+1:Nat):Int)).toNat<((x.1.length:Int)-(k:Int)).toNat
    omega
  refine⟨_,a1,(by omega:(0:Int)≤(k:Int)),(by omega:(k:Int)<(c0.n:Int)),_,ld1,(cI_CmdTextR (i:=.o x.1[k]) (s:=nilS) (hV.le hle4') (oks _ (mem_a hi eo)) lr_nil0).mono ?_⟩
  rintro V5 _ ⟨le5,rfl⟩
  have l5:=hle4'.trans le5
  refine⟨nofun,_,rfl,rfl,⟨rfl,(by omega:(n2+1)*16≤140737488355328),(by omega:n2+1≤9223372036854775807)⟩,(cI_intSign V5 x.1[k].2.2.1 s5 x.1[k].2.2.2.1 g5 (L5.le le5) hm.2.1.1.1).mono ?_⟩
  rintro V6 _ ⟨rfl,rfl⟩
  refine⟨nofun,_,rfl,fun hp=>?_,fun hp=>⟨fun hq=>?_,fun hq=>?_⟩⟩
  ·obtain⟨e1,e2⟩:=w1 (beq_iff_eq.1 hp)
   have key:=cI_CmdTextR (i:=.p x.1[k]) (hV.le l5) (oks _ (mem_a hi (by rw [eP e2]; simp))) (L5.le le5)
   rw [cells_p2 _ e1] at key
   refine key.mono ?_
   rintro V7 _ ⟨le7,rfl⟩
   refine⟨nofun,_,rfl,rfl,⟨rfl,(by omega:(n2+1+1)*16≤140737488355328),(by omega:n2+1+1≤9223372036854775807)⟩,_,rfl,next V7 _ _ (le5.trans le7) ?_ ?_⟩
   ·rw [eP e2]; rfl
   ·rw [eP e2,List.append_assoc]; rfl
  ·obtain⟨e1,e2⟩:=w2 (beq_iff_eq.1 hq)
   refine(cI_minus V6 (x.1[k].2.1,x.1[k].2.2.1,s5,()) x.1[k].2 g5 (mon_mk (by omega) (L5.le le5)) (by omega)).mono ?_
   rintro V7 _ ⟨le7,cy,fy,rfl,Ry,_⟩
   obtain⟨s7,rfl,L7,_⟩:=mon_elim Ry
   have key:=cI_CmdTextR (i:=.p x.1[k]) (hV.le (l5.trans le7)) (oks _ (mem_a hi (by rw [eP e2]; simp))) L7
   rw [cells_p3 _ e1] at key
   refine⟨fun _=>le7,_,rfl,key.mono ?_⟩
   rintro V8 _ ⟨le8,rfl⟩
   refine⟨fun _=>le8,_,rfl,rfl,⟨rfl,(by omega:(n2+1+1)*16≤140737488355328),(by omega:n2+1+1≤9223372036854775807)⟩,_,rfl,next V8 _ _ ((le5.trans le7).trans le8) ?_ ?_⟩
   ·rw [eP e2]; rfl
   ·rw [eP e2,List.append_assoc]; rfl
  ·have e2:=w3 (bf' beq_iff_eq hp) (bf' beq_iff_eq hq)
   have eA:acI x.1[k]=[.o x.1[k]]:=by unfold acI; rw [if_pos e2]
   refine⟨_,rfl,next V6 _ _ le5 ?_ ?_⟩
   ·rw [eA]; rfl
   ·rw [eA]; rfl
 have hk0:k=x.1.length:=by
  have:¬ (k:Int)<(c0.n:Int):=of_decide_eq_false hge
  omega
 intro b cap spare hb0 hc _
 have efull:x.2.2.2.1.map Ln.r++(x.1.take k).flatMap acI=itemsR x:=by
  rw [hk0,List.take_length]
  rfl
 have elen:n2=((itemsR x).map tx).length:=by rw [← efull,hn2,List.length_map,List.length_append,List.length_map]
 have hln:=itm_len hL
 rw [efull,elen]
 rw [elen] at hc
 have q:=newT (V:=V4) (b:=b) (cap:=cap) (o:=(itemsR x).map tx) (spare:=spare) (t:=9) hb0 hc (by rw [List.length_map]; omega) (fun y hy=>by
  obtain⟨i,hi,rfl⟩:=List.mem_map.1 hy
  exact Nat.le_trans (lnX_size (oks i hi)) (by decide))
 exact⟨hle4'.trans (kset_le hb0),⟨some ⟨b,0,none⟩,((itemsR x).map tx).length,cap⟩,[b],rfl,q.1⟩
end Go.Proofs.YtpdfdkccgkieoaaGreatDoor
namespace Go.Proofs.YtpdfdkccgkieoaaGreatDoor
open Sx
set_option maxRecDepth 100000
theorem add_go (b:Nat) (n:Int) (w:World) (h0:w.cell? ⟨b,0,none⟩=some (.int .i64 n)) (f0:w.frozen? ⟨b,0,none⟩=false) :
  Calls Tryz.prog 22 #[.pointer (some ⟨b,0,none⟩),.int .i64 1] w fun e w'=>∃ m,e=.returned (.int .i64 m)∧w'=w.setCell ⟨b,0,none⟩ (.int .i64 m):=by
 have hadd:=run_call_add (P:=Tryz.prog) Tryz.func47 (by kernel_rfl) (by kernel_rfl) (by kernel_rfl) .i64 (by kernel_rfl) (y:=1) (s:=IntKind.i64.wrap (n+1)) h0 f0 (by simp [go_sem])
 go_enter Tryz.func22,Tryz.ntmps22
 go_wp2
 go_ret
 exact⟨_,rfl,rfl⟩
theorem cI_count {V:Know} {b:Nat} {n:Int} {t:TypeId} (hb:V b=some ([.int .i64 n],(t,(0,0)))) :
  CallX Tryz.prog V 22 [.pointer (some ⟨b,0,none⟩),.int .i64 1] fun V' r=>∃ m,V'=kset V b ([.int .i64 m],(t,(0,0)))∧r=.int .i64 m:=by
 refine⟨⟨_,Tryz.func22,by kernel_rfl,by kernel_rfl⟩,fun w hw=>?_⟩
 obtain⟨_,_,c1,z1⟩:=set_on (y:=.int .i64 0) hw hb
 refine(add_go b n w c1 z1).mono ?_
 rintro e w' ⟨m,rfl,rfl⟩
 obtain⟨on,fr,_,_⟩:=set_on (y:=.int .i64 m) hw hb
 exact⟨_,_,rfl,fr,on,m,rfl,rfl⟩
end Go.Proofs.YtpdfdkccgkieoaaGreatDoor
