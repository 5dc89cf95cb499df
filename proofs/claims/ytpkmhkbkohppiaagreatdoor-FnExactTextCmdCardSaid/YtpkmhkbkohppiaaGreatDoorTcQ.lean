/-
  Percents read from texts, as data: the point is moved back.
-/
import Derived.Test.YtpkmhkbkohppiaaGreatDoorItS
namespace Go.Proofs.YtpkmhkbkohppiaaGreatDoor
open Sx Go.RowKit
set_option maxRecDepth 100000
def hasSR (V:Know):Prop:=(∃ tp p t,V 2=some ([.iface tp p],t))∧∃ tp p t,V 3=some ([.iface tp p],t)
theorem hasSR.le {V V':Know} (h:hasSR V) (hle:V.le V'):hasSR V':=by
 obtain⟨⟨a,b,c,h1⟩,d,e,f,h2⟩:=h
 exact⟨⟨a,b,c,hle _ _ h1⟩,d,e,f,hle _ _ h2⟩
theorem var_of {P:Program} {V:Know} {w:World} {name:String} {g:Nat} {tp:TypeId} {p:Value} {t:KTy} (hg:P.globalNamed name=some g) (hV:V g=some ([.iface tp p],t)) (hw:V.on w):w.var? P name=some #[.iface tp p]:=by
 have h:=hw g _ _ hV
 unfold World.var?
 rw [hg]
 simp only [Option.bind_some,h]
 rw [objOf_cells (by rfl)]
theorem CallX.of_low {P:Program} {V:Know} {g:FuncId} {args:List Value} {K:Value→Prop} (he:Sx.Enters P g)
  (h:∀ w,V.on w→Calls P g args.toArray w fun e w'=>∃ v,e=.returned v∧Below w.heap.size w w'∧K v):CallX P V g args (fun V' r=>V'=V∧K r) :=
 ⟨he,fun w hw=>(h w hw).mono fun _ _ ⟨v,he,hb,hK⟩=>⟨V,v,he,⟨hb.os,hb.tape,hb.output,hb.size,fun b hb' _=>hb.block b hb',fun _ _ h=>h⟩,fun b c t hv=>by
  have hk:=hw b c t hv
  have hlt:b<w.heap.size:=(Array.getElem?_eq_some_iff.1 hk).1
  rw [hb.block b hlt]; exact hk,rfl,hK⟩⟩
theorem below_bw {w:World} {e:TypeId} {s:ByteArray}:Below w.heap.size w (Go.Lib.bytesWorld w e s) :=
 ⟨rfl,rfl,rfl,by rw [Go.Lib.bytesWorld_size]; omega,fun k hk=>Go.Lib.bytesWorld_at_old w e s k hk⟩
open Go.Lib in
theorem parse_dv:∀ {l:List UInt8} {a:Nat},(∀ c∈l,Dg c)→a*10 ^ l.length+dv l<9223372036854775808→parseUint10 a l=.ok (dvA l a)
 | [],a,_,_=>rfl
 | c :: r,a,hd,h=>by
  have h1:48≤c.toNat∧c.toNat≤57:=hd c (by simp)
  have e:=dvA_eq r (a*10+(c.toNat-48))
  have e2:=dvA_eq (c :: r) a
  have e3:dvA (c :: r) a=dvA r (a*10+(c.toNat-48)):=by rw [dvA,Nat.mul_comm]
  rw [← e2,e3,e] at h
  have h10:1≤10 ^ r.length:=Nat.one_le_pow _ _ (by omega)
  have h11:(a*10+(c.toNat-48))*1≤(a*10+(c.toNat-48))*10 ^ r.length:=Nat.mul_le_mul_left _ h10
  rw [parseUint10,if_pos h1,if_neg (by omega),if_neg (by omega),parse_dv (fun x hx=>hd x (by simp [hx])) (by omega),e3]
open Go.Lib in
theorem atoi_num {m:Int} (h:0≤m) (h9:m≤1000000000):atoiAll (bl (numT m))=.ok m:=by
 obtain⟨h1,h2⟩:=numT_num _ m h rfl
 have e:parseUint10 0 (bl (numT m))=.ok (dvA (bl (numT m)) 0):=parse_dv h1.2.1 (by rw [h2]; omega)
 have e2:dvA (bl (numT m)) 0=m.toNat:=h2
 rw [e2] at e
 have h3:=h1.1
 have hd:=h1.2.1
 revert e h3 hd
 generalize bl (numT m)=l
 intro e h3 hd
 cases l with
 | nil=>exact absurd rfl h3
 | cons c r =>
  have hc:48≤c.toNat∧c.toNat≤57:=hd c (by simp)
  unfold atoiAll
  have n1:¬ (c.toNat=43∨c.toNat=45):=by omega
  have n2:¬ c.toNat=45:=by omega
  simp only [if_neg n1,parseMag,reduceCtorEq,if_false,e]
  rw [if_neg (by omega),if_neg (by omega),if_neg n2]
  congr 1
  omega
open Go.Lib in
theorem atoi_range {l:List UInt8} {v:Int} (h:atoiAll l=.ok v):-9223372036854775808≤v∧v≤9223372036854775807:=by
 unfold atoiAll at h
 split at h
 ·cases h
 ·simp only at h
  split at h
  ·cases h
  ·cases h
  ·split at h
   ·cases h
   ·split at h
    ·cases h
    ·cases h
     split <;> omega
def AtoiPost (s:ByteArray) (r:Value):Prop:=(∃ v:Int,r=.tuple #[.int .i64 v,.nilIface]∧Go.Lib.atoiAll (bl s)=.ok v)∨∃ (v:Int) (n:Nat),r=.tuple #[.int .i64 v,.iface 162 (.pointer (some ⟨n,0,none⟩))]∧∀ m,Go.Lib.atoiAll (bl s)≠.ok m
theorem cX_Atoi {V:Know} (hE:hasSR V) (s:ByteArray) (hs:s.size≤1048576):CallX Tryz.prog V 132 [.string s] (fun V' r=>V'=V∧AtoiPost s r):=by
 refine CallX.of_low ⟨_,Tryz.func132,by kernel_rfl,by kernel_rfl⟩ fun w hw=>?_
 obtain⟨⟨tp,p,t,h1⟩,tp',p',t',h2⟩:=hE
 rcases hA:Go.Lib.atoiAll s.data.toList with v | _ | _
 ·refine(Tryz.strconv_Atoi_ok s (by omega) v hA w).mono ?_
  rintro e w' ⟨rfl,rfl | ⟨t,rfl⟩⟩
  ·exact⟨_,rfl,Below.refl _ _,.inl ⟨v,rfl,hA⟩⟩
  ·exact⟨_,rfl,below_bw,.inl ⟨v,rfl,hA⟩⟩
 ·refine(Tryz.strconv_Atoi_syntax_var s (by omega) hA tp p w (var_of (by kernel_rfl) h1 hw)).mono ?_
  rintro e w' ⟨n,rfl,_,_,hb⟩
  exact⟨_,rfl,hb,.inr ⟨0,n,rfl,fun m hm=>by rw [show bl s=s.data.toList from rfl,hA] at hm; cases hm⟩⟩
 ·refine(Tryz.strconv_Atoi_range_var s (by omega) hA tp' p' w (var_of (by kernel_rfl) h2 hw)).mono ?_
  rintro e w' ⟨n,rfl,_,_,hb⟩
  exact⟨_,rfl,hb,.inr ⟨_,n,rfl,fun m hm=>by rw [show bl s=s.data.toList from rfl,hA] at hm; cases hm⟩⟩
abbrev IntEx (V:Know) (s:ByteArray):Know→Value→Prop:=fun V' r=>V.le V'∧∃ (n:Int) (ok:Bool),r=.tuple #[.int .i64 n,.bool ok]∧(-9223372036854775808≤n∧n≤9223372036854775807)∧(ok=true→numT n=s)∧∀ m:Int,0≤m→m≤1000000000→numT m=s→ok=true∧n=m
theorem cI_TextInt {V:Know} (hV:HtI V) (hE:hasSR V) (s:ByteArray) (hs:s.size≤1048576):CallX Tryz.prog V 99 [.string s] (IntEx V s):=by
 refine CallX.of_fits Tryz.mix (fI_TextInt _) fun _=>?_
 have no:∀ {V':Know},V.le V'→(∀ m:Int,0≤m→m≤1000000000→numT m≠s)→IntEx V s V' (packed [.int .i64 0,.bool false]):=fun le h =>
  ⟨le,0,false,rfl,⟨by decide,by decide⟩,nofun,fun m hm hm9 e=>absurd e (h m hm hm9)⟩
 simp only [tI_TextInt,T.wp]
 refine(cX_Atoi hE s hs).mono ?_
 rintro V1 r ⟨rfl,⟨v,rfl,hA⟩ | ⟨v,n,rfl,hA⟩⟩
 ·refine⟨nofun,(v,none,()),rfl,?_⟩
  have hr:=atoi_range hA
  have hfit:∀ m:Int,0≤m→m≤1000000000→numT m=s→v=m:=fun m hm hm9 e=>by
   have:=atoi_num hm hm9
   rw [e,hA] at this
   injection this
  refine⟨fun _=>⟨nofun,fun _=>(cI_Itoa hV v hr.1 hr.2).mono ?_⟩,nofun⟩
  rintro V2 _ ⟨rfl,rfl⟩
  refine⟨nofun,_,rfl,fun hne=>no (Know.le.refl _) fun m hm hm9 e=>?_,fun heq=>?_⟩
  ·rw [hfit m hm hm9 e,e] at hne
   simp at hne
  ·have e:(numT v).toList == s.toList:=by simpa using heq
   exact⟨Know.le.refl _,v,true,rfl,hr,fun _=>text_eq.1 e,fun m hm hm9 e=>⟨rfl,hfit m hm hm9 e⟩⟩
 ·refine⟨nofun,(v,some (162,Int.negSucc n),()),rfl,?_⟩
  have h0:∀ m:Int,0≤m→m≤1000000000→numT m≠s:=fun m hm hm9 e=>by
   have:=atoi_num hm hm9
   rw [e] at this
   exact hA m this
  exact⟨nofun,fun _ _=>⟨fun _=>no (Know.le.refl _) h0,nofun⟩⟩
end Go.Proofs.YtpkmhkbkohppiaaGreatDoor
namespace Go.Proofs.YtpkmhkbkohppiaaGreatDoor
open Sx Go.RowKit
set_option maxRecDepth 100000
def OpGot (s:ByteArray) (op:Int):Prop:=(1≤op∧op≤9∧opT op=s)∨(op=0∧∀ o:Int,1≤o→o≤9→opT o≠s)
def RmGot (s:ByteArray) (m:Int) (ok:Bool):Prop:=(ok=true∧ModeP m∧modeT m=s)∨(ok=false∧m=0∧∀ o:Int,ModeP o→modeT o≠s)
theorem opT_inj {a b:Int} (ha:1≤a∧a≤9) (hb:1≤b∧b≤9) (e:opT a=opT b):a=b:=by
 have h1:a=1∨a=2∨a=3∨a=4∨a=5∨a=6∨a=7∨a=8∨a=9:=by omega
 have h2:b=1∨b=2∨b=3∨b=4∨b=5∨b=6∨b=7∨b=8∨b=9:=by omega
 have key:∀ i:Nat,i<10→∀ j:Nat,j<10→(opL.getD i (noT,())).1.data.toList=(opL.getD j (noT,())).1.data.toList→i=j:=by decide
 have:=key a.toNat (by omega) b.toNat (by omega) (congrArg (fun x:ByteArray=>x.data.toList) e)
 omega
theorem modeT_inj {a b:Int} (ha:ModeP a) (hb:ModeP b) (e:modeT a=modeT b):a=b:=by
 have h1:=ha.1
 have h2:=ha.2
 have h3:=hb.1
 have h4:=hb.2
 have key:∀ i:Nat,i<7→∀ j:Nat,j<7→(modeL.getD i (noT,())).1.data.toList=(modeL.getD j (noT,())).1.data.toList→i=j:=by decide
 have:=key a.toNat (by omega) b.toNat (by omega) (congrArg (fun x:ByteArray=>x.data.toList) e)
 omega
theorem cS_NameOp (V:Know) (s:ByteArray):CallX Tryz.prog V 11 [.string s] (fun V' r=>V.le V'∧∃ op:Int,r=.int .i64 op∧OpGot s op):=by
 refine CallX.of_fits Tryz.mix (fS_NameOp _) fun _=>?_
 simp only [tS_NameOp,T.wp]
 refine⟨fun y V'=>V.le V'∧1≤(y.1:Int)∧(y.1:Int)≤10∧∀ o:Int,1≤o→o<(y.1:Int)→opT o≠s,fun y _=>(10-(y.1:Int)).toNat,⟨((1:Int),()),rfl,Know.le.refl _,Int.le_refl _,by decide,fun o h1 h2=>absurd h1 (by have h2:o<1:=h2; omega)⟩,?_⟩
 rintro⟨(j:Int),u⟩ V' ⟨hle,h1,h2,h3⟩
 replace h1:1≤j:=h1
 replace h2:j≤10:=h2
 replace h3:∀ o:Int,1≤o→o<j→opT o≠s:=h3
 refine⟨fun h9=>?_,fun h9=>?_⟩
 ·have h9':j≤9:=of_decide_eq_true h9
  refine(cS_OpName V' j ⟨h1,h9'⟩).mono ?_
  rintro V2 _ ⟨rfl,rfl⟩
  refine⟨nofun,_,rfl,fun he=>⟨hle,j,rfl,.inl ⟨h1,h9',text_eq.1 he⟩⟩,fun hne=>⟨_,rfl,(j+1,()),?_,⟨hle,by show 1≤j+1; omega,by show j+1≤10; omega,fun o ho ho2=>?_⟩,?_⟩⟩
  ·rw [wrap_i64 (by omega)]; rfl
  ·have ho2:o<j+1:=ho2
   by_cases e:o=j
   ·rw [e]; exact text_ne.1 hne
   ·exact h3 o ho (by omega)
  ·show(10-(j+1)).toNat<(10-j).toNat
   omega
 ·have h9':¬ j≤9:=of_decide_eq_false h9
  exact⟨hle,0,rfl,.inr ⟨rfl,fun o ho ho9=>h3 o ho (by omega)⟩⟩
theorem cI_NameOp (V:Know) (s:ByteArray):CallX Tryz.prog V 23 [.string s] (fun V' r=>V.le V'∧∃ op:Int,r=.int .i64 op∧OpGot s op):=by
 refine CallX.of_fits Tryz.mix (fI_NameOp _) fun _=>?_
 simp only [tI_NameOp,T.wp]
 refine⟨fun y V'=>V.le V'∧1≤(y.1:Int)∧(y.1:Int)≤10∧∀ o:Int,1≤o→o<(y.1:Int)→opT o≠s,fun y _=>(10-(y.1:Int)).toNat,⟨((1:Int),()),rfl,Know.le.refl _,Int.le_refl _,by decide,fun o h1 h2=>absurd h1 (by have h2:o<1:=h2; omega)⟩,?_⟩
 rintro⟨(j:Int),u⟩ V' ⟨hle,h1,h2,h3⟩
 replace h1:1≤j:=h1
 replace h2:j≤10:=h2
 replace h3:∀ o:Int,1≤o→o<j→opT o≠s:=h3
 refine⟨fun h9=>?_,fun h9=>?_⟩
 ·have h9':j≤9:=of_decide_eq_true h9
  refine(cI_OpName V' j ⟨h1,h9'⟩).mono ?_
  rintro V2 _ ⟨le2,rfl⟩
  refine⟨nofun,_,rfl,fun he=>⟨hle.trans le2,j,rfl,.inl ⟨h1,h9',text_eq.1 he⟩⟩,fun hne=>⟨_,rfl,(j+1,()),?_,⟨hle.trans le2,by show 1≤j+1; omega,by show j+1≤10; omega,fun o ho ho2=>?_⟩,?_⟩⟩
  ·rw [wrap_i64 (by omega)]; rfl
  ·have ho2:o<j+1:=ho2
   by_cases e:o=j
   ·rw [e]; exact text_ne.1 hne
   ·exact h3 o ho (by omega)
  ·show(10-(j+1)).toNat<(10-j).toNat
   omega
 ·have h9':¬ j≤9:=of_decide_eq_false h9
  exact⟨hle,0,rfl,.inr ⟨rfl,fun o ho ho9=>h3 o ho (by omega)⟩⟩
theorem cS_NameRm (V:Know) (s:ByteArray):CallX Tryz.prog V 19 [.string s] (fun V' r=>V.le V'∧∃ (m:Int) (ok:Bool),r=.tuple #[.int .i64 m,.bool ok]∧RmGot s m ok):=by
 refine CallX.of_fits Tryz.mix (fS_NameRm _) fun _=>?_
 simp only [tS_NameRm,T.wp]
 refine⟨fun y V'=>V.le V'∧0≤(y.1:Int)∧(y.1:Int)≤7∧∀ o:Int,0≤o→o<(y.1:Int)→modeT o≠s,fun y _=>(7-(y.1:Int)).toNat,⟨((0:Int),()),rfl,Know.le.refl _,Int.le_refl _,by decide,fun o h1 h2=>absurd h1 (by have h2:o<0:=h2; omega)⟩,?_⟩
 rintro⟨(j:Int),u⟩ V' ⟨hle,h1,h2,h3⟩
 replace h1:0≤j:=h1
 replace h2:j≤7:=h2
 replace h3:∀ o:Int,0≤o→o<j→modeT o≠s:=h3
 refine⟨fun h9=>?_,fun h9=>?_⟩
 ·have h9':j≤6:=of_decide_eq_true h9
  refine(cS_RmName V' j ⟨h1,h9'⟩).mono ?_
  rintro V2 _ ⟨rfl,rfl⟩
  refine⟨nofun,_,rfl,fun he=>⟨hle,j,true,rfl,.inl ⟨rfl,⟨h1,h9'⟩,text_eq.1 he⟩⟩,fun hne=>⟨_,rfl,(j+1,()),?_,⟨hle,by show 0≤j+1; omega,by show j+1≤7; omega,fun o ho ho2=>?_⟩,?_⟩⟩
  ·rw [wrap_i64 (by omega)]; rfl
  ·have ho2:o<j+1:=ho2
   by_cases e:o=j
   ·rw [e]; exact text_ne.1 hne
   ·exact h3 o ho (by omega)
  ·show(7-(j+1)).toNat<(7-j).toNat
   omega
 ·have h9':¬ j≤6:=of_decide_eq_false h9
  exact⟨hle,0,false,rfl,.inr ⟨rfl,rfl,fun o ho=>h3 o ho.1 (by have:=ho.2; omega)⟩⟩
abbrev rmSh:Sh1:=.g [.s,.f,.s,.f,.s,.f,.s,.f,.s,.f,.s,.f,.s,.f]
def rmRow:ByteArray × Nat × ByteArray × Nat × ByteArray × Nat × ByteArray × Nat × ByteArray × Nat × ByteArray × Nat × ByteArray × Nat × PUnit:=(modeT 0,162,modeT 1,163,modeT 2,164,modeT 3,165,modeT 4,166,modeT 5,167,modeT 6,168,())
theorem cI_roundModes (V:Know):CallX Tryz.prog V 131 [] (fun V' r=>V'=V∧r=Sh1.val rmSh rmRow):=by
 refine CallX.of_fits Tryz.mix fI_roundModes fun _=>?_
 simp only [tI_roundModes,T.wp]
 exact⟨by trivial,rfl⟩
theorem cI_NameRm (V:Know) (s:ByteArray):CallX Tryz.prog V 97 [.string s] (fun V' r=>V.le V'∧∃ (m:Int) (ok:Bool),r=.tuple #[.int .i64 m,.bool ok]∧RmGot s m ok):=by
 refine CallX.of_fits Tryz.mix (fI_NameRm _) fun _=>?_
 simp only [tI_NameRm,T.wp]
 refine(cI_roundModes V).mono ?_
 rintro V1 _ ⟨rfl,rfl⟩
 refine⟨nofun,rmRow,rfl,?_⟩
 refine⟨fun y V'=>V1.le V'∧0≤(y.1:Int)∧(y.1:Int)≤7∧∀ o:Int,0≤o→o<(y.1:Int)→modeT o≠s,fun y _=>(7-(y.1:Int)).toNat,⟨((0:Int),()),rfl,Know.le.refl _,Int.le_refl _,by decide,fun o h1 h2=>absurd h1 (by have h2:o<0:=h2; omega)⟩,?_⟩
 rintro⟨(j:Int),u⟩ V' ⟨hle,h1,h2,h3⟩
 replace h1:0≤j:=h1
 replace h2:j≤7:=h2
 replace h3:∀ o:Int,0≤o→o<j→modeT o≠s:=h3
 refine⟨fun h9=>?_,fun h9=>?_⟩
 ·have h9':j<7:=of_decide_eq_true h9
  refine⟨⟨h1,by show j<7; omega⟩,(modeT j,162+j.toNat,()),?_,?_⟩
  ·have hj:j=0∨j=1∨j=2∨j=3∨j=4∨j=5∨j=6:=by omega
   rcases hj with rfl | rfl | rfl | rfl | rfl | rfl | rfl <;> rfl
  ·refine⟨fun he=>⟨hle,j,true,rfl,.inl ⟨rfl,⟨h1,by omega⟩,text_eq.1 he⟩⟩,fun hne=>⟨_,rfl,(j+1,()),?_,⟨hle,by show 0≤j+1; omega,by show j+1≤7; omega,fun o ho ho2=>?_⟩,?_⟩⟩
   ·rw [wrap_i64 (by omega)]; rfl
   ·have ho2:o<j+1:=ho2
    by_cases e:o=j
    ·rw [e]; exact text_ne.1 hne
    ·exact h3 o ho (by omega)
   ·show(7-(j+1)).toNat<(7-j).toNat
    omega
 ·have h9':¬ j<7:=of_decide_eq_false h9
  exact⟨hle,0,false,rfl,.inr ⟨rfl,rfl,fun o ho=>h3 o ho.1 (by have:=ho.2; omega)⟩⟩
theorem cI_wordsOf (V:Know) (f:Int):CallX Tryz.prog V 25 [.int .i64 f] (fun V' r=>V'=V∧r=.int .i64 (nw f:Int)):=by
 refine CallX.of_fits Tryz.mix (fI_wordsOf _) fun _=>?_
 simp only [tI_wordsOf,T.wp]
 unfold nw
 refine⟨fun h=>?_,fun h=>⟨fun h4=>?_,fun h4=>?_⟩⟩
 ·have:f=8:=by simpa using h
  rw [if_pos this]; exact⟨by trivial,rfl⟩
 ·have:¬ f=8:=by simpa using h
  have e:f=4:=by simpa using h4
  rw [if_neg this,if_pos e]; exact⟨by trivial,rfl⟩
 ·have:¬ f=8:=by simpa using h
  have e:¬ f=4:=by simpa using h4
  rw [if_neg this,if_neg e]; exact⟨by trivial,rfl⟩
end Go.Proofs.YtpkmhkbkohppiaaGreatDoor
namespace Go.Proofs.YtpkmhkbkohppiaaGreatDoor
open Sx Go.RowKit
set_option maxRecDepth 100000
theorem str_sz:Tryz.prog.types[(9:Nat)].size=1:=by kernel_rfl
theorem LR.takeK {V:Know} {t:SlV} {l:List Tx} {f:List Nat} (h:LR rString V t l f) {k:Nat} (hk:k≤l.length):∃ f',LR rString V ⟨t.a,k,t.c⟩ (l.take k) f':=by
 obtain⟨h1,h2,h3,h4⟩:=h
 rcases h4 with ⟨h0,hc,rfl⟩ | ⟨b,pre,post,u,fps,cs,ha,hb,he,rfl⟩
 ·exact⟨[],by rw [List.length_take]; show k=_; omega,by show k≤t.c; omega,by show k≤_; omega,.inl ⟨by show k=0; omega,hc,rfl⟩⟩
 ·obtain⟨rfl,rfl⟩:=els_txt_eq he
  have hz:∀ x∈cs.take k,x.1.size≤9223372036854775807:=fun x hx=>by
   obtain⟨i,hi,rfl⟩:=List.mem_iff_getElem.1 (List.mem_of_mem_take hx)
   have L:LR rString V t cs [b]:=⟨h1,h2,h3,.inr ⟨b,pre,post,u,[],cs,ha,hb,he,rfl⟩⟩
   exact(L.txt hi).2
  refine⟨[b],by rw [List.length_take]; show k=_; omega,by show k≤t.c; omega,by show k≤_; omega,.inr ⟨b,pre,(cs.drop k).flatMap (Scs.vals [.s])++post,u,[],cs.take k,ha,?_,els_txt _ hz,rfl⟩⟩
  rw [hb,← List.append_assoc (List.flatMap _ (cs.take k)),← List.flatMap_append,List.take_append_drop]
theorem txs_len (l:List Tx):(l.flatMap (Scs.vals [.s])).length=l.length:=by rw [flat_txt]; simp
theorem LR.dropK {V:Know} {t:SlV} {l:List Tx} {f:List Nat} (h:LR rString V t l f) {k:Nat} (hk:k≤l.length):∃ f',LR rString V ⟨(if t.c=k then t.a else t.a.map fun x=>x.add (k*1)),t.n-k,t.c-k⟩ (l.drop k) f':=by
 obtain⟨h1,h2,h3,h4⟩:=h
 rcases h4 with ⟨h0,hc,rfl⟩ | ⟨b,pre,post,u,fps,cs,ha,hb,he,rfl⟩
 ·have:k=0:=by omega
  subst this
  refine⟨[],by rw [List.length_drop]; show t.n-0=_; omega,by show t.n-0≤t.c-0; omega,by show t.n-0≤_; omega,.inl ⟨by show t.n-0=0; omega,fun hn=>?_,rfl⟩⟩
  show t.c-0=0
  by_cases c0:t.c=0
  ·omega
  ·simp only [if_neg c0] at hn
   cases ht:t.a with
   | none=>have:=hc ht; omega
   | some a=>rw [ht] at hn; cases hn
 ·obtain⟨rfl,rfl⟩:=els_txt_eq he
  have hl:t.n-k=(cs.drop k).length:=by rw [List.length_drop]; omega
  by_cases c1:t.c=k
  ·rw [if_pos c1]
   exact⟨[],hl,by show t.n-k≤t.c-k; omega,by show t.n-k≤_; omega,.inl ⟨by show t.n-k=0; omega,fun _=>by show t.c-k=0; omega,rfl⟩⟩
  ·rw [if_neg c1,ha]
   have hz:∀ x∈cs.drop k,x.1.size≤9223372036854775807:=fun x hx=>by
    obtain⟨i,hi,rfl⟩:=List.mem_iff_getElem.1 (List.mem_of_mem_drop hx)
    have L:LR rString V t cs [b]:=⟨h1,h2,h3,.inr ⟨b,pre,post,u,[],cs,ha,hb,he,rfl⟩⟩
    exact(L.txt hi).2
   refine⟨[b],hl,by show t.n-k≤t.c-k; omega,by show t.n-k≤_; omega,.inr ⟨b,pre++(cs.take k).flatMap (Scs.vals [.s]),post,u,[],cs.drop k,?_,?_,els_txt _ hz,rfl⟩⟩
   ·show some ((⟨b,pre.length,none⟩:Addr).add (k*1))=_
    rw [addr_add_eq]
    have e:((cs.take k).flatMap (Scs.vals [.s])).length=k:=(txs_len (cs.take k)).trans (by rw [List.length_take]; omega)
    rw [List.length_append,e,Nat.mul_one]
   ·rw [hb,List.append_assoc,← List.append_assoc (List.flatMap _ (cs.take k)),← List.flatMap_append,List.take_append_drop]
theorem LR.dropS {V:Know} {t:SlV} {l:List Tx} {f:List Nat} (h:LR rString V t l f) {k:Int} (h0:0≤k) (hk:k≤(l.length:Int)) :
  ∃ t' f',Value.slice (if (t.c:Int).toNat=Int.toNat k then t.a else Option.map (fun x=>x.add (Int.toNat k*Tryz.prog.types[(9:Nat)].size)) t.a) ((t.n:Int).toNat-Int.toNat k) ((t.c:Int).toNat-Int.toNat k)=Sc.val .l t'∧LR rString V t' (l.drop k.toNat) f':=by
 obtain⟨f',L⟩:=h.dropK (k:=k.toNat) (by omega)
 refine⟨_,f',?_,L⟩
 rw [str_sz]
 rfl
theorem LR.takeS {V:Know} {t:SlV} {l:List Tx} {f:List Nat} (h:LR rString V t l f) {k:Int} (h0:0≤k) (hk:k≤(l.length:Int)) :
  ∃ t' f',Value.slice (if (t.c:Int).toNat=Int.toNat (0:Int) then t.a else Option.map (fun x=>x.add (Int.toNat (0:Int)*Tryz.prog.types[(9:Nat)].size)) t.a) (k.toNat-Int.toNat (0:Int)) ((t.c:Int).toNat-Int.toNat (0:Int))=Sc.val .l t'∧LR rString V t' (l.take k.toNat) f':=by
 obtain⟨f',L⟩:=h.takeK (k:=k.toNat) (by omega)
 refine⟨_,f',?_,L⟩
 show Value.slice _ _ _=Value.slice _ _ _
 have e:Int.toNat (0:Int)=0:=rfl
 rw [e,Nat.zero_mul,Nat.sub_zero]
 congr 1
 split
 ·rfl
 ·cases t.a with
  | none=>rfl
  | some a =>
   show some (a.add 0)=some a
   obtain⟨b,o,r⟩:=a
   cases r <;> simp [Addr.add]
def hd (l:List Tx):ByteArray:=(l.getD 0 (noT,())).1
theorem cS_l22Take (V:Know) (t:SlV) (l:List Tx) (f:List Nat) (h:LR rString V t l f):CallX Tryz.prog V 9 [Sc.val .l t] (fun V' r=>V'=V∧∃ t' f',r=.tuple #[.string (hd l),Sc.val .l t']∧LR rString V t' l.tail f'):=by
 refine CallX.of_fits Tryz.mix (fS_l22Take _) fun _=>?_
 simp only [tS_l22Take,T.wp]
 have hn:=h.1
 have hc:=h.2.1
 refine⟨fun h0=>?_,fun h0=>?_⟩
 ·have:t.n=0:=by
   have:(t.n:Int)=0:=by simpa using h0
   omega
  have e:l=[]:=List.eq_nil_of_length_eq_zero (by omega)
  subst e
  exact⟨by trivial,t,f,rfl,h⟩
 ·have hp:0<l.length:=by
   have:¬ (t.n:Int)=0:=by simpa using h0
   omega
  obtain⟨⟨b,o,a1,l1⟩,z1⟩:=h.txt hp
  obtain⟨t',f',e',L'⟩:=h.dropS (k:=1) (by decide) (by omega)
  refine⟨_,a1,by decide,by omega,l[0].1,l1,⟨by decide,by omega,by omega,by omega⟩,by trivial,t',f',?_,?_⟩
  ·rw [← e']
   show Value.tuple #[.string l[0].1,_]=Value.tuple #[.string (hd l),_]
   rw [hd,List.getD_eq_getElem?_getD,List.getElem?_eq_getElem hp]
   rfl
  ·have:l.tail=l.drop (1:Int).toNat:=by simp
   rw [this]; exact L'
end Go.Proofs.YtpkmhkbkohppiaaGreatDoor
namespace Go.Proofs.YtpkmhkbkohppiaaGreatDoor
open Sx Go.RowKit
set_option maxRecDepth 100000
theorem same10_tr {m m' m'':List Lim} {s s' s'':Int} (h:Same10 m s m' s') (k:Same10 m' s' m'' s''):Same10 m s m'' s'':=by
 refine⟨?_⟩
 have h1:=h.1
 have h2:=k.1
 have hp:=ten_pos s'.toNat
 refine Int.eq_of_mul_eq_mul_right (a:=ten s'.toNat) (by omega) ?_
 calc valN m''*ten s.toNat*ten s'.toNat=valN m''*ten s'.toNat*ten s.toNat:=by rw [Int.mul_assoc,Int.mul_comm (ten s.toNat),← Int.mul_assoc]
  _=valN m'*ten s''.toNat*ten s.toNat:=by rw [h2]
  _=valN m'*ten s.toNat*ten s''.toNat:=by rw [Int.mul_assoc,Int.mul_comm (ten s''.toNat),← Int.mul_assoc]
  _=valN m*ten s'.toNat*ten s''.toNat:=by rw [h1]
  _=valN m*ten s''.toNat*ten s'.toNat:=by rw [Int.mul_assoc,Int.mul_comm (ten s'.toNat),← Int.mul_assoc]
theorem same10_sy {m m':List Lim} {s s':Int} (h:Same10 m s m' s'):Same10 m' s' m s:=⟨h.1.symm⟩
theorem low_val {n:Bool} {m m':List Lim} {sc sc':Int} {x:DecD} (h:LowD n m sc x) (hd:DecOkP n m' sc') (e:Same10 m sc m' sc'):LowD n m' sc' x:=by
 obtain⟨s,y,h0,h1,rfl,hg,hb⟩:=h
 have key:∀ t z,Goes n m' sc' t z→Goes n m sc t z:=fun t z k=>⟨hg.1,k.2.1,same10_tr e k.2.2⟩
 refine⟨s,y,h0,?_,rfl,⟨hd,hg.2.1,same10_tr (same10_sy e) hg.2.2⟩,fun t z t0 t1 k=>hb t z t0 t1 (key t z k)⟩
 rcases Int.lt_or_le sc' s with hl | hl
 ·exact absurd (key sc' m' (goes_self hd)) (hb sc' m' hd.2.2.1 hl)
 ·exact hl
theorem ten_two {a:Int} (h:0≤a):ten (a+2).toNat=100*ten a.toNat:=by
 have e:(a+2).toNat=a.toNat+2:=by omega
 rw [e]
 unfold ten
 rw [Int.pow_succ,Int.pow_succ]
 omega
theorem per_back {m o:List Lim} {sc:Int} {y:DecD} (hm:LowD false m sc (false,m,sc,())) (hv:valN o=valN m*100) (hy:LowD false o sc y) :
  y.1=false∧DecOkP false y.2.1 y.2.2.1∧DecOkP false y.2.1 (y.2.2.1+2)∧LowD false y.2.1 (y.2.2.1+2) (false,m,sc,()):=by
 have hok:=low_ok hm
 obtain⟨s,z,h0,h1,rfl,hg,hb⟩:=hy
 have hsc:0≤sc∧sc≤30:=hok.2.2
 have s28:s≤28:=by
  rcases Int.lt_or_le 28 s with hl | hl
  ·exfalso
   refine hb (sc-2) m (by omega) (by omega) ⟨hg.1,⟨hok.1,hok.2.1,by show 0≤sc-2; omega,by show sc-2≤30; omega⟩,⟨?_⟩⟩
   have e:=ten_two (a:=sc-2) (by omega)
   rw [show sc-2+2=sc by omega] at e
   rw [e,hv,Int.mul_assoc]
  ·exact hl
 have hd2:DecOkP false z (s+2):=⟨hg.2.1.1,hg.2.1.2.1,by omega,by omega⟩
 refine⟨rfl,hg.2.1,hd2,low_val hm hd2 ⟨?_⟩⟩
 have e:=hg.2.2.1
 rw [hv] at e
 rw [e,ten_two h0,Int.mul_assoc]
theorem zero_low:LowD false [] 0 (false,[],0,()):=⟨0,[],by omega,by omega,rfl,goes_self ⟨⟨⟨⟨lims_nil,.inl rfl⟩,by simp⟩,fun h=>by cases h⟩,by simp,by omega,by omega⟩,fun t z h0 h1=>by omega⟩
theorem low_idem {n:Bool} {m:List Lim} {sc:Int} {x:DecD} (h:LowD n m sc x):LowD x.1 x.2.1 x.2.2.1 (x.1,x.2.1,x.2.2.1,()):=by
 have k:=low_ok h
 have h2:=h
 obtain⟨s,y,_,_,rfl,hg,_⟩:=h
 exact low_val h2 k hg.2.2
def LowAny (n:Bool) (m:List Lim) (sc:Int) (x:DecD):Prop:=(DecOkP n m sc∧LowD n m sc x)∨(¬ DecOkP n m sc∧x=(false,[],0,()))
theorem lowAny_low {n:Bool} {m:List Lim} {sc:Int} {x:DecD} (h:LowAny n m sc x):LowD x.1 x.2.1 x.2.2.1 (x.1,x.2.1,x.2.2.1,()):=by
 rcases h with ⟨_,h⟩ | ⟨_,rfl⟩
 ·exact low_idem h
 ·exact zero_low
theorem cS_DecLowA (V:Know) (n:Bool) (t:SlV) (m:List Lim) (f:List Nat) (sc:Int) (h:LR rI V t m f) :
  CallX Tryz.prog V 53 [decV n t sc] (fun V' r=>V.le V'∧∃ (x:DecD) (t:SlV) (f:List Nat),r=decV x.1 t x.2.2.1∧LR rI V' t x.2.1 f∧Own V V' f∧LowAny n m sc x):=by
 by_cases hd:DecOkP n m sc
 ·refine(cS_DecLow V n t m f sc h hd).mono ?_
  rintro V1 _ ⟨le1,x,t1,f1,rfl,L1,O1,h1⟩
  exact⟨le1,x,t1,f1,rfl,L1,O1,.inl ⟨hd,h1⟩⟩
 refine CallX.of_fits Tryz.mix (fS_DecLow _) fun _=>?_
 simp only [tS_DecLow,T.wp]
 refine⟨fun y V'=>V.le V'∧∃ j:Nat,y.1=(j:Int)∧(j:Int)≤31,fun y=>(31-(y.1:Int)).toNat,⟨((0:Int),false,⟨none,0,0⟩,(0:Int),()),rfl,Know.le.refl _,0,rfl,by omega⟩,?_⟩
 rintro⟨(i:Int),(y2:Bool),(y3:SlV),(y4:Int),u⟩ V' ⟨hle,j,hj,hj31⟩
 replace hj:i=(j:Int):=hj
 subst hj
 refine⟨fun ht=>?_,fun _=>⟨hle,(false,[],0,()),⟨none,0,0⟩,[],rfl,lr_none,Own.nil,.inr ⟨hd,rfl⟩⟩⟩
 have h30:(j:Int)≤30:=of_decide_eq_true ht
 refine(cS_DecAt V' n t m f sc j (h.le hle)).mono ?_
 rintro V2 _ ⟨le2,x,t2,e,f2,rfl,L2,O2,hA⟩
 refine⟨nofun,((x.1,t2,x.2.2.1,()),e,()),rfl,fun he=>?_,fun he=>?_⟩
 ·obtain rfl:e=true:=he
  rcases hA with ⟨_,y,_,hg⟩ | ⟨h,_⟩
  ·exact absurd hg.1 hd
  ·cases h
 ·refine⟨_,rfl,(((j+1:Nat):Int),y2,y3,y4,()),?_,⟨hle.trans le2,j+1,rfl,by omega⟩,?_⟩
  ·show [LV.v (.int .i64 (IntKind.i64.wrap ((j:Int)+1))),_,_,_]=_
   rw [wrap_i64 (by omega)]
   rfl
  ·show(31-((j+1:Nat):Int)).toNat<(31-(j:Int)).toNat
   omega
abbrev PerAny (V:Know) (n:Bool) (m:List Lim) (sc:Int):Know→Value→Prop:=fun V' r=>V.le V'∧r=.string (okT (TaxP n m sc) (perT m sc))
theorem cS_PercentA (V:Know) (n:Bool) (t:SlV) (m:List Lim) (f:List Nat) (sc:Int) (h:LR rI V t m f) (hL:TaxP n m sc→LowD n m sc (n,m,sc,())):CallX Tryz.prog V 54 [decV n t sc] (PerAny V n m sc):=by
 by_cases hT:TaxP n m sc
 ·refine(cS_Percent n t m f sc h ⟨hT,hL hT⟩).mono ?_
  rintro V1 _ ⟨le1,_,rfl⟩
  exact⟨le1,by rw [okT_pos hT]⟩
 refine CallX.of_fits Tryz.mix (fS_Percent _) fun _=>?_
 simp only [tS_Percent,T.wp]
 refine(cS_TaxRateOk V n t m f sc h).mono ?_
 rintro V1 r ⟨le1,e,rfl,he⟩
 refine⟨nofun,e,rfl,fun _=>⟨le1,by rw [okT_neg hT]; rfl⟩,fun ht=>absurd (he.1 (by simpa using ht)) hT⟩
theorem cI_PercentA {V:Know} (hV:HtI V) (n:Bool) (t:SlV) (m:List Lim) (f:List Nat) (sc:Int) (h:LR rI V t m f) (hL:TaxP n m sc→LowD n m sc (n,m,sc,())):CallX Tryz.prog V 130 [decV n t sc] (PerAny V n m sc):=by
 by_cases hT:TaxP n m sc
 ·refine(cI_Percent hV n t m f sc h ⟨hT,hL hT⟩).mono ?_
  rintro V1 _ ⟨le1,_,rfl⟩
  exact⟨le1,by rw [okT_pos hT]⟩
 refine CallX.of_fits Tryz.mix (fI_Percent _) fun _=>?_
 simp only [tI_Percent,T.wp]
 refine(cI_TaxRateOk V n t m f sc h).mono ?_
 rintro V1 r ⟨le1,e,rfl,he⟩
 refine⟨nofun,e,rfl,fun _=>⟨le1,by rw [okT_neg hT]; rfl⟩,fun ht=>absurd (he.1 (by simpa using ht)) hT⟩
end Go.Proofs.YtpkmhkbkohppiaaGreatDoor
