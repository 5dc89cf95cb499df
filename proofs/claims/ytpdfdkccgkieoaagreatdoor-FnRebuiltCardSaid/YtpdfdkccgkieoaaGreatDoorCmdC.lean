/-
  The reference's CmdOk, and that it says what the program's says.
-/
import Derived.Test.YtpdfdkccgkieoaaGreatDoorEngD
import Derived.Below
import Derived.Lib.LaidTab
import Derived.Shelf.Strings.Builder1
import Derived.Shelf.Strings.Builder2
import Derived.Shelf.Strings.OnBuilder
import Derived.Shelf.Small.Strs
import Derived.Shelf.Strings.BuilderF
import Derived.Shelf.Strings.BuilderK
import Derived.Shelf.Strings.Builder2Cap
import Derived.Shelf.Strconv.Itoa0
import Derived.Shelf.Strconv.Itoa1
import Derived.Shelf.LaysM
import Derived.Shelf.Strconv.Itoa2
import Derived.Shelf.Strconv.Itoa3
import Derived.Shelf.Strings.Search1
import Derived.Shelf.Strings.Prefix
import Derived.Shelf.Bits.Mul64
import Derived.Shelf.Strings.Repeat
import Derived.Shelf.Strings.BuilderCap
import Derived.Test.YtpdfdkccgkieoaaGreatDoorProg
import Derived.Test.YtpdfdkccgkieoaaGreatDoorLit
import Derived.Test.YtpdfdkccgkieoaaGreatDoorTxt
import Derived.Lib.AppendIntMem
import Derived.Test.YtpdfdkccgkieoaaGreatDoorCmdB
namespace Go.Proofs.YtpdfdkccgkieoaaGreatDoor
open Sx Go.RowKit
set_option maxRecDepth 100000
theorem CallX.of_calls {P:Program} {V:Know} {g:FuncId} {args:List Value} {v:Value} (he:Sx.Enters P g)
  (h:∀ w,V.on w→Calls P g args.toArray w fun e w'=>e=.returned v∧Below w.heap.size w w'):CallX P V g args (fun V' r=>V'=V∧r=v) :=
 ⟨he,fun w hw=>(h w hw).mono fun _ _ ⟨he,hb⟩=>⟨V,v,he,⟨hb.os,hb.tape,hb.output,hb.size,fun b hb' _=>hb.block b hb',fun _ _ h=>h⟩,fun b c t hv=>by
  have hk:=hw b c t hv
  have hlt:b<w.heap.size:=(Array.getElem?_eq_some_iff.1 hk).1
  rw [hb.block b hlt]; exact hk,rfl,rfl⟩⟩
theorem ints_noTup (k:IntKind):∀ zs:List Int,noTup (zs.map fun z=>Value.int k z)=true
 | []=>rfl
 | z :: l=>by
  have ih:=ints_noTup k l
  unfold noTup at ih ⊢
  rw [List.map_cons,List.all_cons,ih]; rfl
theorem tab_of {P:Program} {V:Know} {w:World} {name:String} {k:IntKind} {zs:List Int} {g:Nat} {t:TypeId × Nat × Nat} (hg:P.globalNamed name=some g) (hV:V g=some (zs.map fun z=>Value.int k z,t)) (hw:V.on w):Go.Lib.TabIs P w name k zs:=by
 have h:=hw g _ _ hV
 unfold Go.Lib.TabIs World.var?
 rw [hg]
 simp only [Option.bind_some,h]
 rw [objOf_cells (ints_noTup k zs)]
end Go.Proofs.YtpdfdkccgkieoaaGreatDoor
namespace Go.Proofs
open Go.Shelf
def Tryz.laysM171_ren:Go.Shelf.Ren:=⟨fun | 171=>181 | 243=>215 | 246=>229 | 283=>239 | 284=>240 | 285=>241 | 286=>242 | 129=>250 | 317=>249 | 318=>251 | 319=>252 | 320=>253 | 337=>257 | 338=>258 | n=>n,fun | 3=>3 | 9=>9 | 2=>2 | 4=>4 | 171=>281 | 0=>0 | 53=>231 | 37=>22 | 5=>5 | 173=>284 | 212=>293 | 51=>276 | 20=>20 | 213=>294 | 46=>168 | 232=>307 | 233=>308 | n=>n,fun | 17=>2 | 18=>5 | 19=>6 | n=>n⟩
theorem Tryz.laysM171:Go.Proofs.LaysM.n171 Tryz.prog Tryz.laysM171_ren:={
 mixed:=by kernel_rfl
 f129:=Tryz.func250.trans (congrArg some (by kernel_rfl))
 f171:=Tryz.func181.trans (congrArg some (by kernel_rfl))
 f243:=Tryz.func215.trans (congrArg some (by kernel_rfl))
 f246:=Tryz.func229.trans (congrArg some (by kernel_rfl))
 f283:=Tryz.func239.trans (congrArg some (by kernel_rfl))
 f284:=Tryz.func240.trans (congrArg some (by kernel_rfl))
 f285:=Tryz.func241.trans (congrArg some (by kernel_rfl))
 f286:=Tryz.func242.trans (congrArg some (by kernel_rfl))
 f317:=Tryz.func249.trans (congrArg some (by kernel_rfl))
 f318:=Tryz.func251.trans (congrArg some (by kernel_rfl))
 f319:=Tryz.func252.trans (congrArg some (by kernel_rfl))
 f320:=Tryz.func253.trans (congrArg some (by kernel_rfl))
 f337:=Tryz.func257.trans (congrArg some (by kernel_rfl))
 f338:=Tryz.func258.trans (congrArg some (by kernel_rfl))
 t0:=Tryz.underlying0
 a0:=Tryz.isAgg0
 z0:=Tryz.sizeOf0
 v0:=Tryz.zeroValue0
 t2:=Tryz.underlying2
 a2:=Tryz.isAgg2
 z2:=Tryz.sizeOf2
 v2:=Tryz.zeroValue2
 t3:=Tryz.underlying3
 a3:=Tryz.isAgg3
 z3:=Tryz.sizeOf3
 v3:=Tryz.zeroValue3
 t4:=Tryz.underlying4
 a4:=Tryz.isAgg4
 z4:=Tryz.sizeOf4
 v4:=Tryz.zeroValue4
 t5:=Tryz.underlying5
 a5:=Tryz.isAgg5
 z5:=Tryz.sizeOf5
 v5:=Tryz.zeroValue5
 t9:=Tryz.underlying9
 a9:=Tryz.isAgg9
 z9:=Tryz.sizeOf9
 v9:=Tryz.zeroValue9
 t20:=Tryz.underlying20
 a20:=Tryz.isAgg20
 z20:=Tryz.sizeOf20
 v20:=Tryz.zeroValue20
 t37:=Tryz.underlying22
 a37:=Tryz.isAgg22
 z37:=Tryz.sizeOf22
 v37:=Tryz.zeroValue22
 t46:=Tryz.underlying168
 a46:=Tryz.isAgg168
 z46:=Tryz.sizeOf168
 v46:=Tryz.zeroValue168
 t51:=Tryz.underlying276
 a51:=Tryz.isAgg276
 z51:=Tryz.sizeOf276
 v51:=Tryz.zeroValue276
 t53:=Tryz.underlying231
 a53:=Tryz.isAgg231
 z53:=Tryz.sizeOf231
 v53:=Tryz.zeroValue231
 t171:=Tryz.underlying281
 a171:=Tryz.isAgg281
 z171:=Tryz.sizeOf281
 v171:=Tryz.zeroValue281
 t173:=Tryz.underlying284
 a173:=Tryz.isAgg284
 z173:=Tryz.sizeOf284
 v173:=Tryz.zeroValue284
 t212:=Tryz.underlying293
 a212:=Tryz.isAgg293
 z212:=Tryz.sizeOf293
 v212:=Tryz.zeroValue293
 t213:=Tryz.underlying294
 a213:=Tryz.isAgg294
 z213:=Tryz.sizeOf294
 t232:=Tryz.underlying307
 a232:=Tryz.isAgg307
 z232:=Tryz.sizeOf307
 v232:=Tryz.zeroValue307
 t233:=Tryz.underlying308
 a233:=Tryz.isAgg308
 z233:=Tryz.sizeOf308
 v233:=Tryz.zeroValue308
 g17:=by kernel_rfl
 g18:=by kernel_rfl
 g19:=by kernel_rfl
 i0:=by kernel_rfl
 i2:=by kernel_rfl
 i3:=by kernel_rfl
 i4:=by kernel_rfl
 i5:=by kernel_rfl
 i9:=by kernel_rfl
 i20:=by kernel_rfl
 i37:=by kernel_rfl
 i46:=by kernel_rfl
 i51:=by kernel_rfl
 i53:=by kernel_rfl
 i171:=by kernel_rfl
 i173:=by kernel_rfl
 i212:=by kernel_rfl
 i232:=by kernel_rfl
 i233:=by kernel_rfl
 m17:=by kernel_rfl
 m18:=by kernel_rfl
 m19:=by kernel_rfl }
open Go.RowKit Go.Sort Go.Lib in
theorem Tryz.strconv_Itoa (n : Int) (h0 : -9223372036854775808 ≤ n) (h1 : n ≤ 9223372036854775807) (w : World) (htab : Lib.TabIs Tryz.prog w "internal/strconv.uint64pow10" .u64 Lib.pow10Tab) :
  Calls Tryz.prog 181 #[.int .i64 n] w fun e w'=>e=.returned (.string ⟨(Lib.itoa n).toArray⟩)∧∃ k os,w'=grow (w.drewN k) os:=Any.strconv_Itoa Tryz.laysM171 n h0 h1 w htab
def Tryz.lays105_ren:Go.Shelf.Ren:=⟨fun | 105=>214 | 212=>226 | 99=>227 | 165=>144 | 166=>145 | 170=>228 | 169=>146 | 263=>236 | 264=>237 | 206=>238 | 240=>192 | 241=>193 | 276=>216 | 277=>217 | n=>n,fun | 9=>9 | 3=>3 | 4=>4 | 20=>20 | 0=>0 | 46=>168 | 109=>268 | 5=>5 | 72=>198 | 76=>202 | 51=>276 | 146=>277 | 53=>231 | 148=>279 | 70=>196 | 37=>22 | 75=>201 | 127=>232 | 164=>262 | 80=>204 | n=>n,fun | n=>n⟩
theorem Tryz.lays105:Go.Proofs.Lays.n105 Tryz.prog Tryz.lays105_ren:={
 mixed:=by kernel_rfl
 f99:=Tryz.func227.trans (congrArg some (by kernel_rfl))
 f105:=Tryz.func214.trans (congrArg some (by kernel_rfl))
 f165:=Tryz.func144.trans (congrArg some (by kernel_rfl))
 f166:=Tryz.func145.trans (congrArg some (by kernel_rfl))
 f169:=Tryz.func146.trans (congrArg some (by kernel_rfl))
 f170:=Tryz.func228.trans (congrArg some (by kernel_rfl))
 f206:=Tryz.func238.trans (congrArg some (by kernel_rfl))
 f212:=Tryz.func226.trans (congrArg some (by kernel_rfl))
 f240:=Tryz.func192.trans (congrArg some (by kernel_rfl))
 f241:=Tryz.func193.trans (congrArg some (by kernel_rfl))
 f263:=Tryz.func236.trans (congrArg some (by kernel_rfl))
 f264:=Tryz.func237.trans (congrArg some (by kernel_rfl))
 f276:=Tryz.func216.trans (congrArg some (by kernel_rfl))
 f277:=Tryz.func217.trans (congrArg some (by kernel_rfl))
 t0:=Tryz.underlying0
 a0:=Tryz.isAgg0
 z0:=Tryz.sizeOf0
 v0:=Tryz.zeroValue0
 t3:=Tryz.underlying3
 a3:=Tryz.isAgg3
 z3:=Tryz.sizeOf3
 v3:=Tryz.zeroValue3
 t4:=Tryz.underlying4
 a4:=Tryz.isAgg4
 z4:=Tryz.sizeOf4
 v4:=Tryz.zeroValue4
 t5:=Tryz.underlying5
 a5:=Tryz.isAgg5
 z5:=Tryz.sizeOf5
 v5:=Tryz.zeroValue5
 t9:=Tryz.underlying9
 a9:=Tryz.isAgg9
 z9:=Tryz.sizeOf9
 v9:=Tryz.zeroValue9
 t20:=Tryz.underlying20
 a20:=Tryz.isAgg20
 z20:=Tryz.sizeOf20
 v20:=Tryz.zeroValue20
 t37:=Tryz.underlying22
 a37:=Tryz.isAgg22
 z37:=Tryz.sizeOf22
 v37:=Tryz.zeroValue22
 t46:=Tryz.underlying168
 a46:=Tryz.isAgg168
 z46:=Tryz.sizeOf168
 v46:=Tryz.zeroValue168
 t51:=Tryz.underlying276
 a51:=Tryz.isAgg276
 z51:=Tryz.sizeOf276
 v51:=Tryz.zeroValue276
 t53:=Tryz.underlying231
 a53:=Tryz.isAgg231
 z53:=Tryz.sizeOf231
 v53:=Tryz.zeroValue231
 t70:=Tryz.underlying196
 a70:=Tryz.isAgg196
 z70:=Tryz.sizeOf196
 v70:=Tryz.zeroValue196
 t72:=Tryz.underlying198
 a72:=Tryz.isAgg198
 z72:=Tryz.sizeOf198
 v72:=Tryz.zeroValue198
 t75:=Tryz.underlying201
 a75:=Tryz.isAgg201
 z75:=Tryz.sizeOf201
 v75:=Tryz.zeroValue201
 t76:=Tryz.underlying202
 a76:=Tryz.isAgg202
 z76:=Tryz.sizeOf202
 v76:=Tryz.zeroValue202
 t109:=Tryz.underlying268
 a109:=Tryz.isAgg268
 z109:=Tryz.sizeOf268
 v109:=Tryz.zeroValue268
 t127:=Tryz.underlying232
 a127:=Tryz.isAgg232
 z127:=Tryz.sizeOf232
 v127:=Tryz.zeroValue232
 t146:=Tryz.underlying277
 a146:=Tryz.isAgg277
 z146:=Tryz.sizeOf277
 v146:=Tryz.zeroValue277
 t148:=Tryz.underlying279
 a148:=Tryz.isAgg279
 z148:=Tryz.sizeOf279
 v148:=Tryz.zeroValue279
 t164:=Tryz.underlying262
 a164:=Tryz.isAgg262
 z164:=Tryz.sizeOf262
 v164:=Tryz.zeroValue262 }
theorem Tryz.Builder_Extra_105:Builder.Extra Tryz.prog Tryz.lays105_ren:={
 sizeBuilder:=by kernel_rfl
 liesBuilder:=by kernel_rfl
 t5:=Tryz.underlying5
 a5:=Tryz.isAgg5
 z5:=Tryz.sizeOf5
 v5:=Tryz.zeroValue5
 infoByte:=by kernel_rfl
 cellsByte:=by kernel_rfl
 sizeByte:=by kernel_rfl
 neB5:=by decide }
open Go.RowKit Go.Lib in
theorem Tryz.strings_Repeat (s:ByteArray) (c:Nat) (w:World) (hc:c≤9223372036854775807) (hlen:s.size*c≤140737488355328) :
  Calls Tryz.prog 214 #[.string s,.int .i64 c] w fun e w'=>e=.returned (.string ⟨(Lib.repeatL s.data.toList c).toArray⟩)∧Below w.heap.size w w':=Any.strings_Repeat Tryz.lays105 Tryz.Builder_Extra_105 s c w hc hlen
def Tryz.lays137_ren:Go.Shelf.Ren:=⟨fun | 137=>204 | 217=>220 | 266=>230 | n=>n,fun | 9=>9 | 5=>5 | 3=>3 | n=>n,fun | n=>n⟩
theorem Tryz.lays137:Go.Proofs.Lays.n137 Tryz.prog Tryz.lays137_ren:={
 mixed:=by kernel_rfl
 f137:=Tryz.func204.trans (congrArg some (by kernel_rfl))
 f217:=Tryz.func220.trans (congrArg some (by kernel_rfl))
 f266:=Tryz.func230.trans (congrArg some (by kernel_rfl))
 t3:=Tryz.underlying3
 a3:=Tryz.isAgg3
 z3:=Tryz.sizeOf3
 v3:=Tryz.zeroValue3
 t5:=Tryz.underlying5
 a5:=Tryz.isAgg5
 z5:=Tryz.sizeOf5
 v5:=Tryz.zeroValue5
 t9:=Tryz.underlying9
 a9:=Tryz.isAgg9
 z9:=Tryz.sizeOf9
 v9:=Tryz.zeroValue9 }
open Go.RowKit in
theorem Tryz.strings_IndexByte (s:ByteArray) (c:Int) (w:World) :
  Calls Tryz.prog 204 #[.string s,.int .u8 c] w fun e w'=>e=.returned (.int .i64 (Lib.indexByte s.data.toList c.toNat.toUInt8))∧w'=w:=Any.strings_IndexByte Tryz.lays137 s c w
def Tryz.lays156_ren:Go.Shelf.Ren:=⟨fun | 156=>93 | 165=>144 | 166=>145 | 169=>146 | 240=>192 | 241=>193 | 276=>216 | 277=>217 | n=>n,fun | 31=>38 | 9=>9 | 3=>3 | 4=>4 | 0=>0 | 20=>20 | 72=>198 | 76=>202 | 70=>196 | 37=>22 | 75=>201 | 127=>232 | 164=>262 | 5=>5 | 80=>204 | n=>n,fun | n=>n⟩
theorem Tryz.lays156:Go.Proofs.Lays.n156 Tryz.prog Tryz.lays156_ren:={
 mixed:=by kernel_rfl
 f156:=Tryz.func93.trans (congrArg some (by kernel_rfl))
 f165:=Tryz.func144.trans (congrArg some (by kernel_rfl))
 f166:=Tryz.func145.trans (congrArg some (by kernel_rfl))
 f169:=Tryz.func146.trans (congrArg some (by kernel_rfl))
 f240:=Tryz.func192.trans (congrArg some (by kernel_rfl))
 f241:=Tryz.func193.trans (congrArg some (by kernel_rfl))
 f276:=Tryz.func216.trans (congrArg some (by kernel_rfl))
 f277:=Tryz.func217.trans (congrArg some (by kernel_rfl))
 t0:=Tryz.underlying0
 a0:=Tryz.isAgg0
 z0:=Tryz.sizeOf0
 v0:=Tryz.zeroValue0
 t3:=Tryz.underlying3
 a3:=Tryz.isAgg3
 z3:=Tryz.sizeOf3
 v3:=Tryz.zeroValue3
 t4:=Tryz.underlying4
 a4:=Tryz.isAgg4
 z4:=Tryz.sizeOf4
 v4:=Tryz.zeroValue4
 t9:=Tryz.underlying9
 a9:=Tryz.isAgg9
 z9:=Tryz.sizeOf9
 v9:=Tryz.zeroValue9
 t20:=Tryz.underlying20
 a20:=Tryz.isAgg20
 z20:=Tryz.sizeOf20
 v20:=Tryz.zeroValue20
 t31:=Tryz.underlying38
 a31:=Tryz.isAgg38
 z31:=Tryz.sizeOf38
 v31:=Tryz.zeroValue38
 t37:=Tryz.underlying22
 a37:=Tryz.isAgg22
 z37:=Tryz.sizeOf22
 v37:=Tryz.zeroValue22
 t70:=Tryz.underlying196
 a70:=Tryz.isAgg196
 z70:=Tryz.sizeOf196
 v70:=Tryz.zeroValue196
 t72:=Tryz.underlying198
 a72:=Tryz.isAgg198
 z72:=Tryz.sizeOf198
 v72:=Tryz.zeroValue198
 t75:=Tryz.underlying201
 a75:=Tryz.isAgg201
 z75:=Tryz.sizeOf201
 v75:=Tryz.zeroValue201
 t76:=Tryz.underlying202
 a76:=Tryz.isAgg202
 z76:=Tryz.sizeOf202
 v76:=Tryz.zeroValue202
 t127:=Tryz.underlying232
 a127:=Tryz.isAgg232
 z127:=Tryz.sizeOf232
 v127:=Tryz.zeroValue232
 t164:=Tryz.underlying262
 a164:=Tryz.isAgg262
 z164:=Tryz.sizeOf262
 v164:=Tryz.zeroValue262 }
theorem Tryz.Builder_Extra_156:Builder.Extra Tryz.prog Tryz.lays156_ren:={
 sizeBuilder:=by kernel_rfl
 liesBuilder:=by kernel_rfl
 t5:=Tryz.underlying5
 a5:=Tryz.isAgg5
 z5:=Tryz.sizeOf5
 v5:=Tryz.zeroValue5
 infoByte:=by kernel_rfl
 cellsByte:=by kernel_rfl
 sizeByte:=by kernel_rfl
 neB5:=by decide }
open Go.RowKit in
theorem Tryz.strings_Join (bk o c:Nat) (xs:List ByteArray) (sep:ByteArray) (w:World) (hcells:∀ (j:Nat) x,xs[j]?=some x→w.cell? ⟨bk,o+j,none⟩=some (.string x)) (hbk:bk<w.heap.size) (hN:xs.length≤140737488355328) (hcap:xs.length≤c) (hlen:(Lib.join (xs.map (·.data.toList)) sep.data.toList).length≤140737488355328) :
  Calls Tryz.prog 93 #[.slice (some ⟨bk,o,none⟩) xs.length c,.string sep] w fun e w'=>e=.returned (.string ⟨(Lib.join (xs.map (·.data.toList)) sep.data.toList).toArray⟩)∧Below w.heap.size w w':=Any.strings_Join Tryz.lays156 Tryz.Builder_Extra_156 bk o c xs sep w hcells hbk hN hcap hlen
open Go.RowKit in
theorem Tryz.strings_Join_none (a:Option Addr) (c:Nat) (sep:ByteArray) (w:World) :
  Calls Tryz.prog 93 #[.slice a 0 c,.string sep] w fun e w'=>e=.returned (.string ⟨#[]⟩)∧w'=w:=Any.strings_Join_none Tryz.lays156 Tryz.Builder_Extra_156 a c sep w
end Go.Proofs
namespace Go.Proofs.YtpdfdkccgkieoaaGreatDoor
open Sx Go.RowKit
set_option maxRecDepth 100000
noncomputable def okT (p:Prop) (t:ByteArray):ByteArray:=by classical exact if p then t else ⟨#[]⟩
theorem okT_pos {p:Prop} {t:ByteArray} (h:p):okT p t=t:=by unfold okT; rw [if_pos h]
theorem okT_neg {p:Prop} {t:ByteArray} (h:¬ p):okT p t=⟨#[]⟩:=by unfold okT; rw [if_neg h]
abbrev TxPost (V:Know) (t:ByteArray):Know→Value→Prop:=fun V' r=>V.le V'∧r=.string t
def hasTab (V:Know):Prop:=∃ t,V 2=some (Go.Lib.pow10Tab.map fun z=>Value.int .u64 z,t)
def HtS (_:Know):Prop:=True
def HtI (V:Know):Prop:=hasCur V∧hasTab V
theorem HtS.le {V V':Know} (h:HtS V) (_:V.le V'):HtS V':=h
theorem HtI.le {V V':Know} (h:HtI V) (hle:V.le V'):HtI V':=⟨h.1.le hle,let ⟨t,ht⟩:=h.2; ⟨t,hle _ _ ht⟩⟩
theorem HtS.c {V:Know} (_:HtS V):HcS V:=trivial
theorem HtI.c {V:Know} (h:HtI V):HcI V:=h.1
theorem cI_Itoa {V:Know} (hV:HtI V) (k:Int) (h0:-9223372036854775808≤k) (h1:k≤9223372036854775807):CallX Tryz.prog V 181 [.int .i64 k] (fun V' r=>V'=V∧r=.string (numT k)):=by
 obtain⟨t,ht⟩:=hV.2
 refine CallX.of_calls ⟨_,Tryz.func181,by kernel_rfl,by kernel_rfl⟩ fun w hw=>?_
 refine(Tryz.strconv_Itoa k h0 h1 w (tab_of (by kernel_rfl) ht hw)).mono ?_
 rintro e w' ⟨rfl,n,os,rfl⟩
 exact⟨rfl,Go.Lib.below_grow _ _ (Nat.le_refl _) _ _⟩
theorem cI_IntText {V:Know} (hV:HtI V) (k:Int) (h0:-9223372036854775808≤k) (h1:k≤9223372036854775807):CallX Tryz.prog V 140 [.int .i64 k] (TxPost V (numT k)):=by
 refine CallX.of_fits Tryz.mix (fI_IntText _) fun _=>?_
 simp only [tI_IntText,T.wp]
 refine(cI_Itoa hV k h0 h1).mono ?_
 rintro V1 _ ⟨rfl,rfl⟩
 exact⟨nofun,_,rfl,Know.le.refl _,rfl⟩
theorem cI_Pad (V:Know) (s:ByteArray) (n:Int):CallX Tryz.prog V 179 [.string s,.int .i64 n] (TxPost V (padB s n)):=by
 refine CallX.of_fits Tryz.mix (fI_Pad _ _) fun _=>?_
 simp only [tI_Pad,T.wp]
 refine⟨fun h=>⟨Know.le.refl _,?_⟩,fun h=>⟨fun h2=>⟨Know.le.refl _,?_⟩,fun h2=>?_⟩⟩
 ·have h':(s.size:Int)≥n:=of_decide_eq_true h
  rw [padB_long h']; rfl
 ·have h':n > 2000:=of_decide_eq_true h2
  unfold padB
  rw [if_pos h']; rfl
 have h1':¬ (s.size:Int)≥n:=of_decide_eq_false h
 have h2':¬ n > 2000:=of_decide_eq_false h2
 obtain⟨c,hc⟩:∃ c:Nat,n-(s.size:Int)=c:=⟨(n-(s.size:Int)).toNat,by omega⟩
 rw [hc,wrap_i64 (by omega)]
 have hcall:CallX Tryz.prog V 214 [.string ⟨#[48]⟩,.int .i64 c] (fun V' r=>V'=V∧r=.string (zeros c)):=by
  refine CallX.of_calls ⟨_,Tryz.func214,by kernel_rfl,by kernel_rfl⟩ fun w _=>?_
  refine(Tryz.strings_Repeat ⟨#[48]⟩ c w (by omega) (by show 1*c≤_; omega)).mono ?_
  rintro e w' ⟨rfl,hb⟩
  refine⟨?_,hb⟩
  show Ending.returned (.string ⟨(Go.Lib.repeatL [48] c).toArray⟩)=_
  rw [repeat_zeros]; rfl
 refine hcall.mono ?_
 rintro V1 _ ⟨rfl,rfl⟩
 refine⟨nofun,zeros c,rfl,?_,Know.le.refl _,?_⟩
 ·rw [zeros_size]; omega
 ·unfold padB
  rw [if_neg h2',hc,Int.toNat_natCast]; rfl
def natTree (x0:SlV) (gi gp:Nat):T :=
 .br ((x0.n:Int) == (0:Int)) (
  .ret [.string ({ data:={ toList:=[(48:UInt8)]:Array UInt8 }:ByteArray })]) <|
 .el (x0.a) (x0.n) (Go.IntKind.i64.wrap ((x0.n:Int)-(1:Int))) fun y1 =>
 .ld false (y1.add ((Go.IntKind.i64.wrap ((x0.n:Int)-(1:Int))).toNat*(1:Nat))) (.o (.i .i64)) fun y2 =>
 .call false gi [.int .i64 (y2)] (.v (.o (.s))) fun y3 =>
 .lp [.o (.o (.s)),.o (.o (.i .i64))] [.v (.string (y3)),.v (.int .i64 (Go.IntKind.i64.wrap ((x0.n:Int)-(2:Int))))] fun y4 =>
 .br (decide (y4.2.fst≥(0:Int))) (
  .el (x0.a) (x0.n) (y4.2.fst) fun y5 =>
  .ld false (y5.add (Int.toNat y4.2.fst*(1:Nat))) (.o (.i .i64)) fun y6 =>
  .call false gi [.int .i64 (y6)] (.v (.o (.s))) fun y7 =>
  .call false gp [.string (y7),.int .i64 ((9:Int))] (.v (.o (.s))) fun y8 =>
  .rq (ByteArray.size y4.fst+y8.size≤(9223372036854775807:Nat)) <|
  .nx 0 [.v (.string (y4.fst++y8)),.v (.int .i64 (Go.IntKind.i64.wrap (y4.2.fst-(1:Int))))]) <|
 .ret [.string (y4.fst)]
theorem natTree_wp {V:Know} {gi gp:Nat} {s:SlV} {l:List Lim} {f:List Nat} (h:LR rI V s l f) (hl:Lims l) (h50:l.length≤50) {K:Know→List Value→Prop}
  (ci:∀ V' k,V.le V'→0≤k→k<1000000000→CallX Tryz.prog V' gi [.int .i64 k] (TxPost V' (numT k)))
  (cp:∀ V' t n,CallX Tryz.prog V' gp [.string t,.int .i64 n] (TxPost V' (padB t n))) (hK:∀ V',V.le V'→K V' [.string (natT l)]):(natTree s gi gp).wp Tryz.prog K V V []:=by
 simp only [natTree,T.wp]
 have hn:=h.1
 refine⟨fun h0=>?_,fun h0=>?_⟩
 ·have h0':(s.n:Int)=0:=by simpa using h0
  have:=hK V (Know.le.refl _)
  unfold natT at this
  rw [if_pos (by omega)] at this
  exact this
 have h0':¬ (s.n:Int)=0:=by simpa using h0
 have ht:natT l=natGo l (l.length-1) (numT (limb l (l.length-1))):=by
  unfold natT
  rw [if_neg (by omega)]
 have e1:IntKind.i64.wrap ((s.n:Int)-1)=((l.length-1:Nat):Int):=by rw [wrap_i64 (by omega)]; omega
 have e2:IntKind.i64.wrap ((s.n:Int)-2)=((l.length-1:Nat):Int)-1:=by rw [wrap_i64 (by omega)]; omega
 rw [e1,e2]
 have hi:l.length-1<l.length:=by omega
 obtain⟨b,o,a1,l1⟩:=h.int hi
 refine⟨_,a1,(by omega),(by omega),_,l1,?_⟩
 have hb1:=hl (l.length-1)
 rw [limb_lt hi] at hb1
 refine(ci V _ (Know.le.refl _) hb1.1 hb1.2).mono ?_
 rintro V1 _ ⟨le1,rfl⟩
 refine⟨nofun,_,rfl,?_⟩
 rw [← limb_lt hi]
 have hsz0:=limb_num hl (l.length-1)
 refine⟨fun y V'=>V.le V'∧∃ i:Nat,(y.2.1:Int)=(i:Int)-1∧i≤l.length-1∧natGo l i y.1=natT l∧ByteArray.size y.1+21*i≤21*l.length,fun y _=>((y.2.1:Int)+1).toNat,
  ⟨(numT (limb l (l.length-1)),((l.length-1:Nat):Int)-1,()),rfl,le1,l.length-1,rfl,Nat.le_refl _,ht.symm,(by show(numT (limb l (l.length-1))).size+_≤_; omega)⟩,?_⟩
 rintro⟨t,(q:Int),u⟩ V' ⟨hle,i,hq,hil,hg,hsz⟩
 replace hq:q=(i:Int)-1:=hq
 replace hg:natGo l i t=natT l:=hg
 replace hsz:ByteArray.size t+21*i≤21*l.length:=hsz
 subst hq
 refine⟨fun hp=>?_,fun hz=>?_⟩
 ·have hp':(i:Int)-1≥0:=of_decide_eq_true hp
  obtain⟨j,rfl⟩:∃ j,i=j+1:=⟨i-1,by omega⟩
  have ej:((j+1:Nat):Int)-1=(j:Int):=by omega
  rw [ej]
  have hj:j<l.length:=by omega
  obtain⟨b,o,a1,l1⟩:=(h.le hle).int hj
  have hb2:=hl j
  rw [limb_lt hj] at hb2
  refine⟨_,a1,(by omega:(0:Int)≤(j:Int)),(by omega:(j:Int)<(s.n:Int)),_,l1,(ci V' _ hle hb2.1 hb2.2).mono ?_⟩
  rintro V2 _ ⟨le2,rfl⟩
  refine⟨nofun,_,rfl,(cp V2 _ _).mono ?_⟩
  rintro V3 _ ⟨le3,rfl⟩
  rw [← limb_lt hj]
  have hps:=part_size hl j
  refine⟨nofun,_,rfl,?_,_,rfl,(t++padB (numT (limb l j)) 9,(j:Int)-1,()),?_,⟨hle.trans (le2.trans le3),j,rfl,by omega,?_,?_⟩,?_⟩
  ·show ByteArray.size t+(padB (numT (limb l j)) 9).size≤_
   omega
  ·have ew:IntKind.i64.wrap ((j:Int)-1)=(j:Int)-1:=wrap_i64 (by omega)
   show [LV.v (.string (t++padB (numT (limb l j)) 9)),LV.v (.int .i64 (IntKind.i64.wrap ((j:Int)-1)))]=_
   rw [ew]; rfl
  ·show natGo l j (t++padB (numT (limb l j)) 9)=natT l
   rw [← hg]; rfl
  ·show(t++padB (numT (limb l j)) 9).size+_≤_
   rw [ByteArray.size_append]
   omega
  ·show(((j:Int)-1)+1).toNat<(((j:Int))+1).toNat
   omega
 ·have hz':¬ (i:Int)-1≥0:=of_decide_eq_false hz
  have hi0:i=0:=by omega
  subst hi0
  have:=hK V' hle
  rw [← hg] at this
  exact this
theorem cI_nat {V:Know} (hV:HtI V) (s:SlV) (l:List Lim) (f:List Nat) (h:LR rI V s l f) (ok:NatOkP l):CallX Tryz.prog V 180 [Sc.val .l s] (TxPost V (natT l)):=by
 refine CallX.of_fits Tryz.mix (fI_natText _) fun _=>?_
 exact natTree_wp h ok.1.1 ok.2 (fun V' k hle h0 h1=>cI_IntText (hV.le hle) k (by omega) (by omega)) cI_Pad fun V' hle=>⟨hle,rfl⟩
theorem cI_DecText {V:Know} (hV:HtI V) (c0:Bool) (c1:SlV) (x:Int) (l:List Lim) (f:List Nat) (h:LR rI V c1 l f) :
  CallX Tryz.prog V 138 [qv3 (c0,c1,x,())] (TxPost V (okT (DecOkP c0 l x) (decT c0 l x))):=by
 refine CallX.of_fits Tryz.mix (fI_DecText _) fun _=>?_
 simp only [tI_DecText,T.wp]
 refine(cI_DecOk V c0 c1 x l f h).mono ?_
 rintro _ r ⟨rfl,e,rfl,he⟩
 refine⟨nofun,e,rfl,fun hf=>⟨Know.le.refl _,by rw [okT_neg (fun k=>by rw [he.2 k] at hf; cases hf)]; rfl⟩,fun ht=>?_⟩
 have ok:=he.1 (by simpa using ht)
 rw [okT_pos ok]
 refine(cI_nat hV c1 l f h ok.1.1).mono ?_
 rintro V1 _ ⟨le1,rfl⟩
 have hx30:=ok.2.2
 have e1:IntKind.i64.wrap (x+1)=x+1:=wrap_i64 (by omega)
 rw [e1]
 refine⟨fun _=>le1,_,rfl,(cI_Pad V1 (natT l) (x+1)).mono ?_⟩
 rintro V2 _ ⟨le2,rfl⟩
 have hle:=le1.trans le2
 refine⟨fun _=>le2,_,rfl,?_⟩
 have hs1:=natT_size ok.1.1.1.1
 have h6:=ok.2.1
 have hp:=padB_size (natT l) (x+1)
 have hd:decT c0 l x=if c0=true then (⟨#[45]⟩:ByteArray)++pointT (padB (natT l) (x+1)) x else pointT (padB (natT l) (x+1)) x:=rfl
 rw [hd]
 generalize padB (natT l) (x+1)=p at hp ⊢
 refine⟨fun hx=>?_,fun hx=>?_⟩
 ·have hx':x > 0:=of_decide_eq_true hx
  have e2:IntKind.i64.wrap ((p.size:Int)-x)=((p.size-x.toNat:Nat):Int):=by rw [wrap_i64 (by omega)]; omega
  rw [e2]
  have hq:pointT p x=(p.extract 0 (p.size-x.toNat)++(⟨#[46]⟩:ByteArray))++p.extract (p.size-x.toNat) p.size:=by
   unfold pointT
   rw [if_pos hx']
  have hqs:=pointT_size p x
  rw [hq] at hqs ⊢
  simp only [Int.toNat_natCast,Int.toNat_zero]
  have s1:(p.extract 0 (p.size-x.toNat)).size≤p.size:=by rw [ByteArray.size_extract]; omega
  refine⟨by omega,?_,by omega,?_,fun hc=>⟨?_,hle,?_⟩,fun hc=>⟨hle,?_⟩⟩
  ·show(p.extract 0 (p.size-x.toNat)).size+1≤_
   omega
  ·rw [← ByteArray.size_append]
   exact Nat.le_trans hqs (by omega)
  ·refine Nat.le_trans (Nat.add_le_add_left hqs _) ?_
   show 1+(p.size+1)≤_
   omega
  ·have hc':c0=true:=hc
   rw [if_pos hc']; rfl
  ·have hc':¬ c0=true:=by simpa using hc
   rw [if_neg hc']; rfl
 ·have hx':¬ x > 0:=of_decide_eq_false hx
  have hq:pointT p x=p:=by
   unfold pointT
   rw [if_neg hx']
  rw [hq]
  refine⟨fun hc=>⟨?_,hle,?_⟩,fun hc=>⟨hle,?_⟩⟩
  ·show 1+p.size≤_
   omega
  ·have hc':c0=true:=hc
   rw [if_pos hc']; rfl
  ·have hc':¬ c0=true:=by simpa using hc
   rw [if_neg hc']; rfl
end Go.Proofs.YtpdfdkccgkieoaaGreatDoor
namespace Go.Proofs.YtpdfdkccgkieoaaGreatDoor
open Sx
set_option maxRecDepth 100000
theorem bf {p:Prop} {e:Bool} (h:e=true↔p) (k:(!e)=true):¬ p:=fun q=>by rw [h.2 q] at k; cases k
theorem bf' {p:Prop} {e:Bool} (h:e=true↔p) (k:e=false):¬ p:=fun q=>by rw [h.2 q] at k; cases k
theorem sw {B W E:Prop} (h:E→¬ W):((B↔W)∧(¬ B→E))↔((B→W)∧(¬ B→E)):=by
 constructor
 ·exact fun k=>⟨k.1.1,k.2⟩
 ·exact fun k=>⟨⟨k.1,fun w=>Classical.byContradiction fun b=>h (k.2 b) w⟩,k.2⟩
end Go.Proofs.YtpdfdkccgkieoaaGreatDoor
