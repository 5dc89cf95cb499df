/-
  Texts cut, in the program and in the reference, and by the library.
-/
import Derived.Shelf.Strings.Builder1
import Derived.Shelf.Strings.Builder2
import Derived.Shelf.Strings.OnBuilder
import Derived.Shelf.Small.Bits
import Derived.Shelf.Small.Strs
import Derived.Shelf.Strings.BuilderF
import Derived.Shelf.Strings.BuilderK
import Derived.Shelf.Utf8.RuneCount
import Derived.Shelf.Strings.Builder2Cap
import Derived.Shelf.Strconv.Itoa0
import Derived.Shelf.Strconv.Itoa1
import Derived.Shelf.LaysM
import Derived.Shelf.Strconv.Itoa2
import Derived.Shelf.Strconv.Itoa3
import Derived.Shelf.Strings.Search1
import Derived.Shelf.Strings.Search2
import Derived.Shelf.Strings.Search3
import Derived.Shelf.Strings.Cut
import Derived.Shelf.Strings.Count
import Derived.Shelf.Strings.Shaped
import Derived.Shelf.Strings.Prefix
import Derived.Shelf.Strings.Split
import Derived.Shelf.Strings.SplitShaped
import Derived.Shelf.Unicode.Decode
import Derived.Shelf.Strings.RuneCount
import Derived.Shelf.Strings.Explode
import Derived.Shelf.Bits.Mul64
import Derived.Shelf.Strings.Repeat
import Derived.Shelf.Unicode.DecodeSlow
import Derived.Shelf.Unicode.DecodeAny
import Derived.Shelf.Strings.BuilderCap
import Derived.Test.YtagkjnpggkmehaaGreatDoorProg
import Derived.Test.YtagkjnpggkmehaaGreatDoorLib
import Derived.Test.YtagkjnpggkmehaaGreatDoorLoopT
namespace Go.Proofs
open Go.Shelf
def Tryz.laysM171_ren:Go.Shelf.Ren:=⟨fun | 171=>281 | 243=>292 | 246=>294 | 283=>295 | 284=>296 | 285=>297 | 286=>298 | 129=>273 | 317=>299 | 318=>300 | 319=>301 | 320=>302 | 337=>303 | 338=>304 | n=>n,fun | 3=>3 | 9=>9 | 2=>2 | 4=>4 | 171=>268 | 0=>0 | 53=>141 | 37=>28 | 5=>5 | 173=>270 | 212=>273 | 51=>243 | 20=>20 | 213=>274 | 46=>213 | 232=>275 | 233=>276 | n=>n,fun | 17=>4 | 18=>5 | 19=>6 | n=>n⟩
theorem Tryz.laysM171:Go.Proofs.LaysM.n171 Tryz.prog Tryz.laysM171_ren:={
 mixed:=by kernel_rfl
 f129:=Tryz.func273.trans (congrArg some (by kernel_rfl))
 f171:=Tryz.func281.trans (congrArg some (by kernel_rfl))
 f243:=Tryz.func292.trans (congrArg some (by kernel_rfl))
 f246:=Tryz.func294.trans (congrArg some (by kernel_rfl))
 f283:=Tryz.func295.trans (congrArg some (by kernel_rfl))
 f284:=Tryz.func296.trans (congrArg some (by kernel_rfl))
 f285:=Tryz.func297.trans (congrArg some (by kernel_rfl))
 f286:=Tryz.func298.trans (congrArg some (by kernel_rfl))
 f317:=Tryz.func299.trans (congrArg some (by kernel_rfl))
 f318:=Tryz.func300.trans (congrArg some (by kernel_rfl))
 f319:=Tryz.func301.trans (congrArg some (by kernel_rfl))
 f320:=Tryz.func302.trans (congrArg some (by kernel_rfl))
 f337:=Tryz.func303.trans (congrArg some (by kernel_rfl))
 f338:=Tryz.func304.trans (congrArg some (by kernel_rfl))
 t0:=Tryz.underlying0
 a0:=Tryz.isAgg0
 z0:=Tryz.sizeOf0
 v0:=Tryz.zeroValue0
 t2:=Tryz.underlying2
 a2:=Tryz.isAgg2
 z2:=Tryz.sizeOf2
 v2:=Tryz.zeroValue2
 t3:=Tryz.underlying3
 a3:=Tryz.isAgg3
 z3:=Tryz.sizeOf3
 v3:=Tryz.zeroValue3
 t4:=Tryz.underlying4
 a4:=Tryz.isAgg4
 z4:=Tryz.sizeOf4
 v4:=Tryz.zeroValue4
 t5:=Tryz.underlying5
 a5:=Tryz.isAgg5
 z5:=Tryz.sizeOf5
 v5:=Tryz.zeroValue5
 t9:=Tryz.underlying9
 a9:=Tryz.isAgg9
 z9:=Tryz.sizeOf9
 v9:=Tryz.zeroValue9
 t20:=Tryz.underlying20
 a20:=Tryz.isAgg20
 z20:=Tryz.sizeOf20
 v20:=Tryz.zeroValue20
 t37:=Tryz.underlying28
 a37:=Tryz.isAgg28
 z37:=Tryz.sizeOf28
 v37:=Tryz.zeroValue28
 t46:=Tryz.underlying213
 a46:=Tryz.isAgg213
 z46:=Tryz.sizeOf213
 v46:=Tryz.zeroValue213
 t51:=Tryz.underlying243
 a51:=Tryz.isAgg243
 z51:=Tryz.sizeOf243
 v51:=Tryz.zeroValue243
 t53:=Tryz.underlying141
 a53:=Tryz.isAgg141
 z53:=Tryz.sizeOf141
 v53:=Tryz.zeroValue141
 t171:=Tryz.underlying268
 a171:=Tryz.isAgg268
 z171:=Tryz.sizeOf268
 v171:=Tryz.zeroValue268
 t173:=Tryz.underlying270
 a173:=Tryz.isAgg270
 z173:=Tryz.sizeOf270
 v173:=Tryz.zeroValue270
 t212:=Tryz.underlying273
 a212:=Tryz.isAgg273
 z212:=Tryz.sizeOf273
 v212:=Tryz.zeroValue273
 t213:=Tryz.underlying274
 a213:=Tryz.isAgg274
 z213:=Tryz.sizeOf274
 t232:=Tryz.underlying275
 a232:=Tryz.isAgg275
 z232:=Tryz.sizeOf275
 v232:=Tryz.zeroValue275
 t233:=Tryz.underlying276
 a233:=Tryz.isAgg276
 z233:=Tryz.sizeOf276
 v233:=Tryz.zeroValue276
 g17:=by kernel_rfl
 g18:=by kernel_rfl
 g19:=by kernel_rfl
 i0:=by kernel_rfl
 i2:=by kernel_rfl
 i3:=by kernel_rfl
 i4:=by kernel_rfl
 i5:=by kernel_rfl
 i9:=by kernel_rfl
 i20:=by kernel_rfl
 i37:=by kernel_rfl
 i46:=by kernel_rfl
 i51:=by kernel_rfl
 i53:=by kernel_rfl
 i171:=by kernel_rfl
 i173:=by kernel_rfl
 i212:=by kernel_rfl
 i232:=by kernel_rfl
 i233:=by kernel_rfl
 m17:=by kernel_rfl
 m18:=by kernel_rfl
 m19:=by kernel_rfl }
open Go.RowKit Go.Sort Go.Lib in
theorem Tryz.strconv_Itoa (n : Int) (h0 : -9223372036854775808 ≤ n) (h1 : n ≤ 9223372036854775807) (w : World) (htab : Lib.TabIs Tryz.prog w "internal/strconv.uint64pow10" .u64 Lib.pow10Tab) :
  Calls Tryz.prog 281 #[.int .i64 n] w fun e w'=>e=.returned (.string ⟨(Lib.itoa n).toArray⟩)∧∃ k os,w'=grow (w.drewN k) os:=Any.strconv_Itoa Tryz.laysM171 n h0 h1 w htab
def Tryz.lays105_ren:Go.Shelf.Ren:=⟨fun | 105=>249 | 212=>278 | 99=>279 | 165=>182 | 166=>183 | 170=>280 | 169=>184 | 263=>289 | 264=>290 | 206=>291 | 240=>229 | 241=>230 | 276=>261 | 277=>262 | n=>n,fun | 9=>9 | 3=>3 | 4=>4 | 20=>20 | 0=>0 | 46=>213 | 109=>246 | 5=>5 | 72=>182 | 76=>186 | 51=>243 | 146=>253 | 53=>141 | 148=>262 | 70=>180 | 37=>28 | 75=>185 | 127=>216 | 164=>230 | 80=>188 | n=>n,fun | n=>n⟩
theorem Tryz.lays105:Go.Proofs.Lays.n105 Tryz.prog Tryz.lays105_ren:={
 mixed:=by kernel_rfl
 f99:=Tryz.func279.trans (congrArg some (by kernel_rfl))
 f105:=Tryz.func249.trans (congrArg some (by kernel_rfl))
 f165:=Tryz.func182.trans (congrArg some (by kernel_rfl))
 f166:=Tryz.func183.trans (congrArg some (by kernel_rfl))
 f169:=Tryz.func184.trans (congrArg some (by kernel_rfl))
 f170:=Tryz.func280.trans (congrArg some (by kernel_rfl))
 f206:=Tryz.func291.trans (congrArg some (by kernel_rfl))
 f212:=Tryz.func278.trans (congrArg some (by kernel_rfl))
 f240:=Tryz.func229.trans (congrArg some (by kernel_rfl))
 f241:=Tryz.func230.trans (congrArg some (by kernel_rfl))
 f263:=Tryz.func289.trans (congrArg some (by kernel_rfl))
 f264:=Tryz.func290.trans (congrArg some (by kernel_rfl))
 f276:=Tryz.func261.trans (congrArg some (by kernel_rfl))
 f277:=Tryz.func262.trans (congrArg some (by kernel_rfl))
 t0:=Tryz.underlying0
 a0:=Tryz.isAgg0
 z0:=Tryz.sizeOf0
 v0:=Tryz.zeroValue0
 t3:=Tryz.underlying3
 a3:=Tryz.isAgg3
 z3:=Tryz.sizeOf3
 v3:=Tryz.zeroValue3
 t4:=Tryz.underlying4
 a4:=Tryz.isAgg4
 z4:=Tryz.sizeOf4
 v4:=Tryz.zeroValue4
 t5:=Tryz.underlying5
 a5:=Tryz.isAgg5
 z5:=Tryz.sizeOf5
 v5:=Tryz.zeroValue5
 t9:=Tryz.underlying9
 a9:=Tryz.isAgg9
 z9:=Tryz.sizeOf9
 v9:=Tryz.zeroValue9
 t20:=Tryz.underlying20
 a20:=Tryz.isAgg20
 z20:=Tryz.sizeOf20
 v20:=Tryz.zeroValue20
 t37:=Tryz.underlying28
 a37:=Tryz.isAgg28
 z37:=Tryz.sizeOf28
 v37:=Tryz.zeroValue28
 t46:=Tryz.underlying213
 a46:=Tryz.isAgg213
 z46:=Tryz.sizeOf213
 v46:=Tryz.zeroValue213
 t51:=Tryz.underlying243
 a51:=Tryz.isAgg243
 z51:=Tryz.sizeOf243
 v51:=Tryz.zeroValue243
 t53:=Tryz.underlying141
 a53:=Tryz.isAgg141
 z53:=Tryz.sizeOf141
 v53:=Tryz.zeroValue141
 t70:=Tryz.underlying180
 a70:=Tryz.isAgg180
 z70:=Tryz.sizeOf180
 v70:=Tryz.zeroValue180
 t72:=Tryz.underlying182
 a72:=Tryz.isAgg182
 z72:=Tryz.sizeOf182
 v72:=Tryz.zeroValue182
 t75:=Tryz.underlying185
 a75:=Tryz.isAgg185
 z75:=Tryz.sizeOf185
 v75:=Tryz.zeroValue185
 t76:=Tryz.underlying186
 a76:=Tryz.isAgg186
 z76:=Tryz.sizeOf186
 v76:=Tryz.zeroValue186
 t109:=Tryz.underlying246
 a109:=Tryz.isAgg246
 z109:=Tryz.sizeOf246
 v109:=Tryz.zeroValue246
 t127:=Tryz.underlying216
 a127:=Tryz.isAgg216
 z127:=Tryz.sizeOf216
 v127:=Tryz.zeroValue216
 t146:=Tryz.underlying253
 a146:=Tryz.isAgg253
 z146:=Tryz.sizeOf253
 v146:=Tryz.zeroValue253
 t148:=Tryz.underlying262
 a148:=Tryz.isAgg262
 z148:=Tryz.sizeOf262
 v148:=Tryz.zeroValue262
 t164:=Tryz.underlying230
 a164:=Tryz.isAgg230
 z164:=Tryz.sizeOf230
 v164:=Tryz.zeroValue230 }
theorem Tryz.Builder_Extra_105:Builder.Extra Tryz.prog Tryz.lays105_ren:={
 sizeBuilder:=by kernel_rfl
 liesBuilder:=by kernel_rfl
 t5:=Tryz.underlying5
 a5:=Tryz.isAgg5
 z5:=Tryz.sizeOf5
 v5:=Tryz.zeroValue5
 infoByte:=by kernel_rfl
 cellsByte:=by kernel_rfl
 sizeByte:=by kernel_rfl
 neB5:=by decide }
open Go.RowKit Go.Lib in
theorem Tryz.strings_Repeat (s:ByteArray) (c:Nat) (w:World) (hc:c≤9223372036854775807) (hlen:s.size*c≤140737488355328) :
  Calls Tryz.prog 249 #[.string s,.int .i64 c] w fun e w'=>e=.returned (.string ⟨(Lib.repeatL s.data.toList c).toArray⟩)∧Below w.heap.size w w':=Any.strings_Repeat Tryz.lays105 Tryz.Builder_Extra_105 s c w hc hlen
def Tryz.lays137_ren:Go.Shelf.Ren:=⟨fun | 137=>197 | 217=>238 | 266=>274 | n=>n,fun | 9=>9 | 5=>5 | 3=>3 | n=>n,fun | n=>n⟩
theorem Tryz.lays137:Go.Proofs.Lays.n137 Tryz.prog Tryz.lays137_ren:={
 mixed:=by kernel_rfl
 f137:=Tryz.func197.trans (congrArg some (by kernel_rfl))
 f217:=Tryz.func238.trans (congrArg some (by kernel_rfl))
 f266:=Tryz.func274.trans (congrArg some (by kernel_rfl))
 t3:=Tryz.underlying3
 a3:=Tryz.isAgg3
 z3:=Tryz.sizeOf3
 v3:=Tryz.zeroValue3
 t5:=Tryz.underlying5
 a5:=Tryz.isAgg5
 z5:=Tryz.sizeOf5
 v5:=Tryz.zeroValue5
 t9:=Tryz.underlying9
 a9:=Tryz.isAgg9
 z9:=Tryz.sizeOf9
 v9:=Tryz.zeroValue9 }
open Go.RowKit in
theorem Tryz.strings_IndexByte (s:ByteArray) (c:Int) (w:World) :
  Calls Tryz.prog 197 #[.string s,.int .u8 c] w fun e w'=>e=.returned (.int .i64 (Lib.indexByte s.data.toList c.toNat.toUInt8))∧w'=w:=Any.strings_IndexByte Tryz.lays137 s c w
def Tryz.lays145_ren:Go.Shelf.Ren:=⟨fun | 145=>94 | 220=>164 | 219=>223 | 217=>238 | 225=>256 | 224=>257 | 267=>258 | 266=>274 | 314=>282 | n=>n,fun | 9=>9 | 4=>4 | 59=>119 | 3=>3 | 5=>5 | 46=>213 | 146=>253 | 51=>243 | n=>n,fun | 1=>1 | n=>n⟩
theorem Tryz.lays145:Go.Proofs.Lays.n145 Tryz.prog Tryz.lays145_ren:={
 mixed:=by kernel_rfl
 f145:=Tryz.func94.trans (congrArg some (by kernel_rfl))
 f217:=Tryz.func238.trans (congrArg some (by kernel_rfl))
 f219:=Tryz.func223.trans (congrArg some (by kernel_rfl))
 f220:=Tryz.func164.trans (congrArg some (by kernel_rfl))
 f224:=Tryz.func257.trans (congrArg some (by kernel_rfl))
 f225:=Tryz.func256.trans (congrArg some (by kernel_rfl))
 f266:=Tryz.func274.trans (congrArg some (by kernel_rfl))
 f267:=Tryz.func258.trans (congrArg some (by kernel_rfl))
 f314:=Tryz.func282.trans (congrArg some (by kernel_rfl))
 t3:=Tryz.underlying3
 a3:=Tryz.isAgg3
 z3:=Tryz.sizeOf3
 v3:=Tryz.zeroValue3
 t4:=Tryz.underlying4
 a4:=Tryz.isAgg4
 z4:=Tryz.sizeOf4
 v4:=Tryz.zeroValue4
 t5:=Tryz.underlying5
 a5:=Tryz.isAgg5
 z5:=Tryz.sizeOf5
 v5:=Tryz.zeroValue5
 t9:=Tryz.underlying9
 a9:=Tryz.isAgg9
 z9:=Tryz.sizeOf9
 v9:=Tryz.zeroValue9
 t46:=Tryz.underlying213
 a46:=Tryz.isAgg213
 z46:=Tryz.sizeOf213
 v46:=Tryz.zeroValue213
 t51:=Tryz.underlying243
 a51:=Tryz.isAgg243
 z51:=Tryz.sizeOf243
 v51:=Tryz.zeroValue243
 t59:=Tryz.underlying119
 a59:=Tryz.isAgg119
 z59:=Tryz.sizeOf119
 v59:=Tryz.zeroValue119
 t146:=Tryz.underlying253
 a146:=Tryz.isAgg253
 z146:=Tryz.sizeOf253
 v146:=Tryz.zeroValue253
 g1:=by kernel_rfl }
open Go.RowKit Go.Lib in
theorem Tryz.strings_Cut (s sep:ByteArray) (m:Int) (w:World) (hs:s.size<4294967281) (hm:w.cell? ⟨1,0,none⟩=some (.int .i64 m)) :
  Calls Tryz.prog 94 #[.string s,.string sep] w fun e w'=>e=.returned (.tuple #[.string ⟨(Lib.cut s.data.toList sep.data.toList).1.toArray⟩,.string ⟨(Lib.cut s.data.toList sep.data.toList).2.1.toArray⟩,.bool (Lib.cut s.data.toList sep.data.toList).2.2])∧∃ n,w'=w.drewN n:=Any.strings_Cut Tryz.lays145 s sep m w hs hm
def Tryz.lays156_ren:Go.Shelf.Ren:=⟨fun | 156=>104 | 165=>182 | 166=>183 | 169=>184 | 240=>229 | 241=>230 | 276=>261 | 277=>262 | n=>n,fun | 31=>63 | 9=>9 | 3=>3 | 4=>4 | 0=>0 | 20=>20 | 72=>182 | 76=>186 | 70=>180 | 37=>28 | 75=>185 | 127=>216 | 164=>230 | 5=>5 | 80=>188 | n=>n,fun | n=>n⟩
theorem Tryz.lays156:Go.Proofs.Lays.n156 Tryz.prog Tryz.lays156_ren:={
 mixed:=by kernel_rfl
 f156:=Tryz.func104.trans (congrArg some (by kernel_rfl))
 f165:=Tryz.func182.trans (congrArg some (by kernel_rfl))
 f166:=Tryz.func183.trans (congrArg some (by kernel_rfl))
 f169:=Tryz.func184.trans (congrArg some (by kernel_rfl))
 f240:=Tryz.func229.trans (congrArg some (by kernel_rfl))
 f241:=Tryz.func230.trans (congrArg some (by kernel_rfl))
 f276:=Tryz.func261.trans (congrArg some (by kernel_rfl))
 f277:=Tryz.func262.trans (congrArg some (by kernel_rfl))
 t0:=Tryz.underlying0
 a0:=Tryz.isAgg0
 z0:=Tryz.sizeOf0
 v0:=Tryz.zeroValue0
 t3:=Tryz.underlying3
 a3:=Tryz.isAgg3
 z3:=Tryz.sizeOf3
 v3:=Tryz.zeroValue3
 t4:=Tryz.underlying4
 a4:=Tryz.isAgg4
 z4:=Tryz.sizeOf4
 v4:=Tryz.zeroValue4
 t9:=Tryz.underlying9
 a9:=Tryz.isAgg9
 z9:=Tryz.sizeOf9
 v9:=Tryz.zeroValue9
 t20:=Tryz.underlying20
 a20:=Tryz.isAgg20
 z20:=Tryz.sizeOf20
 v20:=Tryz.zeroValue20
 t31:=Tryz.underlying63
 a31:=Tryz.isAgg63
 z31:=Tryz.sizeOf63
 v31:=Tryz.zeroValue63
 t37:=Tryz.underlying28
 a37:=Tryz.isAgg28
 z37:=Tryz.sizeOf28
 v37:=Tryz.zeroValue28
 t70:=Tryz.underlying180
 a70:=Tryz.isAgg180
 z70:=Tryz.sizeOf180
 v70:=Tryz.zeroValue180
 t72:=Tryz.underlying182
 a72:=Tryz.isAgg182
 z72:=Tryz.sizeOf182
 v72:=Tryz.zeroValue182
 t75:=Tryz.underlying185
 a75:=Tryz.isAgg185
 z75:=Tryz.sizeOf185
 v75:=Tryz.zeroValue185
 t76:=Tryz.underlying186
 a76:=Tryz.isAgg186
 z76:=Tryz.sizeOf186
 v76:=Tryz.zeroValue186
 t127:=Tryz.underlying216
 a127:=Tryz.isAgg216
 z127:=Tryz.sizeOf216
 v127:=Tryz.zeroValue216
 t164:=Tryz.underlying230
 a164:=Tryz.isAgg230
 z164:=Tryz.sizeOf230
 v164:=Tryz.zeroValue230 }
theorem Tryz.Builder_Extra_156:Builder.Extra Tryz.prog Tryz.lays156_ren:={
 sizeBuilder:=by kernel_rfl
 liesBuilder:=by kernel_rfl
 t5:=Tryz.underlying5
 a5:=Tryz.isAgg5
 z5:=Tryz.sizeOf5
 v5:=Tryz.zeroValue5
 infoByte:=by kernel_rfl
 cellsByte:=by kernel_rfl
 sizeByte:=by kernel_rfl
 neB5:=by decide }
open Go.RowKit in
theorem Tryz.strings_Join (bk o c:Nat) (xs:List ByteArray) (sep:ByteArray) (w:World) (hcells:∀ (j:Nat) x,xs[j]?=some x→w.cell? ⟨bk,o+j,none⟩=some (.string x)) (hbk:bk<w.heap.size) (hN:xs.length≤140737488355328) (hcap:xs.length≤c) (hlen:(Lib.join (xs.map (·.data.toList)) sep.data.toList).length≤140737488355328) :
  Calls Tryz.prog 104 #[.slice (some ⟨bk,o,none⟩) xs.length c,.string sep] w fun e w'=>e=.returned (.string ⟨(Lib.join (xs.map (·.data.toList)) sep.data.toList).toArray⟩)∧Below w.heap.size w w':=Any.strings_Join Tryz.lays156 Tryz.Builder_Extra_156 bk o c xs sep w hcells hbk hN hcap hlen
open Go.RowKit in
theorem Tryz.strings_Join_none (a:Option Addr) (c:Nat) (sep:ByteArray) (w:World) :
  Calls Tryz.prog 104 #[.slice a 0 c,.string sep] w fun e w'=>e=.returned (.string ⟨#[]⟩)∧w'=w:=Any.strings_Join_none Tryz.lays156 Tryz.Builder_Extra_156 a c sep w
end Go.Proofs
namespace Go.Proofs.YtagkjnpggkmehaaGreatDoor
open Sx Go.RowKit
set_option maxRecDepth 100000
theorem lr_texts {V:Know} {b cap:Nat} {ns:List ByteArray} {post:List Value} {t:KTy} (h:V b=some (ns.map Value.string++post,t)) (hz:∀ n∈ns,n.size≤9223372036854775807) (hc:ns.length≤cap) (hl:ns.length≤9223372036854775807) :
  LR rString V ⟨some ⟨b,0,none⟩,ns.length,cap⟩ (ns.map fun n=>(n,())) [b] :=
 lr_lit (fps:=[]) (cs:=ns.map fun n=>(n,())) (els_ns hz) (by rw [vals_ns]; exact h) (by simp) (by simpa using hc) (by simpa using hl)
theorem own_one {V V':Know} {b:Nat} {c:List Value} {u:TypeId} (h:V b=none) (k:V' b=some (c,(u,(0,0)))):Own V V' [b] :=
 ⟨by simp,fun y hy=>by
  obtain rfl:y=b:=by simpa using hy
  exact h,fun y hy=>by
  obtain rfl:y=b:=by simpa using hy
  exact⟨_,_,k⟩⟩
abbrev CutPost (V:Know) (c:UInt8) (s:ByteArray):Know→Value→Prop:=fun V' r=>V.le V'∧∃ t f,r=Sc.val .l t∧LR rString V' t (cutB c s) f∧Own V V' f
def CutInv (c:UInt8) (s:ByteArray) (out:List ByteArray) (fr i:Nat):Prop:=fr≤i∧i≤s.size∧out.length≤i∧(∀ x∈out,x.size≤s.size)∧out.map bl++cutA c (((bl s).take i).drop fr) ((bl s).drop i)=cutA c [] (bl s)
theorem CutInv.start {c:UInt8} {s:ByteArray}:CutInv c s [] 0 0:=⟨Nat.le_refl _,Nat.zero_le _,Nat.le_refl _,(fun _ h=>by cases h),rfl⟩
theorem CutInv.hit {c:UInt8} {s:ByteArray} {out:List ByteArray} {fr i:Nat} (h:CutInv c s out fr i) (hi:i<(bl s).length) (hc:(bl s)[i]=c):CutInv c s (out++[s.extract fr i]) (i+1) (i+1):=by
 obtain⟨h1,h2,h3,h4,h5⟩:=h
 have hl:=bl_len s
 refine⟨Nat.le_refl _,by omega,by simp; omega,fun x hx=>?_,?_⟩
 ·rcases List.mem_append.1 hx with k | k
  ·exact h4 x k
  ·obtain rfl:x=s.extract fr i:=by simpa using k
   rw [ByteArray.size_extract]; omega
 ·rw [← h5,List.drop_eq_getElem_cons hi,cutA,if_pos hc,take_drop_self,List.map_append,List.append_assoc]
  show out.map bl++(bl (s.extract fr i) :: _)=_
  rw [bl_extract]
  rfl
theorem CutInv.miss {c:UInt8} {s:ByteArray} {out:List ByteArray} {fr i:Nat} (h:CutInv c s out fr i) (hi:i<(bl s).length) (hc:(bl s)[i]≠c):CutInv c s out fr (i+1):=by
 obtain⟨h1,h2,h3,h4,h5⟩:=h
 have hl:=bl_len s
 refine⟨by omega,by omega,by omega,h4,?_⟩
 rw [← h5,List.drop_eq_getElem_cons hi,cutA,if_neg hc,take_drop_snoc hi h1]
theorem CutInv.stop {c:UInt8} {s:ByteArray} {out:List ByteArray} {fr:Nat} (h:CutInv c s out fr s.size):cutB c s=(out++[s.extract fr s.size]).map fun n=>(n,()):=by
 obtain⟨h1,h2,h3,h4,h5⟩:=h
 have hl:=bl_len s
 unfold cutB
 rw [← h5,show(bl s).drop s.size=[] from List.drop_of_length_le (by omega),cutA,← bl_extract]
 have:out.map bl++[bl (s.extract fr s.size)]=(out++[s.extract fr s.size]).map bl:=by simp
 rw [this,List.map_map]
 refine List.map_congr_left fun x _=>?_
 show(ofL (bl x),())=(x,())
 rw [of_bl]
theorem cut_fin {V V':Know} {c:UInt8} {s:ByteArray} {out:List ByteArray} {fr:Nat} (hs:s.size≤1048576) (le:V.le V') (h:CutInv c s out fr s.size) {b cap:Nat} {sp:List Value} (hb:V' b=none) (hc:out.length+1≤cap) :
  CutPost V c s (kset V' b ((out.map Value.string++[Value.string (s.extract fr s.size)])++sp,(9,(0,0)))) (packed [.slice (some ⟨b,0,none⟩) (out.length+1) cap]):=by
 have hx:∀ n∈out++[s.extract fr s.size],n.size≤9223372036854775807:=fun n hn=>by
  rcases List.mem_append.1 hn with k | k
  ·have:=h.2.2.2.1 n k; omega
  ·obtain rfl:n=s.extract fr s.size:=by simpa using k
   rw [ByteArray.size_extract]; omega
 have h3:=h.2.2.1
 have e:(out.map Value.string++[Value.string (s.extract fr s.size)])=(out++[s.extract fr s.size]).map Value.string:=by simp
 have hst:=h.stop
 rw [e]
 have L:=lr_texts (V:=kset V' b ((out++[s.extract fr s.size]).map Value.string++sp,(9,(0,0)))) (b:=b) (cap:=cap) (post:=sp) (t:=(9,(0,0))) kset_same hx (by simpa using hc) (by simp; omega)
 have en:(out++[s.extract fr s.size]).length=out.length+1:=by simp
 rw [en] at L
 exact⟨le.trans (kset_le hb),_,[b],rfl,by rw [hst]; exact L,own_one (none_of_le le hb) kset_same⟩
theorem byte_eq {a b:UInt8}:((a.toNat:Int) == (b.toNat:Int))=true↔a=b:=by
 constructor
 ·intro h
  have:(a.toNat:Int)=(b.toNat:Int):=by simpa using h
  exact UInt8.toNat_inj.1 (by omega)
 ·rintro rfl; simp
theorem cS_CutAt (V:Know) (s:ByteArray) (c:UInt8) (hs:s.size≤1048576):CallX Tryz.prog V 85 [.string s,.string ⟨#[c]⟩] (CutPost V c s):=by
 refine CallX.of_fits Tryz.mix (fS_CutAt _ _) fun _=>?_
 simp only [tS_CutAt,T.wp]
 have hl:=bl_len s
 refine⟨fun y V'=>V'=V∧∃ (out:List ByteArray) (fr i:Nat),y.1.1=out.length∧y.1.2=out.map Value.string∧(y.2.1:Int)=(fr:Int)∧(y.2.2.1:Int)=(i:Int)∧CutInv c s out fr i,fun y _=>((s.size:Int)-(y.2.2.1:Int)).toNat,
  ⟨((0,[]),(0:Int),(0:Int),()),rfl,rfl,[],0,0,rfl,rfl,rfl,rfl,CutInv.start⟩,?_⟩
 rintro⟨⟨(m:Nat),(ys:List Value)⟩,(q:Int),(i:Int),u⟩ V' ⟨rfl,out,fr,k,hm,hy,hq,hi,inv⟩
 replace hm:m=out.length:=hm
 replace hy:ys=out.map Value.string:=hy
 replace hq:q=(fr:Int):=hq
 replace hi:i=(k:Int):=hi
 subst hm hy hq hi
 obtain⟨i1,i2,i3,i4,_⟩:=inv
 have inv:CutInv c s out fr k:=⟨i1,i2,i3,i4,by assumption⟩
 refine⟨fun hlt=>?_,fun hge=>?_⟩
 ·have hk:k<s.size:=by
   have:(k:Int)<(s.size:Int):=of_decide_eq_true hlt
   omega
  have hk':k<(bl s).length:=by omega
  have hw:IntKind.i64.wrap ((k:Int)+1)=((k+1:Nat):Int):=by rw [wrap_i64 (by omega)]; omega
  have hmm:((s.size:Int)-((k+1:Nat):Int)).toNat<((s.size:Int)-(k:Int)).toNat:=by omega
  refine⟨fun y V''=>V''=V'∧y.1.1=out.length∧y.1.2=out.map Value.string∧(y.2.1:Int)=(fr:Int)∧((y.2.2.1:Int)=0∨((y.2.2.1:Int)=1∧(bl s)[k]≠c)),fun y _=>(1-(y.2.2.1:Int)).toNat,
   ⟨((out.length,out.map Value.string),(fr:Int),(0:Int),()),rfl,rfl,rfl,rfl,rfl,.inl rfl⟩,?_⟩
  rintro⟨⟨(m:Nat),(ys:List Value)⟩,(q:Int),(z:Int),u⟩ V'' ⟨rfl,hm,hy,hq,hz⟩
  replace hm:m=out.length:=hm
  replace hy:ys=out.map Value.string:=hy
  replace hq:q=(fr:Int):=hq
  replace hz:z=0∨(z=1∧(bl s)[k]≠c):=hz
  subst hm hy hq
  refine⟨fun hz1=>?_,fun hz1=>?_⟩
  ·have hz0:z=0:=by
    have:z<((1:Nat):Int):=of_decide_eq_true hz1
    rcases hz with h | ⟨h,_⟩ <;> omega
   subst hz0
   dsimp only
   have ek:at0 s (k:Int).toNat=((bl s)[k].toNat:Int):=by rw [Int.toNat_natCast]; exact at0_bl hk'
   have ec:at0 (⟨#[c]⟩:ByteArray) (Int.toNat (0:Int))=(c.toNat:Int):=rfl
   rw [ek,ec]
   refine⟨⟨(by omega:(0:Int)≤(k:Int)),(by omega:(k:Int)<(s.size:Int))⟩,⟨by omega,(by decide:(0:Int)<((1:Nat):Int))⟩,fun heq=>?_,fun hne=>?_⟩
   ·have hcc:=byte_eq.1 heq
    rw [Int.toNat_natCast,Int.toNat_natCast]
    refine⟨⟨(by omega:(0:Int)≤(fr:Int)),(by omega:(fr:Int)≤(k:Int)),(by omega:(k:Int)≤(s.size:Int))⟩,rfl,⟨rfl,(by omega:(out.length+1)*16≤140737488355328),(by omega:out.length+1≤9223372036854775807)⟩,_,rfl,((out.length+1,(out++[s.extract fr k]).map Value.string),((k+1:Nat):Int),((k+1:Nat):Int),()),?_,⟨rfl,out++[s.extract fr k],k+1,k+1,by simp,rfl,rfl,rfl,inv.hit hk' hcc⟩,hmm⟩
    rw [hw]
    simp [LShs.lvs,LSh.lv,Sh1.val,Sc.val]
   ·have hcc:(bl s)[k]≠c:=fun e=>by rw [byte_eq.2 e] at hne; cases hne
    refine⟨_,rfl,((out.length,out.map Value.string),(fr:Int),(1:Int),()),rfl,⟨rfl,rfl,rfl,rfl,.inr ⟨rfl,hcc⟩⟩,(by show(1-(1:Int)).toNat<(1-(0:Int)).toNat; decide)⟩
  ·have hz0:(bl s)[k]≠c:=by
    have:¬ z<((1:Nat):Int):=of_decide_eq_false hz1
    rcases hz with h | ⟨_,h⟩
    ·omega
    ·exact h
   exact⟨_,rfl,((out.length,out.map Value.string),(fr:Int),((k+1:Nat):Int),()),by dsimp only; rw [hw]; rfl,⟨rfl,out,fr,k+1,rfl,rfl,rfl,rfl,inv.miss hk' hz0⟩,hmm⟩
 ·have hk:k=s.size:=by
   have:¬ (k:Int)<(s.size:Int):=of_decide_eq_false hge
   omega
  subst hk
  dsimp only
  rw [Int.toNat_natCast,Int.toNat_natCast]
  refine⟨⟨(by omega:(0:Int)≤(fr:Int)),(by omega:(fr:Int)≤(s.size:Int)),Int.le_refl _⟩,rfl,⟨rfl,(by omega:(out.length+1)*16≤140737488355328),(by omega:out.length+1≤9223372036854775807)⟩,fun b cap sp hb hcap _=>?_⟩
  exact cut_fin hs (Know.le.refl _) inv hb hcap
theorem index_one (a c:UInt8):Go.Lib.indexByte (⟨#[c]⟩:ByteArray).data.toList a≥0↔a=c:=by
 show Go.Lib.indexByte [c] a≥0↔_
 unfold Go.Lib.indexByte
 by_cases h:c=a
 ·rw [if_pos (by simp [h])]; simp [h]
 ·rw [if_neg (by simp [h])]
  unfold Go.Lib.indexByte
  simp
  exact fun e=>h e.symm
theorem cX_IndexByte (V:Know) (s:ByteArray) (c:Int):CallX Tryz.prog V 197 [.string s,.int .u8 c] (fun V' r=>V'=V∧r=.int .i64 (Go.Lib.indexByte s.data.toList c.toNat.toUInt8)):=by
 refine CallX.of_calls ⟨_,Tryz.func197,by kernel_rfl,by kernel_rfl⟩ fun w _=>?_
 refine(Tryz.strings_IndexByte s c w).mono ?_
 rintro e w' ⟨rfl,rfl⟩
 exact⟨rfl,Below.refl _ _⟩
theorem cI_CutAt (V:Know) (s:ByteArray) (c:UInt8) (hs:s.size≤1048576):CallX Tryz.prog V 129 [.string s,.string ⟨#[c]⟩] (CutPost V c s):=by
 refine CallX.of_fits Tryz.mix (fI_CutAt _ _) fun _=>?_
 simp only [tI_CutAt,T.wp]
 have hl:=bl_len s
 refine⟨fun y V'=>V'=V∧∃ (out:List ByteArray) (fr i:Nat),y.1.1=out.length∧y.1.2=out.map Value.string∧(y.2.1:Int)=(fr:Int)∧(y.2.2.1:Int)=(i:Int)∧CutInv c s out fr i,fun y _=>((s.size:Int)-(y.2.2.1:Int)).toNat,
  ⟨((0,[]),(0:Int),(0:Int),()),rfl,rfl,[],0,0,rfl,rfl,rfl,rfl,CutInv.start⟩,?_⟩
 rintro⟨⟨(m:Nat),(ys:List Value)⟩,(q:Int),(i:Int),u⟩ V' ⟨rfl,out,fr,k,hm,hy,hq,hi,inv⟩
 replace hm:m=out.length:=hm
 replace hy:ys=out.map Value.string:=hy
 replace hq:q=(fr:Int):=hq
 replace hi:i=(k:Int):=hi
 subst hm hy hq hi
 have i1:=inv.1
 have i2:=inv.2.1
 have i3:=inv.2.2.1
 refine⟨fun hlt=>?_,fun hge=>?_⟩
 ·have hk:k<s.size:=by
   have:(k:Int)<(s.size:Int):=of_decide_eq_true hlt
   omega
  have hk':k<(bl s).length:=by omega
  have hw:IntKind.i64.wrap ((k:Int)+1)=((k+1:Nat):Int):=by rw [wrap_i64 (by omega)]; omega
  have hmm:((s.size:Int)-((k+1:Nat):Int)).toNat<((s.size:Int)-(k:Int)).toNat:=by omega
  have ek:at0 s (k:Int).toNat=((bl s)[k].toNat:Int):=by rw [Int.toNat_natCast]; exact at0_bl hk'
  have eu:((bl s)[k].toNat:Int).toNat.toUInt8=(bl s)[k]:=by
   apply UInt8.toNat_inj.1
   rw [Int.toNat_natCast]
   show(UInt8.ofNat (bl s)[k].toNat).toNat=_
   simp
  dsimp only
  rw [ek]
  refine⟨⟨(by omega:(0:Int)≤(k:Int)),(by omega:(k:Int)<(s.size:Int))⟩,(cX_IndexByte V' _ _).mono ?_⟩
  rintro V1 _ ⟨rfl,rfl⟩
  rw [eu]
  refine⟨nofun,_,rfl,fun heq=>?_,fun hne=>?_⟩
  ·have hcc:=(index_one _ _).1 (of_decide_eq_true heq)
   rw [Int.toNat_natCast,Int.toNat_natCast]
   refine⟨⟨(by omega:(0:Int)≤(fr:Int)),(by omega:(fr:Int)≤(k:Int)),(by omega:(k:Int)≤(s.size:Int))⟩,rfl,⟨rfl,(by omega:(out.length+1)*16≤140737488355328),(by omega:out.length+1≤9223372036854775807)⟩,_,rfl,((out.length+1,(out++[s.extract fr k]).map Value.string),((k+1:Nat):Int),((k+1:Nat):Int),()),?_,⟨rfl,out++[s.extract fr k],k+1,k+1,by simp,rfl,rfl,rfl,inv.hit hk' hcc⟩,hmm⟩
   rw [hw]
   simp [LShs.lvs,LSh.lv,Sh1.val,Sc.val]
  ·have hcc:(bl s)[k]≠c:=fun e=>of_decide_eq_false hne ((index_one _ _).2 e)
   exact⟨_,rfl,((out.length,out.map Value.string),(fr:Int),((k+1:Nat):Int),()),by rw [hw]; rfl,⟨rfl,out,fr,k+1,rfl,rfl,rfl,rfl,inv.miss hk' hcc⟩,hmm⟩
 ·have hk:k=s.size:=by
   have:¬ (k:Int)<(s.size:Int):=of_decide_eq_false hge
   omega
  subst hk
  dsimp only
  rw [Int.toNat_natCast,Int.toNat_natCast]
  refine⟨⟨(by omega:(0:Int)≤(fr:Int)),(by omega:(fr:Int)≤(s.size:Int)),Int.le_refl _⟩,rfl,⟨rfl,(by omega:(out.length+1)*16≤140737488355328),(by omega:out.length+1≤9223372036854775807)⟩,fun b cap sp hb hcap _=>?_⟩
  exact cut_fin hs (Know.le.refl _) inv hb hcap
theorem cS_Cut (V:Know) (s:ByteArray) (hs:s.size≤1048576):CallX Tryz.prog V 33 [.string s] (CutPost V 32 s):=by
 refine CallX.of_fits Tryz.mix (fS_Cut _) fun _=>?_
 simp only [tS_Cut,T.wp]
 refine(cS_CutAt V s 32 hs).mono ?_
 rintro V1 _ ⟨le1,t,f,rfl,L,O⟩
 exact⟨nofun,t,rfl,le1,t,f,rfl,L,O⟩
end Go.Proofs.YtagkjnpggkmehaaGreatDoor
