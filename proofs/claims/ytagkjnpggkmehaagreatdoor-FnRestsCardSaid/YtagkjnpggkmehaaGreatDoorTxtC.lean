/-
  Numbers, amounts, rates and remainders as texts, in the program and in the reference.
-/
import Derived.Shelf.Strings.Builder1
import Derived.Shelf.Strings.Builder2
import Derived.Shelf.Strings.OnBuilder
import Derived.Shelf.Small.Bits
import Derived.Shelf.Small.Strs
import Derived.Shelf.Strings.BuilderF
import Derived.Shelf.Strings.BuilderK
import Derived.Shelf.Utf8.RuneCount
import Derived.Shelf.Strings.Builder2Cap
import Derived.Shelf.Strconv.Itoa0
import Derived.Shelf.Strconv.Itoa1
import Derived.Shelf.LaysM
import Derived.Shelf.Strconv.Itoa2
import Derived.Shelf.Strconv.Itoa3
import Derived.Shelf.Strings.Search1
import Derived.Shelf.Strings.Search2
import Derived.Shelf.Strings.Search3
import Derived.Shelf.Strings.Cut
import Derived.Shelf.Strings.Count
import Derived.Shelf.Strings.Shaped
import Derived.Shelf.Sort.Plain
import Derived.Shelf.Strings.Prefix
import Derived.Shelf.Strings.Split
import Derived.Shelf.Strings.SplitShaped
import Derived.Shelf.Unicode.Decode
import Derived.Shelf.Strings.RuneCount
import Derived.Shelf.Strings.Explode
import Derived.Shelf.Bits.Mul64
import Derived.Shelf.Strings.Repeat
import Derived.Shelf.Unicode.DecodeSlow
import Derived.Shelf.Unicode.DecodeAny
import Derived.Shelf.Strings.BuilderCap
import Derived.Test.YtagkjnpggkmehaaGreatDoorProg
import Derived.Test.YtagkjnpggkmehaaGreatDoorLib
import Derived.Test.YtagkjnpggkmehaaGreatDoorLoopT
import Derived.Test.YtagkjnpggkmehaaGreatDoorLit
import Derived.Test.YtagkjnpggkmehaaGreatDoorTxt
import Derived.Lib.AppendIntMem
namespace Go.Proofs
open Go.Shelf
def Tryz.laysM171_ren:Go.Shelf.Ren:=⟨fun | 171=>281 | 243=>292 | 246=>294 | 283=>295 | 284=>296 | 285=>297 | 286=>298 | 129=>273 | 317=>299 | 318=>300 | 319=>301 | 320=>302 | 337=>303 | 338=>304 | n=>n,fun | 3=>3 | 9=>9 | 2=>2 | 4=>4 | 171=>268 | 0=>0 | 53=>141 | 37=>28 | 5=>5 | 173=>270 | 212=>273 | 51=>243 | 20=>20 | 213=>274 | 46=>213 | 232=>275 | 233=>276 | n=>n,fun | 17=>4 | 18=>5 | 19=>6 | n=>n⟩
theorem Tryz.laysM171:Go.Proofs.LaysM.n171 Tryz.prog Tryz.laysM171_ren:={
 mixed:=by kernel_rfl
 f129:=Tryz.func273.trans (congrArg some (by kernel_rfl))
 f171:=Tryz.func281.trans (congrArg some (by kernel_rfl))
 f243:=Tryz.func292.trans (congrArg some (by kernel_rfl))
 f246:=Tryz.func294.trans (congrArg some (by kernel_rfl))
 f283:=Tryz.func295.trans (congrArg some (by kernel_rfl))
 f284:=Tryz.func296.trans (congrArg some (by kernel_rfl))
 f285:=Tryz.func297.trans (congrArg some (by kernel_rfl))
 f286:=Tryz.func298.trans (congrArg some (by kernel_rfl))
 f317:=Tryz.func299.trans (congrArg some (by kernel_rfl))
 f318:=Tryz.func300.trans (congrArg some (by kernel_rfl))
 f319:=Tryz.func301.trans (congrArg some (by kernel_rfl))
 f320:=Tryz.func302.trans (congrArg some (by kernel_rfl))
 f337:=Tryz.func303.trans (congrArg some (by kernel_rfl))
 f338:=Tryz.func304.trans (congrArg some (by kernel_rfl))
 t0:=Tryz.underlying0
 a0:=Tryz.isAgg0
 z0:=Tryz.sizeOf0
 v0:=Tryz.zeroValue0
 t2:=Tryz.underlying2
 a2:=Tryz.isAgg2
 z2:=Tryz.sizeOf2
 v2:=Tryz.zeroValue2
 t3:=Tryz.underlying3
 a3:=Tryz.isAgg3
 z3:=Tryz.sizeOf3
 v3:=Tryz.zeroValue3
 t4:=Tryz.underlying4
 a4:=Tryz.isAgg4
 z4:=Tryz.sizeOf4
 v4:=Tryz.zeroValue4
 t5:=Tryz.underlying5
 a5:=Tryz.isAgg5
 z5:=Tryz.sizeOf5
 v5:=Tryz.zeroValue5
 t9:=Tryz.underlying9
 a9:=Tryz.isAgg9
 z9:=Tryz.sizeOf9
 v9:=Tryz.zeroValue9
 t20:=Tryz.underlying20
 a20:=Tryz.isAgg20
 z20:=Tryz.sizeOf20
 v20:=Tryz.zeroValue20
 t37:=Tryz.underlying28
 a37:=Tryz.isAgg28
 z37:=Tryz.sizeOf28
 v37:=Tryz.zeroValue28
 t46:=Tryz.underlying213
 a46:=Tryz.isAgg213
 z46:=Tryz.sizeOf213
 v46:=Tryz.zeroValue213
 t51:=Tryz.underlying243
 a51:=Tryz.isAgg243
 z51:=Tryz.sizeOf243
 v51:=Tryz.zeroValue243
 t53:=Tryz.underlying141
 a53:=Tryz.isAgg141
 z53:=Tryz.sizeOf141
 v53:=Tryz.zeroValue141
 t171:=Tryz.underlying268
 a171:=Tryz.isAgg268
 z171:=Tryz.sizeOf268
 v171:=Tryz.zeroValue268
 t173:=Tryz.underlying270
 a173:=Tryz.isAgg270
 z173:=Tryz.sizeOf270
 v173:=Tryz.zeroValue270
 t212:=Tryz.underlying273
 a212:=Tryz.isAgg273
 z212:=Tryz.sizeOf273
 v212:=Tryz.zeroValue273
 t213:=Tryz.underlying274
 a213:=Tryz.isAgg274
 z213:=Tryz.sizeOf274
 t232:=Tryz.underlying275
 a232:=Tryz.isAgg275
 z232:=Tryz.sizeOf275
 v232:=Tryz.zeroValue275
 t233:=Tryz.underlying276
 a233:=Tryz.isAgg276
 z233:=Tryz.sizeOf276
 v233:=Tryz.zeroValue276
 g17:=by kernel_rfl
 g18:=by kernel_rfl
 g19:=by kernel_rfl
 i0:=by kernel_rfl
 i2:=by kernel_rfl
 i3:=by kernel_rfl
 i4:=by kernel_rfl
 i5:=by kernel_rfl
 i9:=by kernel_rfl
 i20:=by kernel_rfl
 i37:=by kernel_rfl
 i46:=by kernel_rfl
 i51:=by kernel_rfl
 i53:=by kernel_rfl
 i171:=by kernel_rfl
 i173:=by kernel_rfl
 i212:=by kernel_rfl
 i232:=by kernel_rfl
 i233:=by kernel_rfl
 m17:=by kernel_rfl
 m18:=by kernel_rfl
 m19:=by kernel_rfl }
open Go.RowKit Go.Sort Go.Lib in
theorem Tryz.strconv_Itoa (n : Int) (h0 : -9223372036854775808 ≤ n) (h1 : n ≤ 9223372036854775807) (w : World) (htab : Lib.TabIs Tryz.prog w "internal/strconv.uint64pow10" .u64 Lib.pow10Tab) :
  Calls Tryz.prog 281 #[.int .i64 n] w fun e w'=>e=.returned (.string ⟨(Lib.itoa n).toArray⟩)∧∃ k os,w'=grow (w.drewN k) os:=Any.strconv_Itoa Tryz.laysM171 n h0 h1 w htab
def Tryz.lays105_ren:Go.Shelf.Ren:=⟨fun | 105=>249 | 212=>278 | 99=>279 | 165=>182 | 166=>183 | 170=>280 | 169=>184 | 263=>289 | 264=>290 | 206=>291 | 240=>229 | 241=>230 | 276=>261 | 277=>262 | n=>n,fun | 9=>9 | 3=>3 | 4=>4 | 20=>20 | 0=>0 | 46=>213 | 109=>246 | 5=>5 | 72=>182 | 76=>186 | 51=>243 | 146=>253 | 53=>141 | 148=>262 | 70=>180 | 37=>28 | 75=>185 | 127=>216 | 164=>230 | 80=>188 | n=>n,fun | n=>n⟩
theorem Tryz.lays105:Go.Proofs.Lays.n105 Tryz.prog Tryz.lays105_ren:={
 mixed:=by kernel_rfl
 f99:=Tryz.func279.trans (congrArg some (by kernel_rfl))
 f105:=Tryz.func249.trans (congrArg some (by kernel_rfl))
 f165:=Tryz.func182.trans (congrArg some (by kernel_rfl))
 f166:=Tryz.func183.trans (congrArg some (by kernel_rfl))
 f169:=Tryz.func184.trans (congrArg some (by kernel_rfl))
 f170:=Tryz.func280.trans (congrArg some (by kernel_rfl))
 f206:=Tryz.func291.trans (congrArg some (by kernel_rfl))
 f212:=Tryz.func278.trans (congrArg some (by kernel_rfl))
 f240:=Tryz.func229.trans (congrArg some (by kernel_rfl))
 f241:=Tryz.func230.trans (congrArg some (by kernel_rfl))
 f263:=Tryz.func289.trans (congrArg some (by kernel_rfl))
 f264:=Tryz.func290.trans (congrArg some (by kernel_rfl))
 f276:=Tryz.func261.trans (congrArg some (by kernel_rfl))
 f277:=Tryz.func262.trans (congrArg some (by kernel_rfl))
 t0:=Tryz.underlying0
 a0:=Tryz.isAgg0
 z0:=Tryz.sizeOf0
 v0:=Tryz.zeroValue0
 t3:=Tryz.underlying3
 a3:=Tryz.isAgg3
 z3:=Tryz.sizeOf3
 v3:=Tryz.zeroValue3
 t4:=Tryz.underlying4
 a4:=Tryz.isAgg4
 z4:=Tryz.sizeOf4
 v4:=Tryz.zeroValue4
 t5:=Tryz.underlying5
 a5:=Tryz.isAgg5
 z5:=Tryz.sizeOf5
 v5:=Tryz.zeroValue5
 t9:=Tryz.underlying9
 a9:=Tryz.isAgg9
 z9:=Tryz.sizeOf9
 v9:=Tryz.zeroValue9
 t20:=Tryz.underlying20
 a20:=Tryz.isAgg20
 z20:=Tryz.sizeOf20
 v20:=Tryz.zeroValue20
 t37:=Tryz.underlying28
 a37:=Tryz.isAgg28
 z37:=Tryz.sizeOf28
 v37:=Tryz.zeroValue28
 t46:=Tryz.underlying213
 a46:=Tryz.isAgg213
 z46:=Tryz.sizeOf213
 v46:=Tryz.zeroValue213
 t51:=Tryz.underlying243
 a51:=Tryz.isAgg243
 z51:=Tryz.sizeOf243
 v51:=Tryz.zeroValue243
 t53:=Tryz.underlying141
 a53:=Tryz.isAgg141
 z53:=Tryz.sizeOf141
 v53:=Tryz.zeroValue141
 t70:=Tryz.underlying180
 a70:=Tryz.isAgg180
 z70:=Tryz.sizeOf180
 v70:=Tryz.zeroValue180
 t72:=Tryz.underlying182
 a72:=Tryz.isAgg182
 z72:=Tryz.sizeOf182
 v72:=Tryz.zeroValue182
 t75:=Tryz.underlying185
 a75:=Tryz.isAgg185
 z75:=Tryz.sizeOf185
 v75:=Tryz.zeroValue185
 t76:=Tryz.underlying186
 a76:=Tryz.isAgg186
 z76:=Tryz.sizeOf186
 v76:=Tryz.zeroValue186
 t109:=Tryz.underlying246
 a109:=Tryz.isAgg246
 z109:=Tryz.sizeOf246
 v109:=Tryz.zeroValue246
 t127:=Tryz.underlying216
 a127:=Tryz.isAgg216
 z127:=Tryz.sizeOf216
 v127:=Tryz.zeroValue216
 t146:=Tryz.underlying253
 a146:=Tryz.isAgg253
 z146:=Tryz.sizeOf253
 v146:=Tryz.zeroValue253
 t148:=Tryz.underlying262
 a148:=Tryz.isAgg262
 z148:=Tryz.sizeOf262
 v148:=Tryz.zeroValue262
 t164:=Tryz.underlying230
 a164:=Tryz.isAgg230
 z164:=Tryz.sizeOf230
 v164:=Tryz.zeroValue230 }
theorem Tryz.Builder_Extra_105:Builder.Extra Tryz.prog Tryz.lays105_ren:={
 sizeBuilder:=by kernel_rfl
 liesBuilder:=by kernel_rfl
 t5:=Tryz.underlying5
 a5:=Tryz.isAgg5
 z5:=Tryz.sizeOf5
 v5:=Tryz.zeroValue5
 infoByte:=by kernel_rfl
 cellsByte:=by kernel_rfl
 sizeByte:=by kernel_rfl
 neB5:=by decide }
open Go.RowKit Go.Lib in
theorem Tryz.strings_Repeat (s:ByteArray) (c:Nat) (w:World) (hc:c≤9223372036854775807) (hlen:s.size*c≤140737488355328) :
  Calls Tryz.prog 249 #[.string s,.int .i64 c] w fun e w'=>e=.returned (.string ⟨(Lib.repeatL s.data.toList c).toArray⟩)∧Below w.heap.size w w':=Any.strings_Repeat Tryz.lays105 Tryz.Builder_Extra_105 s c w hc hlen
def Tryz.lays137_ren:Go.Shelf.Ren:=⟨fun | 137=>197 | 217=>238 | 266=>274 | n=>n,fun | 9=>9 | 5=>5 | 3=>3 | n=>n,fun | n=>n⟩
theorem Tryz.lays137:Go.Proofs.Lays.n137 Tryz.prog Tryz.lays137_ren:={
 mixed:=by kernel_rfl
 f137:=Tryz.func197.trans (congrArg some (by kernel_rfl))
 f217:=Tryz.func238.trans (congrArg some (by kernel_rfl))
 f266:=Tryz.func274.trans (congrArg some (by kernel_rfl))
 t3:=Tryz.underlying3
 a3:=Tryz.isAgg3
 z3:=Tryz.sizeOf3
 v3:=Tryz.zeroValue3
 t5:=Tryz.underlying5
 a5:=Tryz.isAgg5
 z5:=Tryz.sizeOf5
 v5:=Tryz.zeroValue5
 t9:=Tryz.underlying9
 a9:=Tryz.isAgg9
 z9:=Tryz.sizeOf9
 v9:=Tryz.zeroValue9 }
open Go.RowKit in
theorem Tryz.strings_IndexByte (s:ByteArray) (c:Int) (w:World) :
  Calls Tryz.prog 197 #[.string s,.int .u8 c] w fun e w'=>e=.returned (.int .i64 (Lib.indexByte s.data.toList c.toNat.toUInt8))∧w'=w:=Any.strings_IndexByte Tryz.lays137 s c w
def Tryz.lays145_ren:Go.Shelf.Ren:=⟨fun | 145=>94 | 220=>164 | 219=>223 | 217=>238 | 225=>256 | 224=>257 | 267=>258 | 266=>274 | 314=>282 | n=>n,fun | 9=>9 | 4=>4 | 59=>119 | 3=>3 | 5=>5 | 46=>213 | 146=>253 | 51=>243 | n=>n,fun | 1=>1 | n=>n⟩
theorem Tryz.lays145:Go.Proofs.Lays.n145 Tryz.prog Tryz.lays145_ren:={
 mixed:=by kernel_rfl
 f145:=Tryz.func94.trans (congrArg some (by kernel_rfl))
 f217:=Tryz.func238.trans (congrArg some (by kernel_rfl))
 f219:=Tryz.func223.trans (congrArg some (by kernel_rfl))
 f220:=Tryz.func164.trans (congrArg some (by kernel_rfl))
 f224:=Tryz.func257.trans (congrArg some (by kernel_rfl))
 f225:=Tryz.func256.trans (congrArg some (by kernel_rfl))
 f266:=Tryz.func274.trans (congrArg some (by kernel_rfl))
 f267:=Tryz.func258.trans (congrArg some (by kernel_rfl))
 f314:=Tryz.func282.trans (congrArg some (by kernel_rfl))
 t3:=Tryz.underlying3
 a3:=Tryz.isAgg3
 z3:=Tryz.sizeOf3
 v3:=Tryz.zeroValue3
 t4:=Tryz.underlying4
 a4:=Tryz.isAgg4
 z4:=Tryz.sizeOf4
 v4:=Tryz.zeroValue4
 t5:=Tryz.underlying5
 a5:=Tryz.isAgg5
 z5:=Tryz.sizeOf5
 v5:=Tryz.zeroValue5
 t9:=Tryz.underlying9
 a9:=Tryz.isAgg9
 z9:=Tryz.sizeOf9
 v9:=Tryz.zeroValue9
 t46:=Tryz.underlying213
 a46:=Tryz.isAgg213
 z46:=Tryz.sizeOf213
 v46:=Tryz.zeroValue213
 t51:=Tryz.underlying243
 a51:=Tryz.isAgg243
 z51:=Tryz.sizeOf243
 v51:=Tryz.zeroValue243
 t59:=Tryz.underlying119
 a59:=Tryz.isAgg119
 z59:=Tryz.sizeOf119
 v59:=Tryz.zeroValue119
 t146:=Tryz.underlying253
 a146:=Tryz.isAgg253
 z146:=Tryz.sizeOf253
 v146:=Tryz.zeroValue253
 g1:=by kernel_rfl }
open Go.RowKit Go.Lib in
theorem Tryz.strings_Cut (s sep:ByteArray) (m:Int) (w:World) (hs:s.size<4294967281) (hm:w.cell? ⟨1,0,none⟩=some (.int .i64 m)) :
  Calls Tryz.prog 94 #[.string s,.string sep] w fun e w'=>e=.returned (.tuple #[.string ⟨(Lib.cut s.data.toList sep.data.toList).1.toArray⟩,.string ⟨(Lib.cut s.data.toList sep.data.toList).2.1.toArray⟩,.bool (Lib.cut s.data.toList sep.data.toList).2.2])∧∃ n,w'=w.drewN n:=Any.strings_Cut Tryz.lays145 s sep m w hs hm
def Tryz.lays146_ren:Go.Shelf.Ren:=⟨fun | 146=>37 | 221=>93 | 268=>161 | 138=>162 | 143=>163 | 195=>220 | 197=>221 | 218=>222 | 219=>223 | 260=>255 | 217=>238 | 225=>256 | 224=>257 | 267=>258 | 266=>274 | 314=>282 | n=>n,fun | 9=>9 | 31=>63 | 3=>3 | 4=>4 | 0=>0 | 105=>211 | 21=>21 | 5=>5 | 46=>213 | 119=>249 | 139=>252 | 138=>251 | 146=>253 | 51=>243 | n=>n,fun | 1=>1 | 3=>2 | 4=>3 | n=>n⟩
theorem Tryz.lays146:Go.Proofs.Lays.n146 Tryz.prog Tryz.lays146_ren:={
 mixed:=by kernel_rfl
 f138:=Tryz.func162.trans (congrArg some (by kernel_rfl))
 f143:=Tryz.func163.trans (congrArg some (by kernel_rfl))
 f146:=Tryz.func37.trans (congrArg some (by kernel_rfl))
 f195:=Tryz.func220.trans (congrArg some (by kernel_rfl))
 f197:=Tryz.func221.trans (congrArg some (by kernel_rfl))
 f217:=Tryz.func238.trans (congrArg some (by kernel_rfl))
 f218:=Tryz.func222.trans (congrArg some (by kernel_rfl))
 f219:=Tryz.func223.trans (congrArg some (by kernel_rfl))
 f221:=Tryz.func93.trans (congrArg some (by kernel_rfl))
 f224:=Tryz.func257.trans (congrArg some (by kernel_rfl))
 f225:=Tryz.func256.trans (congrArg some (by kernel_rfl))
 f260:=Tryz.func255.trans (congrArg some (by kernel_rfl))
 f266:=Tryz.func274.trans (congrArg some (by kernel_rfl))
 f267:=Tryz.func258.trans (congrArg some (by kernel_rfl))
 f268:=Tryz.func161.trans (congrArg some (by kernel_rfl))
 f314:=Tryz.func282.trans (congrArg some (by kernel_rfl))
 t0:=Tryz.underlying0
 a0:=Tryz.isAgg0
 z0:=Tryz.sizeOf0
 v0:=Tryz.zeroValue0
 t3:=Tryz.underlying3
 a3:=Tryz.isAgg3
 z3:=Tryz.sizeOf3
 v3:=Tryz.zeroValue3
 t4:=Tryz.underlying4
 a4:=Tryz.isAgg4
 z4:=Tryz.sizeOf4
 v4:=Tryz.zeroValue4
 t5:=Tryz.underlying5
 a5:=Tryz.isAgg5
 z5:=Tryz.sizeOf5
 v5:=Tryz.zeroValue5
 t9:=Tryz.underlying9
 a9:=Tryz.isAgg9
 z9:=Tryz.sizeOf9
 v9:=Tryz.zeroValue9
 t21:=Tryz.underlying21
 a21:=Tryz.isAgg21
 z21:=Tryz.sizeOf21
 v21:=Tryz.zeroValue21
 t31:=Tryz.underlying63
 a31:=Tryz.isAgg63
 z31:=Tryz.sizeOf63
 v31:=Tryz.zeroValue63
 t46:=Tryz.underlying213
 a46:=Tryz.isAgg213
 z46:=Tryz.sizeOf213
 v46:=Tryz.zeroValue213
 t51:=Tryz.underlying243
 a51:=Tryz.isAgg243
 z51:=Tryz.sizeOf243
 v51:=Tryz.zeroValue243
 t105:=Tryz.underlying211
 a105:=Tryz.isAgg211
 z105:=Tryz.sizeOf211
 v105:=Tryz.zeroValue211
 t119:=Tryz.underlying249
 a119:=Tryz.isAgg249
 z119:=Tryz.sizeOf249
 t138:=Tryz.underlying251
 a138:=Tryz.isAgg251
 z138:=Tryz.sizeOf251
 v138:=Tryz.zeroValue251
 t139:=Tryz.underlying252
 a139:=Tryz.isAgg252
 z139:=Tryz.sizeOf252
 v139:=Tryz.zeroValue252
 t146:=Tryz.underlying253
 a146:=Tryz.isAgg253
 z146:=Tryz.sizeOf253
 v146:=Tryz.zeroValue253
 g1:=by kernel_rfl
 g3:=by kernel_rfl
 g4:=by kernel_rfl }
open Go.RowKit Go.Lib in
theorem Tryz.strings_Split (s sep:ByteArray) (m:Int) (w:World) (hs:s.size<4294967281) (hm:w.cell? ⟨1,0,none⟩=some (.int .i64 m)) (h1:1≤sep.size) :
  Calls Tryz.prog 37 #[.string s,.string sep] w fun e w' =>
   e=.returned (.slice (some ⟨w.heap.size,0,none⟩) (Lib.countB s sep+1) (Lib.countB s sep+1))∧w'=w.alloc (.cells ((Lib.splitB sep 0 (Lib.countB s sep) s).map Value.string).toArray 9):=Any.strings_Split Tryz.lays146 (by kernel_rfl) s sep m w hs hm h1
def Tryz.lays156_ren:Go.Shelf.Ren:=⟨fun | 156=>104 | 165=>182 | 166=>183 | 169=>184 | 240=>229 | 241=>230 | 276=>261 | 277=>262 | n=>n,fun | 31=>63 | 9=>9 | 3=>3 | 4=>4 | 0=>0 | 20=>20 | 72=>182 | 76=>186 | 70=>180 | 37=>28 | 75=>185 | 127=>216 | 164=>230 | 5=>5 | 80=>188 | n=>n,fun | n=>n⟩
theorem Tryz.lays156:Go.Proofs.Lays.n156 Tryz.prog Tryz.lays156_ren:={
 mixed:=by kernel_rfl
 f156:=Tryz.func104.trans (congrArg some (by kernel_rfl))
 f165:=Tryz.func182.trans (congrArg some (by kernel_rfl))
 f166:=Tryz.func183.trans (congrArg some (by kernel_rfl))
 f169:=Tryz.func184.trans (congrArg some (by kernel_rfl))
 f240:=Tryz.func229.trans (congrArg some (by kernel_rfl))
 f241:=Tryz.func230.trans (congrArg some (by kernel_rfl))
 f276:=Tryz.func261.trans (congrArg some (by kernel_rfl))
 f277:=Tryz.func262.trans (congrArg some (by kernel_rfl))
 t0:=Tryz.underlying0
 a0:=Tryz.isAgg0
 z0:=Tryz.sizeOf0
 v0:=Tryz.zeroValue0
 t3:=Tryz.underlying3
 a3:=Tryz.isAgg3
 z3:=Tryz.sizeOf3
 v3:=Tryz.zeroValue3
 t4:=Tryz.underlying4
 a4:=Tryz.isAgg4
 z4:=Tryz.sizeOf4
 v4:=Tryz.zeroValue4
 t9:=Tryz.underlying9
 a9:=Tryz.isAgg9
 z9:=Tryz.sizeOf9
 v9:=Tryz.zeroValue9
 t20:=Tryz.underlying20
 a20:=Tryz.isAgg20
 z20:=Tryz.sizeOf20
 v20:=Tryz.zeroValue20
 t31:=Tryz.underlying63
 a31:=Tryz.isAgg63
 z31:=Tryz.sizeOf63
 v31:=Tryz.zeroValue63
 t37:=Tryz.underlying28
 a37:=Tryz.isAgg28
 z37:=Tryz.sizeOf28
 v37:=Tryz.zeroValue28
 t70:=Tryz.underlying180
 a70:=Tryz.isAgg180
 z70:=Tryz.sizeOf180
 v70:=Tryz.zeroValue180
 t72:=Tryz.underlying182
 a72:=Tryz.isAgg182
 z72:=Tryz.sizeOf182
 v72:=Tryz.zeroValue182
 t75:=Tryz.underlying185
 a75:=Tryz.isAgg185
 z75:=Tryz.sizeOf185
 v75:=Tryz.zeroValue185
 t76:=Tryz.underlying186
 a76:=Tryz.isAgg186
 z76:=Tryz.sizeOf186
 v76:=Tryz.zeroValue186
 t127:=Tryz.underlying216
 a127:=Tryz.isAgg216
 z127:=Tryz.sizeOf216
 v127:=Tryz.zeroValue216
 t164:=Tryz.underlying230
 a164:=Tryz.isAgg230
 z164:=Tryz.sizeOf230
 v164:=Tryz.zeroValue230 }
theorem Tryz.Builder_Extra_156:Builder.Extra Tryz.prog Tryz.lays156_ren:={
 sizeBuilder:=by kernel_rfl
 liesBuilder:=by kernel_rfl
 t5:=Tryz.underlying5
 a5:=Tryz.isAgg5
 z5:=Tryz.sizeOf5
 v5:=Tryz.zeroValue5
 infoByte:=by kernel_rfl
 cellsByte:=by kernel_rfl
 sizeByte:=by kernel_rfl
 neB5:=by decide }
open Go.RowKit in
theorem Tryz.strings_Join (bk o c:Nat) (xs:List ByteArray) (sep:ByteArray) (w:World) (hcells:∀ (j:Nat) x,xs[j]?=some x→w.cell? ⟨bk,o+j,none⟩=some (.string x)) (hbk:bk<w.heap.size) (hN:xs.length≤140737488355328) (hcap:xs.length≤c) (hlen:(Lib.join (xs.map (·.data.toList)) sep.data.toList).length≤140737488355328) :
  Calls Tryz.prog 104 #[.slice (some ⟨bk,o,none⟩) xs.length c,.string sep] w fun e w'=>e=.returned (.string ⟨(Lib.join (xs.map (·.data.toList)) sep.data.toList).toArray⟩)∧Below w.heap.size w w':=Any.strings_Join Tryz.lays156 Tryz.Builder_Extra_156 bk o c xs sep w hcells hbk hN hcap hlen
open Go.RowKit in
theorem Tryz.strings_Join_none (a:Option Addr) (c:Nat) (sep:ByteArray) (w:World) :
  Calls Tryz.prog 104 #[.slice a 0 c,.string sep] w fun e w'=>e=.returned (.string ⟨#[]⟩)∧w'=w:=Any.strings_Join_none Tryz.lays156 Tryz.Builder_Extra_156 a c sep w
def Tryz.lays192_ren:Go.Shelf.Ren:=⟨fun | 192=>114 | 190=>185 | 125=>232 | 258=>231 | 128=>272 | 129=>273 | 302=>263 | 303=>264 | 304=>265 | 305=>266 | 306=>267 | 307=>268 | 308=>269 | 309=>270 | 310=>271 | 333=>283 | 329=>284 | 330=>285 | 334=>286 | 335=>287 | 336=>288 | 344=>293 | n=>n,fun | 31=>63 | 0=>0 | 9=>9 | 3=>3 | 46=>213 | 51=>243 | 53=>141 | 4=>4 | 183=>235 | 182=>234 | 131=>240 | 5=>5 | 218=>255 | 222=>259 | 228=>264 | 229=>265 | n=>n,fun | n=>n⟩
theorem Tryz.lays192:Go.Proofs.Lays.n192 Tryz.prog Tryz.lays192_ren:={
 mixed:=by kernel_rfl
 f125:=Tryz.func232.trans (congrArg some (by kernel_rfl))
 f128:=Tryz.func272.trans (congrArg some (by kernel_rfl))
 f129:=Tryz.func273.trans (congrArg some (by kernel_rfl))
 f190:=Tryz.func185.trans (congrArg some (by kernel_rfl))
 f192:=Tryz.func114.trans (congrArg some (by kernel_rfl))
 f258:=Tryz.func231.trans (congrArg some (by kernel_rfl))
 f302:=Tryz.func263.trans (congrArg some (by kernel_rfl))
 f303:=Tryz.func264.trans (congrArg some (by kernel_rfl))
 f304:=Tryz.func265.trans (congrArg some (by kernel_rfl))
 f305:=Tryz.func266.trans (congrArg some (by kernel_rfl))
 f306:=Tryz.func267.trans (congrArg some (by kernel_rfl))
 f307:=Tryz.func268.trans (congrArg some (by kernel_rfl))
 f308:=Tryz.func269.trans (congrArg some (by kernel_rfl))
 f309:=Tryz.func270.trans (congrArg some (by kernel_rfl))
 f310:=Tryz.func271.trans (congrArg some (by kernel_rfl))
 f329:=Tryz.func284.trans (congrArg some (by kernel_rfl))
 f330:=Tryz.func285.trans (congrArg some (by kernel_rfl))
 f333:=Tryz.func283.trans (congrArg some (by kernel_rfl))
 f334:=Tryz.func286.trans (congrArg some (by kernel_rfl))
 f335:=Tryz.func287.trans (congrArg some (by kernel_rfl))
 f336:=Tryz.func288.trans (congrArg some (by kernel_rfl))
 f344:=Tryz.func293.trans (congrArg some (by kernel_rfl))
 t0:=Tryz.underlying0
 a0:=Tryz.isAgg0
 z0:=Tryz.sizeOf0
 v0:=Tryz.zeroValue0
 t3:=Tryz.underlying3
 a3:=Tryz.isAgg3
 z3:=Tryz.sizeOf3
 v3:=Tryz.zeroValue3
 t4:=Tryz.underlying4
 a4:=Tryz.isAgg4
 z4:=Tryz.sizeOf4
 v4:=Tryz.zeroValue4
 t5:=Tryz.underlying5
 a5:=Tryz.isAgg5
 z5:=Tryz.sizeOf5
 v5:=Tryz.zeroValue5
 t9:=Tryz.underlying9
 a9:=Tryz.isAgg9
 z9:=Tryz.sizeOf9
 v9:=Tryz.zeroValue9
 t31:=Tryz.underlying63
 a31:=Tryz.isAgg63
 z31:=Tryz.sizeOf63
 v31:=Tryz.zeroValue63
 t46:=Tryz.underlying213
 a46:=Tryz.isAgg213
 z46:=Tryz.sizeOf213
 v46:=Tryz.zeroValue213
 t51:=Tryz.underlying243
 a51:=Tryz.isAgg243
 z51:=Tryz.sizeOf243
 v51:=Tryz.zeroValue243
 t53:=Tryz.underlying141
 a53:=Tryz.isAgg141
 z53:=Tryz.sizeOf141
 v53:=Tryz.zeroValue141
 t131:=Tryz.underlying240
 a131:=Tryz.isAgg240
 z131:=Tryz.sizeOf240
 v131:=Tryz.zeroValue240
 t182:=Tryz.underlying234
 a182:=Tryz.isAgg234
 z182:=Tryz.sizeOf234
 v182:=Tryz.zeroValue234
 t183:=Tryz.underlying235
 a183:=Tryz.isAgg235
 z183:=Tryz.sizeOf235
 v183:=Tryz.zeroValue235
 t218:=Tryz.underlying255
 a218:=Tryz.isAgg255
 z218:=Tryz.sizeOf255
 v218:=Tryz.zeroValue255
 t222:=Tryz.underlying259
 a222:=Tryz.isAgg259
 z222:=Tryz.sizeOf259
 v222:=Tryz.zeroValue259
 t228:=Tryz.underlying264
 a228:=Tryz.isAgg264
 z228:=Tryz.sizeOf264
 v228:=Tryz.zeroValue264
 t229:=Tryz.underlying265
 a229:=Tryz.isAgg265
 z229:=Tryz.sizeOf265
 v229:=Tryz.zeroValue265 }
open Go.Sort Go.RowKit in
theorem Tryz.sort_Strings (blk off cap:Nat) (ss:List (List UInt8)) (w:World) (hH:Holds encStr w blk off ss.toArray) (hblk:blk<w.heap.size) (hsz:ss.length<4611686018427387904) :
  Calls Tryz.prog 114 #[.slice (some ⟨blk,off,none⟩) ss.length cap] w fun e w' =>
   e=.returned (.tuple #[])∧∃ n os,w'=grow (putRow encStr (Sort.ahead w n) blk off (ss.mergeSort fun x y=>decide (x≤y)).toArray) os:=Any.sort_Strings Tryz.lays192 blk off cap ss w hH hblk hsz
end Go.Proofs
namespace Go.Proofs.YtagkjnpggkmehaaGreatDoor
open Sx Go.RowKit
set_option maxRecDepth 100000
theorem tx_list:∀ l:List Tx,l.map (fun n=>(n.1,()))=l
 | []=>rfl
 | x :: l=>by rw [List.map_cons,tx_list l]
theorem lr_texts {V:Know} {b cap:Nat} {ns:List ByteArray} {post:List Value} {t:KTy} (h:V b=some (ns.map Value.string++post,t)) (hz:∀ n∈ns,n.size≤9223372036854775807) (hc:ns.length≤cap) (hl:ns.length≤9223372036854775807) :
  LR rString V ⟨some ⟨b,0,none⟩,ns.length,cap⟩ (ns.map fun n=>(n,())) [b] :=
 lr_lit (fps:=[]) (cs:=ns.map fun n=>(n,())) (els_ns hz) (by rw [vals_ns]; exact h) (by simp) (by simpa using hc) (by simpa using hl)
theorem own_one {V V':Know} {b:Nat} {c:List Value} {u:TypeId} (h:V b=none) (k:V' b=some (c,(u,(0,0)))):Own V V' [b] :=
 ⟨by simp,fun y hy=>by
  obtain rfl:y=b:=by simpa using hy
  exact h,fun y hy=>by
  obtain rfl:y=b:=by simpa using hy
  exact⟨_,_,k⟩⟩
abbrev CutPost (V:Know) (c:UInt8) (s:ByteArray):Know→Value→Prop:=fun V' r=>V.le V'∧∃ t f,r=Sc.val .l t∧LR rString V' t (cutB c s) f∧Own V V' f
def CutInv (c:UInt8) (s:ByteArray) (out:List ByteArray) (fr i:Nat):Prop:=fr≤i∧i≤s.size∧out.length≤i∧(∀ x∈out,x.size≤s.size)∧out.map bl++cutA c (((bl s).take i).drop fr) ((bl s).drop i)=cutA c [] (bl s)
theorem CutInv.start {c:UInt8} {s:ByteArray}:CutInv c s [] 0 0:=⟨Nat.le_refl _,Nat.zero_le _,Nat.le_refl _,(fun _ h=>by cases h),rfl⟩
theorem CutInv.hit {c:UInt8} {s:ByteArray} {out:List ByteArray} {fr i:Nat} (h:CutInv c s out fr i) (hi:i<(bl s).length) (hc:(bl s)[i]=c):CutInv c s (out++[s.extract fr i]) (i+1) (i+1):=by
 obtain⟨h1,h2,h3,h4,h5⟩:=h
 have hl:=bl_len s
 refine⟨Nat.le_refl _,by omega,by simp; omega,fun x hx=>?_,?_⟩
 ·rcases List.mem_append.1 hx with k | k
  ·exact h4 x k
  ·obtain rfl:x=s.extract fr i:=by simpa using k
   rw [ByteArray.size_extract]; omega
 ·rw [← h5,List.drop_eq_getElem_cons hi,cutA,if_pos hc,take_drop_self,List.map_append,List.append_assoc]
  show out.map bl++(bl (s.extract fr i) :: _)=_
  rw [bl_extract]
  rfl
theorem CutInv.miss {c:UInt8} {s:ByteArray} {out:List ByteArray} {fr i:Nat} (h:CutInv c s out fr i) (hi:i<(bl s).length) (hc:(bl s)[i]≠c):CutInv c s out fr (i+1):=by
 obtain⟨h1,h2,h3,h4,h5⟩:=h
 have hl:=bl_len s
 refine⟨by omega,by omega,by omega,h4,?_⟩
 rw [← h5,List.drop_eq_getElem_cons hi,cutA,if_neg hc,take_drop_snoc hi h1]
theorem CutInv.stop {c:UInt8} {s:ByteArray} {out:List ByteArray} {fr:Nat} (h:CutInv c s out fr s.size):cutB c s=(out++[s.extract fr s.size]).map fun n=>(n,()):=by
 obtain⟨h1,h2,h3,h4,h5⟩:=h
 have hl:=bl_len s
 unfold cutB
 rw [← h5,show(bl s).drop s.size=[] from List.drop_of_length_le (by omega),cutA,← bl_extract]
 have:out.map bl++[bl (s.extract fr s.size)]=(out++[s.extract fr s.size]).map bl:=by simp
 rw [this,List.map_map]
 refine List.map_congr_left fun x _=>?_
 show(ofL (bl x),())=(x,())
 rw [of_bl]
theorem cut_fin {V V':Know} {c:UInt8} {s:ByteArray} {out:List ByteArray} {fr:Nat} (hs:s.size≤1048576) (le:V.le V') (h:CutInv c s out fr s.size) {b cap:Nat} {sp:List Value} (hb:V' b=none) (hc:out.length+1≤cap) :
  CutPost V c s (kset V' b ((out.map Value.string++[Value.string (s.extract fr s.size)])++sp,(9,(0,0)))) (packed [.slice (some ⟨b,0,none⟩) (out.length+1) cap]):=by
 have hx:∀ n∈out++[s.extract fr s.size],n.size≤9223372036854775807:=fun n hn=>by
  rcases List.mem_append.1 hn with k | k
  ·have:=h.2.2.2.1 n k; omega
  ·obtain rfl:n=s.extract fr s.size:=by simpa using k
   rw [ByteArray.size_extract]; omega
 have h3:=h.2.2.1
 have e:(out.map Value.string++[Value.string (s.extract fr s.size)])=(out++[s.extract fr s.size]).map Value.string:=by simp
 have hst:=h.stop
 rw [e]
 have L:=lr_texts (V:=kset V' b ((out++[s.extract fr s.size]).map Value.string++sp,(9,(0,0)))) (b:=b) (cap:=cap) (post:=sp) (t:=(9,(0,0))) kset_same hx (by simpa using hc) (by simp; omega)
 have en:(out++[s.extract fr s.size]).length=out.length+1:=by simp
 rw [en] at L
 exact⟨le.trans (kset_le hb),_,[b],rfl,by rw [hst]; exact L,own_one (none_of_le le hb) kset_same⟩
theorem index_one (a c:UInt8):Go.Lib.indexByte (⟨#[c]⟩:ByteArray).data.toList a≥0↔a=c:=by
 show Go.Lib.indexByte [c] a≥0↔_
 unfold Go.Lib.indexByte
 by_cases h:c=a
 ·rw [if_pos (by simp [h])]; simp [h]
 ·rw [if_neg (by simp [h])]
  unfold Go.Lib.indexByte
  simp
  exact fun e=>h e.symm
theorem cX_IndexByte (V:Know) (s:ByteArray) (c:Int):CallX Tryz.prog V 197 [.string s,.int .u8 c] (fun V' r=>V'=V∧r=.int .i64 (Go.Lib.indexByte s.data.toList c.toNat.toUInt8)):=by
 refine CallX.of_calls ⟨_,Tryz.func197,by kernel_rfl,by kernel_rfl⟩ fun w _=>?_
 refine(Tryz.strings_IndexByte s c w).mono ?_
 rintro e w' ⟨rfl,rfl⟩
 exact⟨rfl,Below.refl _ _⟩
theorem cI_CutAt (V:Know) (s:ByteArray) (c:UInt8) (hs:s.size≤1048576):CallX Tryz.prog V 129 [.string s,.string ⟨#[c]⟩] (CutPost V c s):=by
 refine CallX.of_fits Tryz.mix (fI_CutAt _ _) fun _=>?_
 simp only [tI_CutAt,T.wp]
 have hl:=bl_len s
 refine⟨fun y V'=>V'=V∧∃ (out:List ByteArray) (fr i:Nat),y.1.1=out.length∧y.1.2=out.map Value.string∧(y.2.1:Int)=(fr:Int)∧(y.2.2.1:Int)=(i:Int)∧CutInv c s out fr i,fun y _=>((s.size:Int)-(y.2.2.1:Int)).toNat,
  ⟨((0,[]),(0:Int),(0:Int),()),rfl,rfl,[],0,0,rfl,rfl,rfl,rfl,CutInv.start⟩,?_⟩
 rintro⟨⟨(m:Nat),(ys:List Value)⟩,(q:Int),(i:Int),u⟩ V' ⟨rfl,out,fr,k,hm,hy,hq,hi,inv⟩
 replace hm:m=out.length:=hm
 replace hy:ys=out.map Value.string:=hy
 replace hq:q=(fr:Int):=hq
 replace hi:i=(k:Int):=hi
 subst hm hy hq hi
 have i1:=inv.1
 have i2:=inv.2.1
 have i3:=inv.2.2.1
 refine⟨fun hlt=>?_,fun hge=>?_⟩
 ·have hk:k<s.size:=by
   have:(k:Int)<(s.size:Int):=of_decide_eq_true hlt
   omega
  have hk':k<(bl s).length:=by omega
  have hw:IntKind.i64.wrap ((k:Int)+1)=((k+1:Nat):Int):=by rw [wrap_i64 (by omega)]; omega
  have hmm:((s.size:Int)-((k+1:Nat):Int)).toNat<((s.size:Int)-(k:Int)).toNat:=by omega
  have ek:at0 s (k:Int).toNat=((bl s)[k].toNat:Int):=by rw [Int.toNat_natCast]; exact at0_bl hk'
  have eu:((bl s)[k].toNat:Int).toNat.toUInt8=(bl s)[k]:=by
   apply UInt8.toNat_inj.1
   rw [Int.toNat_natCast]
   show(UInt8.ofNat (bl s)[k].toNat).toNat=_
   simp
  dsimp only
  rw [ek]
  refine⟨⟨(by omega:(0:Int)≤(k:Int)),(by omega:(k:Int)<(s.size:Int))⟩,(cX_IndexByte V' _ _).mono ?_⟩
  rintro V1 _ ⟨rfl,rfl⟩
  rw [eu]
  refine⟨nofun,_,rfl,fun heq=>?_,fun hne=>?_⟩
  ·have hcc:=(index_one _ _).1 (of_decide_eq_true heq)
   rw [Int.toNat_natCast,Int.toNat_natCast]
   refine⟨⟨(by omega:(0:Int)≤(fr:Int)),(by omega:(fr:Int)≤(k:Int)),(by omega:(k:Int)≤(s.size:Int))⟩,rfl,⟨rfl,(by omega:(out.length+1)*16≤140737488355328),(by omega:out.length+1≤9223372036854775807)⟩,_,rfl,((out.length+1,(out++[s.extract fr k]).map Value.string),((k+1:Nat):Int),((k+1:Nat):Int),()),?_,⟨rfl,out++[s.extract fr k],k+1,k+1,by simp,rfl,rfl,rfl,inv.hit hk' hcc⟩,hmm⟩
   rw [hw]
   simp [LShs.lvs,LSh.lv,Sh1.val,Sc.val]
  ·have hcc:(bl s)[k]≠c:=fun e=>of_decide_eq_false hne ((index_one _ _).2 e)
   exact⟨_,rfl,((out.length,out.map Value.string),(fr:Int),((k+1:Nat):Int),()),by rw [hw]; rfl,⟨rfl,out,fr,k+1,rfl,rfl,rfl,rfl,inv.miss hk' hcc⟩,hmm⟩
 ·have hk:k=s.size:=by
   have:¬ (k:Int)<(s.size:Int):=of_decide_eq_false hge
   omega
  subst hk
  dsimp only
  rw [Int.toNat_natCast,Int.toNat_natCast]
  refine⟨⟨(by omega:(0:Int)≤(fr:Int)),(by omega:(fr:Int)≤(s.size:Int)),Int.le_refl _⟩,rfl,⟨rfl,(by omega:(out.length+1)*16≤140737488355328),(by omega:out.length+1≤9223372036854775807)⟩,fun b cap sp hb hcap _=>?_⟩
  exact cut_fin hs (Know.le.refl _) inv hb hcap
end Go.Proofs.YtagkjnpggkmehaaGreatDoor
namespace Go.Proofs.YtagkjnpggkmehaaGreatDoor
open Sx Go.RowKit
set_option maxRecDepth 100000
noncomputable def okT (p:Prop) (t:ByteArray):ByteArray:=by classical exact if p then t else ⟨#[]⟩
theorem okT_pos {p:Prop} {t:ByteArray} (h:p):okT p t=t:=by unfold okT; rw [if_pos h]
theorem okT_neg {p:Prop} {t:ByteArray} (h:¬ p):okT p t=⟨#[]⟩:=by unfold okT; rw [if_neg h]
abbrev TxPost (V:Know) (t:ByteArray):Know→Value→Prop:=fun V' r=>V.le V'∧r=.string t
def hasTab (V:Know):Prop:=∃ t,V 4=some (Go.Lib.pow10Tab.map fun z=>Value.int .u64 z,t)
def HtS (_:Know):Prop:=True
def HtI (V:Know):Prop:=hasCur V∧hasTab V
theorem HtS.le {V V':Know} (h:HtS V) (_:V.le V'):HtS V':=h
theorem HtI.le {V V':Know} (h:HtI V) (hle:V.le V'):HtI V':=⟨h.1.le hle,let ⟨t,ht⟩:=h.2; ⟨t,hle _ _ ht⟩⟩
theorem HtS.c {V:Know} (_:HtS V):HcS V:=trivial
theorem HtI.c {V:Know} (h:HtI V):HcI V:=h.1
theorem cI_Itoa {V:Know} (hV:HtI V) (k:Int) (h0:-9223372036854775808≤k) (h1:k≤9223372036854775807):CallX Tryz.prog V 281 [.int .i64 k] (fun V' r=>V'=V∧r=.string (numT k)):=by
 obtain⟨t,ht⟩:=hV.2
 refine CallX.of_calls ⟨_,Tryz.func281,by kernel_rfl,by kernel_rfl⟩ fun w hw=>?_
 refine(Tryz.strconv_Itoa k h0 h1 w (tab_of (by kernel_rfl) ht hw)).mono ?_
 rintro e w' ⟨rfl,n,os,rfl⟩
 exact⟨rfl,Go.Lib.below_grow _ _ (Nat.le_refl _) _ _⟩
theorem cI_IntText {V:Know} (hV:HtI V) (k:Int) (h0:-9223372036854775808≤k) (h1:k≤9223372036854775807):CallX Tryz.prog V 250 [.int .i64 k] (TxPost V (numT k)):=by
 refine CallX.of_fits Tryz.mix (fI_IntText _) fun _=>?_
 simp only [tI_IntText,T.wp]
 refine(cI_Itoa hV k h0 h1).mono ?_
 rintro V1 _ ⟨rfl,rfl⟩
 exact⟨nofun,_,rfl,Know.le.refl _,rfl⟩
theorem cI_Pad (V:Know) (s:ByteArray) (n:Int):CallX Tryz.prog V 209 [.string s,.int .i64 n] (TxPost V (padB s n)):=by
 refine CallX.of_fits Tryz.mix (fI_Pad _ _) fun _=>?_
 simp only [tI_Pad,T.wp]
 refine⟨fun h=>⟨Know.le.refl _,?_⟩,fun h=>⟨fun h2=>⟨Know.le.refl _,?_⟩,fun h2=>?_⟩⟩
 ·have h':(s.size:Int)≥n:=of_decide_eq_true h
  rw [padB_long h']; rfl
 ·have h':n > 2000:=of_decide_eq_true h2
  unfold padB
  rw [if_pos h']; rfl
 have h1':¬ (s.size:Int)≥n:=of_decide_eq_false h
 have h2':¬ n > 2000:=of_decide_eq_false h2
 obtain⟨c,hc⟩:∃ c:Nat,n-(s.size:Int)=c:=⟨(n-(s.size:Int)).toNat,by omega⟩
 rw [hc,wrap_i64 (by omega)]
 have hcall:CallX Tryz.prog V 249 [.string ⟨#[48]⟩,.int .i64 c] (fun V' r=>V'=V∧r=.string (zeros c)):=by
  refine CallX.of_calls ⟨_,Tryz.func249,by kernel_rfl,by kernel_rfl⟩ fun w _=>?_
  refine(Tryz.strings_Repeat ⟨#[48]⟩ c w (by omega) (by show 1*c≤_; omega)).mono ?_
  rintro e w' ⟨rfl,hb⟩
  refine⟨?_,hb⟩
  show Ending.returned (.string ⟨(Go.Lib.repeatL [48] c).toArray⟩)=_
  rw [repeat_zeros]; rfl
 refine hcall.mono ?_
 rintro V1 _ ⟨rfl,rfl⟩
 refine⟨nofun,zeros c,rfl,?_,Know.le.refl _,?_⟩
 ·rw [zeros_size]; omega
 ·unfold padB
  rw [if_neg h2',hc,Int.toNat_natCast]; rfl
def natTree (x0:SlV) (gi gp:Nat):T :=
 .br ((x0.n:Int) == (0:Int)) (
  .ret [.string ({ data:={ toList:=[(48:UInt8)]:Array UInt8 }:ByteArray })]) <|
 .el (x0.a) (x0.n) (Go.IntKind.i64.wrap ((x0.n:Int)-(1:Int))) fun y1 =>
 .ld false (y1.add ((Go.IntKind.i64.wrap ((x0.n:Int)-(1:Int))).toNat*(1:Nat))) (.o (.i .i64)) fun y2 =>
 .call false gi [.int .i64 (y2)] (.v (.o (.s))) fun y3 =>
 .lp [.o (.o (.s)),.o (.o (.i .i64))] [.v (.string (y3)),.v (.int .i64 (Go.IntKind.i64.wrap ((x0.n:Int)-(2:Int))))] fun y4 =>
 .br (decide (y4.2.fst≥(0:Int))) (
  .el (x0.a) (x0.n) (y4.2.fst) fun y5 =>
  .ld false (y5.add (Int.toNat y4.2.fst*(1:Nat))) (.o (.i .i64)) fun y6 =>
  .call false gi [.int .i64 (y6)] (.v (.o (.s))) fun y7 =>
  .call false gp [.string (y7),.int .i64 ((9:Int))] (.v (.o (.s))) fun y8 =>
  .rq (ByteArray.size y4.fst+y8.size≤(9223372036854775807:Nat)) <|
  .nx 0 [.v (.string (y4.fst++y8)),.v (.int .i64 (Go.IntKind.i64.wrap (y4.2.fst-(1:Int))))]) <|
 .ret [.string (y4.fst)]
theorem natTree_wp {V:Know} {gi gp:Nat} {s:SlV} {l:List Lim} {f:List Nat} (h:LR rI V s l f) (hl:Lims l) (h50:l.length≤50) {K:Know→List Value→Prop}
  (ci:∀ V' k,V.le V'→0≤k→k<1000000000→CallX Tryz.prog V' gi [.int .i64 k] (TxPost V' (numT k)))
  (cp:∀ V' t n,CallX Tryz.prog V' gp [.string t,.int .i64 n] (TxPost V' (padB t n))) (hK:∀ V',V.le V'→K V' [.string (natT l)]):(natTree s gi gp).wp Tryz.prog K V V []:=by
 simp only [natTree,T.wp]
 have hn:=h.1
 refine⟨fun h0=>?_,fun h0=>?_⟩
 ·have h0':(s.n:Int)=0:=by simpa using h0
  have:=hK V (Know.le.refl _)
  unfold natT at this
  rw [if_pos (by omega)] at this
  exact this
 have h0':¬ (s.n:Int)=0:=by simpa using h0
 have ht:natT l=natGo l (l.length-1) (numT (limb l (l.length-1))):=by
  unfold natT
  rw [if_neg (by omega)]
 have e1:IntKind.i64.wrap ((s.n:Int)-1)=((l.length-1:Nat):Int):=by rw [wrap_i64 (by omega)]; omega
 have e2:IntKind.i64.wrap ((s.n:Int)-2)=((l.length-1:Nat):Int)-1:=by rw [wrap_i64 (by omega)]; omega
 rw [e1,e2]
 have hi:l.length-1<l.length:=by omega
 obtain⟨b,o,a1,l1⟩:=h.int hi
 refine⟨_,a1,(by omega),(by omega),_,l1,?_⟩
 have hb1:=hl (l.length-1)
 rw [limb_lt hi] at hb1
 refine(ci V _ (Know.le.refl _) hb1.1 hb1.2).mono ?_
 rintro V1 _ ⟨le1,rfl⟩
 refine⟨nofun,_,rfl,?_⟩
 rw [← limb_lt hi]
 have hsz0:=limb_num hl (l.length-1)
 refine⟨fun y V'=>V.le V'∧∃ i:Nat,(y.2.1:Int)=(i:Int)-1∧i≤l.length-1∧natGo l i y.1=natT l∧ByteArray.size y.1+21*i≤21*l.length,fun y _=>((y.2.1:Int)+1).toNat,
  ⟨(numT (limb l (l.length-1)),((l.length-1:Nat):Int)-1,()),rfl,le1,l.length-1,rfl,Nat.le_refl _,ht.symm,(by show(numT (limb l (l.length-1))).size+_≤_; omega)⟩,?_⟩
 rintro⟨t,(q:Int),u⟩ V' ⟨hle,i,hq,hil,hg,hsz⟩
 replace hq:q=(i:Int)-1:=hq
 replace hg:natGo l i t=natT l:=hg
 replace hsz:ByteArray.size t+21*i≤21*l.length:=hsz
 subst hq
 refine⟨fun hp=>?_,fun hz=>?_⟩
 ·have hp':(i:Int)-1≥0:=of_decide_eq_true hp
  obtain⟨j,rfl⟩:∃ j,i=j+1:=⟨i-1,by omega⟩
  have ej:((j+1:Nat):Int)-1=(j:Int):=by omega
  rw [ej]
  have hj:j<l.length:=by omega
  obtain⟨b,o,a1,l1⟩:=(h.le hle).int hj
  have hb2:=hl j
  rw [limb_lt hj] at hb2
  refine⟨_,a1,(by omega:(0:Int)≤(j:Int)),(by omega:(j:Int)<(s.n:Int)),_,l1,(ci V' _ hle hb2.1 hb2.2).mono ?_⟩
  rintro V2 _ ⟨le2,rfl⟩
  refine⟨nofun,_,rfl,(cp V2 _ _).mono ?_⟩
  rintro V3 _ ⟨le3,rfl⟩
  rw [← limb_lt hj]
  have hps:=part_size hl j
  refine⟨nofun,_,rfl,?_,_,rfl,(t++padB (numT (limb l j)) 9,(j:Int)-1,()),?_,⟨hle.trans (le2.trans le3),j,rfl,by omega,?_,?_⟩,?_⟩
  ·show ByteArray.size t+(padB (numT (limb l j)) 9).size≤_
   omega
  ·have ew:IntKind.i64.wrap ((j:Int)-1)=(j:Int)-1:=wrap_i64 (by omega)
   show [LV.v (.string (t++padB (numT (limb l j)) 9)),LV.v (.int .i64 (IntKind.i64.wrap ((j:Int)-1)))]=_
   rw [ew]; rfl
  ·show natGo l j (t++padB (numT (limb l j)) 9)=natT l
   rw [← hg]; rfl
  ·show(t++padB (numT (limb l j)) 9).size+_≤_
   rw [ByteArray.size_append]
   omega
  ·show(((j:Int)-1)+1).toNat<(((j:Int))+1).toNat
   omega
 ·have hz':¬ (i:Int)-1≥0:=of_decide_eq_false hz
  have hi0:i=0:=by omega
  subst hi0
  have:=hK V' hle
  rw [← hg] at this
  exact this
theorem cI_nat {V:Know} (hV:HtI V) (s:SlV) (l:List Lim) (f:List Nat) (h:LR rI V s l f) (ok:NatOkP l):CallX Tryz.prog V 210 [Sc.val .l s] (TxPost V (natT l)):=by
 refine CallX.of_fits Tryz.mix (fI_natText _) fun _=>?_
 exact natTree_wp h ok.1.1 ok.2 (fun V' k hle h0 h1=>cI_IntText (hV.le hle) k (by omega) (by omega)) cI_Pad fun V' hle=>⟨hle,rfl⟩
theorem cI_NatText {V:Know} (hV:HtI V) (s:SlV) (l:List Lim) (f:List Nat) (h:LR rI V s l f) (ok:NatOkP l):CallX Tryz.prog V 181 [Sc.val .l s] (TxPost V (natT l)):=by
 refine CallX.of_fits Tryz.mix (fI_NatText _) fun _=>?_
 simp only [tI_NatText,T.wp]
 refine(cI_NatOk V s l f h).mono ?_
 rintro _ r ⟨rfl,e,rfl,he⟩
 refine⟨nofun,e,rfl,fun hf=>?_,fun _=>(cI_nat hV s l f h ok).mono ?_⟩
 ·have:=he.2 ok
  simp [this] at hf
 ·rintro V1 _ ⟨le1,rfl⟩
  exact⟨nofun,_,rfl,le1,rfl⟩
theorem cI_IntStr {V:Know} (hV:HtI V) (c0:Bool) (c1:SlV) (l:List Lim) (f:List Nat) (h:LR rI V c1 l f) (ok:IntOkP c0 l) :
  CallX Tryz.prog V 180 [qv1 (c0,c1,())] (TxPost V (intT c0 l)):=by
 refine CallX.of_fits Tryz.mix (fI_IntStr _) fun _=>?_
 simp only [tI_IntStr,T.wp]
 refine(cI_IntOk V c0 c1 l f h).mono ?_
 rintro _ r ⟨rfl,e,rfl,he⟩
 refine⟨nofun,e,rfl,fun hf=>?_,fun _=>⟨fun hc=>?_,fun hc=>?_⟩⟩
 ·have:=he.2 ok
  simp [this] at hf
 ·have hc':c0=true:=hc
  refine(cI_nat hV c1 l f h ok.1).mono ?_
  rintro V1 _ ⟨le1,rfl⟩
  have hs1:=natT_size ok.1.1.1
  have h50:=ok.1.2
  refine⟨nofun,_,rfl,?_,le1,?_⟩
  ·show 1+(natT l).size≤_
   omega
  ·unfold intT
   rw [if_pos hc']; rfl
 ·have hc':¬ c0=true:=by simpa using hc
  refine(cI_nat hV c1 l f h ok.1).mono ?_
  rintro V1 _ ⟨le1,rfl⟩
  refine⟨nofun,_,rfl,le1,?_⟩
  unfold intT
  rw [if_neg hc']; rfl
end Go.Proofs.YtagkjnpggkmehaaGreatDoor
