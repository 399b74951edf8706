/-
  What the chapter's laws share, part 3: plain facts, memory, and walks of functions. Its conditions: those that each theorem names.
-/
import Derived.Shelf.Strings.Builder1
import Derived.Shelf.Strings.Builder2
import Derived.Shelf.Strings.OnBuilder
import Derived.Shelf.Strings.Trim
import Derived.Shelf.Small.Utf8
import Derived.Shelf.Small.Bits
import Derived.Shelf.Small.Strs
import Derived.Shelf.Small.Wraps
import Derived.Shelf.Strings.BuilderF
import Derived.Shelf.Strings.BuilderK
import Derived.Shelf.Utf8.RuneCount
import Derived.Shelf.Strings.Builder2Cap
import Derived.Shelf.Strconv.Itoa0
import Derived.Shelf.Strings.Search1
import Derived.Shelf.Strings.Search2
import Derived.Shelf.Strings.Search3
import Derived.Shelf.Strings.Cut
import Derived.Shelf.Strings.Count
import Derived.Shelf.LaysM
import Derived.Shelf.Strings.Shaped
import Derived.Shelf.Strings.Prefix
import Derived.Shelf.Strings.Split
import Derived.Shelf.Strings.SplitShaped
import Derived.Shelf.Unicode.Decode
import Derived.Shelf.Strings.Runes
import Derived.Shelf.Strings.RuneCount
import Derived.Shelf.Strings.IndexAny
import Derived.Shelf.Strings.AsciiSet
import Derived.Shelf.Strings.IndexAnyAll
import Derived.Shelf.Strings.Explode
import Derived.Shelf.Unicode.DecodeSlow
import Derived.Shelf.Unicode.DecodeAny
import Derived.Shelf.Unicode.DecodeLast
import Derived.Shelf.Strings.BuilderCap
import Derived.Ground.Names2Prog
import Derived.Shelf.Slices.SearchI
import Derived.Test.YtkkebmciiiajeaaGreatDoorProg
import Derived.StringKeys
import Derived.Laws.ResultCell
import Derived.Laws.Rows
import Derived.Test.YtkkebmciiiajeaaGreatDoorChecked
import Derived.WalkKit
import Derived.WalkSpells
import Derived.WalkLawsBesides
import Derived.Outline
import Derived.Deep.Light
import Derived.Lib.Hide
import Derived.Handy
import Derived.BigQuiet
import Derived.Deep.QuietTactic
import Derived.Deep.LoopGhost
import Derived.WalkMore
import Derived.Laws.RangeAny
import Derived.Laws.Runes
import Derived.IntWalk
import Derived.Lib.OthersKept
import Derived.Shelf.Strings.SlTrimAscii
import Derived.Lib.IndexMore
import Derived.Lib.IndexBytes
import Derived.Laws.EntriesVeiled
import Derived.Test.YtkkebmciiiajeaaGreatDoorK0
import Derived.Test.YtkkebmciiiajeaaGreatDoorK1
import Derived.Test.YtkkebmciiiajeaaGreatDoorK2
set_option linter.unusedSimpArgs false
set_option linter.unusedVariables false
set_option maxHeartbeats 16000000
set_option maxRecDepth 100000
namespace Go.Proofs
open Go.Shelf
def Tryz.lays169_ren:Go.Shelf.Ren:=⟨fun|169=>43|n=>n,fun|70=>106|9=>9|0=>0|72=>109|37=>107|127=>143|3=>3|5=>5|n=>n,fun|n=>n⟩
theorem Tryz.lays169:Go.Proofs.Lays.n169 Tryz.prog Tryz.lays169_ren:={
 mixed:=by kernel_rfl
 f169:=Tryz.func43.trans (congrArg some (by kernel_rfl))
 t0:=Tryz.underlying0
 a0:=Tryz.isAgg0
 z0:=Tryz.sizeOf0
 v0:=Tryz.zeroValue0
 t3:=Tryz.underlying3
 a3:=Tryz.isAgg3
 z3:=Tryz.sizeOf3
 v3:=Tryz.zeroValue3
 t9:=Tryz.underlying9
 a9:=Tryz.isAgg9
 z9:=Tryz.sizeOf9
 v9:=Tryz.zeroValue9
 t37:=Tryz.underlying107
 a37:=Tryz.isAgg107
 z37:=Tryz.sizeOf107
 v37:=Tryz.zeroValue107
 t70:=Tryz.underlying106
 a70:=Tryz.isAgg106
 z70:=Tryz.sizeOf106
 v70:=Tryz.zeroValue106
 t72:=Tryz.underlying109
 a72:=Tryz.isAgg109
 z72:=Tryz.sizeOf109
 v72:=Tryz.zeroValue109
 t127:=Tryz.underlying143
 a127:=Tryz.isAgg143
 z127:=Tryz.sizeOf143
 v127:=Tryz.zeroValue143 }
theorem Tryz.Builder_Extra_169:Builder.Extra Tryz.prog Tryz.lays169_ren:={
 sizeBuilder:=by kernel_rfl
 liesBuilder:=by kernel_rfl
 t5:=Tryz.underlying5
 a5:=Tryz.isAgg5
 z5:=Tryz.sizeOf5
 v5:=Tryz.zeroValue5
 infoByte:=by kernel_rfl
 cellsByte:=by kernel_rfl
 sizeByte:=by kernel_rfl
 neB5:=by decide }
open Go.RowKit in
theorem Tryz.Builder_String_any (B b:Nat) (l:List UInt8) (w:World) (h:Lib.IsBuilder 109 5 B b (Lib.byteCells l) w) (hBw:B≤w.heap.size) :
  Calls Tryz.prog 43 #[.pointer (some ⟨b,0,none⟩)] w fun e w'=>e=.returned (.string ⟨l.toArray⟩)∧Below B w w':=Any.Builder_String_any Tryz.lays169 Tryz.Builder_Extra_169 B b l w h hBw
def Tryz.lays156_ren:Go.Shelf.Ren:=⟨fun|156=>127|165=>178|166=>80|169=>43|240=>128|241=>216|276=>179|277=>237|n=>n,fun|31=>30|9=>9|3=>3|4=>4|0=>0|20=>20|72=>109|76=>141|70=>106|37=>107|75=>140|127=>143|164=>254|5=>5|80=>111|n=>n,fun|n=>n⟩
theorem Tryz.lays156:Go.Proofs.Lays.n156 Tryz.prog Tryz.lays156_ren:={
 mixed:=by kernel_rfl
 f156:=Tryz.func127.trans (congrArg some (by kernel_rfl))
 f165:=Tryz.func178.trans (congrArg some (by kernel_rfl))
 f166:=Tryz.func80.trans (congrArg some (by kernel_rfl))
 f169:=Tryz.func43.trans (congrArg some (by kernel_rfl))
 f240:=Tryz.func128.trans (congrArg some (by kernel_rfl))
 f241:=Tryz.func216.trans (congrArg some (by kernel_rfl))
 f276:=Tryz.func179.trans (congrArg some (by kernel_rfl))
 f277:=Tryz.func237.trans (congrArg some (by kernel_rfl))
 t0:=Tryz.underlying0
 a0:=Tryz.isAgg0
 z0:=Tryz.sizeOf0
 v0:=Tryz.zeroValue0
 t3:=Tryz.underlying3
 a3:=Tryz.isAgg3
 z3:=Tryz.sizeOf3
 v3:=Tryz.zeroValue3
 t4:=Tryz.underlying4
 a4:=Tryz.isAgg4
 z4:=Tryz.sizeOf4
 v4:=Tryz.zeroValue4
 t9:=Tryz.underlying9
 a9:=Tryz.isAgg9
 z9:=Tryz.sizeOf9
 v9:=Tryz.zeroValue9
 t20:=Tryz.underlying20
 a20:=Tryz.isAgg20
 z20:=Tryz.sizeOf20
 v20:=Tryz.zeroValue20
 t31:=Tryz.underlying30
 a31:=Tryz.isAgg30
 z31:=Tryz.sizeOf30
 v31:=Tryz.zeroValue30
 t37:=Tryz.underlying107
 a37:=Tryz.isAgg107
 z37:=Tryz.sizeOf107
 v37:=Tryz.zeroValue107
 t70:=Tryz.underlying106
 a70:=Tryz.isAgg106
 z70:=Tryz.sizeOf106
 v70:=Tryz.zeroValue106
 t72:=Tryz.underlying109
 a72:=Tryz.isAgg109
 z72:=Tryz.sizeOf109
 v72:=Tryz.zeroValue109
 t75:=Tryz.underlying140
 a75:=Tryz.isAgg140
 z75:=Tryz.sizeOf140
 v75:=Tryz.zeroValue140
 t76:=Tryz.underlying141
 a76:=Tryz.isAgg141
 z76:=Tryz.sizeOf141
 v76:=Tryz.zeroValue141
 t127:=Tryz.underlying143
 a127:=Tryz.isAgg143
 z127:=Tryz.sizeOf143
 v127:=Tryz.zeroValue143
 t164:=Tryz.underlying254
 a164:=Tryz.isAgg254
 z164:=Tryz.sizeOf254
 v164:=Tryz.zeroValue254 }
theorem Tryz.Builder_Extra_156:Builder.Extra Tryz.prog Tryz.lays156_ren:={
 sizeBuilder:=by kernel_rfl
 liesBuilder:=by kernel_rfl
 t5:=Tryz.underlying5
 a5:=Tryz.isAgg5
 z5:=Tryz.sizeOf5
 v5:=Tryz.zeroValue5
 infoByte:=by kernel_rfl
 cellsByte:=by kernel_rfl
 sizeByte:=by kernel_rfl
 neB5:=by decide }
open Go.RowKit in
theorem Tryz.strings_Join (bk o c:Nat) (xs:List ByteArray) (sep:ByteArray) (w:World) (hcells:∀(j:Nat) x,xs[j]? = some x→w.cell? ⟨bk,o+j,none⟩=some (.string x)) (hbk:bk<w.heap.size) (hN:xs.length≤140737488355328) (hcap:xs.length≤c) (hlen:(Lib.join (xs.map (·.data.toList)) sep.data.toList).length≤140737488355328) :
  Calls Tryz.prog 127 #[.slice (some ⟨bk,o,none⟩) xs.length c,.string sep] w fun e w'=>e=.returned (.string ⟨(Lib.join (xs.map (·.data.toList)) sep.data.toList).toArray⟩)∧Below w.heap.size w w':=Any.strings_Join Tryz.lays156 Tryz.Builder_Extra_156 bk o c xs sep w hcells hbk hN hcap hlen
def Tryz.lays161_ren:Go.Shelf.Ren:=⟨fun|161=>72|231=>85|227=>87|233=>88|235=>90|228=>116|197=>132|151=>133|260=>182|152=>114|137=>171|119=>172|224=>173|225=>174|217=>214|266=>236|n=>n,fun|9=>9|4=>4|3=>3|5=>5|117=>149|116=>148|0=>0|124=>152|105=>208|21=>21|119=>278|46=>186|139=>281|138=>280|n=>n,fun|3=>1|4=>2|n=>n⟩
theorem Tryz.lays161:Go.Proofs.Lays.n161 Tryz.prog Tryz.lays161_ren:={
 mixed:=by kernel_rfl
 f119:=Tryz.func172.trans (congrArg some (by kernel_rfl))
 f137:=Tryz.func171.trans (congrArg some (by kernel_rfl))
 f151:=Tryz.func133.trans (congrArg some (by kernel_rfl))
 f152:=Tryz.func114.trans (congrArg some (by kernel_rfl))
 f161:=Tryz.func72.trans (congrArg some (by kernel_rfl))
 f197:=Tryz.func132.trans (congrArg some (by kernel_rfl))
 f217:=Tryz.func214.trans (congrArg some (by kernel_rfl))
 f224:=Tryz.func173.trans (congrArg some (by kernel_rfl))
 f225:=Tryz.func174.trans (congrArg some (by kernel_rfl))
 f227:=Tryz.func87.trans (congrArg some (by kernel_rfl))
 f228:=Tryz.func116.trans (congrArg some (by kernel_rfl))
 f231:=Tryz.func85.trans (congrArg some (by kernel_rfl))
 f233:=Tryz.func88.trans (congrArg some (by kernel_rfl))
 f235:=Tryz.func90.trans (congrArg some (by kernel_rfl))
 f260:=Tryz.func182.trans (congrArg some (by kernel_rfl))
 f266:=Tryz.func236.trans (congrArg some (by kernel_rfl))
 t0:=Tryz.underlying0
 a0:=Tryz.isAgg0
 z0:=Tryz.sizeOf0
 v0:=Tryz.zeroValue0
 t3:=Tryz.underlying3
 a3:=Tryz.isAgg3
 z3:=Tryz.sizeOf3
 v3:=Tryz.zeroValue3
 t4:=Tryz.underlying4
 a4:=Tryz.isAgg4
 z4:=Tryz.sizeOf4
 v4:=Tryz.zeroValue4
 t5:=Tryz.underlying5
 a5:=Tryz.isAgg5
 z5:=Tryz.sizeOf5
 v5:=Tryz.zeroValue5
 t9:=Tryz.underlying9
 a9:=Tryz.isAgg9
 z9:=Tryz.sizeOf9
 v9:=Tryz.zeroValue9
 t21:=Tryz.underlying21
 a21:=Tryz.isAgg21
 z21:=Tryz.sizeOf21
 v21:=Tryz.zeroValue21
 t46:=Tryz.underlying186
 a46:=Tryz.isAgg186
 z46:=Tryz.sizeOf186
 v46:=Tryz.zeroValue186
 t105:=Tryz.underlying208
 a105:=Tryz.isAgg208
 z105:=Tryz.sizeOf208
 v105:=Tryz.zeroValue208
 t116:=Tryz.underlying148
 a116:=Tryz.isAgg148
 z116:=Tryz.sizeOf148
 t117:=Tryz.underlying149
 a117:=Tryz.isAgg149
 z117:=Tryz.sizeOf149
 v117:=Tryz.zeroValue149
 t119:=Tryz.underlying278
 a119:=Tryz.isAgg278
 z119:=Tryz.sizeOf278
 t124:=Tryz.underlying152
 a124:=Tryz.isAgg152
 z124:=Tryz.sizeOf152
 v124:=Tryz.zeroValue152
 t138:=Tryz.underlying280
 a138:=Tryz.isAgg280
 z138:=Tryz.sizeOf280
 v138:=Tryz.zeroValue280
 t139:=Tryz.underlying281
 a139:=Tryz.isAgg281
 z139:=Tryz.sizeOf281
 v139:=Tryz.zeroValue281
 g3:=by kernel_rfl
 g4:=by kernel_rfl }
def Tryz.lays162_ren:Go.Shelf.Ren:=⟨fun|162=>176|232=>86|227=>87|234=>89|236=>91|228=>116|271=>134|151=>133|120=>183|197=>132|152=>114|260=>182|137=>171|119=>172|224=>173|225=>174|217=>214|266=>236|n=>n,fun|9=>9|4=>4|3=>3|5=>5|117=>149|116=>148|0=>0|124=>152|21=>21|105=>208|46=>186|119=>278|139=>281|138=>280|n=>n,fun|3=>1|4=>2|n=>n⟩
theorem Tryz.lays162:Go.Proofs.Lays.n162 Tryz.prog Tryz.lays162_ren:={
 mixed:=by kernel_rfl
 f119:=Tryz.func172.trans (congrArg some (by kernel_rfl))
 f120:=Tryz.func183.trans (congrArg some (by kernel_rfl))
 f137:=Tryz.func171.trans (congrArg some (by kernel_rfl))
 f151:=Tryz.func133.trans (congrArg some (by kernel_rfl))
 f152:=Tryz.func114.trans (congrArg some (by kernel_rfl))
 f162:=Tryz.func176.trans (congrArg some (by kernel_rfl))
 f197:=Tryz.func132.trans (congrArg some (by kernel_rfl))
 f217:=Tryz.func214.trans (congrArg some (by kernel_rfl))
 f224:=Tryz.func173.trans (congrArg some (by kernel_rfl))
 f225:=Tryz.func174.trans (congrArg some (by kernel_rfl))
 f227:=Tryz.func87.trans (congrArg some (by kernel_rfl))
 f228:=Tryz.func116.trans (congrArg some (by kernel_rfl))
 f232:=Tryz.func86.trans (congrArg some (by kernel_rfl))
 f234:=Tryz.func89.trans (congrArg some (by kernel_rfl))
 f236:=Tryz.func91.trans (congrArg some (by kernel_rfl))
 f260:=Tryz.func182.trans (congrArg some (by kernel_rfl))
 f266:=Tryz.func236.trans (congrArg some (by kernel_rfl))
 f271:=Tryz.func134.trans (congrArg some (by kernel_rfl))
 t0:=Tryz.underlying0
 a0:=Tryz.isAgg0
 z0:=Tryz.sizeOf0
 v0:=Tryz.zeroValue0
 t3:=Tryz.underlying3
 a3:=Tryz.isAgg3
 z3:=Tryz.sizeOf3
 v3:=Tryz.zeroValue3
 t4:=Tryz.underlying4
 a4:=Tryz.isAgg4
 z4:=Tryz.sizeOf4
 v4:=Tryz.zeroValue4
 t5:=Tryz.underlying5
 a5:=Tryz.isAgg5
 z5:=Tryz.sizeOf5
 v5:=Tryz.zeroValue5
 t9:=Tryz.underlying9
 a9:=Tryz.isAgg9
 z9:=Tryz.sizeOf9
 v9:=Tryz.zeroValue9
 t21:=Tryz.underlying21
 a21:=Tryz.isAgg21
 z21:=Tryz.sizeOf21
 v21:=Tryz.zeroValue21
 t46:=Tryz.underlying186
 a46:=Tryz.isAgg186
 z46:=Tryz.sizeOf186
 v46:=Tryz.zeroValue186
 t105:=Tryz.underlying208
 a105:=Tryz.isAgg208
 z105:=Tryz.sizeOf208
 v105:=Tryz.zeroValue208
 t116:=Tryz.underlying148
 a116:=Tryz.isAgg148
 z116:=Tryz.sizeOf148
 t117:=Tryz.underlying149
 a117:=Tryz.isAgg149
 z117:=Tryz.sizeOf149
 v117:=Tryz.zeroValue149
 t119:=Tryz.underlying278
 a119:=Tryz.isAgg278
 z119:=Tryz.sizeOf278
 t124:=Tryz.underlying152
 a124:=Tryz.isAgg152
 z124:=Tryz.sizeOf152
 v124:=Tryz.zeroValue152
 t138:=Tryz.underlying280
 a138:=Tryz.isAgg280
 z138:=Tryz.sizeOf280
 v138:=Tryz.zeroValue280
 t139:=Tryz.underlying281
 a139:=Tryz.isAgg281
 z139:=Tryz.sizeOf281
 v139:=Tryz.zeroValue281
 g3:=by kernel_rfl
 g4:=by kernel_rfl }
def Tryz.lays160_ren:Go.Shelf.Ren:=⟨fun|160=>50|232=>86|231=>85|227=>87|234=>89|233=>88|236=>91|235=>90|228=>116|271=>134|151=>133|197=>132|120=>183|152=>114|260=>182|137=>171|119=>172|224=>173|225=>174|217=>214|266=>236|n=>n,fun|9=>9|4=>4|3=>3|5=>5|117=>149|116=>148|0=>0|124=>152|21=>21|105=>208|46=>186|119=>278|139=>281|138=>280|n=>n,fun|3=>1|4=>2|n=>n⟩
theorem Tryz.lays160:Go.Proofs.Lays.n160 Tryz.prog Tryz.lays160_ren:={
 mixed:=by kernel_rfl
 f119:=Tryz.func172.trans (congrArg some (by kernel_rfl))
 f120:=Tryz.func183.trans (congrArg some (by kernel_rfl))
 f137:=Tryz.func171.trans (congrArg some (by kernel_rfl))
 f151:=Tryz.func133.trans (congrArg some (by kernel_rfl))
 f152:=Tryz.func114.trans (congrArg some (by kernel_rfl))
 f160:=Tryz.func50.trans (congrArg some (by kernel_rfl))
 f197:=Tryz.func132.trans (congrArg some (by kernel_rfl))
 f217:=Tryz.func214.trans (congrArg some (by kernel_rfl))
 f224:=Tryz.func173.trans (congrArg some (by kernel_rfl))
 f225:=Tryz.func174.trans (congrArg some (by kernel_rfl))
 f227:=Tryz.func87.trans (congrArg some (by kernel_rfl))
 f228:=Tryz.func116.trans (congrArg some (by kernel_rfl))
 f231:=Tryz.func85.trans (congrArg some (by kernel_rfl))
 f232:=Tryz.func86.trans (congrArg some (by kernel_rfl))
 f233:=Tryz.func88.trans (congrArg some (by kernel_rfl))
 f234:=Tryz.func89.trans (congrArg some (by kernel_rfl))
 f235:=Tryz.func90.trans (congrArg some (by kernel_rfl))
 f236:=Tryz.func91.trans (congrArg some (by kernel_rfl))
 f260:=Tryz.func182.trans (congrArg some (by kernel_rfl))
 f266:=Tryz.func236.trans (congrArg some (by kernel_rfl))
 f271:=Tryz.func134.trans (congrArg some (by kernel_rfl))
 t0:=Tryz.underlying0
 a0:=Tryz.isAgg0
 z0:=Tryz.sizeOf0
 v0:=Tryz.zeroValue0
 t3:=Tryz.underlying3
 a3:=Tryz.isAgg3
 z3:=Tryz.sizeOf3
 v3:=Tryz.zeroValue3
 t4:=Tryz.underlying4
 a4:=Tryz.isAgg4
 z4:=Tryz.sizeOf4
 v4:=Tryz.zeroValue4
 t5:=Tryz.underlying5
 a5:=Tryz.isAgg5
 z5:=Tryz.sizeOf5
 v5:=Tryz.zeroValue5
 t9:=Tryz.underlying9
 a9:=Tryz.isAgg9
 z9:=Tryz.sizeOf9
 v9:=Tryz.zeroValue9
 t21:=Tryz.underlying21
 a21:=Tryz.isAgg21
 z21:=Tryz.sizeOf21
 v21:=Tryz.zeroValue21
 t46:=Tryz.underlying186
 a46:=Tryz.isAgg186
 z46:=Tryz.sizeOf186
 v46:=Tryz.zeroValue186
 t105:=Tryz.underlying208
 a105:=Tryz.isAgg208
 z105:=Tryz.sizeOf208
 v105:=Tryz.zeroValue208
 t116:=Tryz.underlying148
 a116:=Tryz.isAgg148
 z116:=Tryz.sizeOf148
 t117:=Tryz.underlying149
 a117:=Tryz.isAgg149
 z117:=Tryz.sizeOf149
 v117:=Tryz.zeroValue149
 t119:=Tryz.underlying278
 a119:=Tryz.isAgg278
 z119:=Tryz.sizeOf278
 t124:=Tryz.underlying152
 a124:=Tryz.isAgg152
 z124:=Tryz.sizeOf152
 v124:=Tryz.zeroValue152
 t138:=Tryz.underlying280
 a138:=Tryz.isAgg280
 z138:=Tryz.sizeOf280
 v138:=Tryz.zeroValue280
 t139:=Tryz.underlying281
 a139:=Tryz.isAgg281
 z139:=Tryz.sizeOf281
 v139:=Tryz.zeroValue281
 g3:=by kernel_rfl
 g4:=by kernel_rfl }
def Tryz.lays119_ren:Go.Shelf.Ren:=⟨fun|119=>172|n=>n,fun|21=>21|4=>4|n=>n,fun|n=>n⟩
theorem Tryz.lays119:Go.Proofs.Lays.n119 Tryz.prog Tryz.lays119_ren:={
 mixed:=by kernel_rfl
 f119:=Tryz.func172.trans (congrArg some (by kernel_rfl))
 t4:=Tryz.underlying4
 a4:=Tryz.isAgg4
 z4:=Tryz.sizeOf4
 v4:=Tryz.zeroValue4
 t21:=Tryz.underlying21
 a21:=Tryz.isAgg21
 z21:=Tryz.sizeOf21
 v21:=Tryz.zeroValue21 }
theorem Tryz.utf8_ValidRune (r:Int) (w:World) :
  Calls Tryz.prog 172 #[.int .i32 r] w fun e w'=>e=.returned (.bool (Lib.validRune r))∧w'=w:=Any.utf8_ValidRune Tryz.lays119 r w
def Tryz.lays125_ren:Go.Shelf.Ren:=⟨fun|125=>112|128=>162|129=>163|n=>n,fun|46=>186|3=>3|51=>230|53=>232|4=>4|5=>5|9=>9|n=>n,fun|n=>n⟩
theorem Tryz.lays125:Go.Proofs.Lays.n125 Tryz.prog Tryz.lays125_ren:={
 mixed:=by kernel_rfl
 f125:=Tryz.func112.trans (congrArg some (by kernel_rfl))
 f128:=Tryz.func162.trans (congrArg some (by kernel_rfl))
 f129:=Tryz.func163.trans (congrArg some (by kernel_rfl))
 t3:=Tryz.underlying3
 a3:=Tryz.isAgg3
 z3:=Tryz.sizeOf3
 v3:=Tryz.zeroValue3
 t4:=Tryz.underlying4
 a4:=Tryz.isAgg4
 z4:=Tryz.sizeOf4
 v4:=Tryz.zeroValue4
 t5:=Tryz.underlying5
 a5:=Tryz.isAgg5
 z5:=Tryz.sizeOf5
 v5:=Tryz.zeroValue5
 t9:=Tryz.underlying9
 a9:=Tryz.isAgg9
 z9:=Tryz.sizeOf9
 v9:=Tryz.zeroValue9
 t46:=Tryz.underlying186
 a46:=Tryz.isAgg186
 z46:=Tryz.sizeOf186
 v46:=Tryz.zeroValue186
 t51:=Tryz.underlying230
 a51:=Tryz.isAgg230
 z51:=Tryz.sizeOf230
 v51:=Tryz.zeroValue230
 t53:=Tryz.underlying232
 a53:=Tryz.isAgg232
 z53:=Tryz.sizeOf232
 v53:=Tryz.zeroValue232 }
theorem Tryz.bits_Len (x:Int) (w:World) (h0:0≤x) (h1:x≤18446744073709551615) :
  Calls Tryz.prog 112 #[.int .u64 x] w fun e w'=>e=.returned (.int .i64 (Lib.bitLen x.toNat))∧w'=w:=Any.bits_Len Tryz.lays125 x w h0 h1
def Tryz.lays106_ren:Go.Shelf.Ren:=⟨fun|106=>150|213=>191|265=>221|n=>n,fun|9=>9|3=>3|n=>n,fun|n=>n⟩
theorem Tryz.lays106:Go.Proofs.Lays.n106 Tryz.prog Tryz.lays106_ren:={
 mixed:=by kernel_rfl
 f106:=Tryz.func150.trans (congrArg some (by kernel_rfl))
 f213:=Tryz.func191.trans (congrArg some (by kernel_rfl))
 f265:=Tryz.func221.trans (congrArg some (by kernel_rfl))
 t3:=Tryz.underlying3
 a3:=Tryz.isAgg3
 z3:=Tryz.sizeOf3
 v3:=Tryz.zeroValue3
 t9:=Tryz.underlying9
 a9:=Tryz.isAgg9
 z9:=Tryz.sizeOf9
 v9:=Tryz.zeroValue9 }
open Go.RowKit in
theorem Tryz.strings_Compare (a b:ByteArray) (w:World) :
  Calls Tryz.prog 150 #[.string a,.string b] w fun e w'=>e=.returned (.int .i64 (Lib.compareBytes a.data.toList b.data.toList))∧w'=w:=Any.strings_Compare Tryz.lays106 a b w
def Tryz.lays137_ren:Go.Shelf.Ren:=⟨fun|137=>171|217=>214|266=>236|n=>n,fun|9=>9|5=>5|3=>3|n=>n,fun|n=>n⟩
theorem Tryz.lays137:Go.Proofs.Lays.n137 Tryz.prog Tryz.lays137_ren:={
 mixed:=by kernel_rfl
 f137:=Tryz.func171.trans (congrArg some (by kernel_rfl))
 f217:=Tryz.func214.trans (congrArg some (by kernel_rfl))
 f266:=Tryz.func236.trans (congrArg some (by kernel_rfl))
 t3:=Tryz.underlying3
 a3:=Tryz.isAgg3
 z3:=Tryz.sizeOf3
 v3:=Tryz.zeroValue3
 t5:=Tryz.underlying5
 a5:=Tryz.isAgg5
 z5:=Tryz.sizeOf5
 v5:=Tryz.zeroValue5
 t9:=Tryz.underlying9
 a9:=Tryz.isAgg9
 z9:=Tryz.sizeOf9
 v9:=Tryz.zeroValue9 }
open Go.RowKit in
theorem Tryz.strings_IndexByte (s:ByteArray) (c:Int) (w:World) :
  Calls Tryz.prog 171 #[.string s,.int .u8 c] w fun e w'=>e=.returned (.int .i64 (Lib.indexByte s.data.toList c.toNat.toUInt8))∧w'=w:=Any.strings_IndexByte Tryz.lays137 s c w
def Tryz.lays103_ren:Go.Shelf.Ren:=⟨fun|103=>177|210=>215|206=>121|n=>n,fun|9=>9|4=>4|24=>65|3=>3|n=>n,fun|n=>n⟩
theorem Tryz.lays103:Go.Proofs.Lays.n103 Tryz.prog Tryz.lays103_ren:={
 mixed:=by kernel_rfl
 f103:=Tryz.func177.trans (congrArg some (by kernel_rfl))
 f206:=Tryz.func121.trans (congrArg some (by kernel_rfl))
 f210:=Tryz.func215.trans (congrArg some (by kernel_rfl))
 t3:=Tryz.underlying3
 a3:=Tryz.isAgg3
 z3:=Tryz.sizeOf3
 v3:=Tryz.zeroValue3
 t4:=Tryz.underlying4
 a4:=Tryz.isAgg4
 z4:=Tryz.sizeOf4
 v4:=Tryz.zeroValue4
 t9:=Tryz.underlying9
 a9:=Tryz.isAgg9
 z9:=Tryz.sizeOf9
 v9:=Tryz.zeroValue9
 t24:=Tryz.underlying65
 a24:=Tryz.isAgg65
 z24:=Tryz.sizeOf65
 v24:=Tryz.zeroValue65 }
open Go.RowKit in
theorem Tryz.strings_CutPrefix (s p:ByteArray) (w:World) :
  Calls Tryz.prog 177 #[.string s,.string p] w fun e w'=>e=.returned (.tuple #[.string ⟨(Lib.trimPrefix s.data.toList p.data.toList).toArray⟩,.bool (Lib.hasPrefix s.data.toList p.data.toList)])∧w'=w:=Any.strings_CutPrefix Tryz.lays103 s p w
def Tryz.lays104_ren:Go.Shelf.Ren:=⟨fun|104=>188|211=>220|207=>181|n=>n,fun|9=>9|4=>4|24=>65|3=>3|n=>n,fun|n=>n⟩
theorem Tryz.lays104:Go.Proofs.Lays.n104 Tryz.prog Tryz.lays104_ren:={
 mixed:=by kernel_rfl
 f104:=Tryz.func188.trans (congrArg some (by kernel_rfl))
 f207:=Tryz.func181.trans (congrArg some (by kernel_rfl))
 f211:=Tryz.func220.trans (congrArg some (by kernel_rfl))
 t3:=Tryz.underlying3
 a3:=Tryz.isAgg3
 z3:=Tryz.sizeOf3
 v3:=Tryz.zeroValue3
 t4:=Tryz.underlying4
 a4:=Tryz.isAgg4
 z4:=Tryz.sizeOf4
 v4:=Tryz.zeroValue4
 t9:=Tryz.underlying9
 a9:=Tryz.isAgg9
 z9:=Tryz.sizeOf9
 v9:=Tryz.zeroValue9
 t24:=Tryz.underlying65
 a24:=Tryz.isAgg65
 z24:=Tryz.sizeOf65
 v24:=Tryz.zeroValue65 }
open Go.RowKit in
theorem Tryz.strings_CutSuffix (s p:ByteArray) (w:World) (hs:s.size≤9223372036854775807) :
  Calls Tryz.prog 188 #[.string s,.string p] w fun e w'=>e=.returned (.tuple #[.string ⟨(Lib.trimSuffix s.data.toList p.data.toList).toArray⟩,.bool (Lib.hasSuffix s.data.toList p.data.toList)])∧w'=w:=Any.strings_CutSuffix Tryz.lays104 s p w hs
def Tryz.lays122_ren:Go.Shelf.Ren:=⟨fun|122=>170|215=>213|n=>n,fun|3=>3|4=>4|n=>n,fun|n=>n⟩
theorem Tryz.lays122:Go.Proofs.Lays.n122 Tryz.prog Tryz.lays122_ren:={
 mixed:=by kernel_rfl
 f122:=Tryz.func170.trans (congrArg some (by kernel_rfl))
 f215:=Tryz.func213.trans (congrArg some (by kernel_rfl))
 t3:=Tryz.underlying3
 a3:=Tryz.isAgg3
 z3:=Tryz.sizeOf3
 v3:=Tryz.zeroValue3
 t4:=Tryz.underlying4
 a4:=Tryz.isAgg4
 z4:=Tryz.sizeOf4
 v4:=Tryz.zeroValue4 }
open Go.RowKit in
theorem Tryz.cmp_Compare_int (x y:Int) (w:World) :
  Calls Tryz.prog 170 #[.int .i64 x,.int .i64 y] w fun e w'=>e=.returned (.int .i64 (Lib.compareInt x y))∧w'=w:=Any.cmp_Compare_int Tryz.lays122 x y w
open Go.RowKit in
theorem Tryz.Builder_String_any_f (B b:Nat) (l:List UInt8) (w:World) (h:Lib.IsBuilderF 109 5 B b (Lib.byteCells l) w) (hBw:B≤w.heap.size) :
  Calls Tryz.prog 43 #[.pointer (some ⟨b,0,none⟩)] w fun e w'=>e=.returned (.string ⟨l.toArray⟩)∧(Lib.IsBuilderF 109 5 B b (Lib.byteCells l) w'∧Below B w w'):=Any.Builder_String_any_f Tryz.lays169 Tryz.Builder_Extra_169 B b l w h hBw
def Tryz.lays143_ren:Go.Shelf.Ren:=⟨fun|143=>137|219=>186|217=>214|225=>174|224=>173|267=>218|266=>236|314=>238|n=>n,fun|9=>9|3=>3|4=>4|5=>5|46=>186|146=>296|51=>230|n=>n,fun|1=>0|n=>n⟩
theorem Tryz.lays143:Go.Proofs.Lays.n143 Tryz.prog Tryz.lays143_ren:={
 mixed:=by kernel_rfl
 f143:=Tryz.func137.trans (congrArg some (by kernel_rfl))
 f217:=Tryz.func214.trans (congrArg some (by kernel_rfl))
 f219:=Tryz.func186.trans (congrArg some (by kernel_rfl))
 f224:=Tryz.func173.trans (congrArg some (by kernel_rfl))
 f225:=Tryz.func174.trans (congrArg some (by kernel_rfl))
 f266:=Tryz.func236.trans (congrArg some (by kernel_rfl))
 f267:=Tryz.func218.trans (congrArg some (by kernel_rfl))
 f314:=Tryz.func238.trans (congrArg some (by kernel_rfl))
 t3:=Tryz.underlying3
 a3:=Tryz.isAgg3
 z3:=Tryz.sizeOf3
 v3:=Tryz.zeroValue3
 t4:=Tryz.underlying4
 a4:=Tryz.isAgg4
 z4:=Tryz.sizeOf4
 v4:=Tryz.zeroValue4
 t5:=Tryz.underlying5
 a5:=Tryz.isAgg5
 z5:=Tryz.sizeOf5
 v5:=Tryz.zeroValue5
 t9:=Tryz.underlying9
 a9:=Tryz.isAgg9
 z9:=Tryz.sizeOf9
 v9:=Tryz.zeroValue9
 t46:=Tryz.underlying186
 a46:=Tryz.isAgg186
 z46:=Tryz.sizeOf186
 v46:=Tryz.zeroValue186
 t51:=Tryz.underlying230
 a51:=Tryz.isAgg230
 z51:=Tryz.sizeOf230
 v51:=Tryz.zeroValue230
 t146:=Tryz.underlying296
 a146:=Tryz.isAgg296
 z146:=Tryz.sizeOf296
 v146:=Tryz.zeroValue296
 g1:=by kernel_rfl }
open Go.RowKit Go.Lib in
theorem Tryz.strings_Index (s sub:ByteArray) (m:Int) (w:World) (hs:s.size<4294967281) (hm:w.cell? ⟨0,0,none⟩=some (.int .i64 m)) :
  Calls Tryz.prog 137 #[.string s,.string sub] w fun e w'=>e=.returned (.int .i64 (Lib.index s.data.toList sub.data.toList))∧w'=w:=Any.strings_Index Tryz.lays143 s sub m w hs hm
def Tryz.lays145_ren:Go.Shelf.Ren:=⟨fun|145=>187|220=>219|219=>186|217=>214|225=>174|224=>173|267=>218|266=>236|314=>238|n=>n,fun|9=>9|4=>4|59=>100|3=>3|5=>5|46=>186|146=>296|51=>230|n=>n,fun|1=>0|n=>n⟩
theorem Tryz.lays145:Go.Proofs.Lays.n145 Tryz.prog Tryz.lays145_ren:={
 mixed:=by kernel_rfl
 f145:=Tryz.func187.trans (congrArg some (by kernel_rfl))
 f217:=Tryz.func214.trans (congrArg some (by kernel_rfl))
 f219:=Tryz.func186.trans (congrArg some (by kernel_rfl))
 f220:=Tryz.func219.trans (congrArg some (by kernel_rfl))
 f224:=Tryz.func173.trans (congrArg some (by kernel_rfl))
 f225:=Tryz.func174.trans (congrArg some (by kernel_rfl))
 f266:=Tryz.func236.trans (congrArg some (by kernel_rfl))
 f267:=Tryz.func218.trans (congrArg some (by kernel_rfl))
 f314:=Tryz.func238.trans (congrArg some (by kernel_rfl))
 t3:=Tryz.underlying3
 a3:=Tryz.isAgg3
 z3:=Tryz.sizeOf3
 v3:=Tryz.zeroValue3
 t4:=Tryz.underlying4
 a4:=Tryz.isAgg4
 z4:=Tryz.sizeOf4
 v4:=Tryz.zeroValue4
 t5:=Tryz.underlying5
 a5:=Tryz.isAgg5
 z5:=Tryz.sizeOf5
 v5:=Tryz.zeroValue5
 t9:=Tryz.underlying9
 a9:=Tryz.isAgg9
 z9:=Tryz.sizeOf9
 v9:=Tryz.zeroValue9
 t46:=Tryz.underlying186
 a46:=Tryz.isAgg186
 z46:=Tryz.sizeOf186
 v46:=Tryz.zeroValue186
 t51:=Tryz.underlying230
 a51:=Tryz.isAgg230
 z51:=Tryz.sizeOf230
 v51:=Tryz.zeroValue230
 t59:=Tryz.underlying100
 a59:=Tryz.isAgg100
 z59:=Tryz.sizeOf100
 v59:=Tryz.zeroValue100
 t146:=Tryz.underlying296
 a146:=Tryz.isAgg296
 z146:=Tryz.sizeOf296
 v146:=Tryz.zeroValue296
 g1:=by kernel_rfl }
open Go.RowKit Go.Lib in
theorem Tryz.strings_Cut (s sep:ByteArray) (m:Int) (w:World) (hs:s.size<4294967281) (hm:w.cell? ⟨0,0,none⟩=some (.int .i64 m)) :
  Calls Tryz.prog 187 #[.string s,.string sep] w fun e w'=>e=.returned (.tuple #[.string ⟨(Lib.cut s.data.toList sep.data.toList).1.toArray⟩,.string ⟨(Lib.cut s.data.toList sep.data.toList).2.1.toArray⟩,.bool (Lib.cut s.data.toList sep.data.toList).2.2])∧∃n,w'=w.drewN n:=Any.strings_Cut Tryz.lays145 s sep m w hs hm
def Tryz.lays99_ren:Go.Shelf.Ren:=⟨fun|99=>77|206=>121|n=>n,fun|9=>9|4=>4|3=>3|n=>n,fun|n=>n⟩
theorem Tryz.lays99:Go.Proofs.Lays.n99 Tryz.prog Tryz.lays99_ren:={
 mixed:=by kernel_rfl
 f99:=Tryz.func77.trans (congrArg some (by kernel_rfl))
 f206:=Tryz.func121.trans (congrArg some (by kernel_rfl))
 t3:=Tryz.underlying3
 a3:=Tryz.isAgg3
 z3:=Tryz.sizeOf3
 v3:=Tryz.zeroValue3
 t4:=Tryz.underlying4
 a4:=Tryz.isAgg4
 z4:=Tryz.sizeOf4
 v4:=Tryz.zeroValue4
 t9:=Tryz.underlying9
 a9:=Tryz.isAgg9
 z9:=Tryz.sizeOf9
 v9:=Tryz.zeroValue9 }
open Go.RowKit Go.Lib in
theorem Tryz.strings_HasPrefix (s p:ByteArray) (w:World) :
  Calls Tryz.prog 77 #[.string s,.string p] w fun e w'=>e=.returned (.bool (Lib.hasPrefix s.data.toList p.data.toList))∧w'=w:=Any.strings_HasPrefix Tryz.lays99 s p w
def Tryz.lays102_ren:Go.Shelf.Ren:=⟨fun|102=>84|209=>131|207=>181|n=>n,fun|9=>9|4=>4|3=>3|n=>n,fun|n=>n⟩
theorem Tryz.lays102:Go.Proofs.Lays.n102 Tryz.prog Tryz.lays102_ren:={
 mixed:=by kernel_rfl
 f102:=Tryz.func84.trans (congrArg some (by kernel_rfl))
 f207:=Tryz.func181.trans (congrArg some (by kernel_rfl))
 f209:=Tryz.func131.trans (congrArg some (by kernel_rfl))
 t3:=Tryz.underlying3
 a3:=Tryz.isAgg3
 z3:=Tryz.sizeOf3
 v3:=Tryz.zeroValue3
 t4:=Tryz.underlying4
 a4:=Tryz.isAgg4
 z4:=Tryz.sizeOf4
 v4:=Tryz.zeroValue4
 t9:=Tryz.underlying9
 a9:=Tryz.isAgg9
 z9:=Tryz.sizeOf9
 v9:=Tryz.zeroValue9 }
open Go.RowKit Go.Lib in
theorem Tryz.strings_TrimSuffix (s p:ByteArray) (w:World) (hs:s.size≤9223372036854775807) :
  Calls Tryz.prog 84 #[.string s,.string p] w fun e w'=>e=.returned (.string ⟨(Lib.trimSuffix s.data.toList p.data.toList).toArray⟩)∧w'=w:=Any.strings_TrimSuffix Tryz.lays102 s p w hs
def Tryz.lays146_ren:Go.Shelf.Ren:=⟨fun|146=>53|221=>94|268=>135|138=>136|143=>137|195=>184|197=>132|218=>185|219=>186|260=>182|217=>214|225=>174|224=>173|267=>218|266=>236|314=>238|n=>n,fun|9=>9|31=>30|3=>3|4=>4|0=>0|105=>208|21=>21|5=>5|46=>186|119=>278|139=>281|138=>280|146=>296|51=>230|n=>n,fun|1=>0|3=>1|4=>2|n=>n⟩
theorem Tryz.lays146:Go.Proofs.Lays.n146 Tryz.prog Tryz.lays146_ren:={
 mixed:=by kernel_rfl
 f138:=Tryz.func136.trans (congrArg some (by kernel_rfl))
 f143:=Tryz.func137.trans (congrArg some (by kernel_rfl))
 f146:=Tryz.func53.trans (congrArg some (by kernel_rfl))
 f195:=Tryz.func184.trans (congrArg some (by kernel_rfl))
 f197:=Tryz.func132.trans (congrArg some (by kernel_rfl))
 f217:=Tryz.func214.trans (congrArg some (by kernel_rfl))
 f218:=Tryz.func185.trans (congrArg some (by kernel_rfl))
 f219:=Tryz.func186.trans (congrArg some (by kernel_rfl))
 f221:=Tryz.func94.trans (congrArg some (by kernel_rfl))
 f224:=Tryz.func173.trans (congrArg some (by kernel_rfl))
 f225:=Tryz.func174.trans (congrArg some (by kernel_rfl))
 f260:=Tryz.func182.trans (congrArg some (by kernel_rfl))
 f266:=Tryz.func236.trans (congrArg some (by kernel_rfl))
 f267:=Tryz.func218.trans (congrArg some (by kernel_rfl))
 f268:=Tryz.func135.trans (congrArg some (by kernel_rfl))
 f314:=Tryz.func238.trans (congrArg some (by kernel_rfl))
 t0:=Tryz.underlying0
 a0:=Tryz.isAgg0
 z0:=Tryz.sizeOf0
 v0:=Tryz.zeroValue0
 t3:=Tryz.underlying3
 a3:=Tryz.isAgg3
 z3:=Tryz.sizeOf3
 v3:=Tryz.zeroValue3
 t4:=Tryz.underlying4
 a4:=Tryz.isAgg4
 z4:=Tryz.sizeOf4
 v4:=Tryz.zeroValue4
 t5:=Tryz.underlying5
 a5:=Tryz.isAgg5
 z5:=Tryz.sizeOf5
 v5:=Tryz.zeroValue5
 t9:=Tryz.underlying9
 a9:=Tryz.isAgg9
 z9:=Tryz.sizeOf9
 v9:=Tryz.zeroValue9
 t21:=Tryz.underlying21
 a21:=Tryz.isAgg21
 z21:=Tryz.sizeOf21
 v21:=Tryz.zeroValue21
 t31:=Tryz.underlying30
 a31:=Tryz.isAgg30
 z31:=Tryz.sizeOf30
 v31:=Tryz.zeroValue30
 t46:=Tryz.underlying186
 a46:=Tryz.isAgg186
 z46:=Tryz.sizeOf186
 v46:=Tryz.zeroValue186
 t51:=Tryz.underlying230
 a51:=Tryz.isAgg230
 z51:=Tryz.sizeOf230
 v51:=Tryz.zeroValue230
 t105:=Tryz.underlying208
 a105:=Tryz.isAgg208
 z105:=Tryz.sizeOf208
 v105:=Tryz.zeroValue208
 t119:=Tryz.underlying278
 a119:=Tryz.isAgg278
 z119:=Tryz.sizeOf278
 t138:=Tryz.underlying280
 a138:=Tryz.isAgg280
 z138:=Tryz.sizeOf280
 v138:=Tryz.zeroValue280
 t139:=Tryz.underlying281
 a139:=Tryz.isAgg281
 z139:=Tryz.sizeOf281
 v139:=Tryz.zeroValue281
 t146:=Tryz.underlying296
 a146:=Tryz.isAgg296
 z146:=Tryz.sizeOf296
 v146:=Tryz.zeroValue296
 g1:=by kernel_rfl
 g3:=by kernel_rfl
 g4:=by kernel_rfl }
open Go.RowKit Go.Lib in
theorem Tryz.strings_Split (s sep:ByteArray) (m:Int) (w:World) (hs:s.size<4294967281) (hm:w.cell? ⟨0,0,none⟩=some (.int .i64 m)) (h1:1≤sep.size) :
  Calls Tryz.prog 53 #[.string s,.string sep] w fun e w' =>
   e=.returned (.slice (some ⟨w.heap.size,0,none⟩) (Lib.countB s sep+1) (Lib.countB s sep+1))∧w'=w.alloc (.cells ((Lib.splitB sep 0 (Lib.countB s sep) s).map Value.string).toArray 9):=Any.strings_Split Tryz.lays146 (by kernel_rfl) s sep m w hs hm h1
def Tryz.lays152_ren:Go.Shelf.Ren:=⟨fun|152=>114|137=>171|119=>172|224=>173|225=>174|217=>214|266=>236|n=>n,fun|9=>9|21=>21|3=>3|4=>4|5=>5|0=>0|46=>186|n=>n,fun|n=>n⟩
theorem Tryz.lays152:Go.Proofs.Lays.n152 Tryz.prog Tryz.lays152_ren:={
 mixed:=by kernel_rfl
 f119:=Tryz.func172.trans (congrArg some (by kernel_rfl))
 f137:=Tryz.func171.trans (congrArg some (by kernel_rfl))
 f152:=Tryz.func114.trans (congrArg some (by kernel_rfl))
 f217:=Tryz.func214.trans (congrArg some (by kernel_rfl))
 f224:=Tryz.func173.trans (congrArg some (by kernel_rfl))
 f225:=Tryz.func174.trans (congrArg some (by kernel_rfl))
 f266:=Tryz.func236.trans (congrArg some (by kernel_rfl))
 t0:=Tryz.underlying0
 a0:=Tryz.isAgg0
 z0:=Tryz.sizeOf0
 v0:=Tryz.zeroValue0
 t3:=Tryz.underlying3
 a3:=Tryz.isAgg3
 z3:=Tryz.sizeOf3
 v3:=Tryz.zeroValue3
 t4:=Tryz.underlying4
 a4:=Tryz.isAgg4
 z4:=Tryz.sizeOf4
 v4:=Tryz.zeroValue4
 t5:=Tryz.underlying5
 a5:=Tryz.isAgg5
 z5:=Tryz.sizeOf5
 v5:=Tryz.zeroValue5
 t9:=Tryz.underlying9
 a9:=Tryz.isAgg9
 z9:=Tryz.sizeOf9
 v9:=Tryz.zeroValue9
 t21:=Tryz.underlying21
 a21:=Tryz.isAgg21
 z21:=Tryz.sizeOf21
 v21:=Tryz.zeroValue21
 t46:=Tryz.underlying186
 a46:=Tryz.isAgg186
 z46:=Tryz.sizeOf186
 v46:=Tryz.zeroValue186 }
open Go.RowKit Go.Lib in
theorem Tryz.strings_IndexRune_ascii (s:ByteArray) (r:Int) (w:World) (h0:0≤r) (h1:r<128) :
  Calls Tryz.prog 114 #[.string s,.int .i32 r] w fun e w'=>e=.returned (.int .i64 (Lib.indexByte s.data.toList r.toNat.toUInt8))∧w'=w:=Any.strings_IndexRune_ascii Tryz.lays152 s r w h0 h1
def Tryz.lays226_ren:Go.Shelf.Ren:=⟨fun|226=>115|n=>n,fun|3=>3|4=>4|n=>n,fun|n=>n⟩
theorem Tryz.lays226:Go.Proofs.Lays.n226 Tryz.prog Tryz.lays226_ren:={
 mixed:=by kernel_rfl
 f226:=Tryz.func115.trans (congrArg some (by kernel_rfl))
 t3:=Tryz.underlying3
 a3:=Tryz.isAgg3
 z3:=Tryz.sizeOf3
 v3:=Tryz.zeroValue3
 t4:=Tryz.underlying4
 a4:=Tryz.isAgg4
 z4:=Tryz.sizeOf4
 v4:=Tryz.zeroValue4 }
open Go.RowKit Go.Lib in
theorem Tryz.strings_shouldUseASCIISet (n:Int) (w:World) :
  Calls Tryz.prog 115 #[.int .i64 n] w fun e w'=>e=.returned (.bool (decide (8<n)))∧w'=w:=Any.strings_shouldUseASCIISet Tryz.lays226 n w
def Tryz.lays153_ren:Go.Shelf.Ren:=⟨fun|153=>71|152=>114|226=>115|227=>87|228=>116|137=>171|119=>172|224=>173|225=>174|217=>214|266=>236|n=>n,fun|9=>9|3=>3|4=>4|5=>5|21=>21|117=>149|116=>148|0=>0|46=>186|124=>152|n=>n,fun|n=>n⟩
theorem Tryz.lays153:Go.Proofs.Lays.n153 Tryz.prog Tryz.lays153_ren:={
 mixed:=by kernel_rfl
 f119:=Tryz.func172.trans (congrArg some (by kernel_rfl))
 f137:=Tryz.func171.trans (congrArg some (by kernel_rfl))
 f152:=Tryz.func114.trans (congrArg some (by kernel_rfl))
 f153:=Tryz.func71.trans (congrArg some (by kernel_rfl))
 f217:=Tryz.func214.trans (congrArg some (by kernel_rfl))
 f224:=Tryz.func173.trans (congrArg some (by kernel_rfl))
 f225:=Tryz.func174.trans (congrArg some (by kernel_rfl))
 f226:=Tryz.func115.trans (congrArg some (by kernel_rfl))
 f227:=Tryz.func87.trans (congrArg some (by kernel_rfl))
 f228:=Tryz.func116.trans (congrArg some (by kernel_rfl))
 f266:=Tryz.func236.trans (congrArg some (by kernel_rfl))
 t0:=Tryz.underlying0
 a0:=Tryz.isAgg0
 z0:=Tryz.sizeOf0
 v0:=Tryz.zeroValue0
 t3:=Tryz.underlying3
 a3:=Tryz.isAgg3
 z3:=Tryz.sizeOf3
 v3:=Tryz.zeroValue3
 t4:=Tryz.underlying4
 a4:=Tryz.isAgg4
 z4:=Tryz.sizeOf4
 v4:=Tryz.zeroValue4
 t5:=Tryz.underlying5
 a5:=Tryz.isAgg5
 z5:=Tryz.sizeOf5
 v5:=Tryz.zeroValue5
 t9:=Tryz.underlying9
 a9:=Tryz.isAgg9
 z9:=Tryz.sizeOf9
 v9:=Tryz.zeroValue9
 t21:=Tryz.underlying21
 a21:=Tryz.isAgg21
 z21:=Tryz.sizeOf21
 v21:=Tryz.zeroValue21
 t46:=Tryz.underlying186
 a46:=Tryz.isAgg186
 z46:=Tryz.sizeOf186
 v46:=Tryz.zeroValue186
 t116:=Tryz.underlying148
 a116:=Tryz.isAgg148
 z116:=Tryz.sizeOf148
 t117:=Tryz.underlying149
 a117:=Tryz.isAgg149
 z117:=Tryz.sizeOf149
 v117:=Tryz.zeroValue149
 t124:=Tryz.underlying152
 a124:=Tryz.isAgg152
 z124:=Tryz.sizeOf152
 v124:=Tryz.zeroValue152 }
def Tryz.lays227_ren:Go.Shelf.Ren:=⟨fun|227=>87|n=>n,fun|9=>9|116=>148|4=>4|0=>0|3=>3|5=>5|n=>n,fun|n=>n⟩
theorem Tryz.lays227:Go.Proofs.Lays.n227 Tryz.prog Tryz.lays227_ren:={
 mixed:=by kernel_rfl
 f227:=Tryz.func87.trans (congrArg some (by kernel_rfl))
 t0:=Tryz.underlying0
 a0:=Tryz.isAgg0
 z0:=Tryz.sizeOf0
 v0:=Tryz.zeroValue0
 t3:=Tryz.underlying3
 a3:=Tryz.isAgg3
 z3:=Tryz.sizeOf3
 v3:=Tryz.zeroValue3
 t4:=Tryz.underlying4
 a4:=Tryz.isAgg4
 z4:=Tryz.sizeOf4
 v4:=Tryz.zeroValue4
 t5:=Tryz.underlying5
 a5:=Tryz.isAgg5
 z5:=Tryz.sizeOf5
 v5:=Tryz.zeroValue5
 t9:=Tryz.underlying9
 a9:=Tryz.isAgg9
 z9:=Tryz.sizeOf9
 v9:=Tryz.zeroValue9
 t116:=Tryz.underlying148
 a116:=Tryz.isAgg148
 z116:=Tryz.sizeOf148 }
open Go.RowKit Go.Lib in
theorem Tryz.strings_makeASCIISet (hv116:∀w,(zeroValue 148).run Tryz.prog w=.ok (.agg (Array.replicate 256 (.bool false))) w) (chars:ByteArray) (w:World) (hs:chars.size<4294967281) (hascii:∀(j:Nat) b,chars.data.toList[j]? = some b→b.toNat<128) :
  Calls Tryz.prog 87 #[.string chars] w fun e w'=>e=.returned (.tuple #[.agg (Lib.setCells chars.data.toList),.bool true])∧w'=w.alloc (.cells (Lib.setCells chars.data.toList) 148):=Any.strings_makeASCIISet Tryz.lays227 hv116 (by kernel_rfl) chars w hs hascii
def Tryz.lays228_ren:Go.Shelf.Ren:=⟨fun|228=>116|n=>n,fun|124=>152|5=>5|4=>4|0=>0|116=>148|n=>n,fun|n=>n⟩
theorem Tryz.lays228:Go.Proofs.Lays.n228 Tryz.prog Tryz.lays228_ren:={
 mixed:=by kernel_rfl
 f228:=Tryz.func116.trans (congrArg some (by kernel_rfl))
 t0:=Tryz.underlying0
 a0:=Tryz.isAgg0
 z0:=Tryz.sizeOf0
 v0:=Tryz.zeroValue0
 t4:=Tryz.underlying4
 a4:=Tryz.isAgg4
 z4:=Tryz.sizeOf4
 v4:=Tryz.zeroValue4
 t5:=Tryz.underlying5
 a5:=Tryz.isAgg5
 z5:=Tryz.sizeOf5
 v5:=Tryz.zeroValue5
 t116:=Tryz.underlying148
 a116:=Tryz.isAgg148
 z116:=Tryz.sizeOf148
 t124:=Tryz.underlying152
 a124:=Tryz.isAgg152
 z124:=Tryz.sizeOf152
 v124:=Tryz.zeroValue152 }
open Go.RowKit Go.Lib in
theorem Tryz.asciiSet_contains (b:Nat) (x:UInt8) (v:Bool) (w:World) (hc:w.cell? ⟨b,x.toNat,none⟩=some (.bool v)) :
  Calls Tryz.prog 116 #[.pointer (some ⟨b,0,none⟩),.int .u8 x.toNat] w fun e w'=>e=.returned (.bool v)∧w'=w:=Any.asciiSet_contains Tryz.lays228 b x v w hc
open Go.RowKit Go.Lib in
theorem Tryz.strings_IndexAny_long (hv116:∀w,(zeroValue 148).run Tryz.prog w=.ok (.agg (Array.replicate 256 (.bool false))) w) (s chars:ByteArray) (w:World) (h2:2≤chars.size) (h8:8<s.size) (hs:s.size<4294967281) (hcs:chars.size<4294967281) (hascii:∀(j:Nat) b,chars.data.toList[j]? = some b→b.toNat<128) :
  Calls Tryz.prog 71 #[.string s,.string chars] w fun e w'=>e=.returned (.int .i64 (Lib.indexAny s.data.toList chars.data.toList))∧w'=((w.alloc (.cells (Lib.setCells chars.data.toList) 148)).alloc (.cells (Lib.setCells chars.data.toList) 148)):=Any.strings_IndexAny_long Tryz.lays153 hv116 (by kernel_rfl) s chars w h2 h8 hs hcs hascii
def Tryz.lays260_ren:Go.Shelf.Ren:=⟨fun|260=>182|n=>n,fun|9=>9|21=>21|3=>3|4=>4|5=>5|119=>278|0=>0|46=>186|139=>281|138=>280|n=>n,fun|3=>1|4=>2|n=>n⟩
theorem Tryz.lays260:Go.Proofs.Lays.n260 Tryz.prog Tryz.lays260_ren:={
 mixed:=by kernel_rfl
 f260:=Tryz.func182.trans (congrArg some (by kernel_rfl))
 t0:=Tryz.underlying0
 a0:=Tryz.isAgg0
 z0:=Tryz.sizeOf0
 v0:=Tryz.zeroValue0
 t3:=Tryz.underlying3
 a3:=Tryz.isAgg3
 z3:=Tryz.sizeOf3
 v3:=Tryz.zeroValue3
 t4:=Tryz.underlying4
 a4:=Tryz.isAgg4
 z4:=Tryz.sizeOf4
 v4:=Tryz.zeroValue4
 t5:=Tryz.underlying5
 a5:=Tryz.isAgg5
 z5:=Tryz.sizeOf5
 v5:=Tryz.zeroValue5
 t9:=Tryz.underlying9
 a9:=Tryz.isAgg9
 z9:=Tryz.sizeOf9
 v9:=Tryz.zeroValue9
 t21:=Tryz.underlying21
 a21:=Tryz.isAgg21
 z21:=Tryz.sizeOf21
 v21:=Tryz.zeroValue21
 t46:=Tryz.underlying186
 a46:=Tryz.isAgg186
 z46:=Tryz.sizeOf186
 v46:=Tryz.zeroValue186
 t119:=Tryz.underlying278
 a119:=Tryz.isAgg278
 z119:=Tryz.sizeOf278
 t138:=Tryz.underlying280
 a138:=Tryz.isAgg280
 z138:=Tryz.sizeOf280
 v138:=Tryz.zeroValue280
 t139:=Tryz.underlying281
 a139:=Tryz.isAgg281
 z139:=Tryz.sizeOf281
 v139:=Tryz.zeroValue281
 g3:=by kernel_rfl
 g4:=by kernel_rfl }
def Tryz.lays271_ren:Go.Shelf.Ren:=⟨fun|271=>134|120=>183|197=>132|260=>182|n=>n,fun|9=>9|21=>21|3=>3|4=>4|5=>5|105=>208|119=>278|0=>0|46=>186|139=>281|138=>280|n=>n,fun|3=>1|4=>2|n=>n⟩
theorem Tryz.lays271:Go.Proofs.Lays.n271 Tryz.prog Tryz.lays271_ren:={
 mixed:=by kernel_rfl
 f120:=Tryz.func183.trans (congrArg some (by kernel_rfl))
 f197:=Tryz.func132.trans (congrArg some (by kernel_rfl))
 f260:=Tryz.func182.trans (congrArg some (by kernel_rfl))
 f271:=Tryz.func134.trans (congrArg some (by kernel_rfl))
 t0:=Tryz.underlying0
 a0:=Tryz.isAgg0
 z0:=Tryz.sizeOf0
 v0:=Tryz.zeroValue0
 t3:=Tryz.underlying3
 a3:=Tryz.isAgg3
 z3:=Tryz.sizeOf3
 v3:=Tryz.zeroValue3
 t4:=Tryz.underlying4
 a4:=Tryz.isAgg4
 z4:=Tryz.sizeOf4
 v4:=Tryz.zeroValue4
 t5:=Tryz.underlying5
 a5:=Tryz.isAgg5
 z5:=Tryz.sizeOf5
 v5:=Tryz.zeroValue5
 t9:=Tryz.underlying9
 a9:=Tryz.isAgg9
 z9:=Tryz.sizeOf9
 v9:=Tryz.zeroValue9
 t21:=Tryz.underlying21
 a21:=Tryz.isAgg21
 z21:=Tryz.sizeOf21
 v21:=Tryz.zeroValue21
 t46:=Tryz.underlying186
 a46:=Tryz.isAgg186
 z46:=Tryz.sizeOf186
 v46:=Tryz.zeroValue186
 t105:=Tryz.underlying208
 a105:=Tryz.isAgg208
 z105:=Tryz.sizeOf208
 v105:=Tryz.zeroValue208
 t119:=Tryz.underlying278
 a119:=Tryz.isAgg278
 z119:=Tryz.sizeOf278
 t138:=Tryz.underlying280
 a138:=Tryz.isAgg280
 z138:=Tryz.sizeOf280
 v138:=Tryz.zeroValue280
 t139:=Tryz.underlying281
 a139:=Tryz.isAgg281
 z139:=Tryz.sizeOf281
 v139:=Tryz.zeroValue281
 g3:=by kernel_rfl
 g4:=by kernel_rfl }
open Go.RowKit Go.Lib in
theorem Tryz.utf8_DecodeLastRuneInString (s:ByteArray) (w:World) (hs:s.size≤9223372036854775807) (hT:Lib.Utf8Tabs 1 2 w) :
  Calls Tryz.prog 134 #[.string s] w fun e w'=>e=.returned (.tuple #[.int .i32 (Lib.decodeLastL s.data.toList).1,.int .i64 (Lib.decodeLastL s.data.toList).2])∧Below w.heap.size w w':=Any.utf8_DecodeLastRuneInString Tryz.lays271 s w hs hT
end Go.Proofs
namespace Go.Bd
theorem index_neg {s sub:Bs} (h:Lib.index s sub<0):∀j,j≤s.length→Lib.occAt s sub j=false:=by
 intro j
 induction j using Nat.strongRecOn with
 | _ j ih =>
  intro hj;cases hc:Lib.occAt s sub j with
  | false=>rfl
  | true =>
   have:=Lib.index_first hj hc (fun k hk=>ih k hk (by omega))
   omega
theorem nextAt_none {s sub:Bs}{i j:Nat} (h:nextAt s i sub=none) (hij:i≤j):nextAt s j sub=none:=by
 have h0:Lib.index (s.drop i) sub<0:=by
  unfold nextAt at h;split at h
  ·assumption
  ·cases h
 have h1:=index_neg h0;have h2:Lib.index (s.drop j) sub=-1:=by
  refine Lib.index_none fun k hk=>?_
  have e:(s.drop j).drop k=(s.drop i).drop (min (j-i+k) (s.drop i).length):=by
   by_cases hl:j-i+k≤(s.drop i).length
   ·rw[Nat.min_eq_left hl,List.drop_drop,List.drop_drop];congr 1;omega
   ·simp at hl;rw[Nat.min_eq_right (by simp;omega),List.drop_eq_nil_of_le (Nat.le_refl _),List.drop_drop,List.drop_eq_nil_of_le (by omega)]
  have:=h1 (min (j-i+k) (s.drop i).length) (Nat.min_le_right _ _)
  unfold Lib.occAt at this ⊢;rw[e];exact this
 unfold nextAt;rw[if_pos (by omega)]
theorem index_le2 (s sub:Bs):Lib.index s sub≤s.length:=by
 by_cases h:Lib.index s sub<0
 ·omega
 ·by_cases h2:∃j,j≤s.length∧Lib.occAt s sub j=true
  ·obtain⟨j,h3,h4⟩:=h2;have:∀n,∀j,j≤n→j≤s.length→Lib.occAt s sub j=true→Lib.index s sub≤s.length:=by
    intro n
    induction n with
    | zero =>
     intro j h0 h1 h2;have:=Lib.index_first h1 h2 (fun k hk=>by omega)
     omega
    | succ n ih =>
     intro j h0 h1 h2
     by_cases hk:∃k,k<j∧Lib.occAt s sub k=true
     ·obtain⟨k,h5,h6⟩:=hk;exact ih k (by omega) (by omega) h6
     ·have:=Lib.index_first h1 h2 (fun k h5=>by
       cases h6:Lib.occAt s sub k with
       | false=>rfl
       | true=>exact absurd ⟨k,h5,h6⟩ hk)
      omega
   exact this j j (Nat.le_refl _) h3 h4
  ·have:=Lib.index_none (fun j hj=>by
    cases h6:Lib.occAt s sub j with
    | false=>rfl
    | true=>exact absurd ⟨j,hj,h6⟩ h2)
   omega
def nextV (o:Option Nat):Value:=.int .i64 (match o with|some n=>(n:Int)|none=>-1)
theorem nextAt_le {s sub:Bs}{i n:Nat} (h:nextAt s i sub=some n):i≤n:=by
 unfold nextAt at h;split at h
 ·cases h
 ·injection h with h;omega
theorem chg_turned {w w':World}{b:Nat} (h:w.mapTurned w' b):Chg w w' (·=b):=by
 obtain⟨es,c,es',c',_,rfl⟩:=h;refine⟨rfl,rfl,rfl,by simp[ChangeMaps.setBlock],fun k _ hk=>?_⟩;unfold ChangeMaps.setBlock;simp only;rw[Array.getElem?_setIfInBounds_ne (fun e=>hk e.symm)]
theorem any_gone (gn:List Bs) (sub:Bs):(gn.map Lit.string).any (fun x=>x.sameKey (.string sub))=true↔sub∈gn:=by
 simp[Lit.sameKey]
end Go.Bd
namespace Go.Proofs.YtkkebmciiiajeaaGreatDoor
open Go.RowKit Go.Bd Go.Maps
theorem str_keyed:Keyed Tryz.prog 9:=string_keyed Tryz.underlying9
theorem zero_unit (w:World):(zeroValue 91).run Tryz.prog w=.ok (.agg #[]) w:=by kernel_rfl
theorem keyLits (gn:List Bs):∀x∈gn.map Lit.string,WideAt.IsKeyLit x:=by
 intro x hx;simp at hx;obtain⟨a,_,rfl⟩:=hx
 first|exact⟨_,rfl⟩|trivial|simp[WideAt.IsKeyLit]
section
variable {w:World} {B:Nat} {col:Nat→Nat} {pb ob cap len:Nat} {s:ByteArray} {st:Pst} {i:Nat} {fv:Value} {gb:Nat} {cs:Array Value} {gn:List Bs}
theorem next_any {i0:Nat} (h:PSx Tryz.prog w B col pb ob cap len s st i0 fv gb cs gn) (hi:i0<i) (his:i≤s.size) (hs:s.size≤100000000) (sub:ByteArray) (hsub:sub.size≤10) (m:Int) (hm:w.cell? ⟨0,0,none⟩=some (.int .i64 m)) :
  Calls Tryz.prog 224 #[.pointer (some ⟨pb,0,none⟩),.int .i64 (i:Int),.string sub] w fun e w'=>e=.returned (nextV (nextAt s.data.toList i sub.data.toList)) ∧
   ∃gn',PSx Tryz.prog w' B col pb ob cap len s st i fv gb cs gn'∧Stay B w w' col col:=by
 have H:=Lib.hid h;have hpw:=h.hp.lt;have hlt:=World.ownsMap.lt h.hg;have c3:=h.hp.cell 3;have c0:=(h.hp.alloc (.cells #[] 91)).cell 0;have d3:=(h.hp.alloc (.cells #[] 91)).cell 3;have hm2:(w.alloc (.cells #[] 91)).cell? ⟨0,0,none⟩=some (.int .i64 m):=(World.cell?_of_block (Below.heap_alloc w _ 0 (World.block_lt_of_cell? w _ hm))).trans hm;have hg:=h.hg;have hg2:=h.hg.chg (Chg.alloc (Chg.refl w (fun _=>False)) (.cells #[] 91)) (fun h=>h);have hkey:keyOf Tryz.prog 9 (.string sub)=some (.string sub.data.toList) :=WideMaps.keyOf_string_mk Tryz.underlying9 (by unfold maxLen;omega);have hgl:=h.gnl;have hhas:=has_setOf (H:=Unit) (.agg []) (.string sub.data.toList) _ (keyLits gn);have HG:=Lib.hid (any_gone gn sub.data.toList);generalize (gn.map Lit.string).any (fun x=>x.sameKey (.string sub.data.toList))=bG at hhas HG;have hsl:(s.extract i s.size).size<4294967281:=by simp;omega
 have ci:=Tryz.strings_Index (s.extract i s.size) sub m _ hsl hm2;have hdl:(s.extract i s.size).data.toList=s.data.toList.drop i:=by
  simp only[ByteArray.data_extract,Array.toList_extract,List.extract_eq_take_drop];exact List.take_of_length_le (by simp)
 rw[hdl] at ci;have hlen:s.data.toList.length=s.size:=by simp
 have hix:=index_le2 (s.data.toList.drop i) sub.data.toList;clear h
 go_enter Tryz.func224,Tryz.ntmps224
 go_wp2_with (first
  | (at_lookup;refine wpList_lookup_own_unit _ rfl _ _ 81 rfl 9 91 str_keyed Tryz.underlying81 (zero_unit _) gb _ _ rfl hg _ _ rfl hkey ?_)
  | fail)
 ·go_ret
  have hin:=HG.out.1 (by assumption);have hno:=nextAt_none (H.out.gone _ hin i0 (Nat.le_refl _)) (Nat.le_of_lt hi);refine⟨by rw[hno];rfl,gn,(H.out.on (Nat.le_of_lt hi)).keep ((Chg.refl w (fun _=>False)).alloc _) (fun _ h=>h.elim),⟨(Below.refl _ _).alloc (by have:=H.out.hpB;omega) _,fun c b _ hb hl=>⟨hb,Below.heap_alloc w _ b hl⟩⟩⟩
 ·have hnin:sub.data.toList ∉ gn:=fun hin=>by
   have h1:=HG.out.2 hin;have h2:bG=false:=by assumption
   rw[h1] at h2;cases h2
  refine ci.mono ?_;clear ci;rintro e w' ⟨rfl,rfl⟩;have HIX:=Lib.hid hix;have e2:0≤Lib.index (s.data.toList.drop i) sub.data.toList→IntKind.i64.wrap ((i:Int)+Lib.index (s.data.toList.drop i) sub.data.toList)=(i:Int)+Lib.index (s.data.toList.drop i) sub.data.toList:=fun h0=>IntWalk.i64_in _ (by
   rw[List.length_drop,hlen] at hix;omega)
  have HNX:Hid (nextAt s.data.toList i sub.data.toList=if Lib.index (s.data.toList.drop i) sub.data.toList<0 then none else some (i+(Lib.index (s.data.toList.drop i) sub.data.toList).toNat)):=rfl;generalize Lib.index (s.data.toList.drop i) sub.data.toList=x at e2 HNX HIX;clear hix hdl hlen
  go_wp2_with (first
   | (at_mapUpdate;refine wpList_mapUpdate_in _ rfl _ _ _ 81 rfl 9 91 str_keyed Tryz.underlying81 (unitElem (H:=Unit)) gb _ _ rfl hg2 (by unfold maxLen;omega) _ _ _ rfl rfl hkey _ [] unitElem_mk ?_;intro w1 hown1 hturn1)
   | fail)
  ·have hneg:x<0:=by assumption
   have hno:nextAt s.data.toList i sub.data.toList=none:=by rw[HNX.out,if_pos hneg]
   go_ret
   refine⟨by rw[hno];rfl,gn++[sub.data.toList],?_⟩;have hch:Chg w w1 (·=gb):=((Chg.refl w _).alloc _).trans (chg_turned hturn1) (fun _ _ h=>h);refine H.out.signs hch ?_ (fun g hg j hj=>?_) (by simp;omega)
   ·unfold GoneAt;rw[List.map_append,List.length_append];have hs:=setOf_snoc (H:=Unit) (.agg []) (gn.map Lit.string) (.string sub.data.toList);rw[show ([sub.data.toList].map Lit.string:List Lit)=[.string sub.data.toList] from rfl,hs];exact hown1
   ·rcases List.mem_append.1 hg with h1|h1
    ·exact H.out.gone g h1 j (by omega)
    ·obtain rfl:=List.mem_singleton.1 h1;exact nextAt_none hno hj
  ·have hpos:0≤x:=by assumption
   have hyes:nextAt s.data.toList i sub.data.toList=some (i+x.toNat):=by rw[HNX.out,if_neg (by omega)]
   go_ret
   refine⟨by rw[hyes];unfold nextV;simp only;rw[show ((i+x.toNat:Nat):Int)=i+x by omega];rfl,gn,(H.out.on (Nat.le_of_lt hi)).keep ((Chg.refl w (fun _=>False)).alloc _) (fun _ h=>h.elim),⟨(Below.refl _ _).alloc (by have:=H.out.hpB;omega) _,fun c b _ hb hl=>⟨hb,Below.heap_alloc w _ b hl⟩⟩⟩
end
end Go.Proofs.YtkkebmciiiajeaaGreatDoor
namespace Go.Proofs.YtkkebmciiiajeaaGreatDoor
open Go.RowKit Go.Bd
theorem ret_bool {a b:Bool} (h:a=b):Ending.returned (.bool a)=.returned (.bool b):=by rw[h]
theorem u8_eq (c d:UInt8):(c==d)=decide (c.toNat=d.toNat):=by
 by_cases h:c=d
 ·subst h;simp
 ·rw[beq_eq_false_iff_ne.2 h,decide_eq_false];exact fun e=>h (UInt8.toNat_inj.1 e)
set_option linter.unusedSimpArgs false
theorem letter_any (c:UInt8) (w:World):Calls Tryz.prog 92 #[byteV c] w fun e w'=>e=.returned (.bool (letterB c))∧w=w':=by
 unfold byteV letterB;simp only[UInt8.le_iff_toNat_le,show UInt8.toNat 65=65 from rfl,show UInt8.toNat 90=90 from rfl,show UInt8.toNat 97=97 from rfl,show UInt8.toNat 122=122 from rfl];generalize c.toNat=n
 go_enter Tryz.func92,Tryz.ntmps92
 go_wp2
 all_goals
  go_ret
  refine⟨ret_bool ?_,rfl⟩;rw[Bool.eq_iff_iff];simp only[Bool.or_eq_true,Bool.and_eq_true,beq_iff_eq,decide_eq_true_eq,reduceCtorEq,iff_true,true_iff,false_iff,Bool.false_eq_true];omega
def digB (c:UInt8):Bool:=decide (48≤c)&&decide (c≤57)
theorem digit_any (c:UInt8) (w:World):Calls Tryz.prog 93 #[byteV c] w fun e w'=>e=.returned (.bool (digB c))∧w=w':=by
 unfold byteV digB;simp only[UInt8.le_iff_toNat_le,show UInt8.toNat 48=48 from rfl,show UInt8.toNat 57=57 from rfl];generalize c.toNat=n
 go_enter Tryz.func93,Tryz.ntmps93
 go_wp2
 all_goals
  go_ret
  refine⟨ret_bool ?_,rfl⟩;rw[Bool.eq_iff_iff];simp only[Bool.or_eq_true,Bool.and_eq_true,beq_iff_eq,decide_eq_true_eq,reduceCtorEq,iff_true,true_iff,false_iff,Bool.false_eq_true];omega
theorem blank_any (c:UInt8) (w:World):Calls Tryz.prog 226 #[byteV c] w fun e w'=>e=.returned (.bool (Bd.blank c))∧w=w':=by
 unfold byteV Bd.blank;generalize c.toNat=n
 go_enter Tryz.func226,Tryz.ntmps226
 go_wp2
 all_goals
  go_ret
  refine⟨ret_bool ?_,rfl⟩;rw[Bool.eq_iff_iff];simp only[Bool.or_eq_true,Bool.and_eq_true,beq_iff_eq,decide_eq_true_eq,reduceCtorEq,iff_true,true_iff,false_iff,Bool.false_eq_true];omega
theorem solid_any (c:UInt8) (w:World):Calls Tryz.prog 227 #[byteV c] w fun e w'=>e=.returned (.bool (solid c))∧w=w':=by
 unfold byteV solid;simp only[UInt8.le_iff_toNat_le,show UInt8.toNat 65=65 from rfl,show UInt8.toNat 90=90 from rfl,show UInt8.toNat 97=97 from rfl,show UInt8.toNat 122=122 from rfl,show UInt8.toNat 48=48 from rfl,show UInt8.toNat 57=57 from rfl];generalize c.toNat=n
 go_enter Tryz.func227,Tryz.ntmps227
 go_wp2
 all_goals
  go_ret
  refine⟨ret_bool ?_,rfl⟩;rw[Bool.eq_iff_iff];simp only[Bool.or_eq_true,Bool.and_eq_true,beq_iff_eq,decide_eq_true_eq,reduceCtorEq,iff_true,true_iff,false_iff,Bool.false_eq_true];omega
theorem escaped_any (c:UInt8) (w:World):Calls Tryz.prog 199 #[byteV c] w fun e w'=>e=.returned (.bool (escB c))∧w=w':=by
 unfold byteV escB;simp only[u8_eq,show UInt8.toNat 42=42 from rfl,show UInt8.toNat 95=95 from rfl,show UInt8.toNat 60=60 from rfl,show UInt8.toNat 40=40 from rfl,show UInt8.toNat 94=94 from rfl,show UInt8.toNat 93=93 from rfl,show UInt8.toNat 92=92 from rfl,show UInt8.toNat 96=96 from rfl];generalize c.toNat=n
 go_enter Tryz.func199,Tryz.ntmps199
 go_wp2
 all_goals
  go_ret
  refine⟨ret_bool ?_,rfl⟩;rw[Bool.eq_iff_iff];simp only[Bool.or_eq_true,Bool.and_eq_true,beq_iff_eq,decide_eq_true_eq,reduceCtorEq,iff_true,true_iff,false_iff,Bool.false_eq_true];simp only[beq_iff_eq,beq_eq_false_iff_ne] at *;omega
theorem headD_list (l:Bs) (h:0<l.length):l.headD 0=l[0]:=by
 cases l with
 | nil=>simp at h
 | cons a l=>simp
theorem headD_get (s:ByteArray) (h:0<s.size):s.data.toList.headD 0=s[0] :=
 (headD_list s.data.toList (by simpa using h)).trans (by first|rfl|simp[ByteArray.getElem_eq_getElem_data])
def okB (c:UInt8):Bool:=solid c || c==45
theorem okB_def (c:UInt8):okB c=(letterB c || digB c || decide (c.toNat=45)):=by
 rw[←show UInt8.toNat 45=45 from rfl,←u8_eq];rfl
theorem all_take_succ (s:ByteArray) (k:Nat) (h:k<s.size):(s.data.toList.take (k+1)).all okB=((s.data.toList.take k).all okB&&okB s[k]):=by
 have e:s[k]=s.data.toList[k]'(by simpa using h):=by
  first|rfl|simp[ByteArray.getElem_eq_getElem_data]
 rw[e,List.take_succ_eq_append_getElem (by simpa using h),List.all_append];simp
theorem name_any (s:ByteArray) (w:World) (hs:s.size≤100000000):Calls Tryz.prog 52 #[.string s] w fun e w'=>e=.returned (.bool (nameB s.data.toList))∧w=w':=by
 have cl:=fun c w=>letter_any c w
 have cd:=fun c w=>digit_any c w
 unfold byteV at cl cd;have hlen:s.data.toList.length=s.size:=by simp
 have HB:Hid (nameB s.data.toList=(decide (1≤s.size)&&decide (s.size≤60)&&letterB (s.data.toList.headD 0)&&s.data.toList.all okB)):=by
  show nameB s.data.toList=_
  unfold nameB;rw[hlen];rfl
 clear hlen
 go_enter Tryz.func52,Tryz.ntmps52
 go_wp2_with (first
  | (go_at_call 92;refine (cl _ _).mono ?_;rintro e w' ⟨rfl,rfl⟩)
  | fail)
 ·go_ret
  refine⟨ret_bool ?_,rfl⟩;rename_i h1 h2 h3 h4;rw[HB.out,headD_get s h3]
  rcases h4 with h4|h4
  ·omega
  ·have h5:letterB s[0]=false:=by simpa using h4
   simp[h5]
 ·have h3:0<s.size:=‹0<s.size›
  rename _∧(!letterB s[0])=false=>h4
  have hl0:letterB (s.data.toList.headD 0)=true:=by rw[headD_get s h3];simpa using h4.2
  have HL:=Lib.hid hl0;have HR:=Lib.hid h4.1;clear h4 hl0
  go_loopg [21] s.size (fun gk i wr=>wr=w∧∃k:Nat,k+gk=s.size∧i=.int .i64 k∧(s.data.toList.take k).all okB=true)
  case atStart=>exact⟨rfl,0,by omega,rfl,rfl⟩
  case round =>
   obtain⟨rfl,k,hk,rfl,hall⟩:=hrel;have HA:=Lib.hid hall;clear hall
   go_wp2_with (first
    | (go_at_call 92;refine (cl _ _).mono ?_;rintro e w' ⟨rfl,rfl⟩)
    | (go_at_call 93;refine (cd _ _).mono ?_;rintro e w' ⟨rfl,rfl⟩)
    | fail)
   ·go_roundg (gk-1)
    case measure=>omega
    case rel=>exact⟨rfl,k+1,by omega,by go_num,by rw[all_take_succ s k ‹_›,HA.out,okB_def,‹letterB s[k]=true›];rfl⟩
   ·go_roundg (gk-1)
    case measure=>omega
    case rel=>exact⟨rfl,k+1,by omega,by go_num,by rw[all_take_succ s k ‹_›,HA.out,okB_def,‹digB s[k]=true›,Bool.or_true];rfl⟩
   ·go_ret
    refine⟨ret_bool ?_,rfl⟩;have hk2:k<s.size:=by assumption
    have h5:¬s[k].toNat=45:=fun e=>by
     have h6:((s[k].toNat:Int) != 45)=true:=by assumption
     rw[e] at h6;simp at h6
    have h7:okB s[k]=false:=by
     rw[okB_def,Bool.eq_false_iff.2 ‹¬letterB s[k]=true›,Bool.eq_false_iff.2 ‹¬digB s[k]=true›,decide_eq_false h5];rfl
    have h8:s.data.toList.all okB=false:=by
     rw[Bool.eq_false_iff];intro h;have h9:=all_take_succ s k hk2;rw[h7,Bool.and_false] at h9;rw[Bool.eq_false_iff] at h9;refine h9 (List.all_eq_true.2 fun x hx=>List.all_eq_true.1 h x (List.mem_of_mem_take hx))
    rw[HB.out,h8,Bool.and_false]
   ·go_roundg (gk-1)
    case measure=>omega
    case rel =>
     have h5:s[k].toNat=45:=by
      have h6:((s[k].toNat:Int) != 45)=false:=by assumption
      simp at h6;omega
     exact⟨rfl,k+1,by omega,by go_num,by rw[all_take_succ s k ‹_›,HA.out,okB_def,decide_eq_true h5,Bool.or_true];rfl⟩
   ·go_ret
    refine⟨ret_bool ?_,rfl⟩;have hk2:k=s.size:=by omega
    have h8:=HA.out;rw[List.take_of_length_le (by simp;omega)] at h8;rw[HB.out,h8,HL.out,decide_eq_true (by omega),decide_eq_true (by omega)];rfl
 ·go_ret
  refine⟨ret_bool ?_,rfl⟩;rw[HB.out,decide_eq_false (by omega:¬s.size≤60)];simp
 ·go_ret
  refine⟨ret_bool ?_,rfl⟩;rw[HB.out,decide_eq_false (by omega:¬1≤s.size)];simp
end Go.Proofs.YtkkebmciiiajeaaGreatDoor
namespace Go.Bd
def asV:Sp ⊕ Nat→Value
 | .inl x=>.tuple #[.agg #[.int .u8 (x.kind:Int),strV x.text,strV x.sub,strV x.see,.slice none 0 0],.int .i64 0]
 | .inr f=>.tuple #[.agg #[.int .u8 0,strV [],strV [],strV [],.slice none 0 0],.int .i64 (f:Int)]
theorem results_row_tmp {P:Program}{fn:Func}{p u:Tmp}{ty:TypeId} (h:fn.results=#[.cell p ty,.tmp u]) (tmps:Array Value) (w:World) (g:Nat) (t:TypeId) (cs:Array Value) (fr:Nat×Nat) (d:TypeDesc)
  (hp:tmps.getD p undef=.pointer (some ⟨g,0,none⟩)) (hg:w.heap[g]? = some (.cells cs t fr))
  (hu:P.underlying ty=some d) (hd:(match d with | .struct _ | .array _ _=>true|_=>false)=true) (hi:(P.info? ty).map (·.size)=some cs.size) :
  (results fn tmps).run P w=.ok (.tuple #[.agg cs,tmps.getD u undef]) w:=by
 rw[results_cell_tmp h,hp];simp[asAddr,run_loadVar_row w g t ty cs fr d hg hu hd hi,Result.andThen]
theorem strV_bytes (s:ByteArray):strV s.data.toList=.string s:=by unfold strV;simp
end Go.Bd
namespace Go.Proofs.YtkkebmciiiajeaaGreatDoor
open Go.RowKit Go.Bd
def AsOk (F:Nat) (af:Bs→Sp ⊕ Nat):Prop:=(∀args w,Sem.run Tryz.prog (callFunc F args) w=.ok (.enter F args) w)∧∀(t:ByteArray) (w:World) (m:Int),t.size≤100000000→w.cell? ⟨0,0,none⟩=some (.int .i64 m) →
 Calls Tryz.prog F #[.string t] w fun e w'=>e=.returned (asV (af t.data.toList))∧Below w.heap.size w w'
theorem span_size:(Tryz.prog.info? 138).map (·.size)=some 5:=by kernel_rfl
theorem code_any:AsOk 202 codeS:=by
 refine⟨fun args w=>by kernel_rfl,?_⟩;intro t w m ht hm;unfold codeS asV;simp only[strV_bytes];unfold strV
 go_enter Tryz.func202,Tryz.ntmps202
 go_wp2
 (try simp only[Exit.inBlock,Exit.then])
 refine bodyPost_ret (results_row_tmp rfl _ _ w.heap.size _ _ _ _ rfl (heap_alloc_new w _) Tryz.underlying138 rfl span_size) rfl ?_;exact⟨rfl,(Below.refl _ _).alloc (Nat.le_refl _) _⟩
theorem ref_any:AsOk 203 refS:=by
 refine⟨fun args w=>by kernel_rfl,?_⟩;intro t w m ht hm;have HA:Hid (asV (refS t.data.toList)=if nameB t.data.toList=true then .tuple #[.agg #[.int .u8 4,.string t,.string ⟨#[]⟩,.string ⟨#[]⟩,.slice none 0 0],.int .i64 0] else .tuple #[.agg #[.int .u8 0,.string ⟨#[]⟩,.string ⟨#[]⟩,.string ⟨#[]⟩,.slice none 0 0],.int .i64 10]):=by
  show asV (refS t.data.toList)=_
  unfold refS;split
  ·unfold asV;simp only[strV_bytes];rfl
  ·rfl
 have cn2:=name_any t (w.alloc (.cells #[.int .u8 0,.string ⟨#[]⟩,.string ⟨#[]⟩,.string ⟨#[]⟩,.slice none 0 0] 138)) ht;generalize nameB t.data.toList=b at cn2 HA
 go_enter Tryz.func203,Tryz.ntmps203
 go_wp2_with (first
  | (go_at_call 52;refine cn2.mono ?_;rintro e w' ⟨rfl,rfl⟩)
  | fail)
 focus
  have hb:b=false:=by simpa using ‹(!b)=true›
 rotate_left
 focus
  have hb:b=true:=by simpa using ‹(!b)=false›
 rotate_left
 all_goals
  rw[hb] at HA
  (try simp only[Exit.inBlock,Exit.then])
  refine bodyPost_ret (results_row_tmp rfl _ _ w.heap.size _ _ _ _ rfl (heap_alloc_new w _) Tryz.underlying138 rfl span_size) rfl ?_;exact⟨by rw[HA.out];rfl,(Below.refl _ _).alloc (Nat.le_refl _) _⟩
end Go.Proofs.YtkkebmciiiajeaaGreatDoor
namespace Go.Proofs.YtkkebmciiiajeaaGreatDoor
open Go.RowKit Go.Bd
section
variable {w:World} {B:Nat} {col:Nat→Nat} {pb ob cap len:Nat} {s:ByteArray} {st:Pst} {i:Nat} {fv:Value} {gb:Nat} {cs:Array Value} {gn:List Bs}
theorem psCell0 {w':World}{col':Nat→Nat}{m:Int} (h:Stay B w w' col col') (hB:0<B) (hm:w.cell? ⟨0,0,none⟩=some (.int .i64 m)):w'.cell? ⟨0,0,none⟩=some (.int .i64 m):=(h.below.cell hB).trans hm
theorem between_none (h:PSx Tryz.prog w B col pb ob cap len s st i fv gb cs gn) (hl:len=st.fs.length) (hI:Inv st i) (a b:ByteArray) (ha:1≤a.size) (ha2:a.size≤2) (hb:b.size≤2) (hi:i+a.size≤s.size) (hs:s.size≤100000000) (F:Nat) (m:Int) (hm:w.cell? ⟨0,0,none⟩=some (.int .i64 m))
  (hn:nextAt s.data.toList (i+a.size) b.data.toList=none) :
  Calls Tryz.prog 201 #[.pointer (some ⟨pb,0,none⟩),.int .i64 (i:Int),.string a,.string b,.func (.func F) #[] #[]] w fun e w'=>e=.returned (.int .i64 ((i+a.size:Nat):Int)) ∧
   ∃col' fv' cs' gn',PSx Tryz.prog w' B col' pb ob cap len s ((st.write a.data.toList).tell i 7) (i+a.size) fv' gb cs' gn'∧Stay B w w' col col':=by
 obtain⟨f,r,hfs⟩:∃f r,st.fs=f::r:=by
  match hq:st.fs,hI.2.2.1 with
  | f::r,_=>exact⟨f,r,rfl⟩
  | [],hq2=>simp at hq2
 have hr:st.fs.length=r.length+1:=by rw[hfs];rfl
 have hwt:wtF f+wtFs r≤i:=by
  have:=hI.1
  rw[hfs,wtFs_cons] at this;exact this
 have hftx:f.row.tx.length≤100000000:=by unfold wtF wtR at hwt;omega
 have hr17:r.length≤17:=by have:=hI.2.2.2;omega
 have hflt:st.faults.length≤10000000000:=by have:=hI.2.1;omega
 have cN:=next_any h (i:=i+a.size) (by omega) hi hs b (by omega) m hm;rw[hn] at cN;have e1:IntKind.i64.wrap ((i:Int)+(a.size:Int))=((i+a.size:Nat):Int):=by
  rw[←Int.natCast_add];exact IntWalk.i64_in _ (by omega)
 have HFS:=Lib.hid hfs;have HL:Hid (len=r.length+1):=hl.trans hr;clear h hfs hl hr hwt hI hn
 go_enter Tryz.func201,Tryz.ntmps201
 go_wp2_with fail
 refine cN.mono ?_;clear cN;rintro e w1 ⟨rfl,gn1,h1,st1⟩;have H1:=Lib.hid h1;have ST1:=Lib.hid st1;clear h1 st1;unfold nextV
 go_wp2_with fail
 refine (top_any (n:=r.length) (by rw[←HL.out];exact H1.out) (by omega)).mono ?_;rintro e w2 ⟨rfl,kk,rfl⟩
 go_wp2_with fail
 refine (writeTop_any (PSx.drewN H1.out kk) HFS.out a (by omega) (by omega)).mono ?_;rintro e w3 ⟨rfl,col3,cs3,h3,st3⟩;have H3:=Lib.hid h3;have ST3:=Lib.hid st3;clear h3 st3
 go_wp2_with fail
 refine (tell_any H3.out i 7 hflt).mono ?_;rintro e w4 ⟨rfl,col4,fv4,h4,st4⟩;have H4:=Lib.hid h4;have ST4:=Lib.hid st4;clear h4 st4;go_wp2
 go_ret
 exact⟨rfl,col4,fv4,cs3,gn1,H4.out,(ST1.out.trans ST3.out.undrew).trans ST4.out⟩
end
section
variable {w:World} {B:Nat} {col:Nat→Nat} {pb ob cap len:Nat} {s:ByteArray} {st:Pst} {i:Nat} {fv:Value} {gb:Nat} {cs:Array Value} {gn:List Bs}
theorem cut_list (s:ByteArray) (i j:Nat):(s.extract i j).data.toList=(s.data.toList.drop i).take (j-i):=by
 simp only[ByteArray.data_extract,Array.toList_extract,List.extract_eq_take_drop]
theorem between_bad (h:PSx Tryz.prog w B col pb ob cap len s st i fv gb cs gn) (hl:len=st.fs.length) (hI:Inv st i) (a b:ByteArray) (ha:1≤a.size) (ha2:a.size≤2) (hb:b.size≤2) (hi:i+a.size≤s.size) (hs:s.size≤100000000) (F:Nat) (m:Int) (hm:w.cell? ⟨0,0,none⟩=some (.int .i64 m)) (hB:0<B)
  {n:Nat} (hn:nextAt s.data.toList (i+a.size) b.data.toList=some n) (hnb:n+b.size≤s.size) {af:Bs→Sp ⊕ Nat} (hF:AsOk F af) {fc:Nat} (haf:af ((s.data.toList.drop (i+a.size)).take (n-(i+a.size)))=.inr fc) (hfc:1≤fc) :
  Calls Tryz.prog 201 #[.pointer (some ⟨pb,0,none⟩),.int .i64 (i:Int),.string a,.string b,.func (.func F) #[] #[]] w fun e w'=>e=.returned (.int .i64 ((n+b.size:Nat):Int)) ∧
   ∃col' fv' cs' gn',PSx Tryz.prog w' B col' pb ob cap len s ((st.write ((s.data.toList.drop i).take (n+b.size-i))).tell i fc) (n+b.size) fv' gb cs' gn'∧Stay B w w' col col':=by
 obtain⟨f,r,hfs⟩:∃f r,st.fs=f::r:=by
  match hq:st.fs,hI.2.2.1 with
  | f::r,_=>exact⟨f,r,rfl⟩
  | [],hq2=>simp at hq2
 have hr:st.fs.length=r.length+1:=by rw[hfs];rfl
 have hwt:wtF f+wtFs r≤i:=by
  have:=hI.1
  rw[hfs,wtFs_cons] at this;exact this
 have hftx:f.row.tx.length≤100000000:=by unfold wtF wtR at hwt;omega
 have hr17:r.length≤17:=by have:=hI.2.2.2;omega
 have hflt:st.faults.length≤10000000000:=by have:=hI.2.1;omega
 have cN:=next_any h (i:=i+a.size) (by omega) hi hs b (by omega) m hm;rw[hn] at cN;have hge:=nextAt_le hn;have e1:IntKind.i64.wrap ((i:Int)+(a.size:Int))=((i+a.size:Nat):Int):=by
  rw[←Int.natCast_add];exact IntWalk.i64_in _ (by omega)
 have e2:IntKind.i64.wrap ((n:Int)+(b.size:Int))=((n+b.size:Nat):Int):=by
  rw[←Int.natCast_add];exact IntWalk.i64_in _ (by omega)
 have HAF:Hid (∀w:World,w.cell? ⟨0,0,none⟩=some (.int .i64 m)→Calls Tryz.prog F #[.string (s.extract (i+a.size) n)] w fun e w'=>e=.returned (.tuple #[.agg #[.int .u8 0,.string ⟨#[]⟩,.string ⟨#[]⟩,.string ⟨#[]⟩,.slice none 0 0],.int .i64 (fc:Int)])∧Below w.heap.size w w'):=fun w hm=>by
  have:=hF.2 (s.extract (i+a.size) n) w m (by simp;omega) hm
  rw[cut_list,haf] at this;exact this
 have HEN:=Lib.hid hF.1;have HFS:=Lib.hid hfs;have HL:Hid (len=r.length+1):=hl.trans hr;clear h hfs hl hr hwt hI hn haf hF
 go_enter Tryz.func201,Tryz.ntmps201
 go_wp2_with fail
 refine cN.mono ?_;clear cN;rintro e w1 ⟨rfl,gn1,h1,st1⟩;have H1:=Lib.hid h1;have ST1:=Lib.hid st1;have c0:=h1.hp.cell 0;have hm1:=psCell0 st1 hB hm;clear h1 st1;unfold nextV
 go_wp2_with fail
 rw[HEN.out,Oper.upon_enter];refine (HAF.out _ hm1).mono ?_;rintro e w2 ⟨rfl,hb2⟩;have hch:=(Chg.below hb2 (fun _=>False)).alloc (.cells #[.int .u8 0,.string ⟨#[]⟩,.string ⟨#[]⟩,.string ⟨#[]⟩,.slice none 0 0] 138);have h2:=H1.out.keep hch (fun _ h=>h.elim);have HP2:=Lib.hid h2;have d0:=h2.hp.cell 0;have HPD:=Lib.hid (fun k=>PSx.drewN h2 k);have ST2:Hid (Stay B w1 (w2.alloc (.cells #[.int .u8 0,.string ⟨#[]⟩,.string ⟨#[]⟩,.string ⟨#[]⟩,.slice none 0 0] 138)) col col) :=
  Lib.hid ⟨hch.toBelow (psBase H1.out) (fun _ h=>h.elim),fun c k _ hk hl=>⟨hk,hch.block k hl (fun h=>h)⟩⟩
 clear hb2 h2 hch;have q1:(0:Int)≤(n:Int)+(b.size:Int):=by omega
 have q2:(n:Int)+(b.size:Int)≤(s.size:Int):=by omega
 have q3:(i:Int)≤(n:Int)+(b.size:Int):=by omega
 have q4:((n:Int)+(b.size:Int)).toNat=n+b.size:=by omega
 go_wp2;refine wp_region_held_drew (S:=(fun w'=>w'.cell? ⟨pb,0,none⟩=some (.string s))) (by kernel_rfl) ?_ (fun hHeld0=>?_)
 ·(try dsimp only)
  first|exact d0|exact z0
 refine tkHo 0 ?_;refine tkHo 4 ?_;refine tkHo 5 ?_;refine tkHo 6 ?_;refine tkHo 7 ?_;refine tkHo 8 ?_;refine tkHo 9 ?_;refine tkHo 10 ?_;refine rdyH [1] ?_;refine AllReadyH.cons rfl (fun K hK=>?_) AllReadyH.nil;go_simp;refine (top_any (n:=r.length) (by rw[←HL.out];exact HPD.out _) (by omega)).mono ?_;rintro e w3 ⟨rfl,kk,rfl⟩
 go_wp2_with fail
 refine hK.out _ _ ?_ (fun hHeld1=>?_)
 ·(try dsimp only)
  first|exact d0|exact z0
 clear hK K hHeld0
 (try go_frame)
 refine tkHo 2 ?_;refine tkHo 3 ?_;refine rdyH [11] ?_;refine AllReadyH.cons rfl (fun K hK=>?_) AllReadyH.nil;go_simp;refine (writeTop_any (HPD.out _) HFS.out (s.extract i (n+b.size)) (by simp;omega) (by omega)).mono ?_;rintro e w4 ⟨rfl,col4,cs4,h4,st4⟩;have st5:=st4.undrew;have H4:=Lib.hid h4;have ST4:=Lib.hid st5;have z0:=h4.hp.cell 0;clear h4 st4 st5
 go_wp2_with fail
 refine hK.out _ _ ?_ (fun hHeld2=>?_)
 ·(try dsimp only)
  first|exact d0|exact z0
 clear hK K hHeld1
 (try go_frame)
 refine wpAnyH_done (by kernel_rfl) ?_ _
 go_wp2_with fail
 refine (tell_any H4.out i fc hflt).mono ?_;rintro e w5 ⟨rfl,col5,fv5,h5,st5⟩;go_wp2
 go_ret
 rw[cut_list] at h5;exact⟨rfl,col5,fv5,cs4,gn1,h5.on (by omega),((ST1.out.trans ST2.out).trans ST4.out).trans st5⟩
end
section
variable {w:World} {B:Nat} {col:Nat→Nat} {pb ob cap len:Nat} {s:ByteArray} {st:Pst} {i:Nat} {fv:Value} {gb:Nat} {cs:Array Value} {gn:List Bs}
theorem between_good (h:PSx Tryz.prog w B col pb ob cap len s st i fv gb cs gn) (hl:len=st.fs.length) (hI:Inv st i) (a b:ByteArray) (ha:1≤a.size) (ha2:a.size≤2) (hb:b.size≤2) (hi:i+a.size≤s.size) (hs:s.size≤100000000) (F:Nat) (m:Int) (hm:w.cell? ⟨0,0,none⟩=some (.int .i64 m)) (hB:0<B)
  {n:Nat} (hn:nextAt s.data.toList (i+a.size) b.data.toList=some n) (hnb:n+b.size≤s.size) {af:Bs→Sp ⊕ Nat} (hF:AsOk F af) {x:Sp} (haf:af ((s.data.toList.drop (i+a.size)).take (n-(i+a.size)))=.inl x) (hk0:x.kids=[]) (hxt:x.kind=0→x.text.length≤1000000000) :
  Calls Tryz.prog 201 #[.pointer (some ⟨pb,0,none⟩),.int .i64 (i:Int),.string a,.string b,.func (.func F) #[] #[]] w fun e w'=>e=.returned (.int .i64 ((n+b.size:Nat):Int)) ∧
   ∃col' fv' cs' gn',PSx Tryz.prog w' B col' pb ob cap len s (st.top (·.add x)) (n+b.size) fv' gb cs' gn'∧Stay B w w' col col':=by
 obtain⟨f,r,hfs⟩:∃f r,st.fs=f::r:=by
  match hq:st.fs,hI.2.2.1 with
  | f::r,_=>exact⟨f,r,rfl⟩
  | [],hq2=>simp at hq2
 have hr:st.fs.length=r.length+1:=by rw[hfs];rfl
 have hwt:wtF f+wtFs r≤i:=by
  have:=hI.1
  rw[hfs,wtFs_cons] at this;exact this
 have hftx:f.row.tx.length≤100000000:=by unfold wtF wtR at hwt;omega
 have hfsp:f.row.sp.length≤100000000:=by have:=wtL_len f.row.sp;unfold wtF wtR at hwt;omega
 have hr17:r.length≤17:=by have:=hI.2.2.2;omega
 have hflt:st.faults.length≤10000000000:=by have:=hI.2.1;omega
 have cN:=next_any h (i:=i+a.size) (by omega) hi hs b (by omega) m hm;rw[hn] at cN;have hge:=nextAt_le hn;have e1:IntKind.i64.wrap ((i:Int)+(a.size:Int))=((i+a.size:Nat):Int):=by
  rw[←Int.natCast_add];exact IntWalk.i64_in _ (by omega)
 have e2:IntKind.i64.wrap ((n:Int)+(b.size:Int))=((n+b.size:Nat):Int):=by
  rw[←Int.natCast_add];exact IntWalk.i64_in _ (by omega)
 have HAF:Hid (∀w:World,w.cell? ⟨0,0,none⟩=some (.int .i64 m)→Calls Tryz.prog F #[.string (s.extract (i+a.size) n)] w fun e w'=>e=.returned (.tuple #[.agg #[.int .u8 (x.kind:Int),strV x.text,strV x.sub,strV x.see,.slice none 0 0],.int .i64 0])∧Below w.heap.size w w'):=fun w hm=>by
  have:=hF.2 (s.extract (i+a.size) n) w m (by simp;omega) hm
  rw[cut_list,haf] at this;exact this
 have HEN:=Lib.hid hF.1;have HFS:=Lib.hid hfs;have HL:Hid (len=r.length+1):=hl.trans hr;clear h hfs hl hr hwt hI hn haf hF
 go_enter Tryz.func201,Tryz.ntmps201
 go_wp2_with fail
 refine cN.mono ?_;clear cN;rintro e w1 ⟨rfl,gn1,h1,st1⟩;have H1:=Lib.hid h1;have ST1:=Lib.hid st1;have c0:=h1.hp.cell 0;have hm1:=psCell0 st1 hB hm;clear h1 st1;unfold nextV
 go_wp2_with fail
 rw[HEN.out,Oper.upon_enter];refine (HAF.out _ hm1).mono ?_;rintro e w2 ⟨rfl,hb2⟩;unfold strV;have hch:=Chg.below hb2 (fun _=>False);have h2:=H1.out.keep hch (fun _ h=>h.elim);have st2:Stay B w1 w2 col col:=⟨hch.toBelow (psBase H1.out) (fun _ h=>h.elim),fun c k _ hk hl=>⟨hk,hch.block k hl (fun h=>h)⟩⟩;obtain⟨colL,hL,stL,h8,_⟩:=h2.local (.cells #[.int .u8 (x.kind:Int),.string ⟨x.text.toArray⟩,.string ⟨x.sub.toArray⟩,.string ⟨x.see.toArray⟩,.slice none 0 0] 138);have hX:=Holds.new w2 138 #[.int .u8 (x.kind:Int),.string ⟨x.text.toArray⟩,.string ⟨x.sub.toArray⟩,.string ⟨x.see.toArray⟩,.slice none 0 0];have HX:=Lib.hid hX;have HPD:=Lib.hid (fun k=>PSx.drewN hL k);have ST2:=Lib.hid (st2.trans stL);have HK0:=Lib.hid hk0;have H8:=Lib.hid h8;clear hb2 h2 hch hL stL st2 h8 hk0;go_wp2;refine wp_region_held_drew (S:=(fun w'=>w'.cell? ⟨w2.heap.size,0,none⟩=some (.int .u8 (x.kind:Int))∧w'.cell? ⟨w2.heap.size,1,none⟩=some (.string ⟨x.text.toArray⟩)∧w'.cell? ⟨w2.heap.size,2,none⟩=some (.string ⟨x.sub.toArray⟩)∧w'.cell? ⟨w2.heap.size,3,none⟩=some (.string ⟨x.see.toArray⟩)∧w'.cell? ⟨w2.heap.size,4,none⟩=some (.slice none 0 0))) (by kernel_rfl) ?_ (fun hHeld0=>?_)
 ·(try dsimp only)
  first|exact cells5 hX|exact cells5 hX.drew|exact cells5 (hX.drewN _)|exact cells5 hX2
 refine tkHo 0 ?_;refine tkHo 4 ?_;refine rdyH [1] ?_;refine AllReadyH.cons rfl (fun K hK=>?_) AllReadyH.nil;go_simp;refine (top_any (n:=r.length) (by rw[←HL.out];exact HPD.out _) (by omega)).mono ?_;rintro e w3 ⟨rfl,kk,rfl⟩
 go_wp2_with fail
 refine hK.out _ _ ?_ (fun hHeld1=>?_)
 ·(try dsimp only)
  first|exact cells5 hX|exact cells5 hX.drew|exact cells5 (hX.drewN _)|exact cells5 hX2
 clear hK K hHeld0
 (try go_frame)
 refine tkHo 2 ?_;refine tkHo 3 ?_;refine rdyH [5] ?_;refine AllReadyH.cons rfl (fun K hK=>?_) AllReadyH.nil;go_simp;refine (addTop_any (HPD.out _) HFS.out x (.slice none 0 0) (by rw[HK0.out];exact Forest.nil _ _) hxt (by omega) (by omega)).mono ?_;rintro e w4 ⟨rfl,col4,cs4,h4,st4⟩;have st5:=st4.undrew;have H4:=Lib.hid h4;have ST4:=Lib.hid st5;obtain⟨_,hX2⟩:=st5.holds H8.out hX;clear h4 st4 st5
 go_wp2_with fail
 refine hK.out _ _ ?_ (fun hHeld2=>?_)
 ·(try dsimp only)
  first|exact cells5 hX|exact cells5 hX.drew|exact cells5 (hX.drewN _)|exact cells5 hX2
 clear hK K hHeld1
 (try go_frame)
 refine wpAnyH_done (by kernel_rfl) ?_ _;clear hHeld2;go_wp2
 go_ret
 exact⟨rfl,col4,fv,cs4,gn1,H4.out.on (by omega),(ST1.out.trans ST2.out).trans ST4.out⟩
end
theorem ascii_at {g:ByteArray} (hg:∀b∈g.data.toList,b.toNat<128){i:Nat} (hi:i<g.size):(g[i]'hi).toNat<128 :=
 hg _ (List.getElem_mem (l:=g.data.toList) (by simpa using hi))
theorem indexRune_bad (g:ByteArray) (w:World) (hg:∀b∈g.data.toList,b.toNat<128) :
  Calls Tryz.prog 114 #[.string g,.int .i32 65533] w fun e w'=>e=.returned (.int .i64 (-1))∧Below w.heap.size w w':=by
 have HG:=Lib.hid hg;clear hg
 go_enter Tryz.func114,Tryz.ntmps114
 go_wp2
 go_loopg [5,6] g.size (fun n _ _ wx=>∃i:Nat,i+n=g.size∧wx=w.iter g i)
 case atStart=>exact⟨0,by omega,rfl⟩
 case round =>
  obtain⟨i,hig,rfl⟩:=hrel;cases gk with
  | zero =>
   obtain rfl:i=g.size:=by omega
   have hnx:=run_next_end (P:=Tryz.prog) w g g.size;go_wp2
   go_ret
   exact⟨rfl,(Below.refl _ _).alloc (Nat.le_refl _) _⟩
  | succ n =>
   have hi:i<g.size:=by omega
   have hx:=ascii_at HG.out hi;have hnx:=fun ty=>run_next_ascii (P:=Tryz.prog) w g i ty hi hx
   go_wp2
   all_goals first|omega|skip
   go_roundg n
   case measure=>omega
   case rel=>exact⟨i+1,by omega,rfl⟩
theorem indexByte_high (l:Bs) (hl:∀b∈l,b.toNat<128) (c:UInt8) (hc:128≤c.toNat):Lib.indexByte l c=-1:=by
 have h:=Lib.contains_iff_indexByte l c;have hn:l.contains c=false:=by
  rw[Bool.eq_false_iff];intro hm;have:=hl c (by simpa using hm)
  omega
 rw[hn] at h;have h1:=of_decide_eq_false h.symm;have h2:=Lib.indexByte_ge l c;omega
theorem indexRune_valid (g:ByteArray) (r:Int) (w:World) (hg:∀b∈g.data.toList,b.toNat<128) (h4:4≤g.size) (h5:g.size≤200) (h1:128≤r) (h2:¬r=65533) (hv:Utf8.valid r=true) :
  Calls Tryz.prog 114 #[.string g,.int .i32 r] w fun e w'=>e=.returned (.int .i64 (-1))∧Below w.heap.size w w':=by
 have HG:=Lib.hid hg;clear hg;obtain⟨f1,f2,f3⟩:=encode_facts r hv h1;have hv':validRune r=true:=by rw[←validRune_eq];exact hv
 have Hv:=Lib.hid hv;clear hv;have hne:(r==65533)=false:=by simpa using h2
 generalize he:Utf8.encode r=e at f1 f2 f3;have hce:=fun (w:World)=>run_convert_int_string (P:=Tryz.prog) w 21 9 .i32 r (by rw[Tryz.underlying21];rfl) Tryz.underlying9
 rw[he] at hce;have He:=Lib.hid he;clear he;obtain⟨n,hn⟩:∃n,e.size=n+1:=⟨e.size-1,by omega⟩;have hng:n<g.size:=by omega
 have hne':n<e.size:=by omega
 have f4:128≤(e[n]'hne').toNat:=by
  have h:=f3 (by omega);have e1:e.size-1=n:=by omega
  simpa only[e1] using h
 clear f3;have hx:=ascii_at HG.out hng;have hneq:((g[n]'hng).toNat:Int)≠(e[n]'hne').toNat:=by omega
 have hb:(((g[n]'hng).toNat:Int) != (e[n]'hne').toNat)=true:=by simpa using hneq
 have hb':(((g[n]'hng).toNat:Int)==(e[n]'hne').toNat)=false:=by simpa using hneq
 clear hneq
 go_enter Tryz.func114,Tryz.ntmps114
 go_wp2_with (go_at_call 172;refine (Tryz.utf8_ValidRune _ _).mono ?_;rintro e w' ⟨rfl,hw⟩;subst hw)
 ·go_ret
  exact⟨rfl,Below.refl _ _⟩
 ·go_step3
  go_wp2;refine wp_loop_rounds 1 ?_;rw[rounds_succ];go_wp2
  go_step3
  go_wp2;have Hn:=Lib.hid hn;clear hn
  go_quiet (fail)
  go_wp2;have hbq:Below w'.heap.size w' (w'.drewN nq):=Go.below_drewN (Below.refl _ _) _;generalize w'.drewN nq=w2 at hbq ⊢;have q1:IntKind.i64.wrap ((n:Int)+1)=(n:Int)+1:=IntWalk.i64_in _ (by omega);have q2:0≤(n:Int)+1:=by omega
  have q3:((n:Int)+1).toNat=n+1:=by omega
  have q4:(n:Int)+1≤(g.size:Int):=by omega
  have e41:Lib.indexByte (List.take (g.size-(n+1)) (List.drop (n+1) g.data.toList)) (e[n]'hne')<0:=by
   rw[indexByte_high _ (fun b hb=>HG.out b (List.mem_of_mem_drop (List.mem_of_mem_take hb))) _ f4];decide
  go_quiet ((go_at_call 171;exact Calls.quiet_of_same (Tryz.strings_IndexByte _ _ _)))
  clear q1 q2 q3 q4;go_wp2;rw[Exit.noGoto_ret];simp only[Exit.inBlock,Exit.then];rw[Exit.noGoto_ret];simp only[Exit.inBlock]
  go_ret
  exact⟨rfl,Go.below_drewN hbq _⟩
theorem indexRune_none (g:ByteArray) (r:Int) (w:World) (h1:128≤r) (h2:¬r=65533) (hv:validRune r=false) :
  Calls Tryz.prog 114 #[.string g,.int .i32 r] w fun e w'=>e=.returned (.int .i64 (-1))∧Below w.heap.size w w':=by
 have hv2:Lib.validRune r=false:=hv;have hne:(r==65533)=false:=by simpa using h2
 go_enter Tryz.func114,Tryz.ntmps114
 go_wp2_with (go_at_call 172;refine (Tryz.utf8_ValidRune _ _).mono ?_;rintro e w' ⟨rfl,hw⟩;subst hw)
 go_ret
 exact⟨rfl,Below.refl _ _⟩
theorem indexRune_high (g:ByteArray) (r:Int) (w:World) (hg:∀b∈g.data.toList,b.toNat<128) (h4:4≤g.size) (h5:g.size≤200) (h1:128≤r) :
  Calls Tryz.prog 114 #[.string g,.int .i32 r] w fun e w'=>e=.returned (.int .i64 (-1))∧Below w.heap.size w w':=by
 by_cases h2:r=65533
 ·subst h2;exact indexRune_bad g w hg
 ·by_cases hv:Utf8.valid r=true
  ·exact indexRune_valid g r w hg h4 h5 h1 h2 hv
  ·exact indexRune_none g r w h1 h2 (by rw[validRune_eq] at hv;simpa using hv)
theorem decode_bytes (s:ByteArray) (p:Nat) (h:p<s.size) (ha:128≤(s[p]'h).toNat) :
  p+(Utf8.decode s p).2≤s.size∧∀j (hj:p+j<s.size),j<(Utf8.decode s p).2→128≤(s[p+j]'hj).toNat:=by
 have hn:¬(s[p]'h).toNat<128:=by omega
 have hg:∀k (hk:p+k<s.size),s.get! (p+k)=s[p+k]'hk:=fun k hk=>by
  show s.get! (p+k)=_
  simp[ByteArray.get!,getElem!_pos,hk];rfl
 have key:∀k,(decide (p+k<s.size)&&(s.get! (p+k)).toNat / 64==2)=true→p+k<s.size∧∀hk:p+k<s.size,128≤(s[p+k]'hk).toNat:=by
  intro k hk;simp only[Bool.and_eq_true,decide_eq_true_eq,beq_iff_eq] at hk;refine⟨hk.1,fun hk'=>?_⟩;have:=hk.2
  rw[hg k hk'] at this;omega
 have h0:∀(hj:p+0<s.size),128≤(s[p+0]'hj).toNat:=fun _=>ha
 simp only[Utf8.decode,get_at s p h,hn,if_false];split
 ·rename_i c;simp only[Bool.and_eq_true] at c;have k1:=key 1 (by simpa using c.2);split
  ·refine⟨by omega,fun j hj hl=>?_⟩
   match j,hl with
   | 0,_=>exact h0 hj
   | 1,_=>exact k1.2 hj
  ·exact⟨by omega,fun j hj hl=>by obtain rfl:j=0:=by simpa using hl
                                  exact h0 hj⟩
 ·split
  ·rename_i c;simp only[Bool.and_eq_true] at c;have k1:=key 1 (by simpa using c.1.2);have k2:=key 2 (by simpa using c.2);split
   ·refine⟨by omega,fun j hj hl=>?_⟩
    match j,hl with
    | 0,_=>exact h0 hj
    | 1,_=>exact k1.2 hj
    | 2,_=>exact k2.2 hj
   ·exact⟨by omega,fun j hj hl=>by obtain rfl:j=0:=by simpa using hl
                                   exact h0 hj⟩
  ·split
   ·rename_i c;simp only[Bool.and_eq_true] at c;have k1:=key 1 (by simpa using c.1.1.2);have k2:=key 2 (by simpa using c.1.2);have k3:=key 3 (by simpa using c.2);split
    ·refine⟨by omega,fun j hj hl=>?_⟩
     match j,hl with
     | 0,_=>exact h0 hj
     | 1,_=>exact k1.2 hj
     | 2,_=>exact k2.2 hj
     | 3,_=>exact k3.2 hj
    ·exact⟨by omega,fun j hj hl=>by obtain rfl:j=0:=by simpa using hl
                                    exact h0 hj⟩
   ·exact⟨by simp;omega,fun j hj hl=>by obtain rfl:j=0:=by simpa using hl
                                        exact h0 hj⟩
def NoSign (s:ByteArray) (g:Bs) (p:Nat):Prop:=p≤s.size∧∀j (h:j<s.size),j<p→g.contains s[j]=false
theorem NoSign.all {s:ByteArray}{g:Bs} (h:NoSign s g s.size):s.data.toList.any (g.contains ·)=false:=by
 rw[List.any_eq_false];intro x hx;obtain⟨j,hj,rfl⟩:=List.mem_iff_getElem.1 hx;have:=h.2 j (by simpa using hj) (by simpa using hj)
 have e:s.data.toList[j]=s[j]'(by simpa using hj):=rfl;rw[e,this];decide
theorem any_hit {s:ByteArray}{g:Bs}{p:Nat} (hp:p<s.size) (h:g.contains s[p]=true):s.data.toList.any (g.contains ·)=true :=
 List.any_eq_true.2 ⟨s[p],List.getElem_mem (l:=s.data.toList) (by simpa using hp),h⟩
theorem NoSign.step {s:ByteArray}{g:Bs}{p:Nat} (h:NoSign s g p) (hp:p<s.size) (h1:g.contains s[p]=false):NoSign s g (p+1):=by
 refine⟨by omega,fun j hj hjp=>?_⟩
 by_cases e:j=p
 ·subst e;exact h1
 ·exact h.2 j hj (by omega)
theorem NoSign.jump {s:ByteArray}{g:Bs}{p d:Nat} (h:NoSign s g p) (hd:p+d≤s.size) (h1:∀j (hj:p+j<s.size),j<d→128≤(s[p+j]'hj).toNat) (hg:∀b∈g,b.toNat<128):NoSign s g (p+d):=by
 refine⟨hd,fun j hj hjp=>?_⟩
 by_cases e:j<p
 ·exact h.2 j hj e
 ·rw[Bool.eq_false_iff];intro hc;have h2:=hg _ (by simpa using hc);obtain⟨k,rfl⟩:∃k,j=p+k:=⟨j-p,by omega⟩;have:=h1 k hj (by omega)
  omega
def HitPost (hit:Bool) (w:World) (e:Ending) (w':World):Prop:=∃r:Int,decide (0≤r)=hit∧e=.returned (.int .i64 r)∧Below w.heap.size w w'
theorem indexAny_short (s g:ByteArray) (w:World) (hg:∀b∈g.data.toList,b.toNat<128) (h4:4≤g.size) (h5:g.size≤200) (h8:s.size≤8) :
  Calls Tryz.prog 71 #[.string s,.string g] w (HitPost (s.data.toList.any (g.data.toList.contains ·)) w):=by
 have HG:=Lib.hid hg;clear hg;have hemp:g.toList.isEmpty=false:=by
  rw[ByteArray.toList_eq];cases h:g.data.toList with
  | nil=>have:=size_list g;rw[h,List.length_nil] at this;omega
  | cons _ _=>rfl
 have hn1:((g.size:Int)==1)=false:=beq_eq_false_iff_ne.2 (by omega);have h8z:decide ((8:Int)<(s.size:Int))=false:=decide_eq_false (by omega)
 go_enter Tryz.func71,Tryz.ntmps71
 go_wp2_with (go_at_call 115;refine (Tryz.strings_shouldUseASCIISet _ _).mono ?_;rintro e w' ⟨rfl,hw⟩;rw[hw,h8z])
 go_loopg [9,10] s.size (fun n _ _ wx=>∃p:Nat,p+n=s.size∧wx.heap[w.heap.size]? = some (.stringIter s p)∧Hid (NoSign s g.data.toList p)∧Below w.heap.size w wx)
 case atStart=>exact⟨0,by omega,World.iter_heap _ _ _,⟨by omega,fun _ _ h=>absurd h (by omega)⟩,(Below.refl _ _).alloc (Nat.le_refl _) _⟩
 case round =>
  obtain⟨p,hpn,hit,HN,hb⟩:=hrel;cases gk with
  | zero =>
   obtain rfl:p=s.size:=by omega
   have hnx:=fun ty=>Lib.run_next_end_at (P:=Tryz.prog) wr w.heap.size s s.size ty hit (by omega)
   go_wp2
   go_ret
   exact⟨-1,by rw[HN.out.all];rfl,rfl,hb⟩
  | succ n =>
   have hp:p<s.size:=by omega
   by_cases hx:(s[p]'hp).toNat<128
   ·have hnx:=fun ty=>Lib.run_next_ascii_at (P:=Tryz.prog) wr w.heap.size s p ty hit hp hx
    have hcon:=Lib.contains_iff_indexByte g.data.toList (s[p]'hp);have hback:(((s[p]'hp).toNat:Int)).toNat.toUInt8=s[p]'hp:=by simp
    cases hin:g.data.toList.contains (s[p]'hp)
    ·rw[hin] at hcon;have hlt:Lib.indexByte g.data.toList (s[p]'hp)<0:=by have:=of_decide_eq_false hcon.symm;omega
     clear hcon;have HI:=Lib.hid hin;clear hin
     go_wp2_with (go_at_call 114;refine (Tryz.strings_IndexRune_ascii _ _ _ (by omega) (by omega)).mono ?_;rintro e w' ⟨rfl,hw⟩;rw[hw,hback])
     go_roundg n
     case measure=>omega
     case rel=>exact⟨p+1,by omega,Lib.iterAt_heap _ _ _ _ _ hit,HN.out.step hp HI.out,Lib.below_iterAt hb (Nat.le_refl _) _ _⟩
    ·rw[hin] at hcon;have hge:0≤Lib.indexByte g.data.toList (s[p]'hp):=of_decide_eq_true hcon.symm;clear hcon;have HI:=Lib.hid hin;clear hin
     go_wp2_with (go_at_call 114;refine (Tryz.strings_IndexRune_ascii _ _ _ (by omega) (by omega)).mono ?_;rintro e w' ⟨rfl,hw⟩;rw[hw,hback])
     go_ret
     exact⟨(p:Int),by rw[any_hit hp HI.out];simp,rfl,Lib.below_iterAt hb (Nat.le_refl _) _ _⟩
   ·obtain⟨d1,d2⟩:=decode_high s p hp (by omega);obtain⟨d3,d4⟩:=decode_bytes s p hp (by omega);have D4:=Lib.hid d4;clear d4;have hnx:=fun ty=>Lib.run_next_any_at (P:=Tryz.prog) wr w.heap.size s p ty hit hp
    generalize hc:(Utf8.decode s p).1=c at d1 hnx;generalize hd:(Utf8.decode s p).2=d at d2 d3 D4 hnx;clear hc hd
    go_wp2_with (go_at_call 114;refine (indexRune_high _ _ _ HG.out h4 h5 (by omega)).mono ?_;rintro e w2 ⟨rfl,hb2⟩)
    go_roundg (s.size-(p+d))
    case measure=>omega
    case rel=>exact⟨p+d,by omega,(hb2.block _ (by rw[Lib.iterAt_size];exact (Array.getElem?_eq_some_iff.1 hit).1)).trans (Lib.iterAt_heap _ _ _ _ _ hit),HN.out.jump d3 D4.out HG.out,(Lib.below_iterAt hb (Nat.le_refl _) _ _).trans (hb2.mono (by rw[Lib.iterAt_size];exact hb.size))⟩
theorem set_info:(Tryz.prog.info? 148).map (fun i=>(i.zero,i.size))=some (some (.agg (Array.replicate 256 (.bool false))),256):=by kernel_rfl
theorem trimS_blank (l:Bs):Lib.trimS l [32,9]=trim l:=by
 have e:(fun c=>([32,9]:Bs).contains c)=Go.Bd.blank:=by
  funext c
  rw[Bool.eq_iff_iff,blank_iff];simp only[List.contains_eq_mem,List.mem_cons,List.not_mem_nil,or_false,decide_eq_true_eq,←UInt8.toNat_inj];simp;omega
 rw[←dropLR,Lib.trimS,Lib.trimLeftS,Lib.trimRightS,dropL,dropR,e]
theorem strTrim_any (s:ByteArray) (w:World) (hs:s.size≤9223372036854775807) :
  Calls Tryz.prog 50 #[.string s,.string ⟨#[32,9]⟩] w fun e w'=>e=.returned (strV (trim s.data.toList))∧Below w.heap.size w w':=by
 refine (Any.strings_Trim_laid Tryz.lays160 set_info s ⟨#[32,9]⟩ w hs (by decide) (ascii_of_all (by decide))).mono ?_;rintro e w' ⟨he,hb⟩;refine⟨?_,hb⟩;rw[he];exact congrArg (fun l:Bs=>Ending.returned (strV l)) (trimS_blank _)
theorem indexAny_any (chars:Bs):∀l:Bs,decide (0≤Lib.indexAny l chars)=l.any (chars.contains ·)
 | []=>rfl
 | b::l=>by
  have ih:=indexAny_any chars l;have hge:=Lib.indexAny_ge chars l;rw[List.any_cons,←ih,Lib.indexAny];cases h:chars.contains b
  ·simp only[Bool.false_or,Bool.false_eq_true,if_false]
   by_cases h1:Lib.indexAny l chars == -1
   ·rw[if_pos h1];have:Lib.indexAny l chars=-1:=by simpa using h1
    rw[this]
   ·rw[if_neg h1];have:Lib.indexAny l chars≠-1:=by simpa using h1
    rw[Bool.eq_iff_iff,decide_eq_true_eq,decide_eq_true_eq];omega
  ·simp
theorem containsAny_any (s g:ByteArray) (w:World) (hg:∀b∈g.data.toList,b.toNat<128) (h4:4≤g.size) (h5:g.size≤200) (hs:s.size<4294967281) :
  Calls Tryz.prog 249 #[.string s,.string g] w fun e w'=>e=.returned (.bool (s.data.toList.any (g.data.toList.contains ·)))∧Below w.heap.size w w':=by
 have c:Calls Tryz.prog 71 #[.string s,.string g] w (HitPost (s.data.toList.any (g.data.toList.contains ·)) w):=by
  by_cases h8:s.size≤8
  ·exact indexAny_short s g w hg h4 h5 h8
  ·refine (Tryz.strings_IndexAny_long (zero_of_info set_info).1 s g w (by omega) (by omega) hs (by omega) ?_).mono ?_
   ·intro j b hj;exact hg b (List.mem_of_getElem? hj)
   ·rintro e w' ⟨he,hw⟩;refine⟨_,?_,he,?_⟩
    ·exact indexAny_any _ _
    ·rw[hw];exact ((Below.refl _ _).alloc (Nat.le_refl _) _).alloc (by simp) _
 generalize s.data.toList.any (g.data.toList.contains ·)=hit at c ⊢
 go_enter Tryz.func249,Tryz.ntmps249
 go_wp2_with (go_at_call 71;refine c.mono ?_;rintro e w' ⟨r,hr,rfl,hb⟩)
 go_ret
 exact⟨rfl,hb⟩
def anySign (l:Bs):Bool:=l.any (signs.contains ·)
theorem containsSigns_any (s:ByteArray) (w:World) (hs:s.size<4294967281) :
  Calls Tryz.prog 249 #[.string s,.string ⟨#[59,62,60,40,41]⟩] w fun e w'=>e=.returned (.bool (anySign s.data.toList))∧Below w.heap.size w w' :=
 containsAny_any s ⟨#[59,62,60,40,41]⟩ w (by decide) (by decide) (by decide) hs
theorem termPart_any (s:ByteArray) (w:World) (hs:s.size<4294967281) :
  Calls Tryz.prog 244 #[.string s] w fun e w'=>e=.returned (.tuple #[strV (trim s.data.toList),.bool (partB (trim s.data.toList))])∧Below w.heap.size w w':=by
 have hle:=trim_le s.data.toList;rw[←size_list] at hle;have ht:=strTrim_any s w (by omega);have Hp:Hid (partB (trim s.data.toList)=(!(trim s.data.toList).isEmpty && !anySign (trim s.data.toList))):=partB_signs _;obtain⟨l,hl⟩:∃l,l=trim s.data.toList:=⟨_,rfl⟩;rw[←hl] at ht Hp hle ⊢;clear hl;rw[strV] at ht
 by_cases he:l=[]
 ·subst he
  go_enter Tryz.func244,Tryz.ntmps244
  go_wp2_with (go_at_call 50;refine ht.mono ?_;rintro e w1 ⟨rfl,hb⟩)
  go_ret2
  exact⟨rfl,hb⟩
 ·have h1:l.isEmpty=false:=by simpa using he
  go_enter Tryz.func244,Tryz.ntmps244
  go_wp2_with (first
   | (go_at_call 50;refine ht.mono ?_;rintro e w1 ⟨rfl,hb⟩)
   | (go_at_call 249;refine (containsSigns_any _ _ (by rw[size_mk];omega)).mono ?_;rintro e w2 ⟨rfl,hb2⟩))
  go_ret2
  exact⟨congrArg Ending.returned (by rw[Hp.out,h1];rfl),hb.trans (hb2.mono hb.size)⟩
end Go.Proofs.YtkkebmciiiajeaaGreatDoor
namespace Go.Bd
theorem first_cons (x:UInt8) (l:Bs) (c:UInt8):first (x::l) c.toNat=if x=c then 0 else first l c.toNat+1:=by
 unfold first
 rw[List.findIdx_cons]
 by_cases h:x=c
 ·subst h;simp
 ·have:((x.toNat:Int)==(c.toNat:Int))=false:=by
   rw[beq_eq_false_iff_ne];intro e;exact h (UInt8.toNat_inj.1 (by omega))
  rw[this,if_neg h];rfl
theorem indexByte_first (c:UInt8):∀l:Bs,Lib.indexByte l c=if first l c.toNat<l.length then (first l c.toNat:Int) else -1
 | []=>rfl
 | x::l=>by
  have ih:=indexByte_first c l;have hle:=first_le l (c.toNat:Int);rw[first_cons,Lib.indexByte,ih]
  by_cases h:x=c
  ·subst h;simp
  ·rw[if_neg (by simpa using h),if_neg h]
   by_cases h2:first l c.toNat<l.length
   ·rw[if_pos h2,if_neg (by rw[beq_iff_eq];omega),if_pos (by simp only[List.length_cons];omega)];omega
   ·rw[if_neg h2,if_pos (by decide),if_neg (by simp only[List.length_cons];omega)]
theorem cut_hit {l:Bs}{c:UInt8} (h:first l c.toNat<l.length):Lib.cut l [c]=(l.take (first l c.toNat),l.drop (first l c.toNat+1),true):=by
 rw[Lib.cut,Lib.index_one,indexByte_first,if_pos h,if_pos (by omega)];rfl
theorem cut_none {l:Bs}{c:UInt8} (h:l.length≤first l c.toNat):Lib.cut l [c]=(l,[],false):=by
 rw[Lib.cut,Lib.index_one,indexByte_first,if_neg (by omega)]
def two (l:Bs) (m:Nat):Bool:=partB (trim (l.take m))&&partB (trim (l.drop (m+1)))
theorem mem_dropL {l:Bs}{c:UInt8} (h:c∈l) (hb:blank c=false):c∈dropL l:=by
 unfold dropL
 induction l with
 | nil=>cases h
 | cons x l ih =>
  by_cases hx:blank x=true
  ·rw[List.dropWhile_cons_of_pos hx]
   rcases List.mem_cons.1 h with e|e
   ·subst e;rw[hb] at hx;cases hx
   ·exact ih e
  ·rw[List.dropWhile_cons_of_neg hx];exact h
theorem mem_trim {l:Bs}{c:UInt8} (h:c∈l) (hb:blank c=false):c∈trim l:=by
 unfold trim dropR;rw[List.mem_reverse];exact mem_dropL (List.mem_reverse.2 (mem_dropL h hb)) hb
theorem partB_mem {l:Bs}{c:UInt8} (h:c∈l) (hc:c∈signs):partB l=false:=by
 rw[partB_signs];have:l.any (signs.contains ·)=true:=List.any_eq_true.2 ⟨c,h,by simpa using hc⟩
 rw[this];simp
theorem first_mem {l:Bs}{c:UInt8} (h:first l c.toNat<l.length):l[first l c.toNat]'h=c:=by
 have:=List.findIdx_getElem (w:=h)
 have e:(((l[first l c.toNat]'h).toNat:Int)==c.toNat)=true:=this;exact UInt8.toNat_inj.1 (by have:=(beq_iff_eq.1 e);omega)
theorem mem_take_first {l:Bs}{c:UInt8}{m:Nat} (h:first l c.toNat<l.length) (hm:first l c.toNat<m):c∈l.take m:=by
 rw[List.mem_iff_getElem];exact⟨first l c.toNat,by simp;omega,by rw[List.getElem_take,first_mem h]⟩
theorem mem_drop_first {l:Bs}{c:UInt8}{m:Nat} (h:first l c.toNat<l.length) (hm:m≤first l c.toNat):c∈l.drop m:=by
 rw[List.mem_iff_getElem];refine⟨first l c.toNat-m,by simp;omega,?_⟩;rw[List.getElem_drop];have e:m+(first l c.toNat-m)=first l c.toNat:=by omega
 simp only[e];exact first_mem h
theorem parseB_long {l:Bs} (h:240<l.length):parseB l=none:=by rw[parseB,if_pos h]
theorem e59:((59:UInt8).toNat:Int)=59:=rfl
theorem e62:((62:UInt8).toNat:Int)=62:=rfl
theorem parseB_sub {l:Bs} (hl:l.length≤240) (h:first l 59<l.length) :
  parseB l=if two l (first l 59)=true then some (trim (l.take (first l 59)),trim (l.drop (first l 59+1)),[]) else none:=by
 have f59:=@first_mem l 59 (by rw[e59];exact h);simp only[e59] at f59;rw[parseB,if_neg (by omega)]
 rcases Nat.lt_or_ge (first l 62) (first l 59) with hlt|hge
 ·have hm:min (first l 59) (first l 62)=first l 62:=Nat.min_eq_right (Nat.le_of_lt hlt)
  have n1:partB (trim (l.take (first l 59)))=false :=
   partB_mem (c:=62) (mem_trim (mem_take_first (by rw[e62];omega) (by rw[e62];exact hlt)) (by decide)) (by decide)
  have n2:partB (trim (l.drop (first l 62+1)))=false :=
   partB_mem (c:=59) (mem_trim (mem_drop_first (by rw[e59];exact h) (by rw[e59];omega)) (by decide)) (by decide)
  rw[hm,if_neg (show ¬two l (first l 59)=true by simp[two,n1]),n2];split
  ·rfl
  ·rw[if_neg (by omega)];simp
 ·have hm:min (first l 59) (first l 62)=first l 59:=Nat.min_eq_left hge
  rw[hm,two];cases h1:partB (trim (l.take (first l 59)))
  ·simp
  ·rw[if_neg (by simp),if_neg (by omega)];cases h2:partB (trim (l.drop (first l 59+1)))
   ·simp
   ·rw[if_neg (by simp),if_pos,if_pos (by simp)];rw[List.getD_eq_getElem?_getD,List.getElem?_eq_getElem h,Option.getD_some,f59];rfl
theorem parseB_see {l:Bs} (hl:l.length≤240) (h0:first l 59=l.length) (h:first l 62<l.length) :
  parseB l=if two l (first l 62)=true then some (trim (l.take (first l 62)),[],trim (l.drop (first l 62+1))) else none:=by
 have f62:=@first_mem l 62 (by rw[e62];exact h);simp only[e62] at f62;have hm:min (first l 59) (first l 62)=first l 62:=Nat.min_eq_right (by omega)
 rw[parseB,if_neg (by omega),hm,two];cases h1:partB (trim (l.take (first l 62)))
 ·simp
 ·rw[if_neg (by simp),if_neg (by omega)];cases h2:partB (trim (l.drop (first l 62+1)))
  ·simp
  ·rw[if_neg (by simp),if_neg,if_pos (by simp)];rw[List.getD_eq_getElem?_getD,List.getElem?_eq_getElem h,Option.getD_some,f62];decide
theorem parseB_one {l:Bs} (hl:l.length≤240) (h0:first l 59=l.length) (h:first l 62=l.length) :
  parseB l=if partB (trim l)=true then some (trim l,[],[]) else none:=by
 have hm:min (first l 59) (first l 62)=l.length:=by omega
 rw[parseB,if_neg (by omega),hm,List.take_of_length_le (Nat.le_refl _),if_pos rfl];cases h1:partB (trim l)<;>simp
end Go.Bd
namespace Go.Proofs.YtkkebmciiiajeaaGreatDoor
open Go.RowKit Go.Bd
theorem tell1_any (a b:ByteArray) (w:World):Calls Tryz.prog 246 #[.string a,.string b] w fun e w'=>e=.returned (.agg #[.string a,.string b,.string ⟨#[]⟩])∧Below w.heap.size w w':=by
 go_enter Tryz.func246,Tryz.ntmps246
 go_wp2
 go_returns
 exact⟨rfl,(Below.refl _ _).alloc (Nat.le_refl _) _⟩
theorem tell2_any (a b:ByteArray) (w:World):Calls Tryz.prog 247 #[.string a,.string b] w fun e w'=>e=.returned (.agg #[.string a,.string ⟨#[]⟩,.string b])∧Below w.heap.size w w':=by
 go_enter Tryz.func247,Tryz.ntmps247
 go_wp2
 go_returns
 exact⟨rfl,(Below.refl _ _).alloc (Nat.le_refl _) _⟩
theorem tell3_any (a b:ByteArray) (w:World):Calls Tryz.prog 248 #[.string a,.string b] w fun e w'=>e=.returned (.agg #[.string a,.string ⟨#[]⟩,.string ⟨#[]⟩])∧Below w.heap.size w w':=by
 go_enter Tryz.func248,Tryz.ntmps248
 go_wp2
 go_returns
 exact⟨rfl,(Below.refl _ _).alloc (Nat.le_refl _) _⟩
theorem forms_any (w:World):Calls Tryz.prog 243 #[] w fun e w'=>e=.returned (.agg #[.string ⟨#[59]⟩,.func (.func 246) #[] #[],.string ⟨#[62]⟩,.func (.func 247) #[] #[],.string ⟨#[]⟩,.func (.func 248) #[] #[]])∧Below w.heap.size w w':=by
 go_enter Tryz.func243,Tryz.ntmps243
 go_wp2
 go_returns
 exact⟨rfl,(Below.refl _ _).alloc (Nat.le_refl _) _⟩
def formsV:Value:=.agg #[.string ⟨#[59]⟩,.func (.func 246) #[] #[],.string ⟨#[62]⟩,.func (.func 247) #[] #[],.string ⟨#[]⟩,.func (.func 248) #[] #[]]
theorem form0 (w:World):(Instr.index 307 formsV (.int .i64 0)).run Tryz.prog w=.ok (.agg #[.string ⟨#[59]⟩,.func (.func 246) #[] #[]]) w:=by kernel_rfl
theorem form1 (w:World):(Instr.index 307 formsV (.int .i64 1)).run Tryz.prog w=.ok (.agg #[.string ⟨#[62]⟩,.func (.func 247) #[] #[]]) w:=by kernel_rfl
theorem form2 (w:World):(Instr.index 307 formsV (.int .i64 2)).run Tryz.prog w=.ok (.agg #[.string ⟨#[]⟩,.func (.func 248) #[] #[]]) w:=by kernel_rfl
def parseO:Option (Bs×Bs×Bs)→Value
 | none=>.tuple #[.agg #[strV [],strV [],strV []],.bool false]
 | some (a,b,c)=>.tuple #[.agg #[strV a,strV b,strV c],.bool true]
def parseP (l:Bs):Value:=parseO (parseB l)
theorem parse_long (s:ByteArray) (w:World) (hs:s.size≤9223372036854775807) (hl:240<s.size) :
  Calls Tryz.prog 239 #[.string s] w fun e w'=>e=.returned (parseP s.data.toList)∧Below w.heap.size w w':=by
 have hv:Hid (parseP s.data.toList=.tuple #[.agg #[strV [],strV [],strV []],.bool false]):=by
  unfold Hid;rw[parseP,parseB_long (by simpa using hl)];rfl
 go_enter Tryz.func239,Tryz.ntmps239
 go_wp2
 go_returns
 exact⟨congrArg Ending.returned hv.out.symm,(Below.refl _ _).alloc (Nat.le_refl _) _⟩
theorem cut59_hit (s:ByteArray) (m:Int) (w:World) (hs:s.size≤240) (hm:w.cell? ⟨0,0,none⟩=some (.int .i64 m)) (h:first s.data.toList 59<s.size) :
  Calls Tryz.prog 187 #[.string s,.string ⟨#[59]⟩] w fun e w'=>e=.returned (.tuple #[strV (s.data.toList.take (first s.data.toList 59)),strV (s.data.toList.drop (first s.data.toList 59+1)),.bool true])∧Below w.heap.size w w':=by
 refine (Tryz.strings_Cut s ⟨#[59]⟩ m w (by omega) hm).mono ?_;rintro e w' ⟨he,n,hw⟩;refine⟨?_,hw ▸ Go.below_drewN (Below.refl _ _) _⟩;have hc:=@cut_hit s.data.toList 59 (by rw[e59];simpa using h);rw[e59] at hc;rw[he,show (⟨#[59]⟩:ByteArray).data.toList=[59] from rfl,hc];rfl
structure St (w W:World) (g:Nat) (sg:ByteArray) (f:Value):Prop where
 res:Holds W w.heap.size 299 #[.string ⟨#[]⟩,.string ⟨#[]⟩,.string ⟨#[]⟩]
 form:Holds W g 306 #[.string sg,f]
 below:Below w.heap.size w W
 apart:w.heap.size<g
theorem St.later {w W W':World}{g:Nat}{sg:ByteArray}{f:Value} (h:St w W g sg f) (hb:Below W.heap.size W W'):St w W' g sg f :=
 ⟨h.res.below hb h.res.lt,h.form.below hb h.form.lt,h.below.trans (hb.mono h.below.size),h.apart⟩
theorem St.first {w w1:World} (sg:ByteArray) (f:Value) (hb:Below (w.alloc (.cells #[.string ⟨#[]⟩,.string ⟨#[]⟩,.string ⟨#[]⟩] 299)).heap.size (w.alloc (.cells #[.string ⟨#[]⟩,.string ⟨#[]⟩,.string ⟨#[]⟩] 299)) w1) :
  St w (w1.alloc (.cells #[.string sg,f] 306)) w1.heap.size sg f:=by
 have hs1:w.heap.size<w1.heap.size:=by have:=hb.size;simp at this;omega
 exact⟨((Holds.new w _ _).below hb (by simp)).alloc _,Holds.new w1 _ _,(((Below.refl _ _).alloc (Nat.le_refl _) _).trans (hb.mono (by simp))).alloc (by omega) _,hs1⟩
theorem St.next {w W:World}{g:Nat}{sg:ByteArray}{f:Value} (h:St w W g sg f) (sg':ByteArray) (f':Value):St w (W.alloc (.cells #[.string sg',f'] 306)) W.heap.size sg' f' :=
 ⟨h.res.alloc _,Holds.new W _ _,h.below.alloc h.below.size _,h.res.lt⟩
theorem parse_sub (s:ByteArray) (m:Int) (w:World) (hs:s.size≤240) (hm:w.cell? ⟨0,0,none⟩=some (.int .i64 m)) (h:first s.data.toList 59<s.size) :
  Calls Tryz.prog 239 #[.string s] w fun e w'=>e=.returned (parseP s.data.toList)∧Below w.heap.size w w':=by
 have hv:=Lib.hid (congrArg parseO (parseB_sub (l:=s.data.toList) (by simpa using hs) (by simpa using h)));have f0:=form0;have ff:=forms_any
 change ∀w,Calls _ _ _ _ (fun e w'=>e=.returned formsV∧_) at ff
 generalize formsV=fv at f0 ff;have hw0:=block_lt_of_cell hm;have l1:s.data.toList.length≤240:=by simpa using hs
 go_enter Tryz.func239,Tryz.ntmps239
 go_wp2_with fail
 refine (ff _).mono ?_;rintro e w1 ⟨rfl,hb1⟩
 go_wp2_with fail
 refine wp_loop_rounds 1 ?_;rw[rounds_succ]
 go_wp2_with fail
 have S1:=St.first ⟨#[59]⟩ (.func (.func 246) #[] #[]) hb1;obtain⟨W1,hW1⟩:∃W,W=w1.alloc (.cells #[.string ⟨#[59]⟩,.func (.func 246) #[] #[]] 306):=⟨_,rfl⟩;rw[←hW1] at S1 ⊢;clear hW1 hb1;generalize w1.heap.size=g at S1 ⊢;refine (cut59_hit s m W1 hs ((S1.below.cell (p:=⟨0,0,none⟩) hw0).trans hm) h).mono ?_;rintro e w2 ⟨rfl,hb2⟩;have S2:=S1.later hb2;clear S1 hb2;rw[strV,strV]
 go_wp2_with fail
 refine (termPart_any _ _ (by rw[size_mk,List.length_take];omega)).mono ?_;rintro e w3 ⟨rfl,hb3⟩;have S3:=S2.later hb3;clear S2 hb3;have k0:=(S3.res.cell 0);have k1:=(S3.res.cell 1);have k2:=(S3.res.cell 2);have z0:=(S3.res.free 0);have z1:=(S3.res.free 1);have z2:=(S3.res.free 2);rw[show ∀l:Bs,(ByteArray.mk l.toArray).data.toList=l from fun l=>by simp];cases p1:partB (trim (s.data.toList.take (first s.data.toList 59)))
 ·go_wp2;refine bodyPost_ret (v:=(.tuple #[.agg #[strV [],strV [],strV []],.bool false])) (by simp[results,Tryz.results239,go_sem,k0,k1,k2,strV]) rfl ?_;refine⟨congrArg Ending.returned ?_,?_⟩
  ·rw[show parseP s.data.toList=_ from hv.out,two,p1];rfl
  ·have S3b:=S3.below
   go_grown
 ·go_wp2_with fail
  clear k0 k1 k2 z0 z1 z2;refine (termPart_any _ _ (by rw[size_mk,List.length_drop];omega)).mono ?_;rintro e w4 ⟨rfl,hb4⟩;have S4:=S3.later hb4;clear S3 hb4;rw[show ∀l:Bs,(ByteArray.mk l.toArray).data.toList=l from fun l=>by simp];cases p2:partB (trim (s.data.toList.drop (first s.data.toList 59+1)))
  ·have k0:=(S4.res.cell 0);have k1:=(S4.res.cell 1);have k2:=(S4.res.cell 2);have z0:=(S4.res.free 0);have z1:=(S4.res.free 1);have z2:=(S4.res.free 2);go_wp2;refine bodyPost_ret (v:=(.tuple #[.agg #[strV [],strV [],strV []],.bool false])) (by simp[results,Tryz.results239,go_sem,k0,k1,k2,strV]) rfl ?_;refine⟨congrArg Ending.returned ?_,?_⟩
   ·rw[show parseP s.data.toList=_ from hv.out,two,p1,p2];rfl
   ·have S4b:=S4.below
    go_grown
  ·have q1:=S4.form.cell 1;rw[strV,strV]
   go_wp2_with fail
   clear q1;refine (tell1_any _ _ _).mono ?_;rintro e w5 ⟨rfl,hb5⟩;have S5:=S4.later hb5;have k0:=(S5.res.cell 0);have k1:=(S5.res.cell 1);have k2:=(S5.res.cell 2);have z0:=(S5.res.free 0);have z1:=(S5.res.free 1);have z2:=(S5.res.free 2);go_wp2;refine bodyPost_ret (v:=(.tuple #[.agg #[strV (trim (s.data.toList.take (first s.data.toList 59))),strV (trim (s.data.toList.drop (first s.data.toList 59+1))),strV []],.bool true])) (by simp[results,Tryz.results239,go_sem,k0,k1,k2,strV]) rfl ?_;refine⟨congrArg Ending.returned ?_,?_⟩
   ·rw[show parseP s.data.toList=_ from hv.out,two,p1,p2];rfl
   ·have S5b:=S5.below
    go_grown
end Go.Proofs.YtkkebmciiiajeaaGreatDoor
