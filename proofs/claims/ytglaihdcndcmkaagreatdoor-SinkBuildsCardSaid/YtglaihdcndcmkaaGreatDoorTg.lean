/- Texts of this proof, merged. -/
import Derived.Test.YtglaihdcndcmkaaGreatDoorTf
import Derived.Shelf.Strings.Builder1
import Derived.Shelf.Strings.Builder2
import Derived.Shelf.Strings.Trim
import Derived.Shelf.Small.Utf8
import Derived.Shelf.Small.Strs
import Derived.Shelf.Small.Wraps
import Derived.Shelf.Strings.BuilderF
import Derived.Shelf.Strings.BuilderK
import Derived.Shelf.Utf8.RuneCount
import Derived.Shelf.Strings.Builder2Cap
import Derived.Shelf.Strings.Search1
import Derived.Shelf.Strings.Search2
import Derived.Shelf.Strings.Search3
import Derived.Shelf.Strings.Cut
import Derived.Shelf.Strings.Count
import Derived.Shelf.LaysM
import Derived.Shelf.Strings.Shaped
import Derived.Shelf.Strings.LastIndex
import Derived.Shelf.Strings.Prefix
import Derived.Shelf.Strings.Split
import Derived.Shelf.Strings.Replace
import Derived.Shelf.Strings.SplitShaped
import Derived.Shelf.Unicode.Decode
import Derived.Shelf.Strings.Runes
import Derived.Shelf.Strings.RuneCount
import Derived.Shelf.Strings.AsciiSet
import Derived.Shelf.Unicode.DecodeSlow
import Derived.Shelf.Unicode.DecodeAny
import Derived.Shelf.Unicode.DecodeLast
import Derived.Shelf.Strings.BuilderCap
import Derived.Shelf.Slices.Turned
import Derived.Ground.PaProg
import Derived.Shelf.Path.Small
import Derived.Test.YtglaihdcndcmkaaGreatDoorProg
import Derived.WalkKit
import Derived.WalkSpells
import Derived.WalkLawsBesides
import Derived.Lib.Hide
import Derived.BigQuiet
import Derived.Lib.QuietBelow
import Derived.ShutString
import Derived.Deep.Light
import Derived.Lib.UnsafeStr
import Derived.Test.YtglaihdcndcmkaaGreatDoorRows
import Derived.Lib.FrozenHead2
import Derived.Lib.OthersKept
import Derived.Lib.Builder
import Derived.Laws.Externs
import Derived.Lib.Strings
import Derived.Lib.IndexBytes
import Derived.Lib.IndexMore
import Derived.Lib.SlTrimSet
import Derived.Shelf.Strings.SlTrimAscii
import Derived.Laws.OwnMore
import Derived.Laws.IdiomStrings
import Derived.RangeFuncNested
import Derived.RangeFuncBound
import Derived.RangeFuncCalls
import Derived.RangeFuncLeaves
import Derived.RangeFuncBox
import Derived.Shelf.Abstract
import Derived.Shelf.RegionOpen
import Derived.OwnWalkIn
import Derived.TacticsInMore
import Derived.LoopNIn
import Derived.LoopIn
import Derived.ScopeJumps
import Derived.StillTail
import Derived.OwnWalk
set_option linter.all false
open Go ya Go.Proofs Go.RowKit Go.Proofs.YtglaihdcndcmkaaGreatDoor
set_option maxHeartbeats 4000000
namespace Go.Proofs
open Go.Shelf
def Tryz.tS:Go.Shelf.Ren:=⟨fun|169=>46|n=>n,fun|70=>98|9=>9|0=>0|72=>101|37=>99|127=>170|3=>3|5=>5|n=>n,fun|n=>n⟩
def Tryz.Y9:Go.Proofs.Lays.n169 Tryz.prog Tryz.tS:={
 mixed:=ca
 f169:=Tryz.func46.trans (congrArg some ca)
 t0:=Tryz.underlying0
 a0:=Tryz.isAgg0
 z0:=Tryz.sizeOf0
 v0:=Tryz.zeroValue0
 t3:=Tryz.underlying3
 a3:=Tryz.isAgg3
 z3:=Tryz.sizeOf3
 v3:=Tryz.zeroValue3
 t9:=Tryz.underlying9
 a9:=Tryz.isAgg9
 z9:=Tryz.sizeOf9
 v9:=Tryz.zeroValue9
 t37:=Tryz.underlying99
 a37:=Tryz.isAgg99
 z37:=Tryz.sizeOf99
 v37:=Tryz.zeroValue99
 t70:=Tryz.underlying98
 a70:=Tryz.isAgg98
 z70:=Tryz.sizeOf98
 v70:=Tryz.zeroValue98
 t72:=Tryz.underlying101
 a72:=Tryz.isAgg101
 z72:=Tryz.sizeOf101
 v72:=Tryz.zeroValue101
 t127:=Tryz.underlying170
 a127:=Tryz.isAgg170
 z127:=Tryz.sizeOf170
 v127:=Tryz.zeroValue170}
def Tryz.jX:Builder.Extra Tryz.prog Tryz.tS:={
 sizeBuilder:=ca
 liesBuilder:=ca
 t5:=Tryz.underlying5
 a5:=Tryz.isAgg5
 z5:=Tryz.sizeOf5
 v5:=Tryz.zeroValue5
 infoByte:=ca
 cellsByte:=ca
 sizeByte:=ca
 neB5:=by decide}
def Tryz.X9:Go.Shelf.Ren:=⟨fun|161=>269|231=>262|227=>264|233=>265|235=>267|228=>288|197=>152|151=>289|260=>222|152=>293|137=>96|119=>295|224=>217|225=>216|217=>161|266=>228|n=>n,fun|9=>9|4=>4|3=>3|5=>5|117=>309|116=>308|0=>0|124=>312|105=>224|21=>21|119=>318|46=>269|139=>321|138=>320|n=>n,fun|3=>1|4=>2|n=>n⟩
def Tryz.W9:Go.Proofs.Lays.n161 Tryz.prog Tryz.X9:={
 mixed:=ca
 f119:=Tryz.func295.trans (congrArg some ca)
 f137:=Tryz.func96.trans (congrArg some ca)
 f151:=Tryz.func289.trans (congrArg some ca)
 f152:=Tryz.func293.trans (congrArg some ca)
 f161:=Tryz.func269.trans (congrArg some ca)
 f197:=Tryz.func152.trans (congrArg some ca)
 f217:=Tryz.func161.trans (congrArg some ca)
 f224:=Tryz.func217.trans (congrArg some ca)
 f225:=Tryz.func216.trans (congrArg some ca)
 f227:=Tryz.func264.trans (congrArg some ca)
 f228:=Tryz.func288.trans (congrArg some ca)
 f231:=Tryz.func262.trans (congrArg some ca)
 f233:=Tryz.func265.trans (congrArg some ca)
 f235:=Tryz.func267.trans (congrArg some ca)
 f260:=Tryz.func222.trans (congrArg some ca)
 f266:=Tryz.func228.trans (congrArg some ca)
 t0:=Tryz.underlying0
 a0:=Tryz.isAgg0
 z0:=Tryz.sizeOf0
 v0:=Tryz.zeroValue0
 t3:=Tryz.underlying3
 a3:=Tryz.isAgg3
 z3:=Tryz.sizeOf3
 v3:=Tryz.zeroValue3
 t4:=Tryz.underlying4
 a4:=Tryz.isAgg4
 z4:=Tryz.sizeOf4
 v4:=Tryz.zeroValue4
 t5:=Tryz.underlying5
 a5:=Tryz.isAgg5
 z5:=Tryz.sizeOf5
 v5:=Tryz.zeroValue5
 t9:=Tryz.underlying9
 a9:=Tryz.isAgg9
 z9:=Tryz.sizeOf9
 v9:=Tryz.zeroValue9
 t21:=Tryz.underlying21
 a21:=Tryz.isAgg21
 z21:=Tryz.sizeOf21
 v21:=Tryz.zeroValue21
 t46:=Tryz.underlying269
 a46:=Tryz.isAgg269
 z46:=Tryz.sizeOf269
 v46:=Tryz.zeroValue269
 t105:=Tryz.underlying224
 a105:=Tryz.isAgg224
 z105:=Tryz.sizeOf224
 v105:=Tryz.zeroValue224
 t116:=Tryz.underlying308
 a116:=Tryz.isAgg308
 z116:=Tryz.sizeOf308
 t117:=Tryz.underlying309
 a117:=Tryz.isAgg309
 z117:=Tryz.sizeOf309
 v117:=Tryz.zeroValue309
 t119:=Tryz.underlying318
 a119:=Tryz.isAgg318
 z119:=Tryz.sizeOf318
 t124:=Tryz.underlying312
 a124:=Tryz.isAgg312
 z124:=Tryz.sizeOf312
 v124:=Tryz.zeroValue312
 t138:=Tryz.underlying320
 a138:=Tryz.isAgg320
 z138:=Tryz.sizeOf320
 v138:=Tryz.zeroValue320
 t139:=Tryz.underlying321
 a139:=Tryz.isAgg321
 z139:=Tryz.sizeOf321
 v139:=Tryz.zeroValue321
 g3:=ca
 g4:=by kernel_rfl}
def Tryz.V9:Go.Shelf.Ren:=⟨fun|160=>206|232=>263|231=>262|227=>264|234=>266|233=>265|236=>268|235=>267|228=>288|271=>290|151=>289|197=>152|120=>294|152=>293|260=>222|137=>96|119=>295|224=>217|225=>216|217=>161|266=>228|n=>n,fun|9=>9|4=>4|3=>3|5=>5|117=>309|116=>308|0=>0|124=>312|21=>21|105=>224|46=>269|119=>318|139=>321|138=>320|n=>n,fun|3=>1|4=>2|n=>n⟩
def Tryz.U9:Go.Proofs.Lays.n160 Tryz.prog Tryz.V9:={
 mixed:=ca
 f119:=Tryz.func295.trans (congrArg some ca)
 f120:=Tryz.func294.trans (congrArg some ca)
 f137:=Tryz.func96.trans (congrArg some ca)
 f151:=Tryz.func289.trans (congrArg some ca)
 f152:=Tryz.func293.trans (congrArg some ca)
 f160:=Tryz.func206.trans (congrArg some ca)
 f197:=Tryz.func152.trans (congrArg some ca)
 f217:=Tryz.func161.trans (congrArg some ca)
 f224:=Tryz.func217.trans (congrArg some ca)
 f225:=Tryz.func216.trans (congrArg some ca)
 f227:=Tryz.func264.trans (congrArg some ca)
 f228:=Tryz.func288.trans (congrArg some ca)
 f231:=Tryz.func262.trans (congrArg some ca)
 f232:=Tryz.func263.trans (congrArg some ca)
 f233:=Tryz.func265.trans (congrArg some ca)
 f234:=Tryz.func266.trans (congrArg some ca)
 f235:=Tryz.func267.trans (congrArg some ca)
 f236:=Tryz.func268.trans (congrArg some ca)
 f260:=Tryz.func222.trans (congrArg some ca)
 f266:=Tryz.func228.trans (congrArg some ca)
 f271:=Tryz.func290.trans (congrArg some ca)
 t0:=Tryz.underlying0
 a0:=Tryz.isAgg0
 z0:=Tryz.sizeOf0
 v0:=Tryz.zeroValue0
 t3:=Tryz.underlying3
 a3:=Tryz.isAgg3
 z3:=Tryz.sizeOf3
 v3:=Tryz.zeroValue3
 t4:=Tryz.underlying4
 a4:=Tryz.isAgg4
 z4:=Tryz.sizeOf4
 v4:=Tryz.zeroValue4
 t5:=Tryz.underlying5
 a5:=Tryz.isAgg5
 z5:=Tryz.sizeOf5
 v5:=Tryz.zeroValue5
 t9:=Tryz.underlying9
 a9:=Tryz.isAgg9
 z9:=Tryz.sizeOf9
 v9:=Tryz.zeroValue9
 t21:=Tryz.underlying21
 a21:=Tryz.isAgg21
 z21:=Tryz.sizeOf21
 v21:=Tryz.zeroValue21
 t46:=Tryz.underlying269
 a46:=Tryz.isAgg269
 z46:=Tryz.sizeOf269
 v46:=Tryz.zeroValue269
 t105:=Tryz.underlying224
 a105:=Tryz.isAgg224
 z105:=Tryz.sizeOf224
 v105:=Tryz.zeroValue224
 t116:=Tryz.underlying308
 a116:=Tryz.isAgg308
 z116:=Tryz.sizeOf308
 t117:=Tryz.underlying309
 a117:=Tryz.isAgg309
 z117:=Tryz.sizeOf309
 v117:=Tryz.zeroValue309
 t119:=Tryz.underlying318
 a119:=Tryz.isAgg318
 z119:=Tryz.sizeOf318
 t124:=Tryz.underlying312
 a124:=Tryz.isAgg312
 z124:=Tryz.sizeOf312
 v124:=Tryz.zeroValue312
 t138:=Tryz.underlying320
 a138:=Tryz.isAgg320
 z138:=Tryz.sizeOf320
 v138:=Tryz.zeroValue320
 t139:=Tryz.underlying321
 a139:=Tryz.isAgg321
 z139:=Tryz.sizeOf321
 v139:=Tryz.zeroValue321
 g3:=ca
 g4:=by kernel_rfl}
def Tryz.K9:Go.Shelf.Ren:=⟨fun|137=>96|217=>161|266=>228|n=>n,fun|9=>9|5=>5|3=>3|n=>n,fun|n=>n⟩
def Tryz.J9:Go.Proofs.Lays.n137 Tryz.prog Tryz.K9:={
 mixed:=ca
 f137:=Tryz.func96.trans (congrArg some ca)
 f217:=Tryz.func161.trans (congrArg some ca)
 f266:=Tryz.func228.trans (congrArg some ca)
 t3:=Tryz.underlying3
 a3:=Tryz.isAgg3
 z3:=Tryz.sizeOf3
 v3:=Tryz.zeroValue3
 t5:=Tryz.underlying5
 a5:=Tryz.isAgg5
 z5:=Tryz.sizeOf5
 v5:=Tryz.zeroValue5
 t9:=Tryz.underlying9
 a9:=Tryz.isAgg9
 z9:=Tryz.sizeOf9
 v9:=Tryz.zeroValue9}
open Go.RowKit in
theorem Tryz.strings_IndexByte(s:ByteArray)(c:Int)(w:World):
 Calls Tryz.prog 96 #[.string s,.int .u8 c] w fun e w'=>e=.returned (.int .i64 (Lib.indexByte s.data.toList c.toNat.toUInt8))/\w'=w:=Any.strings_IndexByte Tryz.J9 s c w
def Tryz.G9:Go.Shelf.Ren:=⟨fun|103=>90|210=>153|206=>141|n=>n,fun|9=>9|4=>4|24=>86|3=>3|n=>n,fun|n=>n⟩
def Tryz.F9:Go.Proofs.Lays.n103 Tryz.prog Tryz.G9:={
 mixed:=ca
 f103:=Tryz.func90.trans (congrArg some ca)
 f206:=Tryz.func141.trans (congrArg some ca)
 f210:=Tryz.func153.trans (congrArg some ca)
 t3:=Tryz.underlying3
 a3:=Tryz.isAgg3
 z3:=Tryz.sizeOf3
 v3:=Tryz.zeroValue3
 t4:=Tryz.underlying4
 a4:=Tryz.isAgg4
 z4:=Tryz.sizeOf4
 v4:=Tryz.zeroValue4
 t9:=Tryz.underlying9
 a9:=Tryz.isAgg9
 z9:=Tryz.sizeOf9
 v9:=Tryz.zeroValue9
 t24:=Tryz.underlying86
 a24:=Tryz.isAgg86
 z24:=Tryz.sizeOf86
 v24:=Tryz.zeroValue86}
open Go.RowKit in
theorem Tryz.strings_CutPrefix(s p:ByteArray)(w:World):
 Calls Tryz.prog 90 #[.string s,.string p] w fun e w'=>e=.returned (.tuple #[.string ⟨(Lib.trimPrefix s.data.toList p.data.toList).toArray⟩,.bool (Lib.hasPrefix s.data.toList p.data.toList)])/\w'=w:=Any.strings_CutPrefix Tryz.F9 s p w
def Tryz.I9:Go.Shelf.Ren:=⟨fun|104=>84|211=>147|207=>215|n=>n,fun|9=>9|4=>4|24=>86|3=>3|n=>n,fun|n=>n⟩
def Tryz.H9:Go.Proofs.Lays.n104 Tryz.prog Tryz.I9:={
 mixed:=ca
 f104:=Tryz.func84.trans (congrArg some ca)
 f207:=Tryz.func215.trans (congrArg some ca)
 f211:=Tryz.func147.trans (congrArg some ca)
 t3:=Tryz.underlying3
 a3:=Tryz.isAgg3
 z3:=Tryz.sizeOf3
 v3:=Tryz.zeroValue3
 t4:=Tryz.underlying4
 a4:=Tryz.isAgg4
 z4:=Tryz.sizeOf4
 v4:=Tryz.zeroValue4
 t9:=Tryz.underlying9
 a9:=Tryz.isAgg9
 z9:=Tryz.sizeOf9
 v9:=Tryz.zeroValue9
 t24:=Tryz.underlying86
 a24:=Tryz.isAgg86
 z24:=Tryz.sizeOf86
 v24:=Tryz.zeroValue86}
open Go.RowKit in
theorem Tryz.strings_CutSuffix(s p:ByteArray)(w:World)(hs:s.size<=9223372036854775807):
 Calls Tryz.prog 84 #[.string s,.string p] w fun e w'=>e=.returned (.tuple #[.string ⟨(Lib.trimSuffix s.data.toList p.data.toList).toArray⟩,.bool (Lib.hasSuffix s.data.toList p.data.toList)])/\w'=w:=Any.strings_CutSuffix Tryz.H9 s p w hs
open Go.RowKit in
theorem Tryz.Builder_String_any_k(B b:Nat)(l:List UInt8)(w:World)(h:Lib.IsBuilderF 101 5 B b (Lib.byteCells l) w)(a:B<=w.heap.size):
 Calls Tryz.prog 46 #[.pointer (some ⟨b,0,none⟩)] w fun e w'=>e=.returned (.string ⟨l.toArray⟩)/\(Lib.IsBuilderF 101 5 B b (Lib.byteCells l) w'/\Below B w w'/\Lib.OthersKept 5 (some b) w w'):=Any.Builder_String_any_k Tryz.Y9 Tryz.jX B b l w h a
def Tryz.M9:Go.Shelf.Ren:=⟨fun|143=>146|219=>148|217=>161|225=>216|224=>217|267=>218|266=>228|314=>273|n=>n,fun|9=>9|3=>3|4=>4|5=>5|46=>269|146=>315|51=>271|n=>n,fun|1=>0|n=>n⟩
def Tryz.L9:Go.Proofs.Lays.n143 Tryz.prog Tryz.M9:={
 mixed:=ca
 f143:=Tryz.func146.trans (congrArg some ca)
 f217:=Tryz.func161.trans (congrArg some ca)
 f219:=Tryz.func148.trans (congrArg some ca)
 f224:=Tryz.func217.trans (congrArg some ca)
 f225:=Tryz.func216.trans (congrArg some ca)
 f266:=Tryz.func228.trans (congrArg some ca)
 f267:=Tryz.func218.trans (congrArg some ca)
 f314:=Tryz.func273.trans (congrArg some ca)
 t3:=Tryz.underlying3
 a3:=Tryz.isAgg3
 z3:=Tryz.sizeOf3
 v3:=Tryz.zeroValue3
 t4:=Tryz.underlying4
 a4:=Tryz.isAgg4
 z4:=Tryz.sizeOf4
 v4:=Tryz.zeroValue4
 t5:=Tryz.underlying5
 a5:=Tryz.isAgg5
 z5:=Tryz.sizeOf5
 v5:=Tryz.zeroValue5
 t9:=Tryz.underlying9
 a9:=Tryz.isAgg9
 z9:=Tryz.sizeOf9
 v9:=Tryz.zeroValue9
 t46:=Tryz.underlying269
 a46:=Tryz.isAgg269
 z46:=Tryz.sizeOf269
 v46:=Tryz.zeroValue269
 t51:=Tryz.underlying271
 a51:=Tryz.isAgg271
 z51:=Tryz.sizeOf271
 v51:=Tryz.zeroValue271
 t146:=Tryz.underlying315
 a146:=Tryz.isAgg315
 z146:=Tryz.sizeOf315
 v146:=Tryz.zeroValue315
 g1:=by kernel_rfl}
open Go.RowKit Go.Lib in
theorem Tryz.strings_Index(s a:ByteArray)(m:Int)(w:World)(hs:s.size<4294967281)(b:w.cell? ⟨0,0,none⟩=some (.int .i64 m)):
 Calls Tryz.prog 146 #[.string s,.string a] w fun e w'=>e=.returned (.int .i64 (Lib.index s.data.toList a.data.toList))/\w'=w:=Any.strings_Index Tryz.L9 s a m w hs b
def Tryz.O9:Go.Shelf.Ren:=⟨fun|144=>158|143=>146|219=>148|217=>161|225=>216|224=>217|267=>218|266=>228|314=>273|n=>n,fun|9=>9|4=>4|3=>3|5=>5|46=>269|146=>315|51=>271|n=>n,fun|1=>0|n=>n⟩
def Tryz.N9:Go.Proofs.Lays.n144 Tryz.prog Tryz.O9:={
 mixed:=ca
 f143:=Tryz.func146.trans (congrArg some ca)
 f144:=Tryz.func158.trans (congrArg some ca)
 f217:=Tryz.func161.trans (congrArg some ca)
 f219:=Tryz.func148.trans (congrArg some ca)
 f224:=Tryz.func217.trans (congrArg some ca)
 f225:=Tryz.func216.trans (congrArg some ca)
 f266:=Tryz.func228.trans (congrArg some ca)
 f267:=Tryz.func218.trans (congrArg some ca)
 f314:=Tryz.func273.trans (congrArg some ca)
 t3:=Tryz.underlying3
 a3:=Tryz.isAgg3
 z3:=Tryz.sizeOf3
 v3:=Tryz.zeroValue3
 t4:=Tryz.underlying4
 a4:=Tryz.isAgg4
 z4:=Tryz.sizeOf4
 v4:=Tryz.zeroValue4
 t5:=Tryz.underlying5
 a5:=Tryz.isAgg5
 z5:=Tryz.sizeOf5
 v5:=Tryz.zeroValue5
 t9:=Tryz.underlying9
 a9:=Tryz.isAgg9
 z9:=Tryz.sizeOf9
 v9:=Tryz.zeroValue9
 t46:=Tryz.underlying269
 a46:=Tryz.isAgg269
 z46:=Tryz.sizeOf269
 v46:=Tryz.zeroValue269
 t51:=Tryz.underlying271
 a51:=Tryz.isAgg271
 z51:=Tryz.sizeOf271
 v51:=Tryz.zeroValue271
 t146:=Tryz.underlying315
 a146:=Tryz.isAgg315
 z146:=Tryz.sizeOf315
 v146:=Tryz.zeroValue315
 g1:=by kernel_rfl}
open Go.RowKit Go.Lib in
theorem Tryz.strings_Contains(s a:ByteArray)(m:Int)(w:World)(hs:s.size<4294967281)(b:w.cell? ⟨0,0,none⟩=some (.int .i64 m)):
 Calls Tryz.prog 158 #[.string s,.string a] w fun e w'=>e=.returned (.bool (Lib.contains s.data.toList a.data.toList))/\w'=w:=Any.strings_Contains Tryz.N9 s a m w hs b
def Tryz.Q9:Go.Shelf.Ren:=⟨fun|145=>39|220=>87|219=>148|217=>161|225=>216|224=>217|267=>218|266=>228|314=>273|n=>n,fun|9=>9|4=>4|59=>96|3=>3|5=>5|46=>269|146=>315|51=>271|n=>n,fun|1=>0|n=>n⟩
def Tryz.P9:Go.Proofs.Lays.n145 Tryz.prog Tryz.Q9:={
 mixed:=ca
 f145:=Tryz.func39.trans (congrArg some ca)
 f217:=Tryz.func161.trans (congrArg some ca)
 f219:=Tryz.func148.trans (congrArg some ca)
 f220:=Tryz.func87.trans (congrArg some ca)
 f224:=Tryz.func217.trans (congrArg some ca)
 f225:=Tryz.func216.trans (congrArg some ca)
 f266:=Tryz.func228.trans (congrArg some ca)
 f267:=Tryz.func218.trans (congrArg some ca)
 f314:=Tryz.func273.trans (congrArg some ca)
 t3:=Tryz.underlying3
 a3:=Tryz.isAgg3
 z3:=Tryz.sizeOf3
 v3:=Tryz.zeroValue3
 t4:=Tryz.underlying4
 a4:=Tryz.isAgg4
 z4:=Tryz.sizeOf4
 v4:=Tryz.zeroValue4
 t5:=Tryz.underlying5
 a5:=Tryz.isAgg5
 z5:=Tryz.sizeOf5
 v5:=Tryz.zeroValue5
 t9:=Tryz.underlying9
 a9:=Tryz.isAgg9
 z9:=Tryz.sizeOf9
 v9:=Tryz.zeroValue9
 t46:=Tryz.underlying269
 a46:=Tryz.isAgg269
 z46:=Tryz.sizeOf269
 v46:=Tryz.zeroValue269
 t51:=Tryz.underlying271
 a51:=Tryz.isAgg271
 z51:=Tryz.sizeOf271
 v51:=Tryz.zeroValue271
 t59:=Tryz.underlying96
 a59:=Tryz.isAgg96
 z59:=Tryz.sizeOf96
 v59:=Tryz.zeroValue96
 t146:=Tryz.underlying315
 a146:=Tryz.isAgg315
 z146:=Tryz.sizeOf315
 v146:=Tryz.zeroValue315
 g1:=by kernel_rfl}
open Go.RowKit Go.Lib in
theorem Tryz.strings_Cut(s sep:ByteArray)(m:Int)(w:World)(hs:s.size<4294967281)(a:w.cell? ⟨0,0,none⟩=some (.int .i64 m)):
 Calls Tryz.prog 39 #[.string s,.string sep] w fun e w'=>e=.returned (.tuple #[.string ⟨(Lib.cut s.data.toList sep.data.toList).1.toArray⟩,.string ⟨(Lib.cut s.data.toList sep.data.toList).2.1.toArray⟩,.bool (Lib.cut s.data.toList sep.data.toList).2.2])/\∃n,w'=w.drewN n:=Any.strings_Cut Tryz.P9 s sep m w hs a
def Tryz.S9:Go.Shelf.Ren:=⟨fun|149=>157|222=>226|n=>n,fun|9=>9|5=>5|3=>3|4=>4|n=>n,fun|n=>n⟩
def Tryz.R9:Go.Proofs.Lays.n149 Tryz.prog Tryz.S9:={
 mixed:=ca
 f149:=Tryz.func157.trans (congrArg some ca)
 f222:=Tryz.func226.trans (congrArg some ca)
 t3:=Tryz.underlying3
 a3:=Tryz.isAgg3
 z3:=Tryz.sizeOf3
 v3:=Tryz.zeroValue3
 t4:=Tryz.underlying4
 a4:=Tryz.isAgg4
 z4:=Tryz.sizeOf4
 v4:=Tryz.zeroValue4
 t5:=Tryz.underlying5
 a5:=Tryz.isAgg5
 z5:=Tryz.sizeOf5
 v5:=Tryz.zeroValue5
 t9:=Tryz.underlying9
 a9:=Tryz.isAgg9
 z9:=Tryz.sizeOf9
 v9:=Tryz.zeroValue9}
open Go.RowKit Go.Lib in
theorem Tryz.strings_LastIndexByte(s:ByteArray)(c:Int)(hs:s.size<4611686018427387904)(w:World):
 Calls Tryz.prog 157 #[.string s,.int .u8 c] w fun e w'=>e=.returned (.int .i64 (Lib.lastIndexByte s c))/\w'=w:=Any.strings_LastIndexByte Tryz.R9 s c hs w
def Tryz.a_:Go.Shelf.Ren:=⟨fun|99=>80|206=>141|n=>n,fun|9=>9|4=>4|3=>3|n=>n,fun|n=>n⟩
def Tryz.Z9:Go.Proofs.Lays.n99 Tryz.prog Tryz.a_:={
 mixed:=ca
 f99:=Tryz.func80.trans (congrArg some ca)
 f206:=Tryz.func141.trans (congrArg some ca)
 t3:=Tryz.underlying3
 a3:=Tryz.isAgg3
 z3:=Tryz.sizeOf3
 v3:=Tryz.zeroValue3
 t4:=Tryz.underlying4
 a4:=Tryz.isAgg4
 z4:=Tryz.sizeOf4
 v4:=Tryz.zeroValue4
 t9:=Tryz.underlying9
 a9:=Tryz.isAgg9
 z9:=Tryz.sizeOf9
 v9:=Tryz.zeroValue9}
open Go.RowKit Go.Lib in
theorem Tryz.strings_HasPrefix(s p:ByteArray)(w:World):
 Calls Tryz.prog 80 #[.string s,.string p] w fun e w'=>e=.returned (.bool (Lib.hasPrefix s.data.toList p.data.toList))/\w'=w:=Any.strings_HasPrefix Tryz.Z9 s p w
def Tryz.sS:Go.Shelf.Ren:=⟨fun|155=>42|154=>89|138=>150|165=>151|143=>146|166=>45|197=>152|169=>46|195=>219|218=>220|240=>93|241=>221|219=>148|260=>222|276=>156|277=>274|217=>161|225=>216|224=>217|267=>218|266=>228|314=>273|n=>n,fun|9=>9|3=>3|4=>4|72=>101|0=>0|76=>107|105=>224|21=>21|5=>5|70=>98|20=>20|37=>99|75=>105|127=>170|164=>230|46=>269|119=>318|139=>321|138=>320|146=>315|51=>271|80=>75|n=>n,fun|1=>0|3=>1|4=>2|n=>n⟩
def Tryz.T9:Go.Proofs.Lays.n155 Tryz.prog Tryz.sS:={
 mixed:=ca
 f138:=Tryz.func150.trans (congrArg some ca)
 f143:=Tryz.func146.trans (congrArg some ca)
 f154:=Tryz.func89.trans (congrArg some ca)
 f155:=Tryz.func42.trans (congrArg some ca)
 f165:=Tryz.func151.trans (congrArg some ca)
 f166:=Tryz.func45.trans (congrArg some ca)
 f169:=Tryz.func46.trans (congrArg some ca)
 f195:=Tryz.func219.trans (congrArg some ca)
 f197:=Tryz.func152.trans (congrArg some ca)
 f217:=Tryz.func161.trans (congrArg some ca)
 f218:=Tryz.func220.trans (congrArg some ca)
 f219:=Tryz.func148.trans (congrArg some ca)
 f224:=Tryz.func217.trans (congrArg some ca)
 f225:=Tryz.func216.trans (congrArg some ca)
 f240:=Tryz.func93.trans (congrArg some ca)
 f241:=Tryz.func221.trans (congrArg some ca)
 f260:=Tryz.func222.trans (congrArg some ca)
 f266:=Tryz.func228.trans (congrArg some ca)
 f267:=Tryz.func218.trans (congrArg some ca)
 f276:=Tryz.func156.trans (congrArg some ca)
 f277:=Tryz.func274.trans (congrArg some ca)
 f314:=Tryz.func273.trans (congrArg some ca)
 t0:=Tryz.underlying0
 a0:=Tryz.isAgg0
 z0:=Tryz.sizeOf0
 v0:=Tryz.zeroValue0
 t3:=Tryz.underlying3
 a3:=Tryz.isAgg3
 z3:=Tryz.sizeOf3
 v3:=Tryz.zeroValue3
 t4:=Tryz.underlying4
 a4:=Tryz.isAgg4
 z4:=Tryz.sizeOf4
 v4:=Tryz.zeroValue4
 t5:=Tryz.underlying5
 a5:=Tryz.isAgg5
 z5:=Tryz.sizeOf5
 v5:=Tryz.zeroValue5
 t9:=Tryz.underlying9
 a9:=Tryz.isAgg9
 z9:=Tryz.sizeOf9
 v9:=Tryz.zeroValue9
 t20:=Tryz.underlying20
 a20:=Tryz.isAgg20
 z20:=Tryz.sizeOf20
 v20:=Tryz.zeroValue20
 t21:=Tryz.underlying21
 a21:=Tryz.isAgg21
 z21:=Tryz.sizeOf21
 v21:=Tryz.zeroValue21
 t37:=Tryz.underlying99
 a37:=Tryz.isAgg99
 z37:=Tryz.sizeOf99
 v37:=Tryz.zeroValue99
 t46:=Tryz.underlying269
 a46:=Tryz.isAgg269
 z46:=Tryz.sizeOf269
 v46:=Tryz.zeroValue269
 t51:=Tryz.underlying271
 a51:=Tryz.isAgg271
 z51:=Tryz.sizeOf271
 v51:=Tryz.zeroValue271
 t70:=Tryz.underlying98
 a70:=Tryz.isAgg98
 z70:=Tryz.sizeOf98
 v70:=Tryz.zeroValue98
 t72:=Tryz.underlying101
 a72:=Tryz.isAgg101
 z72:=Tryz.sizeOf101
 v72:=Tryz.zeroValue101
 t75:=Tryz.underlying105
 a75:=Tryz.isAgg105
 z75:=Tryz.sizeOf105
 v75:=Tryz.zeroValue105
 t76:=Tryz.underlying107
 a76:=Tryz.isAgg107
 z76:=Tryz.sizeOf107
 v76:=Tryz.zeroValue107
 t105:=Tryz.underlying224
 a105:=Tryz.isAgg224
 z105:=Tryz.sizeOf224
 v105:=Tryz.zeroValue224
 t119:=Tryz.underlying318
 a119:=Tryz.isAgg318
 z119:=Tryz.sizeOf318
 t127:=Tryz.underlying170
 a127:=Tryz.isAgg170
 z127:=Tryz.sizeOf170
 v127:=Tryz.zeroValue170
 t138:=Tryz.underlying320
 a138:=Tryz.isAgg320
 z138:=Tryz.sizeOf320
 v138:=Tryz.zeroValue320
 t139:=Tryz.underlying321
 a139:=Tryz.isAgg321
 z139:=Tryz.sizeOf321
 v139:=Tryz.zeroValue321
 t146:=Tryz.underlying315
 a146:=Tryz.isAgg315
 z146:=Tryz.sizeOf315
 v146:=Tryz.zeroValue315
 t164:=Tryz.underlying230
 a164:=Tryz.isAgg230
 z164:=Tryz.sizeOf230
 v164:=Tryz.zeroValue230
 g1:=ca
 g3:=ca
 g4:=by kernel_rfl}
def Tryz.iX:Builder.Extra Tryz.prog Tryz.sS:={
 sizeBuilder:=ca
 liesBuilder:=ca
 t5:=Tryz.underlying5
 a5:=Tryz.isAgg5
 z5:=Tryz.sizeOf5
 v5:=Tryz.zeroValue5
 infoByte:=ca
 cellsByte:=ca
 sizeByte:=ca
 neB5:=by decide}
open Go.RowKit Go.Lib in
theorem Tryz.strings_ReplaceAll(s old a:ByteArray)(m:Int)(w:World)(hs:s.size<4294967281)(d:w.cell? ⟨0,0,none⟩=some (.int .i64 m))(c:1<=old.size)(b:s.size+Lib.countB s old* a.size<=140737488355328):
 Calls Tryz.prog 42 #[.string s,.string old,.string a] w fun e w'=>
  e=.returned (.string ⟨(Lib.replaceAll s.data.toList old.data.toList a.data.toList).toArray⟩)/\Below w.heap.size w w':=Any.strings_ReplaceAll Tryz.T9 Tryz.iX s old a m w hs d c b
end Go.Proofs
namespace ya
instance ziF{p:UInt8->Prop}[DecidablePred p]:Decidable (∀c,p c):=
 decidable_of_iff (∀i:Fin 256,p ⟨⟨i⟩⟩) ⟨fun h c=>h c.toBitVec.toFin,fun h i=>h _⟩
def Zg(v:Value)(w:World)(e:Ending)(w':World):Prop:=e=.returned v/\Below w.heap.size w w'
def Yf(v:Value)(w:World)(e:Ending)(w':World):Prop:=e=.returned v/\w=w'
def r1{v a}(h:v=a):Ending.returned v=.returned a:=by rw[h]
def t2{a b c d}(h:a=b)(e:c=d):Ending.returned (.tuple #[a,c])=.returned (.tuple #[b,d]):=by rw[h,e]
def t3{a b c d e f}(h:a=b)(i:c=d)(g:e=f):Ending.returned (.tuple #[a,c,e])=.returned (.tuple #[b,d,f]):=by rw[h,i,g]
def vi{k}{a b}(h:a=b):Value.int k a=.int k b:=by rw[h]
def vb{a b}(h:a=b):Value.bool a=.bool b:=by rw[h]
theorem vs{a b:List UInt8}(h:a=b):Value.string ⟨a.toArray⟩=.string ⟨b.toArray⟩:=by rw[h]
def vS{s}{b}(h:s.data.toList=b):Value.string s=.string ⟨b.toArray⟩:=by
 subst h;rfl
def zdw{P}{f}{args}{w}{d}{os}{v}(h:∀w,Calls P f args w (Zg v w)):
 Calls P f args (Go.Sort.grow (redrawn w d) os) fun e a=>e=.returned v/\∃p:Regrown,a=Go.Sort.grow (redrawn w p.d) p.os:=Calls.regrown_of (h _)
def mV{P}{f}{args}{w:World}{n}{v}(h:∀w,Calls P f args w (Yf v w)):
 Calls P f args (w.drewN n) fun e a=>e=.returned v/\∃m,a=w.drewN m:=Calls.quiet_of_same ((h _).mono fun _ _ ⟨b,c⟩=>⟨b,c.symm⟩)
def Bs(w)(n):Below w.heap.size w (w.drewN n):=⟨rfl,rfl,rfl,Aa _,fun _ _=>rfl⟩
def gy{w a b}(h:Below w.heap.size w a)(k:Below a.heap.size a b):Below w.heap.size w b:=h.trans (k.mono h.size)
theorem N1{P}{a dst e}(hs:P.underlying a=some (.slice e))(d:P.underlying e=some (.int .u8))(c:P.underlying dst=some .string)(w:World)(x y):
 (convert a dst (.slice (some ⟨w.heap.size,0,none⟩) 2 2)).run P (w.alloc (.cells #[.int .u8 x.toNat,.int .u8 y.toNat] e)).drew=.ok (.string ⟨#[x,y]⟩) (w.alloc (.cells #[.int .u8 x.toNat,.int .u8 y.toNat] e)).drew:=
 run_convert_bytes_back _ a dst e ⟨w.heap.size,0,none⟩ 2 [x,y] hs d c (by
  intro j b
  match j,b with
  |0,b=>simp[Addr.add]
  |1,b=>simp[Addr.add])
def Qi{P}{ops}{rest}{o}{a}{Q}(A:o.guard=none)(s x)(t)
 (O:o.op=.call {callee:=.builtin .append,args:=#[s,x],argTypes:=#[t,t]})
 (e) (z) (size bytes) (ht:P.underlying t=some (.slice e)) (N:(P.info? e).map (fun i=>(i.zero,i.size,i.bytes))=some (some z,size,bytes))
 (I:z.cells.size=size) (l:0<size) (B) (w) (v) (n) (xs) (hs:a.eval s=v) (d:w.ownsRow B e size v n xs)
 (cells) (M:cells.length=size) (K:∀u∈cells,u.oneCell'=true) (R:a.eval x=.slice (some ⟨w.heap.size,0,none⟩) 1 1)
 (p:(n+1)* bytes<=140737488355328) (U:n+1<=140737488355328) (L:B<=w.heap.size)
 (h:∀g c w',B<=g->w'.ownsRow B e size (.slice (some ⟨g,0,none⟩) (n+1) c) (n+1) (xs++cells)->w.grownBy w' v.ownBlock->Below B w w'->w.heap.size<w'.heap.size->
   wpList P ops Q rest (a.put o.dst (.slice (some ⟨g,0,none⟩) (n+1) c)) w'):
 wpList P ops Q (o::rest) a (w.alloc (.cells cells.toArray e)):=by
 obtain⟨S,C,F,G,H⟩:=info_parts N;refine wpList_append_own _ A s x t O B e S z size bytes ht C F G H I l v n xs hs (d.alloc _) ⟨w.heap.size,0,none⟩ 1 1 cells R aa ?_ K (by unfold maxLen;omega) p La ?_
 ·intro j u q
  have:(w.alloc (.cells cells.toArray e)).heap[w.heap.size]?=some (.cells cells.toArray e (0,0)):=heap_alloc_new w _;have b:(⟨w.heap.size,0,none⟩:Addr).add j=⟨w.heap.size,j,none⟩:=by unfold Addr.add;split<;>simp_all
  rw[b,cell_of_row _ _ _ _ _ _ this];simpa using q
 ·intro V w' b j _
  have q:=(((Below.refl B w).alloc L _).grown j La (fun k D=>(d.lt k D).1));have l:=j.size;simp at l;rcases b.2 with⟨_,T⟩|⟨g,c,J,rfl,y,r⟩
  ·omega
  ·exact h g c w' y b ⟨j.os,j.tape,j.output,aa,fun k D E=>(j.block k La E).trans (Lib.alloc_old w _ k D)⟩ q aa
def L1{P}{a dst e}(hs:P.underlying a=some (.slice e))(d:P.underlying e=some (.int .u8))(c:P.underlying dst=some .string){w}{B}{v}{l}
 (h:w.ownsRow B e 1 v l.length (Lib.byteCells l)):(convert a dst v).run P w=.ok (.string ⟨l.toArray⟩) w:=by
 rcases h.2 with⟨rfl,k⟩|⟨g,b,i,rfl,r⟩
 ·have:l=[]:=by simpa using k
  subst this;exact run_convert_bytes_nil (w:=w) a e hs d 0 0 dst c
 ·refine run_convert_bytes_back _ a dst e ⟨g,0,none⟩ b l hs d c fun j n=>?_
  exact h.cells (g:=g) rfl j _ (by simp[Lib.byteCells,n])
def Hk(B:Nat)(e:TypeId)(v:Value)(l:List UInt8)(w:World):Prop:=w.ownsRow B e 1 v l.length (Lib.byteCells l)
def Hk.nil(B)(e)(w):Hk B e (.slice none 0 0) [] w:=zB _ _ _ _
theorem Hk.kept{B}{e}{v}{l}{w w'}(h:Hk B e v l w)(k:Below w.heap.size w w'):Hk B e v l w':=
 World.ownsRow.kept (row:=none) h ⟨k.os,k.tape,k.output,k.size,fun i a _=>k.block i a⟩ (by cases v.ownBlock<;>simp)
def Hk.made{B}{e}(w:World)(b:B<=w.heap.size)(a)(cs)(d:cs.size=a)(c:a<=maxLen):Hk B e (.slice (some ⟨w.heap.size,0,none⟩) 0 a) [] (w.alloc (.cells cs e)):=
 World.ownsRow_made w cs a b c aa
def zY(l)(c):Lib.byteCells (l++[c])=Lib.byteCells l++[.int .u8 c.toNat]:=by simp[Lib.byteCells]
def xw{P}{ops}{rest}{o}{a}{Q}(j:o.guard=none)(s x)(t)
 (A:o.op=.call {callee:=.builtin .append,args:=#[s,x],argTypes:=#[t,t]})
 (e) (ht:P.underlying t=some (.slice e)) (z:(P.info? e).map (fun i=>(i.zero,i.size,i.bytes))=some (some (.int .u8 0),1,1))
 (B) (w) (v) (l) (hs:a.eval s=v) (d:Hk B e v l w) (c)
 (C:a.eval x=.slice (some ⟨w.heap.size,0,none⟩) 1 1) (k:l.length+1<=140737488355328) (y:B<=w.heap.size)
 (h:∀g b w',B<=g->Hk B e (.slice (some ⟨g,0,none⟩) (l.length+1) b) (l++[c]) w'->w.grownBy w' v.ownBlock->Below B w w'->w.heap.size<w'.heap.size->
   wpList P ops Q rest (a.put o.dst (.slice (some ⟨g,0,none⟩) (l.length+1) b)) w'):
 wpList P ops Q (o::rest) a (w.alloc (.cells #[.int .u8 c.toNat] e)):=
 Qi j s x t A e (.int .u8 0) 1 1 ht z rfl ha B w v _ _ hs d [.int .u8 c.toNat] rfl (by simp[Value.oneCell']) C aa aa y
  fun g b w' n p q r u=>h g b w' n (by unfold Hk;rw[zY,Da];exact p) q r u
end ya
namespace Go.Proofs.YtglaihdcndcmkaaGreatDoor
def GV:(Tryz.prog.info? 101).map (·.size)=some 2:=ca
def ck:liesAt Tryz.prog Tryz.prog.depth 101 (2/Tryz.prog.cellsOf 101) 0 101 1=true:=ca
def infoByte:(Tryz.prog.info? 5).map (fun i=>(i.zero,i.size,i.bytes))=some (some (.int .u8 0),1,1):=ca
set_option maxRecDepth 100000 in
def P1(b)(w)(c:w.cell? ⟨b,0,none⟩=some (.pointer (some ⟨b,0,none⟩))):
 Calls Tryz.prog 93 #[.pointer (some ⟨b,0,none⟩)] w fun e w'=>e=.returned (.tuple #[])/\w'=w:=by
 obtain⟨j,a,_⟩:=qm GV
 go_enter Tryz.func93,Tryz.ntmps93
 go_wp2;rw[Lib.run_neq_ptr_same w _ Tryz.underlying98 a];go_wp2
 go_end0
 simp
set_option maxRecDepth 100000 in
def O1(b)(w)(i:w.cell? ⟨b,0,none⟩=some (.pointer none))(a:w.shape? b=some (101,2))(h:w.frozen? ⟨b,0,none⟩=false):
 Calls Tryz.prog 93 #[.pointer (some ⟨b,0,none⟩)] w fun e w'=>e=.returned (.tuple #[])/\w'=w.setCell ⟨b,0,none⟩ (.pointer (some ⟨b,0,none⟩)):=by
 obtain⟨j,d,c⟩:=qm GV;have g:(w.setCell ⟨b,0,none⟩ (.pointer (some ⟨b,0,none⟩))).cell? ⟨b,0,none⟩=some (.pointer (some ⟨b,0,none⟩)):=World.cell?_setCell_same' _ _ _ la
 go_enter Tryz.func93,Tryz.ntmps93
 go_wp2;rw[Lib.run_to_unsafe w ⟨b,0,none⟩ Tryz.underlying98 Tryz.underlying230 d (by rw[c];decide) a (Nat.zero_lt_succ 1)];simp only[Result.andThen];rw[lu];go_wp2;rw[run_callFunc_extern Tryz.func156 ca ca ca (e:=Extern.AbiNoEscape.same) ca];rw[Lib.run_noEscape];simp only[Result.andThen];rw[lu];go_wp2;rw[Lib.run_from_unsafe w ⟨b,0,none⟩ Tryz.underlying230 Tryz.underlying98 d a ck];simp only[Result.andThen];rw[lu];go_wp2
 go_end0
 simp
def fP(B b)(a)(w)(h:Lib.IsBuilderF 101 5 B b a w):
 Calls Tryz.prog 93 #[.pointer (some ⟨b,0,none⟩)] w fun e w'=>e=.returned (.tuple #[])/\(Lib.BuilderAtF 101 5 B b (.pointer (some ⟨b,0,none⟩)) a w'/\Below B w w'/\Lib.OthersKept 5 (some b) w w'):=by
 rcases h with h|h
 ·refine(O1 b w h.cell0 h.shape h.frozen0).mono ?_
  rintro e w' ⟨rfl,rfl⟩;exact⟨rfl,h.used _,(Below.refl B w).setCell (p:=⟨b,0,none⟩) h.1 _,(Lib.OthersKept.refl _ _ w).setCell ⟨b,0,none⟩ rfl _⟩
 ·refine(P1 b w h.cell0).mono ?_
  grind [Below.refl,Lib.OthersKept.refl]
set_option maxRecDepth 100000 in
theorem zim(B b)(r)(c)(w)(h:Lib.IsBuilderF 101 5 B b r w)(G:r.length+1<=140737488355328)(I:B<=w.heap.size):
 Calls Tryz.prog 44 #[.pointer (some ⟨b,0,none⟩),.int .u8 c] w fun e w'=>e=.returned .nilIface/\(Lib.IsBuilderF 101 5 B b (r++[.int .u8 c]) w'/\Below B w w'/\Lib.OthersKept 5 (some b) w w'):=by
 obtain⟨K,J,A,C,D⟩:=info_parts infoByte
 go_enter Tryz.func44,Tryz.ntmps44
 go_wp2_with(go_at_call 93;refine(fP B b r _ h).mono ?_)
 rintro e t ⟨rfl,H,o,y⟩;obtain⟨F,v,q,d,z⟩:=H;have M:t.cell? ⟨b,0,none⟩=some (.pointer (some ⟨b,0,none⟩)):=by rw[Lib.cell_of_heap q];rfl
 have c1:t.cell? ⟨b,1,none⟩=some v:=by rw[Lib.cell_of_heap q];rfl
 go_wp2_with(at_builtin;refine wpList_append_ownF _ rfl _ _ 99 rfl B 5 K (.int .u8 0) 1 1 Tryz.underlying99 J A C D rfl ha _ _ _ rfl (d.alloc _) ⟨t.heap.size,0,none⟩ 1 1 [.int .u8 c] rfl rfl ?c1 ?c2 ?c3 ?c4 ?c5 ?_)
 case c1=>
  intro j u x
  match j,x with
  |0,x=>simp at x;subst x;simp[Addr.add]
 case c2=>intro u j;simp at j;subst j;rfl
 case c3=>grind [maxLen]
 case c4=>omega
 case c5=>have:=o.size;simp;omega
 intro L E i a _;have fa:b<t.heap.size:=by
  rcases Oh b t.heap.size with j|j
  ·exact j
  ·grind
 have l:E.heap[b]?=some (.cells #[.pointer (some ⟨b,0,none⟩),v] 101 (0,0)):=by
  rw[a.block b La (fun e=>z e.symm),Lib.alloc_old t _ b fa];exact q
 have N:E.cell? ⟨b,0,none⟩=some (.pointer (some ⟨b,0,none⟩)):=by rw[Lib.cell_of_heap l];rfl
 have O:E.cell? ⟨b,1,none⟩=some v:=by rw[Lib.cell_of_heap l];rfl
 have P:=Lib.frozen_of_heap l 1;obtain⟨g,n,rfl⟩:∃g n,L=.slice (some ⟨g,0,none⟩) (r.length+1) n:=by
  rcases i.2 with⟨_,Q⟩|⟨g,n,j,x,R,_⟩<;>grind
 go_wp2;go_ret;refine⟨rfl,.inr ?_,?_,((y.alloc _).grown a (Lib.ownsRowF_kind (d.alloc _))).setCell ⟨b,1,none⟩ rfl _⟩
 ·exact Lib.BuilderAtF.put (T:=101) (e:=5) F l (bs':=r++[.int .u8 c]) (by simpa using i) ha
 ·exact((o.alloc aa _).grown a (by have:=o.size;simp;omega) (fun k j=>(d.lt k j).1)).setCell (p:=⟨b,1,none⟩) F _
set_option maxRecDepth 100000 in
def writeString(B b)(n)(s)(w)(h:Lib.IsBuilderF 101 5 B b n w)(E:n.length+s.size<=140737488355328)(H:B<=w.heap.size):
 Calls Tryz.prog 45 #[.pointer (some ⟨b,0,none⟩),.string s] w fun e w'=>e=.returned (.tuple #[.int .i64 s.size,.nilIface])/\(Lib.IsBuilderF 101 5 B b (n++Lib.strCells s) w'/\Below B w w'/\Lib.OthersKept 5 (some b) w w'):=by
 obtain⟨K,I,u,x,y⟩:=info_parts infoByte
 go_enter Tryz.func45,Tryz.ntmps45
 go_wp2_with(go_at_call 93;refine(fP B b n _ h).mono ?_)
 rintro e o ⟨rfl,G,q,r⟩;obtain⟨D,v,l,c,t⟩:=G;have M:o.cell? ⟨b,0,none⟩=some (.pointer (some ⟨b,0,none⟩)):=by rw[Lib.cell_of_heap l];rfl
 have c1:o.cell? ⟨b,1,none⟩=some v:=by rw[Lib.cell_of_heap l];rfl
 go_wp2_with(at_builtin;refine Lib.wpList_append_own_stringF _ rfl _ _ 99 9 rfl B 5 K Tryz.underlying99 Tryz.underlying9 I u x y _ _ _ rfl c s rfl ?c3 ?c4 ?c5 ?_)
 case c3=>grind [maxLen]
 case c4=>omega
 case c5=>grind
 intro L z d a _;have fa:b<o.heap.size:=by
  rcases Oh b o.heap.size with C|C
  ·exact C
  ·grind
 have i:z.heap[b]?=some (.cells #[.pointer (some ⟨b,0,none⟩),v] 101 (0,0)):=by
  rw[a.block b fa (fun e=>t e.symm)];exact l
 have N:z.cell? ⟨b,0,none⟩=some (.pointer (some ⟨b,0,none⟩)):=by rw[Lib.cell_of_heap i];rfl
 have O:z.cell? ⟨b,1,none⟩=some v:=by rw[Lib.cell_of_heap i];rfl
 have P:=Lib.frozen_of_heap i 1;obtain⟨A,F,j,rfl⟩:∃A F j,L=.slice A F j:=by
  rcases d.2 with⟨J,_⟩|⟨g,j,C,Q,J,_⟩<;>grind
 go_wp2
 go_ret2
 refine⟨rfl,.inr ?_,?_,(r.grown a (Lib.ownsRowF_kind c)).setCell ⟨b,1,none⟩ rfl _⟩
 ·exact Lib.BuilderAtF.put (T:=101) (e:=5) D i (bs':=n++Lib.strCells s) (by simpa[Lib.strCells_length]using d) ha
 ·exact(q.grown a aa (fun k C=>(c.lt k C).1)).setCell (p:=⟨b,1,none⟩) D _
def Bd(B b:Nat)(l:List UInt8)(w:World):Prop:=Lib.IsBuilderF 101 5 B b (Lib.byteCells l) w
def Bd.fresh(w:World):Bd w.heap.size w.heap.size [] (w.alloc (.cells #[.pointer none,.slice none 0 0] 101)):=Lib.IsBuilderF.of (Lib.fresh_isBuilder _ _ w)
theorem Bd.drew{B b}{l}{w}(h:Bd B b l w):Bd B b l w.drew:=h
theorem Bd.alloc{B b}{l}{w}(h:Bd B b l w)(o):Bd B b l (w.alloc o):=by
 rcases h with h|h
 ·exact .inl (h.alloc o)
 ·exact .inr (h.alloc o)
theorem Bd.lt{B b}{l}{w}(h:Bd B b l w):B<=b/\b<w.heap.size:=by
 rcases h with h|h
 ·exact⟨h.1,h.lt⟩
 ·exact⟨h.1,h.lt⟩
theorem Bd.kept{B b}{l}{w w'}(h:Bd B b l w)(k:Below w.heap.size w w'):Bd B b l w':=by
 have d:∀p,Lib.BuilderAtF 101 5 B b p (Lib.byteCells l) w->Lib.BuilderAtF 101 5 B b p (Lib.byteCells l) w':=by
  rintro p h;have fa:=h.lt;obtain⟨e,v,g,a,c⟩:=h;exact⟨e,v,(k.block b fa).trans g,a.kept (row:=none) ⟨k.os,k.tape,k.output,k.size,fun i j _=>k.block i j⟩ la,c⟩
 rcases h with h|h
 ·exact .inl (d _ h)
 ·exact .inr (d _ h)
def As(B b)(l)(c)(w)(h:Bd B b l w)(a:l.length+1<=140737488355328):
 Calls Tryz.prog 44 #[.pointer (some ⟨b,0,none⟩),.int .u8 c.toNat] w fun e w'=>e=.returned .nilIface/\Bd B b (l++[c]) w'/\Below B w w'/\Lib.OthersKept 5 (some b) w w':=by
 have i:=h.lt;refine(zim B b _ c.toNat w h (by grind [Lib.byteCells_length]) aa).mono ?_;rintro e w' ⟨rfl,d,g⟩;exact⟨rfl,by unfold Bd;rw[Lib.byteCells_append];exact d,g⟩
def Hu(B b)(l)(s)(w)(h:Bd B b l w)(a:l.length+s.size<=140737488355328):
 Calls Tryz.prog 45 #[.pointer (some ⟨b,0,none⟩),.string s] w fun e w'=>e=.returned (.tuple #[.int .i64 s.size,.nilIface])/\Bd B b (l++s.data.toList) w'/\Below B w w'/\Lib.OthersKept 5 (some b) w w':=by
 have c:=h.lt;refine(writeString B b _ s w h (by grind [Lib.byteCells_length]) aa).mono ?_
 grind [Bd,Lib.byteCells_append,Lib.strCells_eq]
def ZC(B b)(l)(w)(h:Bd B b l w):
 Calls Tryz.prog 46 #[.pointer (some ⟨b,0,none⟩)] w fun e w'=>e=.returned (.string ⟨l.toArray⟩)/\Bd B b l w'/\Below B w w'/\Lib.OthersKept 5 (some b) w w':=
 Tryz.Builder_String_any_k B b l w h (by have:=h.lt;omega)
end Go.Proofs.YtglaihdcndcmkaaGreatDoor
namespace ya
def ext1(s:ByteArray)(k)(h):(s.extract k (k+1)).data.toList=[s[k]]:=by
 have a:=h;rw[Lib.extract_data,Qd a,yi];rfl
theorem K1{P}{a dst e}(hs:P.underlying a=some (.slice e))(d:P.underlying e=some (.int .u8))(c:P.underlying dst=some .string)(w:World)(x):
 (convert a dst (.slice (some ⟨w.heap.size,0,none⟩) 1 1)).run P (w.alloc (.cells #[.int .u8 x.toNat] e))=.ok (.string ⟨#[x]⟩) (w.alloc (.cells #[.int .u8 x.toNat] e)):=
 run_convert_bytes_back _ a dst e ⟨w.heap.size,0,none⟩ 1 [x] hs d c (by
  intro j b
  match j,b with
  |0,b=>simp[Addr.add])
def an(l:List UInt8):(ByteArray.mk l.toArray).size=l.length:=rfl
end ya
section
set_option synthInstance.maxSize 4000
namespace ya
def fv:List UInt8:=[65,66,67,68,69,70,71,72,73,74,75,76,77,78,79,80,81,82,83,84,85,86,87,88,89,90,97,98,99,100,101,102,103,104,105,106,107,108,109,110,111,112,113,114,115,116,117,118,119,120,121,122,48,49,50,51,52,53,54,55,56,57,43,47]
def mc(n:Nat):UInt8:=fv.getD n 0
def Mh(c:UInt8):Option Nat:=if 65<=c/\c<=90 then some (c.toNat - 65)else if 97<=c/\c<=122 then some (c.toNat - 71)else if 48<=c/\c<=57 then some (c.toNat+4)else if c=43 then some 62 else if c=47 then some 63 else none
def sk(i:Nat):List UInt8:=(fv.drop (16* i)).take 16
def xm(w:Go.World):Prop:=∀i,i<4->w.cell? ⟨3,i,none⟩=some (.string ⟨(sk i).toArray⟩)
theorem xm.lt{w}(h:xm w):3<w.heap.size:=Go.World.block_lt_of_cell? w _ (h 0 ha)
def xm.kept{w w'}(h:xm w)(a:Go.RowKit.Below w.heap.size w w'):xm w':=fun i b=>(a.cell (p:=⟨3,i,none⟩) h.lt).trans (h i b)
def z2:∀i:Fin 4,∀j:Fin 16,(sk i.1)[j.1]?=some (mc (16* i.1+j.1)):=Hb
end ya
namespace Go.Proofs.YtglaihdcndcmkaaGreatDoor
def EX(x:Nat)(h:x<4294967296):bits .and .u32 (x:Int) 3=((x % 4:Nat):Int):=by
 rw[show(3:Int)=((3:Nat):Int)from rfl,u32_and_nat x 3 h ha,ku x 2]
def DX(x:Nat)(h:x<4294967296):bits .and .u32 (x:Int) 15=((x % 16:Nat):Int):=by
 rw[show(15:Int)=((15:Nat):Int)from rfl,u32_and_nat x 15 h ha,ku x 4]
def B2(n:Nat)(e:n<64)(w)(c:xm w):Calls Tryz.prog 276 #[.int .u32 n] w (Yf (.int .u8 (mc n).toNat) w):=by
 have l:=c (n/16) aa;have hr:=z2 ⟨n/16,aa⟩ ⟨n % 16,aa⟩;simp only[show 16* (n/16)+n % 16=n from Nat.div_add_mod n 16]at hr;have e1:bits .and .u32 ((n:Int)/16) 3=((n/16:Nat):Int):=by
  rw[show(n:Int)/16=((n/16:Nat):Int) by omega,EX _ aa];omega
 have e2:=DX n aa;generalize g:n/16=x at*;generalize a:n % 16=y at*;have h:(x:Int)<4:=aa
 have j:(y:Int)<16:=aa
 have b:(sk x).length=16:=by
  have:∀i:Fin 4,(sk i.1).length=16:=ha
  exact this ⟨x,aa⟩
 have k:=b;have H:=Lib.hid hr;clear hr g a e;have a:y<16:=aa
 go_enter Tryz.func276,Tryz.ntmps276
 go_wp2;go_ret;refine⟨r1 (vi ?_),rfl⟩;obtain⟨_,d⟩:=qg H.out;rw[<-d];rfl
def zii(c)(w):Calls Tryz.prog 223 #[.int .u8 c.toNat] w (Yf (.tuple #[.int .u32 ((Mh c).getD 0),.bool (Mh c).isSome]) w):=by
 go_enter Tryz.func223,Tryz.ntmps223
 go_wp2
 all_goals (go_ret2;refine⟨t2 (vi ?_) (vb ?_),rfl⟩)
 all_goals (go_light;revert c;decide+kernel)
end Go.Proofs.YtglaihdcndcmkaaGreatDoor
end
section
set_option synthInstance.maxSize 4000
namespace ya
def num(l:List UInt8):Nat->Nat
 |0=>0
 |i+1=>num l i* 256+((l[i]?).getD 0).toNat
def ae(l:List UInt8):List UInt8:=[mc (num l 3/262144 % 64),mc (num l 3/4096 % 64),if l.length<2 then 61 else mc (num l 3/64 % 64),if l.length<3 then 61 else mc (num l 3 % 64)]
def Ra:List UInt8->List UInt8
 |[]=>[]
 |[a]=>ae [a]
 |[a,b]=>ae [a,b]
 |a::b::c::l=>ae [a,b,c]++Ra l
def HT(l)(i):num l i<256^i:=by
 induction i with
 |zero=>simp[num]
 |succ i a=>
  have:=((l[i]?).getD 0).toNat_lt
  grind [num]
def zay(l)(i)(h:i<=3):num l i<16777216:=Ug (HT l i) (Yr (n:=256) ha h)
def IT(l)(i)(h:i<3):num l i<65536:=Ug (HT l i) (Yr (n:=256) ha (Nat.le_of_lt_succ h))
def zaz(l)(i)(h:i<3)(c)(a:l[i]?=some c):Go.bits .or .u32 ((num l i:Int)* 256) c.toNat=num l (i+1):=by
 have b:=IT l i h;have d:=c.toNat_lt;have e:(num l i:Int)* 256=((num l i* 256:Nat):Int):=aa
 rw[e,Go.u32_or_nat _ _ aa aa,Go.nat_join 8 _ _ aa aa,num,a];rfl
def zaA(l)(i)(a:l[i]?=none):(num l (i+1):Int)=num l i* 256:=by rw[num,a];simp
def VP(l)(h:l≠[]):Ra l=ae l++Ra (l.drop 3):=by
 match l,h with
 |[a],_=>rfl
 |[a,b],_=>rfl
 |a::b::c::l,_=>
  rfl
end ya
namespace Go.Proofs.YtglaihdcndcmkaaGreatDoor
def Am(x:Nat)(h:x<4294967296):bits .and .u32 (x:Int) 63=((x % 64:Nat):Int):=by
 rw[show(63:Int)=((63:Nat):Int)from rfl,u32_and_nat x 63 h ha,ku x 6]
def Ly(m:Int)(n:Nat)(h:m=n)(b:n<64)(w)(a:xm w):Calls Tryz.prog 276 #[.int .u32 m] w (Yf (.int .u8 (mc n).toNat) w):=h▸B2 n b w a
def kW(s:List UInt8)(k)(h):s.take (k+1)=s.take k++[s[k]]:=by
 simp
def q3(s)(w)(O:xm w)(hs:s.size<=1000000):Calls Tryz.prog 232 #[.string s] w (Zg (.string ⟨(Ra s.data.toList).toArray⟩) w):=by
 have d:s.data.toList.length=s.size:=rfl;have E:=Lib.hid d;clear d
 go_enter Tryz.func232,Tryz.ntmps232
 go_wp2
 go_loopw [0] (fun b wr=>∃(k:Nat)(t:ByteArray)(p:List UInt8),k<=s.size/\b=.string t/\t.size+k=s.size/\Bd w.heap.size w.heap.size p wr/\p.length<=4* k/\Below w.heap.size w wr/\Hid (t.data.toList=s.data.toList.drop k)/\Hid (Ra s.data.toList=p++Ra (s.data.toList.drop k)))
  (fun b _=>match b with| .string t=>t.size|_=>0)
 case atStart=>exact⟨0,s,[],Ab _,rfl,rfl,Bd.fresh w,ea,(Below.refl _ _).alloc (Aa _) _,Lib.hid rfl,Lib.hid rfl⟩
 case round=>
  obtain⟨k,t,p,hkZ,rfl,ht,o,X,a,y,u⟩:=hrel;have q:=O.kept a;by_cases fa:0<t.size
  ·go_wp2
   have L:min 3 ((t.size:Nat):Int)=((min 3 t.size:Nat):Int):=aa
   have T:1<=min 3 t.size:=aa
   have U:min 3 t.size<=3:=aa
   have V:min 3 t.size<=t.size:=aa
   have C:Hid (min 3 t.size=min 3 t.data.toList.length):=Lib.hid rfl;have G:min 3 t.size=3\/min 3 t.size=t.size:=aa
   rw[L];clear L;generalize min 3 t.size=K at*
   go_loopw [5,14] (fun n i bj=>∃j:Nat,j<=3/\i=.int .i64 j/\n=.int .u32 (num t.data.toList j)/\bj=wr) (fun _ i _=>3 - (intOf i).toNat)
   case atStart=>exact⟨0,aa,rfl,rfl,rfl⟩
   case round=>
    obtain⟨j,Y,rfl,rfl,rfl⟩:=hrel;by_cases D:j<3
    ·have B:=IT t.data.toList j D
     by_cases A:j<K
     ·have r:=zaz t.data.toList j D (t[j]' aa) (qe (l:=t.data.toList) (by show j<t.size;omega))
      have v:=Lib.hid r;clear r;have x:=(t[j]' aa).toNat_lt;go_wp2;go_roundw
      case rel=>exact⟨j+1,aa,by go_num,vi (by first|exact v.out|(rw[<-v.out];congr 1;omega)),trivial⟩
      case measure=>simp[intOf];omega
     ·have r:=zaA t.data.toList j (Qf (by show t.size<=j;omega))
      have v:=Lib.hid r;clear r;go_wp2;go_roundw
      case rel=>exact⟨j+1,aa,by go_num,vi (by first|exact v.out.symm|(rw[v.out];omega)),trivial⟩
      case measure=>simp[intOf];omega
    ·obtain rfl:j=3:=aa
     obtain⟨A,B,v,x,P,J,e1,e2,e3⟩:∃A B v x,ae t.data.toList=[A,B,v,x]/\A=mc (num t.data.toList 3/262144 % 64)/\B=mc (num t.data.toList 3/4096 % 64)/\v=(if K<2 then 61 else mc (num t.data.toList 3/64 % 64))/\x=(if K<3 then 61 else mc (num t.data.toList 3 % 64)):=by
      refine⟨_,_,_,_,rfl,rfl,rfl,?_,?_⟩
      ·have:=C.out;split<;>split<;>first|rfl|omega
      ·have:=C.out;split<;>split<;>first|rfl|omega
     have S:=Lib.hid P;clear P;generalize M:num t.data.toList 3=N at*;have W:=M▸zay _ _ (Aa _);clear M;have Q:=Lib.hid J;have R:=Lib.hid e1;have H:=Lib.hid e2;have I:=Lib.hid e3;clear J e1 e2 e3;go_wp2;rw[show((3:Nat):Int)=3 from rfl]
     go_loopw [29] (fun i bj=>∃j:Nat,j<=4/\i=.int .i64 j/\Bd w.heap.size w.heap.size (p++[A,B,v,x].take j) bj/\Below w.heap.size w bj) (fun i _=>4 - (intOf i).toNat)
     case atStart=>exact⟨0,aa,rfl,by simpa using o,a⟩
     case round=>
      clear o a q;obtain⟨j,Y,rfl,o,a⟩:=hrel;have q:=O.kept a;by_cases Z:j<4
      ·have d:(p++[A,B,v,x].take j).length+1<=140737488355328:=La
       obtain rfl|rfl|rfl|rfl:j=0\/j=1\/j=2\/j=3:=aa
       ·have F:bits .and .u32 ((N:Int)/262144) 63=((N/262144 % 64:Nat):Int):=Am (N/262144) aa
        obtain rfl:=Q.out
        go_wp2_with(first|(go_at_call 276;refine(Ly _ (N/262144 % 64) aa aa _ q).mono ?_;rintro e w' ⟨rfl,rfl⟩)|(go_at_call 44;refine(As _ _ _ _ _ o d).mono ?_;rintro e z ⟨rfl,c,g,_⟩))
        go_roundw
        case rel=>exact⟨1,aa,by go_num,by simpa using c,a.trans g⟩
        case measure=>simp[intOf]
       ·have F:bits .and .u32 ((N:Int)/4096) 63=((N/4096 % 64:Nat):Int):=Am (N/4096) aa
        obtain rfl:=R.out
        go_wp2_with(first|(go_at_call 276;refine(Ly _ (N/4096 % 64) aa aa _ q).mono ?_;rintro e w' ⟨rfl,rfl⟩)|(go_at_call 44;refine(As _ _ _ _ _ o d).mono ?_;rintro e z ⟨rfl,c,g,_⟩))
        go_roundw
        case rel=>exact⟨2,aa,by go_num,by simpa using c,a.trans g⟩
        case measure=>simp[intOf]
       ·have F:bits .and .u32 ((N:Int)/64) 63=((N/64 % 64:Nat):Int):=Am (N/64) aa
        by_cases r:K<2
        ·obtain rfl:v=61:=by rw[H.out,if_pos r]
         go_wp2_with(first|(go_at_call 44;refine(As _ _ _ 61 _ o d).mono ?_;rintro e z ⟨rfl,c,g,_⟩))
         go_roundw
         case rel=>exact⟨3,aa,by go_num,by simpa using c,a.trans g⟩
         case measure=>simp[intOf]
        ·obtain rfl:v=mc (N/64 % 64):=by rw[H.out,if_neg r]
         go_wp2_with(first|(go_at_call 276;refine(Ly _ (N/64 % 64) aa aa _ q).mono ?_;rintro e w' ⟨rfl,rfl⟩)|(go_at_call 44;refine(As _ _ _ _ _ o d).mono ?_;rintro e z ⟨rfl,c,g,_⟩))
         go_roundw
         case rel=>exact⟨3,aa,by go_num,by simpa using c,a.trans g⟩
         case measure=>simp[intOf]
       ·have F:=Am N aa
        by_cases r:K<3
        ·obtain rfl:x=61:=by rw[I.out,if_pos r]
         go_wp2_with(first|(go_at_call 44;refine(As _ _ _ 61 _ o d).mono ?_;rintro e z ⟨rfl,c,g,_⟩))
         go_roundw
         case rel=>exact⟨4,aa,by go_num,by simpa using c,a.trans g⟩
         case measure=>simp[intOf]
        ·obtain rfl:x=mc (N % 64):=by rw[I.out,if_neg r]
         go_wp2_with(first|(go_at_call 276;refine(Ly _ (N % 64) aa aa _ q).mono ?_;rintro e w' ⟨rfl,rfl⟩)|(go_at_call 44;refine(As _ _ _ _ _ o d).mono ?_;rintro e z ⟨rfl,c,g,_⟩))
         go_roundw
         case rel=>exact⟨4,aa,by go_num,by simpa using c,a.trans g⟩
         case measure=>simp[intOf]
      ·obtain rfl:j=4:=aa
       go_wp2;go_roundw
       case rel=>
        have F:(t.extract K t.size).data.toList=s.data.toList.drop (k+K):=by
         rw[Lib.extract_data,xk ea,y.out,Cd]
        refine⟨k+K,_,_,aa,rfl,?_,o,La,a,Lib.hid F,Lib.hid ?_⟩
        ·simp;omega
        ·rw[u.out,VP _ (by intro h;have:=congrArg List.length h;rw[fc,E.out]at this;simp at this;omega),<-y.out,S.out]
         have r:List.drop 3 t.data.toList=s.data.toList.drop (k+K):=by
          rcases G with h|h
          ·rw[h,y.out,Cd]
          ·rw[Jj dh,Jj (by rw[E.out];omega)]
         rw[r];simp
       case measure=>simp;omega
  ·have v:k=s.size:=aa
   have j:Ra s.data.toList=p:=by
    rw[u.out,Jj (by rw[E.out];omega)];simp[Ra]
   have r:=Lib.hid j;clear j
   go_wp2_with(go_at_call 46;refine(ZC _ _ _ _ o).mono ?_;rintro e z ⟨rfl,c,g,_⟩)
   go_ret;rw[r.out];exact⟨rfl,a.trans g⟩
end Go.Proofs.YtglaihdcndcmkaaGreatDoor
end
section
set_option synthInstance.maxSize 4000
namespace ya
def Ii(l:List UInt8)(last:Bool):Nat:=if last=true/\l[3]?=some 61 then(if l[2]?=some 61 then 2 else 3)else 4
def Ef(l:List UInt8)(k:Nat):Nat->Option Nat
 |0=>some 0
 |i+1=>match Ef l k i with
  |none=>none
  |some n=>if k<=i then some (n* 64)else match Mh (l[i]?.getD 0)with
   |none=>none
   |some x=>some (n* 64+x)
def wg(l:List UInt8)(last:Bool):List UInt8×Bool:=match Ef l (Ii l last) 4 with
 |none=>([],false)
 |some n=>([UInt8.ofNat (n/65536),UInt8.ofNat (n/256),UInt8.ofNat n].take (Ii l last - 1),n % 256^(4 - Ii l last)==0)
def GW(c):∀x,Mh c=some x->x<64:=by
 have:∀c:UInt8,(Mh c).getD 0<64:=Hb
 grind
def PQ(l)(k i):∀n,Ef l k i=some n->n<64^i:=by
 induction i with
 |zero=>grind [Ef]
 |succ i c=>
  intro n h;rw[Ef]at h;split at h
  ·cases h
  ·rename_i m a
   have:=c m a;rw[Nat.pow_succ];split at h
   ·grind
   ·split at h
    ·cases h
    ·rename_i x b
     have:=GW _ _ b
     grind
def m5(l)(k i n)(a:i<4)(h:Ef l k i=some n):n<262144:=Ug (PQ l k i n h) (Yr (n:=64) ha (Nat.le_of_lt_succ a))
def n5(l)(k n)(h:Ef l k 4=some n):n<16777216:=PQ l k 4 n h
def o5{l}{k i}(h:Ef l k i=none)(j)(a:i<=j):Ef l k j=none:=by
 induction j<;>grind [Ef.eq_2]
def w5(n x:Nat)(h:n<262144)(a:x<64):Go.bits .or .u32 ((n:Int)* 64) x=((n* 64+x:Nat):Int):=by
 have e:(n:Int)* 64=((n* 64:Nat):Int):=aa
 rw[e,Go.u32_or_nat _ _ aa aa,Go.nat_join 6 _ _ aa aa]
theorem i5(l)(last):Ii l last=2\/Ii l last=3\/Ii l last=4:=by grind [Ii]
end ya
namespace Go.Proofs.YtglaihdcndcmkaaGreatDoor
def fB(n:Nat):(UInt8.ofNat n).toNat=n % 256:=ea
theorem M1{P}{a dst e}(hs:P.underlying a=some (.slice e))(d:P.underlying e=some (.int .u8))(c:P.underlying dst=some .string)(w:World)(x y z):
 (convert a dst (.slice (some ⟨w.heap.size,0,none⟩) 3 3)).run P (w.alloc (.cells #[.int .u8 x.toNat,.int .u8 y.toNat,.int .u8 z.toNat] e))=.ok (.string ⟨#[x,y,z]⟩) (w.alloc (.cells #[.int .u8 x.toNat,.int .u8 y.toNat,.int .u8 z.toNat] e)):=
 run_convert_bytes_back _ a dst e ⟨w.heap.size,0,none⟩ 3 [x,y,z] hs d c (by
  intro j b
  match j,b with
  |0,b=>simp[Addr.add]
  |1,b=>simp[Addr.add]
  |2,b=>simp[Addr.add])
def ZW(c)(o)(h:Mh c=o)(w):Calls Tryz.prog 223 #[.int .u8 c.toNat] w (Yf (.tuple #[.int .u32 (o.getD 0),.bool o.isSome]) w):=h▸zii c w
def u5(s)(last)(w)(hs:s.size=4):Calls Tryz.prog 154 #[.string s,.bool last] w (Zg (.tuple #[.string ⟨(wg s.data.toList last).1.toArray⟩,.bool (wg s.data.toList last).2]) w):=by
 have o:s.data.toList.length=s.size:=rfl;have O:=Lib.hid o;clear o;have G:s.data.toList[2]?=some (s[2]' aa):=qe (l:=s.data.toList) dh;have H:s.data.toList[3]?=some (s[3]' aa):=qe (l:=s.data.toList) dh;obtain⟨K,F,J,p⟩:∃K,Ii s.data.toList last=K/\2<=K/\(last=false/\K=4\/last=true/\K=4/\(((s[3]' aa).toNat:Int)==61)=false\/last=true/\K=3/\(((s[3]' aa).toNat:Int)==61)=true/\(((s[2]' aa).toNat:Int)==61)=false\/last=true/\K=2/\(((s[3]' aa).toNat:Int)==61)=true/\(((s[2]' aa).toNat:Int)==61)=true):=by
  refine⟨_,rfl,by grind [i5],?_⟩;unfold Ii;rw[G,H];cases last
  ·simp
  ·by_cases a:s[3]' aa=61
   ·by_cases c:s[2]' aa=61
    ·simp_all
    ·exact .inr (.inr (.inl ⟨rfl,la,dh,by simp[<-Yb]at c⊢;omega⟩))
   ·exact .inr (.inl ⟨rfl,by simp[a],by simp[<-Yb]at a⊢;omega⟩)
 clear G H;have B:wg s.data.toList last=match Ef s.data.toList K 4 with
  |none=>([],false)
  |some n=>([UInt8.ofNat (n/65536),UInt8.ofNat (n/256),UInt8.ofNat n].take (K - 1),n % 256^(4 - K)==0):=by unfold wg;rw[F]
 generalize wg s.data.toList last=V at B⊢;have y:=Lib.hid B;clear B F;rcases p with⟨rfl,b⟩|⟨rfl,b,E⟩|⟨rfl,b,E,I⟩|⟨rfl,b,E,I⟩
 all_goals
  go_enter Tryz.func154,Tryz.ntmps154
  go_wp2
  go_loopw [6] (fun k wr=>∃j:Nat,k=.int .i64 j/\K<=j/\j<=4/\wr=w) (fun k _=>(intOf k).toNat)
  case atStart=>exact⟨4,rfl,aa,aa,rfl⟩
  case round=>
   obtain⟨j,rfl,L,M,rfl⟩:=hrel;by_cases u:j=K
   ·have z:=Lib.hid b
    rw[b]at u;subst u;clear b;go_wp2
    try rw[show((4:Nat):Int)=4 from rfl]
    try rw[show((3:Nat):Int)=3 from rfl]
    try rw[show((2:Nat):Int)=2 from rfl]
    go_loopw [7,26] (fun n D bj=>∃(i m:Nat),i<=4/\D=.int .i64 i/\n=.int .u32 m/\bj=wr/\Hid (Ef s.data.toList K i=some m)) (fun _ D _=>4 - (intOf D).toNat)
    case atStart=>exact⟨0,0,aa,rfl,rfl,rfl,Lib.hid rfl⟩
    case round=>
     obtain⟨i,m,Q,rfl,rfl,rfl,h⟩:=hrel;by_cases C:i<4
     ·have v:=m5 _ _ _ _ C h.out
      by_cases c:K<=i
      ·have a:Ef s.data.toList K (i+1)=some (m* 64):=by rw[Ef,h.out];simp only[if_pos c]
       have r:=Lib.hid a;clear a;have d:=c;rw[z.out]at d;clear h
       first
        |(exfalso;omega)
        |(go_wp2
          go_roundw
          case rel=>exact⟨i+1,m* 64,aa,by go_num,by go_num,trivial,r⟩
          case measure=>simp[intOf];omega)
      ·have d:=Nat.lt_of_not_le c
       rw[z.out]at d;have g:s.data.toList[i]?.getD 0=s[i]' aa:=by
        rw[qe (l:=s.data.toList) dh];rfl
       rcases q:Mh (s[i]' aa)with _|x
       ·have a:Ef s.data.toList K (i+1)=none:=by rw[Ef,h.out];simp only[if_neg c,g,q]
        have t:V=([],false):=by rw[y.out,o5 a 4 aa]
        have r:=Lib.hid t;have A:=Lib.hid q;clear a t q g h
        go_wp2_with(go_at_call 223;refine(ZW _ _ A.out _).mono ?_;rintro e w' ⟨rfl,rfl⟩)
        go_ret2
        rw[r.out];exact⟨rfl,Below.refl _ _⟩
       ·have a:Ef s.data.toList K (i+1)=some (m* 64+x):=by rw[Ef,h.out];simp only[if_neg c,g,q]
        have N:=GW _ _ q;have t:=w5 m x v N;have r:=Lib.hid a;have A:=Lib.hid q;clear a q g h
        go_wp2_with(go_at_call 223;refine(ZW _ _ A.out _).mono ?_;rintro e w' ⟨rfl,rfl⟩)
        go_roundw
        case rel=>exact⟨i+1,m* 64+x,aa,by go_num,by go_num,trivial,r⟩
        case measure=>simp[intOf];omega
     ·obtain rfl:i=4:=aa
      have v:=n5 _ _ _ h.out;rw[h.out]at y;simp only[]at y;have n1:=fB (m/65536);have n2:=fB (m/256);have n3:=fB m;have g:=M1 (P:=Tryz.prog) Tryz.underlying99 Tryz.underlying5 Tryz.underlying9 wr (UInt8.ofNat (m/65536)) (UInt8.ofNat (m/256)) (UInt8.ofNat m);rw[n1,n2,n3,show(((m/65536 % 256:Nat)):Int)=(m:Int)/65536 by omega,show(((m/256 % 256:Nat)):Int)=(m:Int)/256 % 256 by omega,show(((m % 256:Nat)):Int)=(m:Int) % 256 by omega]at g;clear n1 n2 n3;have q:bits .and .u32 (m:Int) 0=0:=by rw[show(0:Int)=((0:Nat):Int)from rfl,u32_and_nat m 0 aa ha,Nat.and_zero]
      have r:bits .and .u32 (m:Int) 255=((m % 256:Nat):Int):=by rw[show(255:Int)=((255:Nat):Int)from rfl,u32_and_nat m 255 aa ha,ku m 8]
      have t:bits .and .u32 (m:Int) 65535=((m % 65536:Nat):Int):=by rw[show(65535:Int)=((65535:Nat):Int)from rfl,u32_and_nat m 65535 aa ha,ku m 16]
      have d:(ByteArray.mk #[UInt8.ofNat (m/65536),UInt8.ofNat (m/256),UInt8.ofNat m]).size=3:=rfl;go_wp2
      (refine wp_region_quiet_below ca ca ?_;(repeat (first|go_big_quiet_skip|(go_big_quiet_want;go_big_quiet_op;first|go_big_quiet_on|(apply Exists.intro;refine⟨fun _=>?_,?_⟩;(· (fail));go_big_quiet_on))));refine wpQuiet_nil ?_;intro _ c;obtain⟨⟨dq,osq⟩,a⟩:=c;subst a)
      go_wp2
      go_ret2
      rw[y.out,z.out];refine⟨t2 (vS rfl) (vb ?_),((Below.refl _ _).alloc (Aa _) _).trans ((below_regrown _ _ _).mono ea)⟩
      first|rfl|(rw[bs];simp;omega)
   ·obtain rfl|rfl:j=3\/j=4:=aa
    all_goals first
     |(exfalso;omega)
     |(subst b
       go_wp2
       grind [intOf])
end Go.Proofs.YtglaihdcndcmkaaGreatDoor
end
section
set_option synthInstance.maxSize 4000
namespace ya
def qf:List UInt8->Option (List UInt8)
 |[]=>some []
 |[_]=>none
 |[_,_]=>none
 |[_,_,_]=>none
 |a::b::c::d::l=>if(wg [a,b,c,d] l.isEmpty).2 then(qf l).map ((wg [a,b,c,d] l.isEmpty).1++·)else none
def Gy(o:Option (List UInt8)):Go.Value:=match o with|some l=>.tuple #[.string ⟨l.toArray⟩,.int .i64 0]|none=>.tuple #[.string ⟨#[]⟩,.int .i64 7]
@[simp] theorem ziD:Gy none=.tuple #[.string ⟨#[]⟩,.int .i64 7]:=rfl
@[simp] theorem ziE (l):Gy (some l)=.tuple #[.string ⟨l.toArray⟩,.int .i64 0]:=rfl
theorem uP(l)(h:4<=l.length):qf l=if(wg (l.take 4) (l.drop 4).isEmpty).2 then(qf (l.drop 4)).map ((wg (l.take 4) (l.drop 4).isEmpty).1++·)else none:=by
 match l,h with
 |a::b::c::d::l,_=>rfl
theorem vP(n):∀l,l.length<=n->l.length % 4≠0->qf l=none:=by
 induction n with
 |zero=>omega
 |succ n h=>
  intro l g e
  match l,g,e with
  |[],_,e=>grind
  |[_],_,_=>rfl
  |[_,_],_,_=>rfl
  |[_,_,_],_,_=>rfl
  |a::b::c::d::l,g,e=>
   grind [qf.eq_5]
theorem QQ(l)(b):(wg l b).1.length<=3:=by
 unfold wg;grind
end ya
namespace Go.Proofs.YtglaihdcndcmkaaGreatDoor
def RQ(s)(last:Bool)(x)(ok:Bool)(h:wg s.data.toList last=(x,ok))(w)(hs:s.size=4):Calls Tryz.prog 154 #[.string s,.bool last] w (Zg (.tuple #[.string ⟨x.toArray⟩,.bool ok]) w):=by
 have:=u5 s last w hs;rw[h]at this;exact this
def CP(s)(w)(hs:s.size<=1000000):Calls Tryz.prog 91 #[.string s] w (Zg (Gy (qf s.data.toList)) w):=by
 have n:s.data.toList.length=s.size:=rfl;have z:=Lib.hid n;clear n;by_cases D:s.size % 4=0
 ·have o:(s.size:Int) % 4=0:=aa
  go_enter Tryz.func91,Tryz.ntmps91
  go_wp2
  try rw[o]
  clear o
  go_loopw [5,6,7] (fun i _ _ wr=>∃(k:Nat)(h:List UInt8),i=.int .i64 (4* k:Nat)/\4* k<=s.size/\Bd w.heap.size w.heap.size h wr/\h.length<=3* k/\Below w.heap.size w wr/\Hid (qf s.data.toList=(qf (s.data.toList.drop (4* k))).map (h++·)))
   (fun i _ _ _=>s.size - (intOf i).toNat)
  case atStart=>exact⟨0,[],rfl,aa,Bd.fresh w,ea,(Below.refl _ _).alloc (Aa _) _,Lib.hid ea⟩
  case round=>
   obtain⟨k,h,rfl,I,j,E,a,q⟩:=hrel;by_cases fa:4* k<s.size
   ·have t:(s.extract (4* k) (4* k+4)).size=4:=by rw[BB];omega
    have r:(s.extract (4* k) (4* k+4)).data.toList=(s.data.toList.drop (4* k)).take 4:=by
     rw[Lib.extract_data,yi]
    have b:((s.data.toList.drop (4* k)).drop 4).isEmpty=decide ((4* k+4:Int)=s.size):=by
     rw[bs];simp only[List.isEmpty_iff,decide_eq_true_iff,Cd,Ak,z.out];omega
    have d:=uP (s.data.toList.drop (4* k)) (by grind [Hid.out]);rw[<-r,Cd]at d;rw[Cd]at b;have g:=QQ (s.extract (4* k) (4* k+4)).data.toList ((s.data.toList.drop (4* k+4)).isEmpty);generalize v:(s.data.toList.drop (4* k+4)).isEmpty=B at d b g;rcases u:wg (s.extract (4* k) (4* k+4)).data.toList B with⟨x,ok⟩
    rw[u]at d g;simp only[]at d g;have A:=Lib.hid u;clear u v r;have F:(4* (k:Int)+4==(s.size:Int))=B:=by rw[b,bs];simp
    clear b;have y:(ByteArray.mk x.toArray).size=x.length:=rfl;cases ok
    ·have c:qf s.data.toList=none:=by rw[q.out,d];rfl
     have C:=Lib.hid c;clear c d
     go_wp2_with(go_at_call 154;refine(RQ _ _ _ _ A.out _ t).mono ?_;rintro e G ⟨rfl,l⟩)
     go_ret2
     rw[C.out];exact⟨rfl,a.trans (l.mono a.size)⟩
    ·have C:=Lib.hid d;clear d
     go_wp2_with(first|(go_at_call 154;refine(RQ _ _ _ _ A.out _ t).mono ?_;rintro e G ⟨rfl,l⟩;have j:=Bd.kept j l;have a:=a.trans (l.mono a.size))|(go_at_call 45;refine(Hu _ _ _ _ _ j (by rw[y];omega)).mono ?_;rintro e H ⟨rfl,j,p,_⟩;have a:=a.trans p))
     go_roundw
     case rel=>
      refine⟨k+1,h++x,by go_num,aa,j,la,a,Lib.hid ?_⟩;rw[q.out,C.out,if_pos trivial,Option.map_map,show 4* (k+1)=4* k+4 from rfl];congr 1;grind
     case measure=>simp[intOf];omega
   ·have g:4* k=s.size:=aa
    have c:qf s.data.toList=some h:=by
     rw[q.out,Jj (by rw[z.out];omega)];simp[qf]
    have d:=Lib.hid c;clear c
    go_wp2_with(go_at_call 46;refine(ZC _ _ _ _ j).mono ?_;rintro e H ⟨rfl,b,p,_⟩)
    go_ret2
    rw[d.out];exact⟨rfl,a.trans p⟩
 ·have a:=vP s.size s.data.toList (Aa _) D
  rw[a];clear a;have o:¬(s.size:Int) % 4=0:=aa
  go_enter Tryz.func91,Tryz.ntmps91
  go_wp2
  go_ret2
  exact⟨rfl,Below.refl _ _⟩
end Go.Proofs.YtglaihdcndcmkaaGreatDoor
end
section
set_option synthInstance.maxSize 4000
namespace ya
def soft(c:UInt8):Bool:=c==9||c==10||c==13||c==32
def bare(l:List UInt8):List UInt8:=l.filter fun c=>!soft c
def qI(l):(ae l).length=4:=rfl
end ya
namespace Go.Proofs.YtglaihdcndcmkaaGreatDoor
theorem cv(t)(l)(V:Option (List UInt8))(ht:t.data.toList=l)(a:qf l=V)(w:World)(hs:t.size<=1000000):Calls Tryz.prog 91 #[.string t] w (Zg (Gy V) w):=by
 subst ht;subst a;exact CP t w hs
end Go.Proofs.YtglaihdcndcmkaaGreatDoor
end
section
set_option synthInstance.maxSize 4000
namespace ya
def cw(l:List Nat):List Value:=l.map fun(n:Nat)=>.int .i64 (n:Int)
theorem Y_(l)(n):cw (l++[n])=cw l++[.int .i64 n]:=by simp[cw]
def Oj(B:Nat)(e:TypeId)(v:Value)(l:List Nat)(w:World):Prop:=w.ownsRow B e 1 v l.length (cw l)
theorem Oj.kept{B}{e}{v}{l}{w w'}(h:Oj B e v l w)(k:Below w.heap.size w w'):Oj B e v l w':=
 World.ownsRow.kept (row:=none) h ⟨k.os,k.tape,k.output,k.size,fun i a _=>k.block i a⟩ la
def Oj.made{B}{e}(w:World)(b:B<=w.heap.size)(a)(cs)(d:cs.size=a)(c:a<=maxLen):Oj B e (.slice (some ⟨w.heap.size,0,none⟩) 0 a) [] (w.alloc (.cells cs e)):=
 World.ownsRow_made (size:=1) w cs a b c aa
def pushn{P}{ops}{rest}{o}{a}{Q}(d:o.guard=none)(s x)(t)
 (A:o.op=.call {callee:=.builtin .append,args:=#[s,x],argTypes:=#[t,t]})
 (e) (ht:P.underlying t=some (.slice e)) (y:(P.info? e).map (fun i=>(i.zero,i.size,i.bytes))=some (some (.int .i64 0),1,8))
 (B) (w) (v) (l) (hs:a.eval s=v) (b:Oj B e v l w) (m:Int) (c:Nat) (z:m=c)
 (C:a.eval x=.slice (some ⟨w.heap.size,0,none⟩) 1 1) (j:(l.length+1)* 8<=140737488355328) (u:B<=w.heap.size)
 (h:∀k w',Oj B e k (l++[c]) w'->w.grownBy w' v.ownBlock->Below B w w'->w.heap.size<w'.heap.size->wpList P ops Q rest (a.put o.dst k) w'):
 wpList P ops Q (o::rest) a (w.alloc (.cells #[.int .i64 m] e)):=by
 subst z
 exact Qi d s x t A e (.int .i64 0) 1 8 ht y rfl ha B w v _ _ hs b [.int .i64 c] rfl (by simp[Value.oneCell']) C aa aa u
  fun g n w' D E p q r=>h _ w' (by grind [Oj,Y_]) p q r
def Cf(c:UInt8):List Nat:=[c.toNat/128 % 2,c.toNat/64 % 2,c.toNat/32 % 2,c.toNat/16 % 2,c.toNat/8 % 2,c.toNat/4 % 2,c.toNat/2 % 2,c.toNat % 2]
def mf(l:List UInt8):List Nat:=l.flatMap Cf
def VX(l)(c):mf (l++[c])=mf l++Cf c:=by grind [mf]
def MK(l):(mf l).length=8* l.length:=by
 induction l with
 |nil=>rfl
 |cons c l a=>show(Cf c++mf l).length=_;rw[Da,a];simp[Cf];omega
def QB(v:Value)(l:List Nat)(w:World):Prop:=∃g o a,v=.slice (some ⟨g,o,none⟩) l.length a/\l.length<=a/\g<w.heap.size/\∀(j x:Nat),l[j]?=some x->w.cell? ⟨g,o+j,none⟩=some (.int .i64 x)
def QB.kept{v}{l}{w w'}(h:QB v l w)(k:Below w.heap.size w w'):QB v l w':=by
 obtain⟨g,o,a,rfl,c,b,hr⟩:=h;exact⟨g,o,a,rfl,c,Ug b k.size,fun j x d=>(k.cell (p:=⟨g,o+j,none⟩) b).trans (hr j x d)⟩
def Nf(l:List Nat):Nat->Nat
 |0=>0
 |i+1=>2* Nf l i+(l[i]?).getD 0
def TX(c)(j)(h:j<8):(Cf c).take (j+1)=(Cf c).take j++[(Cf c).getD j 0]:=by
 rw[xo (by simpa[Cf]using h)];grind
end ya
namespace Go.Proofs.YtglaihdcndcmkaaGreatDoor
def n6:(Tryz.prog.info? 3).map (fun i=>(i.zero,i.size,i.bytes))=some (some (.int .i64 0),1,8):=ca
def YX(s)(w)(hs:s.size<=1000000):Calls Tryz.prog 239 #[.string s] w fun e w'=>∃v,e=.returned v/\Oj w.heap.size 3 v (mf s.data.toList) w'/\Below w.heap.size w w':=by
 have l:s.data.toList.length=s.size:=rfl;have F:=Lib.hid l;clear l
 go_enter Tryz.func239,Tryz.ntmps239
 go_wp2
 go_loopw [3,4,5] (fun v i _ wr=>∃(k:Nat),k<=s.size/\i=.int .i64 k/\Oj w.heap.size 3 v (mf (s.data.toList.take k)) wr/\Below w.heap.size w wr)
  (fun _ i _ _=>s.size - (intOf i).toNat)
 case atStart=>exact⟨0,Ab _,rfl,Oj.made w (Aa _) _ _ rfl ha,(Below.refl _ _).alloc (Aa _) _⟩
 case round=>
  obtain⟨k,H,rfl,d,a⟩:=hrel;have C:(mf (s.data.toList.take k)).length<=8* k:=by rw[MK,Ue];omega
  by_cases fa:k<s.size
  ·have r:mf (s.data.toList.take (k+1))=mf (s.data.toList.take k)++Cf s[k]:=by
    rw[kW _ _ (by grind [Hid.out]),VX];rfl
   generalize mf (s.data.toList.take k)=h at*;have B:=Lib.hid r;clear r;have D:=s[k].toNat_lt;go_wp2
   go_loopw [3,5] (fun v q bj=>∃(j:Nat),j<=8/\q=.int .i64 ((128/2^j:Nat):Int)/\Oj w.heap.size 3 v (h++(Cf s[k]).take j) bj/\Below w.heap.size w bj)
    (fun _ q _=>(intOf q).toNat)
   case atStart=>exact⟨0,aa,rfl,by simpa using d,a⟩
   case round=>
    clear d a;obtain⟨j,G,rfl,d,a⟩:=hrel;by_cases u:j<8
    ·obtain⟨b,t⟩:∃b,(Cf s[k]).getD j 0=b:=⟨_,rfl⟩
     have o:=TX s[k] j u;rw[t]at o;have p:=Lib.hid (show h++(Cf s[k]).take (j+1)=h++(Cf s[k]).take j++[b] by rw[o,Ac]);clear o;have y:((h++(Cf s[k]).take j).length+1)* 8<=140737488355328:=by
      rw[Da,Ue];omega
     have A:=Lib.hid t;clear t;have x:=Lib.hid y;clear y;obtain rfl|rfl|rfl|rfl|rfl|rfl|rfl|rfl:j=0\/j=1\/j=2\/j=3\/j=4\/j=5\/j=6\/j=7:=aa
     all_goals
      go_wp2_with(at_builtin;refine pushn pa _ _ _ pa 3 Tryz.underlying151 n6 w.heap.size wr _ _ pa d _ b (by rw[<-A.out];simp[Cf]) pa x.out a.size ?_;intro I J n E g z)
      go_roundw
      case rel=>
       have c:=n;rw[<-p.out]at c
       first|exact⟨1,aa,by go_num,c,a.trans g⟩|exact⟨2,aa,by go_num,c,a.trans g⟩|exact⟨3,aa,by go_num,c,a.trans g⟩|exact⟨4,aa,by go_num,c,a.trans g⟩|exact⟨5,aa,by go_num,c,a.trans g⟩|exact⟨6,aa,by go_num,c,a.trans g⟩|exact⟨7,aa,by go_num,c,a.trans g⟩|exact⟨8,aa,by go_num,c,a.trans g⟩
      case measure=>simp[intOf]
    ·obtain rfl:j=8:=aa
     have c:h++(Cf s[k]).take 8=mf (s.data.toList.take (k+1)):=by rw[B.out];rfl
     rw[c]at d;clear c;go_wp2;go_roundw
     case rel=>exact⟨k+1,aa,by go_num,d,a⟩
     case measure=>simp[intOf];omega
  ·obtain rfl:k=s.size:=aa
   rw[xk ea]at d;go_wp2;go_ret;simp_all
end Go.Proofs.YtglaihdcndcmkaaGreatDoor
end
section
set_option synthInstance.maxSize 4000
namespace ya
def zeb(l)(a:∀x∈l,x<=1)(i):Nf l i<2^i:=by
 induction i with
 |zero=>simp[Nf]
 |succ i b=>
  have:(l[i]?).getD 0<=1:=by
   rcases h:l[i]? with _|x
   ·simp
   ·exact a x (di h)
  grind [Nf.eq_2]
def FV(l)(b:∀x∈l,x<=1)(i)(a:i<=6):Nf l i<64:=Ug (zeb l b i) (Yr (n:=2) ha a)
def sf(l:List Nat):List UInt8:=if h:0<l.length then mc (Nf l 6)::sf (l.drop 6)else[]
termination_by l.length
decreasing_by grind
def ZD{l}(h:0<l.length):sf l=mc (Nf l 6)::sf (l.drop 6):=by rw[sf,dif_pos h]
def aE:sf []=[]:=by grind [sf.eq_1]
def G2(n):∀l,l.length<=n->(sf l).length<=l.length:=by
 induction n<;>grind [sf.eq_1]
def UX(l):∀x∈mf l,x<=1:=by
 intro x h;unfold mf at h;obtain⟨c,_,a⟩:=List.mem_flatMap.1 h;simp[Cf]at a;omega
def gl(l:List UInt8):List UInt8:=l++List.replicate ((4 - l.length % 4) % 4) 61
def x2:∀i:Fin 64,((⟨fv.toArray⟩:ByteArray).extract i.1 (i.1+1)).data.toList=[mc i.1]:=Hb
end ya
namespace Go.Proofs.YtglaihdcndcmkaaGreatDoor
def E2(w):Calls Tryz.prog 238 #[] w (Yf (.string ⟨fv.toArray⟩) w):=by
 go_enter Tryz.func238,Tryz.ntmps238
 go_wp2;go_ret;exact⟨rfl,rfl⟩
def LP(g o d n)(l)(p:n=l.length)(w)(hr:∀(j x:Nat),l[j]?=some x->w.cell? ⟨g,o+j,none⟩=some (.int .i64 x))(h:∀x∈l,x<=1)(C:n<=1000000000):
 Calls Tryz.prog 240 #[.slice (some ⟨g,o,none⟩) n d] w (Yf (.string ⟨#[mc (Nf l 6)]⟩) w):=by
 have q:=Lib.hid hr;clear hr;have c:=Lib.hid h;clear h;have A:=Lib.hid p;clear p;have b:=x2 ⟨Nf l 6,FV l c.out 6 ha⟩;have t:=Lib.hid b;clear b
 go_enter Tryz.func240,Tryz.ntmps240
 go_wp2
 go_loopw [3,4] (fun m i wr=>∃(k:Nat),k<=6/\i=.int .i64 k/\m=.int .i64 (Nf l k)/\wr=w)
  (fun _ i _=>6 - (intOf i).toNat)
 case atStart=>exact⟨0,aa,rfl,rfl,rfl⟩
 case round=>
  obtain⟨k,v,rfl,rfl,rfl⟩:=hrel;have u:=FV l c.out k v;by_cases B:k<6
  ·by_cases y:k<n
   ·obtain⟨x,b⟩:∃x,l[k]?=some x:=⟨_,qe (by grind [Hid.out])⟩
    have Jd:=q.out k x b;have z:=c.out x (di b);have a:((Nf l (k+1):Nat):Int)=2* Nf l k+x:=by rw[Nf,b];simp
    have r:=Lib.hid a;clear a b;go_wp2
    grind [Hid.out,intOf]
   ·have a:((Nf l (k+1):Nat):Int)=2* Nf l k:=by rw[Nf,Qf (by grind [Hid.out])];simp
    have r:=Lib.hid a;clear a;go_wp2;go_roundw
    case rel=>grind [Hid.out]
    grind [intOf]
  ·obtain rfl:k=6:=aa
   have a:(ByteArray.mk fv.toArray).size=64:=rfl
   go_wp2_with(go_at_call 238;refine(E2 _).mono ?_;rintro e w' ⟨rfl,rfl⟩)
   go_ret;exact⟨r1 (vS t.out),rfl⟩
theorem zbp{B}{e}{v}{l}{w}(h:Oj B e v l w):(v=.slice none 0 0/\l=[])\/∃g a,v=.slice (some ⟨g,0,none⟩) l.length a/\l.length<=a/\∀(j x:Nat),l[j]?=some x->w.cell? ⟨g,0+j,none⟩=some (.int .i64 x):=by
 rcases h.2 with⟨o,i⟩|⟨g,a,b,rfl,k,n,c,_⟩
 ·grind
 ·refine .inr ⟨g,a,rfl,c,fun j x d=>?_⟩
  have:=World.ownsRow.cells h (g:=g) rfl j (.int .i64 x) (by simp[cw,d])
  grind [Addr.add]
def vX(g o k):(⟨g,o,none⟩:Addr).add k=⟨g,o+k,none⟩:=by grind [Addr.add]
def s3(s)(w)(hs:s.size<=1000000):Calls Tryz.prog 177 #[.string s] w (Zg (.string ⟨(gl (sf (mf s.data.toList))).toArray⟩) w):=by
 have A:(mf s.data.toList).length=8* s.size:=MK _;have y:=UX s.data.toList;have hds:=G2 (8* s.size) (mf s.data.toList) aa;have p:=YX s w hs;generalize mf s.data.toList=L at*;have F:=Lib.hid p;have HBZ:=Lib.hid y;clear p y
 go_enter Tryz.func177,Tryz.ntmps177
 go_wp2_with(go_at_call 239;refine F.out.mono ?_;rintro e O ⟨v,rfl,C,I⟩)
 obtain⟨a0,n0,k,rfl,B,hc0,D⟩:∃a0 n0 k,v=.slice a0 n0 k/\n0=L.length/\n0<=k/\(n0=0\/∃g o,a0=some ⟨g,o,none⟩/\∀(j x:Nat),L[j]?=some x->O.cell? ⟨g,o+j,none⟩=some (.int .i64 x)):=by
  grind [zbp]
 clear C;have X:=Lib.hid D;clear D;have J:n0<=8000000:=aa
 have W:=Lib.hid B;clear B A
 go_loopw [3,4] (fun v t wr=>∃(M:List Nat)(c:List UInt8)(a:Option Addr)(n r:Nat),v=.slice a n r/\t=.string ⟨c.toArray⟩/\wr=O/\n=M.length/\n<=r/\c.length+n<=8000000/\Hid (∀x∈M,x<=1)/\Hid (sf L=c++sf M)/\Hid (n=0\/∃g o,a=some ⟨g,o,none⟩/\∀(j x:Nat),M[j]?=some x->O.cell? ⟨g,o+j,none⟩=some (.int .i64 x)))
  (fun v _ _=>match v with| .slice _ n _=>n|_=>0)
 case atStart=>grind [Hid.out]
 case round=>
  obtain⟨M,c,a,n,r,rfl,rfl,rfl,T,Q,J,G,hdZ,hr⟩:=hrel;by_cases fa:0<n
  ·rcases hr.out with h|⟨g,o,rfl,Jd⟩
   ·omega
   have q:=ZD (l:=M) aa;have S:min 6 ((n:Nat):Int)=((min 6 n:Nat):Int):=aa
   have Y:1<=min 6 n:=aa
   have Z:min 6 n<=n:=aa
   have hK3:min 6 n<=6:=aa
   have E:min 6 n=6\/min 6 n=n:=aa
   have N:=Lib.hid T;clear T;generalize min 6 n=K at*;have z:=Lib.hid q;clear q hr;have d:=Lib.hid Jd;clear Jd;have P:=vX g o K;have U:(ByteArray.mk c.toArray).size=c.length:=rfl;have V:(ByteArray.mk #[mc (Nf M 6)]).size=1:=rfl;by_cases H:r=K
   ·subst H
    go_wp2_with(go_at_call 240;refine(LP g o _ n M N.out _ d.out G.out aa).mono ?_;rintro e w' ⟨rfl,rfl⟩)
    grind [ByteArray.toList_data_append,Lib.hid,Hid.out]
   ·go_wp2_with(go_at_call 240;refine(LP g o _ n M N.out _ d.out G.out aa).mono ?_;rintro e w' ⟨rfl,rfl⟩)
    go_roundw
    case rel=>
     refine⟨M.drop 6,c++[mc (Nf M 6)],_,_,_,rfl,vS pa,trivial,?_,aa,?_,Lib.hid (fun x hxZ=>G.out x (List.mem_of_mem_drop hxZ)),Lib.hid (by grind [Hid.out]),Lib.hid ?_⟩
     ·grind [Hid.out]
     ·grind
     ·rcases E with h6Z|hKn
      ·refine .inr ⟨g,o+K,pa,fun j x R=>?_⟩
       rw[lg]at R;have:=d.out _ _ R
       grind
      omega
    grind
  ·have H:M=[]:=qz aa
   have P:sf L=c:=by rw[hdZ.out,H,aE];simp
   have R:=Lib.hid P;clear P;have z:gl (sf L)=c++List.replicate ((4 - c.length % 4) % 4) 61:=by rw[R.out];rfl
   have U:=Lib.hid z;clear z;go_wp2
   go_loopw [4] (fun t bj=>∃(i:Nat)(u:ByteArray),i<=(4 - c.length % 4) % 4/\t=.string u/\u.size=c.length+i/\Hid (u.data.toList=c++List.replicate i 61)/\bj=wr)
    (fun t _=>match t with| .string b=>c.length+4 - b.size|_=>0)
   case atStart=>exact⟨0,_,aa,rfl,rfl,Lib.hid ea,rfl⟩
   case round=>
    obtain⟨i,u,Z,rfl,Y,E,rfl⟩:=hrel;by_cases V:i<(4 - c.length % 4) % 4
    ·have N:¬((c.length:Int)+i) % 4=0:=aa
     go_wp2;go_roundw
     case rel=>exact⟨i+1,_,aa,rfl,by rw[qq,Y];rfl,Lib.hid (by rw[yn,E.out,List.replicate_succ',Ac]),trivial⟩
     case measure=>
      have d:(ByteArray.mk #[61]).size=1:=rfl;simp only[qq,d];omega
    ·have N:((c.length:Int)+i) % 4=0:=aa
     have q:i=(4 - c.length % 4) % 4:=aa
     have d:u.data.toList=gl (sf L):=by rw[E.out,U.out,q]
     have S:=Lib.hid d;clear d q;go_wp2;go_ret;exact⟨r1 (vS S.out),I⟩
end Go.Proofs.YtglaihdcndcmkaaGreatDoor
end
namespace ya
def dD:∀a:UInt8,32* (a.toNat/128 % 2)+16* (a.toNat/64 % 2)+8* (a.toNat/32 % 2)+4* (a.toNat/16 % 2)+2* (a.toNat/8 % 2)+a.toNat/4 % 2=a.toNat/4:=Hb
def eD:∀a:UInt8,2* (a.toNat/2 % 2)+a.toNat % 2=a.toNat % 4:=aa
def NK:∀a:UInt8,8* (a.toNat/128 % 2)+4* (a.toNat/64 % 2)+2* (a.toNat/32 % 2)+a.toNat/16 % 2=a.toNat/16:=Hb
def OK:∀a:UInt8,8* (a.toNat/8 % 2)+4* (a.toNat/4 % 2)+2* (a.toNat/2 % 2)+a.toNat % 2=a.toNat % 16:=aa
def WX:∀a:UInt8,2* (a.toNat/128 % 2)+a.toNat/64 % 2=a.toNat/64:=Hb
def XX:∀a:UInt8,32* (a.toNat/32 % 2)+16* (a.toNat/16 % 2)+8* (a.toNat/8 % 2)+4* (a.toNat/4 % 2)+2* (a.toNat/2 % 2)+a.toNat % 2=a.toNat % 64:=aa
def cD(c)(l):mf (c::l)=Cf c++mf l:=rfl
def CT(a b c)(l):num (a::b::c::l) 3=(a.toNat* 256+b.toNat)* 256+c.toNat:=by simp[num]
def AT(a b):num [a,b] 3=(a.toNat* 256+b.toNat)* 256:=by simp[num]
def zT(a):num [a] 3=a.toNat* 256* 256:=by simp[num]
def Wq(a b c d e g)(l):sf (a::b::c::d::e::g::l)=mc (32* a+16* b+8* c+4* d+2* e+g)::sf l:=by
 rw[ZD ea]
 grind [Nf]
def F2(a b c)(l):sf (mf (a::b::c::l))=ae (a::b::c::l)++sf (mf l):=by
 have n:=a.toNat_lt;have o:=b.toNat_lt;have p:=c.toNat_lt;rw[cD,cD,cD];unfold Cf;simp only[Fa,Ma];rw[Wq,Wq,Wq,Wq];unfold ae;rw[if_neg ea,if_neg ea,CT];have d:((a.toNat* 256+b.toNat)* 256+c.toNat)/262144 % 64=a.toNat/4:=aa
 have e1:((a.toNat* 256+b.toNat)* 256+c.toNat)/4096 % 64=16* (a.toNat % 4)+b.toNat/16:=aa
 have e2:((a.toNat* 256+b.toNat)* 256+c.toNat)/64 % 64=4* (b.toNat % 16)+c.toNat/64:=aa
 have e3:((a.toNat* 256+b.toNat)* 256+c.toNat) % 64=c.toNat % 64:=aa
 rw[d,e1,e2,e3];have e:=dD a;have g:=eD a;have h:=NK b;have i:=OK b;have j:=WX c;have k:=XX c;simp only[Fa,Ma,Wr];refine⟨by congr 1,by congr 1;omega,by congr 1;omega,by congr 1,trivial⟩
def MP(l)(h:0<l.length)(a:l.length<=6):sf l=[mc (Nf l 6)]:=by
 rw[ZD h,Jj a,aE]
def zbv(x y)(h:x.length=4):gl (x++y)=x++gl y:=by
 grind [gl]
def zgc(a):gl (sf (mf [a]))=ae [a]:=by
 have g:=a.toNat_lt;have c:=dD a;have d:=eD a;show gl (sf (Cf a))=_;unfold Cf;rw[Wq,MP _ ea ea];have e:Nf [a.toNat/2 % 2,a.toNat % 2] 6=16* (a.toNat % 4):=by simp[Nf];omega
 rw[e,c];unfold ae;rw[if_pos ea,if_pos ea,zT];have b:a.toNat* 256* 256/262144 % 64=a.toNat/4:=aa
 have e1:a.toNat* 256* 256/4096 % 64=16* (a.toNat % 4):=aa
 rw[b,e1];rfl
def zgd(a b):gl (sf (mf [a,b]))=ae [a,b]:=by
 have k:=a.toNat_lt;have l:=b.toNat_lt;have g:=dD a;have h:=eD a;have i:=NK b;have j:=OK b;show gl (sf (Cf a++Cf b))=_;unfold Cf;simp only[Fa,Ma];rw[Wq,Wq,MP _ ea ea];have e:Nf [b.toNat/8 % 2,b.toNat/4 % 2,b.toNat/2 % 2,b.toNat % 2] 6=4* (b.toNat % 16):=by simp[Nf];omega
 rw[e,g];unfold ae;rw[if_neg ea,if_pos ea,AT];have c:(a.toNat* 256+b.toNat)* 256/262144 % 64=a.toNat/4:=aa
 have e1:(a.toNat* 256+b.toNat)* 256/4096 % 64=16* (a.toNat % 4)+b.toNat/16:=aa
 have e2:(a.toNat* 256+b.toNat)* 256/64 % 64=4* (b.toNat % 16):=aa
 have d:32* (a.toNat/2 % 2)+16* (a.toNat % 2)+8* (b.toNat/128 % 2)+4* (b.toNat/64 % 2)+2* (b.toNat/32 % 2)+b.toNat/16 % 2=16* (a.toNat % 4)+b.toNat/16:=aa
 rw[c,e1,e2,d];rfl
def m3(n):∀l,l.length<=n->gl (sf (mf l))=Ra l:=by
 induction n with
 |zero=>
  intro l h;have:l=[]:=qz aa;subst this;show gl (sf [])=_;rw[aE];rfl
 |succ n d=>
  intro l h
  match l,h with
  |[],_=>grind
  |[a],_=>exact zgc a
  |[a,b],_=>exact zgd a b
  |a::b::c::l,h=>
   rw[F2,zbv _ _ rfl,d l la,VP (a::b::c::l) ea];rfl
def zht:∀i:Fin 64,Mh (mc i.1)=some i.1:=Hb
def wo{n}(h:n<64):Mh (mc n)=some n:=zht ⟨n,h⟩
def y2:∀i:Fin 64,mc i.1≠61:=Hb
def JP{n}(h:n<64):mc n≠61:=y2 ⟨n,h⟩
def l5{a b c d}{e g h i}(j:Mh a=some e)(k:Mh b=some g)(l:Mh c=some h)(n:Mh d=some i):
 Ef [a,b,c,d] 4 4=some (((e* 64+g)* 64+h)* 64+i):=by simp[Ef,j,k,l,n]
def k5{a b c k}{d e g}(h:Mh a=some d)(i:Mh b=some e)(j:Mh c=some g):
 Ef [a,b,c,k] 3 4=some (((d* 64+e)* 64+g)* 64):=by simp[Ef,h,i,j]
def j5{a b h i}{c d}(e:Mh a=some c)(g:Mh b=some d):
 Ef [a,b,h,i] 2 4=some (((c* 64+d)* 64)* 64):=by simp[Ef,e,g]
theorem TD(x l):qf (ae x++l)=if(wg (ae x) l.isEmpty).2 then(qf l).map ((wg (ae x) l.isEmpty).1++·)else none:=rfl
def Xt(a)(n:Nat)(h:n % 256=a.toNat):UInt8.ofNat n=a:=by
 apply Yb.1;simp[h]
theorem s5(a b c)(l)(last):wg (ae (a::b::c::l)) last=([a,b,c],true):=by
 have j:=a.toNat_lt;have k:=b.toNat_lt;have o:=c.toNat_lt;have g:ae (a::b::c::l)=[mc (num (a::b::c::l) 3/262144 % 64),mc (num (a::b::c::l) 3/4096 % 64),mc (num (a::b::c::l) 3/64 % 64),mc (num (a::b::c::l) 3 % 64)]:=by
  unfold ae;rw[if_neg ea,if_neg ea]
 rw[g,CT];generalize i:(a.toNat* 256+b.toNat)* 256+c.toNat=N;have d:Ii [mc (N/262144 % 64),mc (N/4096 % 64),mc (N/64 % 64),mc (N % 64)] last=4:=by
  unfold Ii;rw[if_neg];intro h;exact JP (n:=N % 64) aa (by simpa using h.2)
 unfold wg;rw[d,l5 (wo aa) (wo aa) (wo aa) (wo aa)];have e:((N/262144 % 64* 64+N/4096 % 64)* 64+N/64 % 64)* 64+N % 64=N:=aa
 simp only[e];rw[Xt a (N/65536) aa,Xt b (N/256) aa,Xt c N aa]
 grind
def q5(a b):wg (ae [a,b]) true=([a,b],true):=by
 have i:=a.toNat_lt;have j:=b.toNat_lt;have d:ae [a,b]=[mc (num [a,b] 3/262144 % 64),mc (num [a,b] 3/4096 % 64),mc (num [a,b] 3/64 % 64),61]:=by
  unfold ae;rw[if_neg ea,if_pos ea]
 rw[d,AT];generalize g:(a.toNat* 256+b.toNat)* 256=N;have c:Ii [mc (N/262144 % 64),mc (N/4096 % 64),mc (N/64 % 64),61] true=3:=by
  unfold Ii;rw[if_pos ea,if_neg];intro h;exact JP (n:=N/64 % 64) aa la
 unfold wg;rw[c,k5 (wo aa) (wo aa) (wo aa)];have e:((N/262144 % 64* 64+N/4096 % 64)* 64+N/64 % 64)* 64=N:=aa
 simp only[e];rw[Xt a (N/65536) aa,Xt b (N/256) aa];simp;omega
def p5(a):wg (ae [a]) true=([a],true):=by
 have g:=a.toNat_lt;have c:ae [a]=[mc (num [a] 3/262144 % 64),mc (num [a] 3/4096 % 64),61,61]:=by
  unfold ae;rw[if_pos ea,if_pos ea]
 rw[c,zT];generalize d:a.toNat* 256* 256=N;have b:Ii [mc (N/262144 % 64),mc (N/4096 % 64),61,61] true=2:=by
  unfold Ii;rw[if_pos ea,if_pos ea]
 unfold wg;rw[b,j5 (wo aa) (wo aa)];have e:((N/262144 % 64* 64+N/4096 % 64)* 64)* 64=N:=aa
 simp only[e];rw[Xt a (N/65536) aa];simp;omega
def j2(n):∀l,l.length<=n->qf (Ra l)=some l:=by
 induction n with
 |zero=>
  intro l h;have:l=[]:=qz aa;subst this;rfl
 |succ n d=>
  intro l h
  match l,h with
  |[],_=>rfl
  |[a],_=>show qf (ae [a]++[])=_;rw[TD];rw[show([]:List UInt8).isEmpty=true from rfl,p5];rfl
  |[a,b],_=>show qf (ae [a,b]++[])=_;rw[TD];rw[show([]:List UInt8).isEmpty=true from rfl,q5];rfl
  |a::b::c::l,h=>
   grind [Ra,TD,s5]
def ig(dec:ba->ba×Bool)(q:ba×Bool×Bool)(w:ba):ba×Bool×Bool:=
 if w=[]then q else(q.1++(if q.2.1&& !(q.2.2&&(dec w).2)then[32]else[])++(dec w).1,true,(dec w).2)
def Aj(dec:ba->ba×Bool)(rest:ba):ba:=((db 32 rest).foldl (ig dec) ([],false,false)).1
def rf(w:ba):ba×Bool:=
 if Md.isPrefixOf w&&[63,61].isSuffixOf (w.drop 10)then
  match qf ((w.drop 10).take ((w.drop 10).length - 2))with
  |some t=>if Vh t then(t,true)else(w,false)
  |none=>(w,false)
 else(w,false)
def Ki(v:ba):ba:=[88,58,32]++v++[13,10]
def vc(c:UInt8):Bool:=c==32||c==9
def bn(c:UInt8):Bool:=(65<=c&&c<=90)||(97<=c&&c<=122)||(48<=c&&c<=57)||c==45
def pi(l:List UInt8):Bool:=!l.isEmpty&&decide (l.length<=32)&&l.all bn
def Ti(c:UInt8):Bool:=c==9||(32<=c&&c<=126)
def Zy(c:UInt8):UInt8:=if 65<=c&&c<=90 then c+32 else c
def ie(l:List UInt8):List UInt8:=l.map Zy
def tk(l:List UInt8):List UInt8:=(l.reverse.dropWhile vc).reverse
def trimB(l:List UInt8):List UInt8:=tk (l.dropWhile vc)
def Hg:List UInt8->Option Nat
 |[]=>none
 |c::r=>if c=13/\r.head?=some 10 then some 0 else(Hg r).map (·+1)
theorem Qs:∀{l}{k},Hg l=some k->k+2<=l.length
 |c::r,k,h=>by
  rw[Hg]at h;split at h
  ·rename_i a
   cases h
   match r,a with
   |d::r,_=>simp
  ·rcases hr:Hg r with _|j
   ·grind
   ·rw[hr]at h
    have:=Qs hr
    grind
theorem KR:∀l,Go.Lib.index l [13,10]=match Hg l with|some k=>(k:Int)|none=>-1
 |[]=>rfl
 |c::r=>by
  rw[Go.Lib.index,KR r,Hg];have a:List.isPrefixOf [13,10] (c::r)=decide (c=13/\r.head?=some 10):=by
   match r with
   |[]=>grind
   |d::r=>grind
  grind
theorem oP(l):Go.Lib.cut l [13,10]=match Hg l with|some k=>(l.take k,l.drop (k+2),true)|none=>(l,[],false):=by
 grind [Go.Lib.cut,KR]
def vh(b:UInt8):List UInt8->Option Nat
 |[]=>none
 |c::r=>if c=b then some 0 else(vh b r).map (·+1)
theorem lD{b}:∀{l}{k},vh b l=some k->k<l.length
 |c::r,k,h=>by
  rw[vh]at h;split at h
  ·grind
  ·rcases hr:vh b r with _|j
   ·grind
   ·rw[hr]at h
    have:=lD hr
    grind
theorem JR(b):∀l,Go.Lib.index l [b]=match vh b l with|some k=>(k:Int)|none=>-1
 |[]=>rfl
 |c::r=>by
  rw[Go.Lib.index,JR b r,vh]
  grind
theorem PD(b)(l):Go.Lib.cut l [b]=match vh b l with|some k=>(l.take k,l.drop (k+1),true)|none=>(l,[],false):=by
 grind [Go.Lib.cut,JR]
abbrev lf:=List UInt8×List UInt8
def Ae(st:List lf×Bool)(l:List UInt8):Option (List lf×Bool):=
 if l.all Ti=false then none
 else if(l.head?.map vc).getD false then
  (match st.1.getLast? with
   |none=>none
   |some p=>some (st.1.dropLast++[(p.1,p.2++l)],st.2||decide (998<l.length)))
 else match vh 58 l with
  |none=>none
  |some k=>if pi (l.take k)then some (st.1++[(l.take k,l.drop (k+1))],st.2||decide (998<l.length))else none
def Sf(l:List UInt8)(at_:Nat):List (List UInt8×Nat):=
 match h:Hg l with
 |none=>[]
 |some k=>(l.take k,at_+k+2)::if k=0 then[]else Sf (l.drop (k+2)) (at_+k+2)
termination_by l.length
decreasing_by have:=Qs h;grind
theorem Bv{l}{a}(h:Hg l=none):Sf l a=[]:=by
 grind [Sf.eq_1]
def lz{l}{a k}(h:Hg l=some k):Sf l a=(l.take k,a+k+2)::if k=0 then[]else Sf (l.drop (k+2)) (a+k+2):=by
 grind [Sf.eq_1]
def b7(n):∀(l)(a),l.length<=n->∀x∈Sf l a,2<=x.2:=by
 induction n with
 |zero=>
  intro l a h x b;rw[qz (l:=l) aa,Bv rfl]at b;cases b
 |succ n d=>
  intro l a h x b;rcases c:Hg l with _|k
  ·grind [Bv]
  ·have:=Qs c
   rw[lz c]at b
   grind
def a7(n):∀(l)(a),l.length<=n->(Sf l a).length<=l.length:=by
 induction n with
 |zero=>
  intro l a h;rw[qz (l:=l) aa,Bv rfl];simp
 |succ n c=>
  intro l a h;rcases b:Hg l with _|k
  ·grind [Bv]
  ·have:=Qs b
   rw[lz b,sa]
   grind
def Dj:List (List UInt8×Nat)->List lf×Bool->Option (List lf×Bool×Nat)
 |[],_=>none
 |(b,a)::r,st=>if b=[]then some (st.1,st.2,a)else match Ae st b with|none=>none|some st'=>Dj r st'
def Wd(a:List (List UInt8))(st:List lf×Bool):Option (List lf×Bool):=a.foldlM Ae st
def DS(a)(l)(st):Wd (a++[l]) st=(Wd a st).bind fun s=>Ae s l:=by
 unfold Wd;simp
theorem gV:∀(xs r)(st st'),(∀x∈xs,x.1≠[])->Wd (xs.map (·.1)) st=some st'->Dj (xs++r) st=Dj r st'
 |[],r,st,st',_,h=>by grind [Wd]
 |(i,a)::xs,r,st,st',b,h=>by
  have e:=b (i,a) ea;rw[Xb,Wd,nu]at h;obtain⟨s1,c,d⟩:=qb h;rw[Fa,Dj,if_neg e,c];exact gV xs r s1 st' (fun x g=>b x (by simp[g])) d
inductive Split where
 | form
 | long
 | ok (l:List lf) (body:Nat)
def Pg(l:List UInt8):Split:=match Dj (Sf l 0) ([],false)with
 |none=>.form
 |some (_,true,_)=>.long
 |some (f,false,b)=>.ok (f.map fun p=>(p.1,trimB p.2)) b
variable {lib:Callee}
def is(lib:Callee):Prop:=∀s:ba,s.length<=1000000->lib 91 [.flat (.string (S s))] [] []=some ((match qf s with|some t=>[.flat (.string (S t)),.flat (.int .i64 0)]|none=>[.flat (.string (S [])),.flat (.int .i64 7)]),false,[],[])
def k2(H:is lib)(s)(h:s.length<=1000000):da code lib 91 [.flat (.string (S s))] [] []=some ((match qf s with|some t=>[.flat (.string (S t)),.flat (.int .i64 0)]|none=>[.flat (.string (S [])),.flat (.int .i64 7)]),false,[],[]):=tf ha ca (H s h)
def tP(n):∀l t:ba,l.length<=n->qf l=some t->t.length<=l.length:=by
 induction n with
 |zero=>
  intro l t h a;have:l=[]:=qz aa;subst this;cases a;simp
 |succ n a=>
  grind [uP,Option.map_eq_some_iff,QQ,vP]
theorem AP(w):(rf w).1.length<=w.length:=by
 unfold rf;split
 ·split
  ·rename_i t ht
   split
   ·have:=tP _ _ _ (Aa _) ht
    grind
   simp
  simp
 simp
def v2(g:Yg lib)(i:Nj lib)(e:is lib)(s)(hs:s.length<=1000000):da code lib 43 [.flat (.string (S s))] [] []=some ([.flat (.string (S (rf s).1)),.flat (.bool (rf s).2)],false,[],[]):=by
 have e1:=Rs g s Md aa;have e2:=fun t(h:t.length<=1000000000)=>kp i t [63,61] h
 have e3:=fun t h=>k2 e t h
 have e4:=fun t(h:t.length<=1000000)=>PR (lib:=lib) t (by grind [Sm])
 refine ja IZ (qa rfl) ?_;unfold rf;have j:Md.length=10:=rfl;rw[j]at e1;by_cases a:Md.isPrefixOf s=true
 ·rw[if_pos a,a]at e1
  rw[a,pd];have l:(s.drop 10).length<=s.length:=by rw[fc];omega
  obtain⟨x,n⟩:∃x,s.drop 10=x:=⟨_,rfl⟩;rw[n]at e1 l⊢;have e2:=e2 x aa;by_cases b:([63,61]:ba).isSuffixOf x=true
  ·rw[if_pos b,b]at e2
   rw[if_pos b];have d:(x.take (x.length - 2)).length<=x.length:=by rw[Ue];omega
   have e3:=e3 (x.take (x.length - 2)) aa;have k:([63,61]:ba).length=2:=rfl;rw[k]at e2;obtain⟨y,o⟩:∃y,x.take (x.length - 2)=y:=⟨_,rfl⟩;rw[o]at e2 e3 d⊢;cases c:qf y with
   |none=>
    rw[c]at e3;unfold Md at e1;exact ta
   |some t=>
    have ht:=tP _ _ _ (Aa _) c;rw[c]at e3;have e4:=e4 t aa;unfold Md at e1;dsimp only at e3⊢;rcases Ph (Vh t)with h|h
    ·rw[h]at e4⊢
     exact ta
    ·rw[h]at e4⊢
     exact ta
  ·have c:=Do.2 b
   rw[if_neg b,c]at e2;rw[if_neg b];unfold Md at e1;exact ta
 ·have a':=Do.2 a
  rw[if_neg a,a']at e1;rw[a',De];have e2:=e2 s aa;unfold Md at e1;exact ta
def dY(c):da code lib 86 [.flat (.int .u8 c.toNat)] [] []=some ([.flat (.bool (vc c))],false,[],[]):=by
 refine ja HZ (qa rfl) ?_;have e:=(by decide+kernel:∀c:UInt8,vc c=(decide (c.toNat=32)||decide (c.toNat=9))) c;rw[e];obtain⟨x,h⟩:∃x,c.toNat=x:=⟨_,rfl⟩;rw[h];by_cases d:x=32
 ·subst d
  exact ta
 ·by_cases g:x=9
  ·subst g
   exact ta
  ·have a:=eq_false d
   have b:=eq_false g;simp only[a,b,decide_false,vn];exact ta
def Pr(l:ba)(k:Nat):Bool:=Ub l [13,10] k&&(match l[k+2]? with|some d=>vc d|none=>false)
def dk(l:ba)(q:ba×Nat):(ba×Nat) ⊕ Option ba:=
 match l[q.2]? with
 |none=>.inr (some q.1)
 |some c=>if Pr l q.2 then .inl (q.1,q.2+2)
  else if c=13\/c=10 then .inr none else .inl (q.1++[c],q.2+1)
def Wn(l:ba):Option ba:=Ob (dk l) none (l.length+1) ([],0)
def p_(l)(h:∀c∈l,c≠13/\c≠10):Wn l=some l:=by
 have b:∀(n k:Nat),k<=l.length->l.length - k<n->Ob (dk l) none n (l.take k,k)=some l:=by
  intro n
  induction n with
  |zero=>omega
  |succ n g=>
   intro k d e;by_cases fa:k<l.length
   ·grind [Ub,List.drop_eq_getElem_cons,dk,Pr,hf]
   ·have a:k=l.length:=aa
    subst a;have ht:dk l (l.take l.length,l.length)=.inr (some l):=by
     unfold dk;simp only[Qf (Aa _),pm]
    rw[hd ht]
 exact b (l.length+1) 0 (Ab _) aa
def IS{l}(a c)(b:a.2<=l.length/\a.1.length<=a.2)(h:dk l a=.inl c):(c.2<=l.length/\c.1.length<=c.2)/\l.length - c.2<l.length - a.2:=by
 grind [dk,Pr]
def k_(F:kc lib)(D:Qb lib)(G:Nj lib)(s:ba)(hs:s.length<=100000000):da code lib 38 [.flat (.string (S s))] [] []=some ((match(if([13,10]:ba).isSuffixOf s then Wn (s.take (s.length - 2))else none)with|some x=>[.flat (.string (S x)),.flat (.bool true)]|none=>[.flat (.string (S [])),.flat (.bool false)]),false,[],[]):=by
 have e1:=kp G s [13,10] aa;refine ja JZ (qa rfl) ?_;by_cases b:([13,10]:ba).isSuffixOf s=true
 case neg=>
  have e:=Do.2 b;rw[if_neg b,e]at e1;rw[if_neg b];exact ta
 rw[if_pos b,b]at e1;rw[if_pos b];have I:([13,10]:ba).length=2:=rfl;rw[I]at e1;have C:(s.take (s.length - 2)).length<=100000000:=by rw[Ue];omega
 obtain⟨l,J⟩:∃l,s.take (s.length - 2)=l:=⟨_,rfl⟩;rw[J]at e1 C⊢;have A:∀(x:UInt8)(u:Bool)(out:ba),out.length+1<=za->da code lib 44 [.ptr 0 0,.flat (.int .u8 x.toNat)] [(101,bld u 0 out [])] [.cell 0 1]=some ([.flat .nilIface],false,[(101,bld true 0 (out++[x]) [])],[.cell 0 1]):=fun x u out h=>hx (lib:=lib) (r:=[]) (c:=x) D rfl Wk h ea ea
 have hrel:=Sl (body:=oa (da code lib) ia dC) (live:=[0,5,6]) (nb:=1)
  (fun(u:Bool)(q:ba×Nat)=>(⟨[(0,.flat (.string (S l))),(5,.ptr 0 0),(6,.flat (.int .i64 (q.2:Nat)))],[.cell 0 1],[],[(101,bld u 0 q.1 [])]⟩:St))
  (dk l) none (fun a o st=>match a with
    |some x=>o=.exit 0/\∃u,st=⟨[(5,.ptr 0 0)],[.cell 0 1],[],[(101,bld u 0 x [])]⟩
    |none=>o=.ret/\∃y,st=⟨[(2,.flat (.string (S []))),(3,.flat (.bool false))],[.cell 0 1],[],[y]⟩)
  (fun a=>a.2<=l.length/\a.1.length<=a.2) (fun a=>l.length - a.2) (fun u ⟨out,j⟩ z=>?_) (fun u ⟨out,j⟩ z=>?_) (fun a c z h=>IS a c z h) (n:=l.length+1) (m:=ia) false ([],0) ⟨Ab _,Aa _⟩ aa (by grind [ia])
 ·obtain⟨o,st,e,g⟩:=hrel
  have k:Ob (dk l) none (l.length+1) ([],0)=Wn l:=rfl;rw[k]at g;dsimp only at e;rw[hy]at e;simp only[n0]at e;cases i:Wn l with
  |some x=>
   rw[i]at g;obtain⟨rfl,u,rfl⟩:=g;have p:=tl (lib:=lib) (bx:=[(101,bld u 0 x [])]) (b:=0) (oc:=[.cell 0 1]) D rfl ea;exact ta
  |none=>
   rw[i]at g;obtain⟨rfl,y,rfl⟩:=g;exact ta
 ·dsimp only at z⊢
  have v:=bD F l [13,10] j aa ha;unfold dk;dsimp only;by_cases fa:j<l.length
  ·have w:=qe fa
   obtain⟨c,E⟩:∃c,l[j]=c:=⟨_,rfl⟩;rw[E]at w;simp only[w];by_cases g:Ub l [13,10] j=true
   ·have i:c=13:=by
     unfold Ub at g;rw[Qd fa,E,cc]at g;have:=g.2;simp only[List.isPrefixOf,cc,beq_iff_eq]at this;exact this.1.symm
    have k:(c.toNat=13)=True:=eq_true dh;rw[g]at v;by_cases H:j+2<l.length
    ·have t:=qe H
     obtain⟨d,B⟩:∃d,l[j+2]=d:=⟨_,rfl⟩;rw[B]at t;have p:=dY (lib:=lib) d;cases e:vc d with
     |true=>
      rw[e]at p;simp only[Pr,g,t,e,Bg,if_true];refine⟨u,?_⟩;have e2:(j:Int)+1+1=(j:Int)+2:=aa
      exact ua Ir
     |false=>
      rw[e]at p;simp only[Pr,g,t,e,fi,Ha,if_false,i,true_or,if_true];refine⟨.ret,⟨[(2,.flat (.string (S []))),(3,.flat (.bool false))],[.cell 0 1],[],[(101,bld u 0 out [])]⟩,?_,ea,rfl,_,rfl⟩;exact ua Ir
    ·have t:l[j+2]?=none:=Qf aa
     simp only[Pr,g,t,fi,Ha,if_false,i,true_or,if_true];refine⟨.ret,⟨[(2,.flat (.string (S []))),(3,.flat (.bool false))],[.cell 0 1],[],[(101,bld u 0 out [])]⟩,?_,ea,rfl,_,rfl⟩;exact ua Ir
   ·have t:=Do.2 g
    rw[t]at v;simp only[Pr,t,De,Ha,if_false];by_cases k:c=13
    ·have p:(c.toNat=13)=True:=eq_true dh
     rw[if_pos (.inl k)];refine⟨.ret,⟨[(2,.flat (.string (S []))),(3,.flat (.bool false))],[.cell 0 1],[],[(101,bld u 0 out [])]⟩,?_,ea,rfl,_,rfl⟩;exact ua Ir
    ·have p:(c.toNat=13)=False:=eq_false fun h=>k (Yb.1 h)
     by_cases e:c=10
     ·have i:(c.toNat=10)=True:=eq_true dh
      rw[if_pos (.inr e)];refine⟨.ret,⟨[(2,.flat (.string (S []))),(3,.flat (.bool false))],[.cell 0 1],[],[(101,bld u 0 out [])]⟩,?_,ea,rfl,_,rfl⟩;exact ua Ir
     ·have i:(c.toNat=10)=False:=eq_false fun h=>e (Yb.1 h)
      rw[if_neg la];have B:=A c u out (by grind [za]);refine⟨true,?_⟩;exact ua Ir
  ·have w:l[j]?=none:=Qf aa
   simp only[w];refine⟨.exit 0,⟨[(5,.ptr 0 0)],[.cell 0 1],[],[(101,bld u 0 out [])]⟩,?_,ea,rfl,u,rfl⟩;exact ua Ir
 ·exact ta
abbrev Eu:=ba×Bool×Bool
def Jt(W:List ba)(q:Eu×Nat):(Eu×Nat) ⊕ Eu:=match W[q.2]? with
 |none=>.inr q.1
 |some w=>.inl (ig rf q.1 w,q.2+1)
theorem PU(W)(d):∀(t:List ba)(k n)(q),W.drop k=t->t.length<n->Ob (Jt W) d n (q,k)=t.foldl (ig rf) q
 |[],k,n+1,q,h,_=>by
  have:W[k]?=none:=by
   have:=congrArg List.length h;rw[fc]at this;exact Qf la
  rw[hd (r:=q) (by grind [Jt])];rfl
 |w::t,k,n+1,q,h,c=>by
  have a:W[k]?=some w:=by
   have:=congrArg (·[0]?) h;simpa using this
  rw[hf (b:=(ig rf q w,k+1)) (by grind [Jt]),Pf];refine PU W d t (k+1) n _ ?_ la;rw[<-Cd,h];rfl
theorem zc3(q:Eu)(w):(ig rf q w).1.length<=q.1.length+1+w.length:=by
 grind [AP,ig]
def ko(s:ba):ba×ba×Nat:=
 match(if([13,10]:ba).isSuffixOf s then Wn (s.take (s.length - 2))else none)with
 |none=>([],[],7)
 |some l=>if(Lib.cut l [58]).2.2&&Hf (Lib.cut l [58]).1 then((Lib.cut l [58]).1,Aj rf (Lib.replaceAll (Lib.cut l [58]).2.1 [9] [32]),0)else([],[],7)
def o_{l x}(h:Wn l=some x):x.length<=l.length:=by
 have:=rk (step:=dk l) (d:=none) (I:=fun a=>a.2<=l.length/\a.1.length<=a.2) (μ:=fun a=>l.length - a.2) (Q:=fun r=>∀x,r=some x->x.length<=l.length) (fun a c=>by
  cases hs:dk l a with
  |inl b=>exact IS a b c hs
  |inr r=>
   grind [dk]) (l.length+1) ([],0) ⟨Ab _,Aa _⟩ aa
 exact this x h
def zie(I:Ge lib)(C:Yg lib)(v:Qb lib)(D:Nj lib)(B:is lib)(f)(W)(K:W.length<=10001)(H:∀w∈W,w.length<=10000):
 ∃o st,Cc (oa (da code lib) ia Wx) [2,9,10,11,40,41,42] 1 ia ⟨[(2,.flat (.string (S f))),(9,.ptr 0 0),(10,.flat (.bool false)),(11,.flat (.bool false)),(40,.ga W.length (va W)),(41,.flat (.int .i64 (W.length:Nat))),(42,.flat (.int .i64 0))],[.cell 0 1],[],[(101,bld false 0 [] [])]⟩=some (o,st)/\
  o=.exit 0/\∃u,st=⟨[(2,.flat (.string (S f))),(9,.ptr 0 0)],[.cell 0 1],[],[(101,bld u 0 (W.foldl (ig rf) ([],false,false)).1 [])]⟩:=by
 have d:∀(x:ba)(u:Bool)(out:ba),out.length+x.length<=za->da code lib 45 [.ptr 0 0,.flat (.string (S x))] [(101,bld u 0 out [])] [.cell 0 1]=some ([.flat (.int .i64 x.length),.flat .nilIface],false,[(101,bld true 0 (out++x) [])],[.cell 0 1]):=fun x u out h=>cj (lib:=lib) (r:=[]) (m:=x) v rfl Wk h ea ea
 have k:∀(u:Bool)(out:ba),out.length+1<=za->da code lib 44 [.ptr 0 0,.flat (.int .u8 32)] [(101,bld u 0 out [])] [.cell 0 1]=some ([.flat .nilIface],false,[(101,bld true 0 (out++[32]) [])],[.cell 0 1]):=fun u out h=>hx (lib:=lib) (r:=[]) (c:=32) v rfl Wk h ea ea
 have hrel:=Sl (body:=oa (da code lib) ia Wx) (live:=[2,9,10,11,40,41,42]) (nb:=1)
  (fun(u:Bool)(q:Eu×Nat)=>(⟨[(2,.flat (.string (S f))),(9,.ptr 0 0),(10,.flat (.bool q.1.2.1)),(11,.flat (.bool q.1.2.2)),(40,.ga W.length (va W)),(41,.flat (.int .i64 (W.length:Nat))),(42,.flat (.int .i64 (q.2:Nat)))],[.cell 0 1],[],[(101,bld u 0 q.1.1 [])]⟩:St))
  (Jt W) ([],false,false) (fun q o st=>o=.exit 0/\∃u,st=⟨[(2,.flat (.string (S f))),(9,.ptr 0 0)],[.cell 0 1],[],[(101,bld u 0 q.1 [])]⟩)
  (fun q=>q.2<=W.length/\q.1.1.length<=q.2* 10001) (fun q=>W.length - q.2) (fun u ⟨⟨out,z,A⟩,j⟩ b=>?_) (fun u ⟨⟨out,z,A⟩,j⟩ b=>?_) (fun a c b h=>?_) (n:=W.length+1) (m:=ia) false (([],false,false),0) ⟨Ab _,Aa _⟩ aa (by grind [ia])
 ·rw[PU W _ W 0 (W.length+1) _ rfl aa]at hrel
  exact hrel
 ·dsimp only at b⊢
  unfold Jt;dsimp only;by_cases fa:j<W.length
  ·have g:=qe fa
   have l:(va W).drop j=.flat (.string (S W[j]))::(va W).drop (j+1):=by
    rw[va,<-rm,<-rm,Qd fa];rfl
   have p:=H W[j] (List.getElem_mem fa);obtain⟨w,G⟩:∃w,W[j]=w:=⟨_,rfl⟩;rw[G]at g l p;simp only[g];have L:out.length+10001<=200000000:=by have:=b.2;have:=b.1;have J:j* 10001<=10001* 10001:=Nat.mul_le_mul_right _ aa;omega
   clear b;have F:za=4294967296:=rfl;unfold ig;by_cases i:w=[]
   ·subst i
    rw[if_pos rfl];refine⟨u,?_⟩;exact ua rt
   ·rw[if_neg i]
    have E:=eq_false i;have y:=v2 C D B w aa;have e:=AP w;obtain⟨⟨t,c⟩,ht⟩:∃q,rf w=q:=⟨_,rfl⟩;rw[ht]at y e⊢;dsimp only at y e⊢;have M:=k u out aa;have N:=d t true (out++[32]) la;have O:=d t u out aa;refine⟨true,?_⟩;cases z
    ·simp only[De,Ha,if_false,ph]
     exact ua rt
    ·cases A
     ·simp only[De,pn,Bg,if_true]
      exact ua rt
     ·cases c
      ·simp only[fi,pn,Bg,if_true]
       exact ua rt
      ·simp only[Bg,nm,fi,Ha,if_false,ph]
       exact ua rt
  ·have g:W[j]?=none:=Qf aa
   simp only[g];refine⟨.exit 0,⟨[(2,.flat (.string (S f))),(9,.ptr 0 0)],[.cell 0 1],[],[(101,bld u 0 out [])]⟩,?_,ea,rfl,u,rfl⟩;exact ua rt
 ·exact ta
 grind [Jt,zc3]
def Y1(l w:ba):(Lib.cut l w).1.length<=l.length/\(Lib.cut l w).2.1.length<=l.length:=by
 grind [Lib.cut]
def wE(t:Ge lib)(C:kc lib)(p:Au lib)(e:Yg lib)(D:Ax lib)(d:Qb lib)(v:Nj lib)(B:is lib)(s)(hs:s.length<=10000):da code lib 20 [.flat (.string (S s))] [] []=some ([.flat (.string (S (ko s).1)),.flat (.string (S (ko s).2.1)),.flat (.int .i64 ((ko s).2.2:Nat))],false,[],[]):=by
 have e1:=k_ C d v s aa;refine ja GZ (qa rfl) ?_;unfold ko;have c:∀x,(if([13,10]:ba).isSuffixOf s then Wn (s.take (s.length - 2))else none)=some x->x.length<=10000:=fun x A=>by
  split at A
  ·have:=o_ A;grind
  grind
 obtain⟨o,H⟩:∃o,(if([13,10]:ba).isSuffixOf s then Wn (s.take (s.length - 2))else none)=o:=⟨_,rfl⟩;rw[H]at e1 c⊢;cases o with
 |none=>
  dsimp only at e1⊢;have e2:=qP p [] [58] ea;rw[show Lib.cut [] [58]=([],[],false) by decide]at e2;dsimp only at e2;exact ta
 |some l=>
  have N:=c l rfl;dsimp only at e1⊢;have e2:=qP p l [58] aa;have a:=Y1 l [58];obtain⟨⟨f,r,b⟩,E⟩:∃q,Lib.cut l [58]=q:=⟨_,rfl⟩;rw[E]at e2 a⊢;dsimp only at e2 a⊢;have e3:=eT (lib:=lib) f aa;cases b with
  |false=>
   rw[De];exact ta
  |true=>
   rcases Ph (Hf f)with i|i
   ·rw[i]at e3⊢
    have e4:=zdp D r [9] [32] aa ha ha;have k:=zdq r [9] [32] ha;obtain⟨y,M⟩:∃y,Lib.replaceAll r [9] [32]=y:=⟨_,rfl⟩;rw[M]at e4 k⊢;have e5:=pP t y 32 aa;have L:=av 32 y;obtain⟨o,st,g,rfl,u,rfl⟩:=zie t e d v B f (db 32 y) aa fun w K=>by have:=Ey 32 y w K;omega
    have J:=tl (lib:=lib) (bx:=[(101,bld u 0 (Aj rf y) [])]) (b:=0) (oc:=[.cell 0 1]) d rfl ea;have j:((db 32 y).foldl (ig rf) ([],false,false)).1=Aj rf y:=rfl;rw[j]at g;rw[hy]at g;have h:((32:UInt8).toNat:Int)=32:=rfl;rw[h]at e5;obtain⟨W,z⟩:∃W,db 32 y=W:=⟨_,rfl⟩;rw[z]at e5 g;have G:=Pc W;have F:=fun n=>ed (n:=n) W
    have I:W.length<=10001:=by rw[<-z];omega
    exact ta
   ·rw[i]at e3⊢
    exact ta
end ya
section
set_option synthInstance.maxSize 4000
set_option synthInstance.maxHeartbeats 400000
namespace ya
def free(c:UInt8):Bool:=(97<=c&&c<=122)||(65<=c&&c<=90)||(48<=c&&c<=57)||c==45||c==46||c==95||c==126
def Eo(c:UInt8):Option UInt8:=if 48<=c/\c<=57 then some (c - 48)else if 97<=c/\c<=102 then some (c - 87)else if 65<=c/\c<=70 then some (c - 55)else none
def Tk(c:UInt8):UInt8:=if c<10 then 48+c else 55+c
def pair(c:UInt8):List UInt8:=[Tk (c/16),Tk (c % 16)]
def iz(a b:UInt8):Option UInt8:=match Eo a,Eo b with|some x,some y=>some (16* x+y)|_,_=>none
def ni(s:List UInt8)(at_:Int):Option UInt8:=
 if at_<0 then none else match s[at_.toNat]?,s[at_.toNat+1]? with|some a,some b=>iz a b|_,_=>none
theorem oR(s:ByteArray)(n)(h:n<0\/(s.size:Int) - 2<n):ni s.data.toList n=none:=by
 unfold ni;split
 ·rfl
 ·rename_i a
  have:s.data.toList[n.toNat+1]?=none:=by
   rw[Qf];simp;show s.size<=_;omega
  grind
def S5(s:ByteArray)(n:Int)(c:0<=n)(h:n+2<=s.size):ni s.data.toList n=iz (s[n.toNat]' aa) (s[(n+1).toNat]' aa):=by
 have e:(n+1).toNat=n.toNat+1:=aa
 have a:s.data.toList[n.toNat]?=some (s[n.toNat]' aa):=by
  rw[qe La];rfl
 have b:s.data.toList[n.toNat+1]?=some (s[(n+1).toNat]' aa):=by
  rw[qe La];simp only[e];rfl
 grind [ni]
theorem zik{c x}(h:Eo c=some x):x<16:=by
 grind [Eo]
theorem zbh:∀x,x<16->∀y:UInt8,y<16->Go.bits .or .u8 (↑x.toNat* 16 % 256) ↑y.toNat=↑(16* x+y).toNat:=Hb
end ya
namespace Go.Proofs.YtglaihdcndcmkaaGreatDoor
def zij(c)(w):Calls Tryz.prog 272 #[.int .u8 c.toNat] w (Yf (.tuple #[.int .u8 ((Eo c).getD 0).toNat,.bool (Eo c).isSome]) w):=by
 go_enter Tryz.func272,Tryz.ntmps272
 go_wp2
 all_goals (go_ret2;refine⟨t2 (vi ?_) (vb ?_),rfl⟩)
 all_goals (go_light;revert c;decide+kernel)
def Ct(c)(w):Calls Tryz.prog 234 #[.int .u8 c.toNat] w (Zg (.string ⟨(pair c).toArray⟩) w):=by
 have h:(c.toNat:Int)<256:=by have:=c.toNat_lt;omega
 have b:(0:Int)<=c.toNat/16:=aa
 have d:(c.toNat:Int)/16<16:=aa
 have e:(0:Int)<=c.toNat % 16:=aa
 have g:(c.toNat:Int) % 16<16:=aa
 have a:=fun(w:World)(x y:UInt8)=>N1 (P:=Tryz.prog) Tryz.underlying99 Tryz.underlying5 Tryz.underlying9 w x y
 go_enter Tryz.func234,Tryz.ntmps234
 go_wp2
 go_region
 go_wp2;go_ret;refine⟨r1 (vS ?_),((Below.refl _ _).alloc (Aa _) _).drew⟩;clear a
 (go_light;revert c;decide+kernel)
def qw(c)(w):Calls Tryz.prog 204 #[.int .u8 c.toNat] w (Zg (.string ⟨(pair c).toArray⟩) w):=by
 have d:(c.toNat:Int)<256:=by have:=c.toNat_lt;omega
 go_enter Tryz.func204,Tryz.ntmps204
 go_wp2
 (refine wp_region_quiet_below ca ca ?_;(repeat (first|go_big_quiet_skip|(go_big_quiet_want;go_big_quiet_op;first|go_big_quiet_on|(apply Exists.intro;refine⟨fun _=>?_,?_⟩;(· (fail));go_big_quiet_on))));refine wpQuiet_nil ?_;intro _ b;obtain⟨⟨dq,osq⟩,a⟩:=b;subst a)
 go_wp2;go_ret;refine⟨r1 (vS ?_),below_regrown _ _ _⟩
 (go_light;revert c;decide+kernel)
def zil(c)(o)(h:Eo c=o)(w:World):Calls Tryz.prog 272 #[.int .u8 c.toNat] w (Yf (.tuple #[.int .u8 (o.getD 0).toNat,.bool o.isSome]) w):=h▸zij c w
def AY(s)(n)(w)(hs:s.size<=1000000000):
 Calls Tryz.prog 213 #[.string s,.int .i64 n] w (Yf (.tuple #[.int .u8 ((ni s.data.toList n).getD 0).toNat,.bool (ni s.data.toList n).isSome]) w):=by
 by_cases i:0<=n/\n+2<=s.size
 ·obtain⟨g,h⟩:=i
  have j:¬(n<0):=aa
  have k:¬((s.size:Int) - 2<n):=aa
  have l:(0:Int)<=n+1:=aa
  have o:n+1<(s.size:Int):=aa
  have p:n<(s.size:Int):=aa
  rw[S5 s n g h];unfold iz;generalize a:Eo s[n.toNat]=x;generalize b:Eo s[(n+1).toNat]=y;have c:=Lib.hid a;have d:=Lib.hid b;clear a b;cases x<;>cases y
  all_goals
   go_enter Tryz.func213,Tryz.ntmps213
   go_wp2_with(go_at_call 272;refine(zil _ _ (by first|exact c.out|exact d.out) _).mono ?_;rintro e w' ⟨rfl,rfl⟩)
   go_ret2
  all_goals go_light
  all_goals first|exact⟨rfl,rfl⟩|refine⟨t2 (vi ?_) rfl,rfl⟩
  grind [zbh,zik,Hid.out]
 ·go_enter Tryz.func213,Tryz.ntmps213
  go_wp2
  all_goals (go_ret2;refine⟨t2 (vi ?_) (vb ?_),rfl⟩<;>rw[oR s n aa]<;>rfl)
end Go.Proofs.YtglaihdcndcmkaaGreatDoor
end
namespace ya
def Cj{α:Type}(step:Nat->Option (List α×Nat))(len:Nat):Nat->Nat->Option (List α)
 |0,_=>some []
 |f+1,k=>if k<len then match step k with
  |none=>none
  |some (o,n)=>(Cj step len f (k+n)).map (o++·)
  else some []
theorem zdB{α}{step:Nat->Option (List α×Nat)}{len}(b:∀k o n,step k=some (o,n)->0<n):
 ∀f f' k,len - k<=f->len - k<=f'->Cj step len f k=Cj step len f' k:=by
 intro f
 induction f with
 |zero=>
  intro f' k h _;cases f' with
  |zero=>rfl
  |succ f'=>simp only[Cj];rw[if_neg aa]
 |succ f c=>
  intro f' k h d;by_cases a:k<len
  ·cases f' with
   |zero=>omega
   |succ f'=>
    simp only[Cj];rw[if_pos a];cases hs:step k with
    |none=>simp[a]
    |some p=>
     obtain⟨o,n⟩:=p;have:=b k o n hs;simp only;rw[c f' (k+n) aa aa,if_pos a]
  ·have e:Cj step len (f+1) k=some []:=by simp only[Cj];rw[if_neg a]
   rw[e];cases f' with
   |zero=>rfl
   |succ f'=>simp only[Cj];rw[if_neg a]
def Ri{α:Type}(step:Nat->Option (List α×Nat))(len k:Nat):Option (List α):=Cj step len (len - k) k
def zdC{α}{step:Nat->Option (List α×Nat)}{len k}(h:len<=k):Ri step len k=some []:=by
 unfold Ri;rw[Nat.sub_eq_zero_of_le h];rfl
def eV{α}{step:Nat->Option (List α×Nat)}{len k}(h:k<len)(hs:step k=none):Ri step len k=none:=by
 unfold Ri;obtain⟨m,a⟩:∃m,len - k=m+1:=⟨len - k - 1,aa⟩;rw[a];simp only[Cj];rw[if_pos h,hs]
def fV{α}{step}{len k n}{o:List α}(a:∀k o n,step k=some (o,n)->0<n)(h:k<len)(hs:step k=some (o,n)):
 Ri step len k=(Ri step len (k+n)).map (o++·):=by
 unfold Ri;obtain⟨m,b⟩:∃m,len - k=m+1:=⟨len - k - 1,aa⟩;rw[b];simp only[Cj];rw[if_pos h,hs];have:=a k o n hs;simp only;rw[zdB a m (len - (k+n)) (k+n) aa (Aa _)]
def Kt{α}{step}{len k n}{o a}{r:Option (List α)}(c:∀k o n,step k=some (o,n)->0<n)(h:k<len)(hs:step k=some (o,n))
 (b:r=(Ri step len k).map (a++·)):r=(Ri step len (k+n)).map ((a++o)++·):=by
 rw[b,fV c h hs];cases Ri step len (k+n)<;>simp
def zdD{α}{step step':Nat->Option (List α×Nat)}{len d}(hs:∀k,step' (d+k)=step k):∀f k,Cj step' (d+len) f (d+k)=Cj step len f k:=by
 intro f
 induction f with
 |zero=>intro k;rfl
 |succ f b=>
  intro k;simp only[Cj];rw[hs];by_cases a:k<len
  ·rw[if_pos a,if_pos aa]
   cases step k with
   |none=>rfl
   |some p=>simp only;rw[Ij,b]
  ·rw[if_neg a,if_neg aa]
def zdE{α}{step step':Nat->Option (List α×Nat)}{len d}(hs:∀k,step' (d+k)=step k)(k):Ri step' (d+len) (d+k)=Ri step len k:=by
 unfold Ri;rw[show d+len - (d+k)=len - k by omega];exact zdD hs _ _
def Sh(s w:List UInt8)(n:Int):Bool:=decide (0<=n)&&decide (n<=s.length)&&w.isPrefixOf (s.drop n.toNat)
def IK(s w)(k:Nat)(h:k<=s.length):Sh s w k=w.isPrefixOf (s.drop k):=by
 unfold Sh;simp[h]
def JK(a l w)(k):Sh (a++l) w ((a.length+k:Nat):Int)=Sh l w k:=by
 unfold Sh;have e1:(((a.length+k:Nat):Int)).toNat=a.length+k:=aa
 have e3:((k:Int)).toNat=k:=aa
 have e4:(a++l).drop (a.length+k)=l.drop k:=by rw[<-Cd];simp
 rw[e1,e3,e4];have e5:decide (((a.length+k:Nat):Int)<=((a++l).length:Int))=decide ((k:Int)<=(l.length:Int)):=by
  rw[Da];by_cases h:k<=l.length
  ·rw[decide_eq_true aa,decide_eq_true aa]
  ·rw[decide_eq_false aa,decide_eq_false aa]
 have e6:decide ((0:Int)<=((a.length+k:Nat):Int))=decide ((0:Int)<=(k:Int)):=by
  rw[decide_eq_true aa,decide_eq_true aa]
 rw[e5,e6]
end ya
section
set_option synthInstance.maxSize 4000
namespace ya
def Mi(c:UInt8):Bool:=33<=c&&c<=126&&c !=61
def lj(s:List UInt8)(k:Nat):Option (List UInt8×Nat):=
 match s[k]? with
 |none=>none
 |some c=>if Sh s [13,10] k then some ([10],2)else if Sh s [61,13,10] k then some ([],3)
  else if c=61 then(ni s (k+1)).map fun b=>([b],3)else if Mi c||c==32||c==9 then some ([c],1)else none
def Xq(s):∀k o n,lj s k=some (o,n)->0<n:=by
 intro k o n h;unfold lj at h;split at h
 ·cases h
 ·repeat' split at h
  all_goals first|(cases h;omega)|skip
  ·simp at h;omega
  grind
def rp(s:ByteArray)(k)(e:k<s.size)(b1 a)(c:Sh s.data.toList [13,10] k=b1)(d:Sh s.data.toList [61,13,10] k=a):lj s.data.toList k=
 if b1 then some ([10],2)else if a then some ([],3)else if s[k]=61 then(ni s.data.toList (k+1)).map (fun b=>([b],3))else if Mi s[k]||s[k]==32||s[k]==9 then some ([s[k]],1)else none:=by
 unfold lj;rw[qe (show k<s.data.toList.length from e)];simp only[c,d];rfl
def Je(s:List UInt8):Option (List UInt8):=Ri (lj s) s.length 0
def wP:Option (List UInt8)->Go.Value
 |none=>.tuple #[.string ⟨#[]⟩,.int .i64 7]
 |some l=>.tuple #[.string ⟨l.toArray⟩,.int .i64 0]
attribute [simp] wP
end ya
namespace Go.Proofs.YtglaihdcndcmkaaGreatDoor
def RX(s t)(n:Int)(w:World)(hs:s.size<=1000000000):Calls Tryz.prog 85 #[.string s,.string t,.int .i64 n] w (Yf (.bool (Sh s.data.toList t.data.toList n)) w):=by
 by_cases h:0<=n/\n<=s.size
 ·obtain⟨c,d⟩:=h
  obtain⟨k,rfl⟩:=Int.eq_ofNat_of_zero_le c;have a:Sh s.data.toList t.data.toList (k:Int)=Lib.hasPrefix (s.extract k s.size).data.toList t.data.toList:=by
   rw[IK _ _ _ dh,Lib.extract_to_end];rfl
  have b:=Lib.hid a;clear a
  go_enter Tryz.func85,Tryz.ntmps85
  go_wp2_with(go_at_call 80;refine(Tryz.strings_HasPrefix _ _ _).mono ?_;rintro e w' ⟨rfl,rfl⟩)
  go_ret;exact⟨r1 (vb (by rw[b.out];simp)),rfl⟩
 ·have a:Sh s.data.toList t.data.toList n=false:=by
   unfold Sh;by_cases d:0<=n
   ·rw[decide_eq_false (p:=n<=(s.data.toList.length:Int)) dh];simp
   ·grind
  have b:=Lib.hid a;clear a;by_cases d:0<=n
  ·have c:decide (n<=(s.size:Int))=false:=La
   go_enter Tryz.func85,Tryz.ntmps85
   go_wp2;go_ret;exact⟨r1 (vb (by rw[b.out])),rfl⟩
  ·go_enter Tryz.func85,Tryz.ntmps85
   go_wp2;go_ret;exact⟨r1 (vb (by rw[b.out])),rfl⟩
set_option maxRecDepth 100000 in
def zcC(c)(w):Calls Tryz.prog 214 #[.int .u8 c.toNat] w (Yf (.bool (Mi c)) w):=by
 go_enter Tryz.func214,Tryz.ntmps214
 go_wp2
 all_goals (go_ret;refine⟨r1 (vb ?_),rfl⟩)
 all_goals (go_light;revert c;decide+kernel)
set_option maxRecDepth 100000 in
def zcD(c)(w):Calls Tryz.prog 203 #[.int .u8 c.toNat] w (Yf (.bool (Mi c)) w):=by
 go_enter Tryz.func203,Tryz.ntmps203
 go_wp2
 all_goals (go_ret;refine⟨r1 (vb ?_),rfl⟩)
 all_goals (go_light;revert c;decide+kernel)
end Go.Proofs.YtglaihdcndcmkaaGreatDoor
end
section
set_option synthInstance.maxSize 4000
namespace ya
def one(s:List UInt8)(n:Int):Option (UInt8×Nat):=
 if n<0 then none else match s[n.toNat]? with
 |none=>none
 |some c=>if free c then some (c,1)else if c=37 then(ni s (n+1)).map fun x=>(x,3)else none
def zaW:Option (UInt8×Nat)->Go.Value
 |none=>.tuple #[.int .u8 0,.int .i64 0,.bool false]
 |some (c,k)=>.tuple #[.int .u8 c.toNat,.int .i64 k,.bool true]
attribute [simp] zaW
end ya
namespace Go.Proofs.YtglaihdcndcmkaaGreatDoor
def dL(s)(n)(o)(h:ni s.data.toList n=o)(w)(hs:s.size<=1000000000):
 Calls Tryz.prog 213 #[.string s,.int .i64 n] w (Yf (.tuple #[.int .u8 (o.getD 0).toNat,.bool o.isSome]) w):=h▸AY s n w hs
end Go.Proofs.YtglaihdcndcmkaaGreatDoor
end
namespace Go.Proofs.YtglaihdcndcmkaaGreatDoor
def To(s t)(n)(b:Bool)(h:Sh s.data.toList t.data.toList n=b)(w:World)(hs:s.size<=1000000000):Calls Tryz.prog 85 #[.string s,.string t,.int .i64 n] w (Yf (.bool b) w):=h▸RX s t n w hs
def kn(c)(b)(h:Mi c=b)(w:World):Calls Tryz.prog 214 #[.int .u8 c.toNat] w (Yf (.bool b) w):=h▸zcC c w
def vw(c)(b)(h:Mi c=b)(w:World):Calls Tryz.prog 203 #[.int .u8 c.toNat] w (Yf (.bool b) w):=h▸zcD c w
set_option maxRecDepth 100000 in
def u2(s)(w)(hs:s.size<=100000000):Calls Tryz.prog 143 #[.string s] w (Zg (wP (Je s.data.toList)) w):=by
 have C:s.data.toList.length=s.size:=rfl;have K:=Lib.hid C;clear C
 go_enter Tryz.func143,Tryz.ntmps143
 go_wp2
 go_loopw [4,5,6,7,8] (fun v i _ _ _ wr=>∃(k:Nat)(q:List UInt8),i=.int .i64 k/\k<=s.size+2/\q.length<=k/\Hk w.heap.size 5 v q wr/\Below w.heap.size w wr/\Hid (Je s.data.toList=(Ri (lj s.data.toList) s.data.toList.length k).map (q++·)))
  (fun _ i _ _ _ _=>s.size+2 - (intOf i).toNat)
 case atStart=>exact⟨0,[],rfl,aa,ea,Hk.nil _ _ _,Below.refl _ _,Lib.hid (by unfold Je;simp)⟩
 case round=>
  obtain⟨k,q,rfl,Q,M,t,a,d⟩:=hrel;by_cases fa:k<s.size
  ·generalize p:Sh s.data.toList (⟨#[13,10]⟩:ByteArray).data.toList (k:Int)=b1
   generalize G:Sh s.data.toList (⟨#[61,13,10]⟩:ByteArray).data.toList (k:Int)=L;have j:=Lib.hid p;have l:=Lib.hid G;clear p G;cases b1
   ·cases L
    ·by_cases u:s[k]=61
     ·have N:((s[k].toNat:Int)==61)=true:=by rw[u];rfl
      rcases r:ni s.data.toList ((k:Int)+1)with _|b
      ·have y:=Lib.hid (show Je s.data.toList=none by rw[d.out,eV (len:=s.data.toList.length) fa (by rw[rp s k fa _ _ j.out l.out,if_neg ea,if_neg ea,if_pos u,r];rfl)];rfl)
       have D:=Lib.hid r;clear r d u
       go_wp2_with(first|(go_at_call 85;refine(To _ _ _ _ (by first|exact j.out|exact l.out) _ aa).mono ?_;rintro e x ⟨rfl,rfl⟩)|(go_at_call 213;refine(dL _ _ _ D.out _ aa).mono ?_;rintro e x ⟨rfl,rfl⟩))
       go_ret2
       rw[y.out];exact⟨rfl,a⟩
      ·have y:=Lib.hid (Kt (Xq _) fa (o:=[b]) (n:=3) (by rw[rp s k fa _ _ j.out l.out,if_neg ea,if_neg ea,if_pos u,r];rfl) d.out)
       have F:k+3<=s.size:=by
        by_cases E:k+3<=s.size
        ·exact E
        ·grind [oR]
       have D:=Lib.hid r;clear r d u
       go_wp2_with(first|(go_at_call 85;refine(To _ _ _ _ (by first|exact j.out|exact l.out) _ aa).mono ?_;rintro e x ⟨rfl,rfl⟩)|(go_at_call 213;refine(dL _ _ _ D.out _ aa).mono ?_;rintro e I ⟨rfl,rfl⟩;skip)|(at_builtin;refine xw pa _ _ _ pa 5 Tryz.underlying99 infoByte w.heap.size wr _ _ pa t b pa aa a.size ?_;intro g A x H c B p z))
       go_roundw
       case rel=>exact⟨k+3,q++[b],by go_num,aa,la,c,a.trans p,y⟩
       grind [intOf]
     ·have N:((s[k].toNat:Int)==61)=false:=by simp[<-Yb]at u⊢;omega
      by_cases D:Mi s[k]=true
      ·have y:=Lib.hid (Kt (Xq _) fa (o:=[s[k]]) (n:=1) (by rw[rp s k fa _ _ j.out l.out];grind) d.out)
       have E:=Lib.hid D;clear D d u
       go_wp2_with(first|(go_at_call 85;refine(To _ _ _ _ (by first|exact j.out|exact l.out) _ aa).mono ?_;rintro e x ⟨rfl,rfl⟩)|(go_at_call 214;refine(kn _ _ E.out _).mono ?_;rintro e x ⟨rfl,rfl⟩)|(at_builtin;refine xw pa _ _ _ pa 5 Tryz.underlying99 infoByte w.heap.size wr _ _ pa t s[k] pa aa a.size ?_;intro g A x H c B p z))
       go_roundw
       case rel=>exact⟨k+1,q++[s[k]],by go_num,aa,la,c,a.trans p,y⟩
       grind [intOf]
      ·replace D:Mi s[k]=false:=by simpa using D
       by_cases r:s[k]=32\/s[k]=9
       ·have E:=Lib.hid D;clear D
        rcases r with r|r
        ·have y:=Lib.hid (Kt (Xq _) fa (o:=[s[k]]) (n:=1) (by rw[rp s k fa _ _ j.out l.out];grind) d.out)
         clear d u;have J:((s[k].toNat:Int)==32)=true:=by rw[r];rfl
         clear r
         go_wp2_with(first|(go_at_call 85;refine(To _ _ _ _ (by first|exact j.out|exact l.out) _ aa).mono ?_;rintro e x ⟨rfl,rfl⟩)|(go_at_call 214;refine(kn _ _ E.out _).mono ?_;rintro e x ⟨rfl,rfl⟩)|(at_builtin;refine xw pa _ _ _ pa 5 Tryz.underlying99 infoByte w.heap.size wr _ _ pa t s[k] pa aa a.size ?_;intro g A x H c B p z))
         go_roundw
         case rel=>exact⟨k+1,q++[s[k]],by go_num,aa,la,c,a.trans p,y⟩
         grind [intOf]
        ·have y:=Lib.hid (Kt (Xq _) fa (o:=[s[k]]) (n:=1) (by rw[rp s k fa _ _ j.out l.out];grind) d.out)
         clear d u;have J:((s[k].toNat:Int)==32)=false:=by rw[r];rfl
         have O:((s[k].toNat:Int)==9)=true:=by rw[r];rfl
         clear r
         go_wp2_with(first|(go_at_call 85;refine(To _ _ _ _ (by first|exact j.out|exact l.out) _ aa).mono ?_;rintro e x ⟨rfl,rfl⟩)|(go_at_call 214;refine(kn _ _ E.out _).mono ?_;rintro e x ⟨rfl,rfl⟩)|(at_builtin;refine xw pa _ _ _ pa 5 Tryz.underlying99 infoByte w.heap.size wr _ _ pa t s[k] pa aa a.size ?_;intro g A x H c B p z))
         go_roundw
         case rel=>exact⟨k+1,q++[s[k]],by go_num,aa,la,c,a.trans p,y⟩
         grind [intOf]
       ·have F:=fun h=>r (.inl h)
        have I:=fun h=>r (.inr h)
        have y:=Lib.hid (show Je s.data.toList=none by rw[d.out,eV (len:=s.data.toList.length) fa (by rw[rp s k fa _ _ j.out l.out];grind)];rfl);have J:((s[k].toNat:Int)==32)=false:=by simp[<-Yb]at F⊢;omega
        have O:((s[k].toNat:Int)==9)=false:=by simp[<-Yb]at I⊢;omega
        have E:=Lib.hid D;clear D d u r F I
        go_wp2_with(first|(go_at_call 85;refine(To _ _ _ _ (by first|exact j.out|exact l.out) _ aa).mono ?_;rintro e x ⟨rfl,rfl⟩)|(go_at_call 214;refine(kn _ _ E.out _).mono ?_;rintro e x ⟨rfl,rfl⟩))
        go_ret2
        rw[y.out];exact⟨rfl,a⟩
    ·have y:=Lib.hid (Kt (Xq _) fa (o:=[]) (n:=3) (by rw[rp s k fa _ _ j.out l.out];simp) d.out)
     clear d
     go_wp2_with(go_at_call 85;refine(To _ _ _ _ (by first|exact j.out|exact l.out) _ aa).mono ?_;rintro e x ⟨rfl,rfl⟩)
     go_roundw
     case rel=>exact⟨k+3,q,by go_num,aa,aa,t,a,dh⟩
     grind [intOf]
   ·have y:=Lib.hid (Kt (Xq _) fa (o:=[10]) (n:=2) (by rw[rp s k fa _ _ j.out l.out];simp) d.out)
    clear d
    go_wp2_with(first|(go_at_call 85;refine(To _ _ _ _ (by first|exact j.out|exact l.out) _ aa).mono ?_;rintro e x ⟨rfl,rfl⟩)|(at_builtin;refine xw pa _ _ _ pa 5 Tryz.underlying99 infoByte w.heap.size wr _ _ pa t 10 pa aa a.size ?_;intro g A x H c B p z))
    go_roundw
    case rel=>exact⟨k+2,q++[10],by go_num,aa,la,c,a.trans p,y⟩
    grind [intOf]
  ·have c:Je s.data.toList=some q:=by
    rw[d.out,zdC (by rw[K.out];omega)];simp
   have j:=Lib.hid c;clear c;have l:=L1 (P:=Tryz.prog) Tryz.underlying99 Tryz.underlying5 Tryz.underlying9 t;go_wp2
   go_ret2
   rw[j.out];exact⟨rfl,a⟩
end Go.Proofs.YtglaihdcndcmkaaGreatDoor
namespace ya
def uH:List UInt8->Bool|[]=>false|d::_=>d !=10
def piece(c:UInt8)(t:List UInt8):List UInt8:=if Mi c||((c==32||c==9)&&uH t)then[c]else 61::pair c
def kI(c)(t):0<(piece c t).length/\(piece c t).length<=3:=by grind [piece,pair]
def eb:Nat->List UInt8->List UInt8
 |_,[]=>[]
 |line,c::t=>if c=10 then 13::10::eb 0 t
  else if line+(piece c t).length>75 then[61,13,10]++(piece c t++eb (piece c t).length t)else piece c t++eb (line+(piece c t).length) t
def yA{s:List UInt8}{k}(a)(h:Mi s[k]=true\/((s[k]=32\/s[k]=9)/\∃h,s[k+1]≠10)):piece s[k] (s.drop (k+1))=[s[k]]:=by
 grind [piece,List.drop_eq_getElem_cons,uH]
def Ft{s:List UInt8}{k}(a)(b:Mi s[k]=false)(h:(s[k]≠32/\s[k]≠9)\/s.length<=k+1\/∃h,s[k+1]=10):piece s[k] (s.drop (k+1))=61::pair s[k]:=by
 grind [piece,uH,List.drop_eq_getElem_cons]
end ya
namespace Go.Proofs.YtglaihdcndcmkaaGreatDoor
set_option maxRecDepth 100000 in
def zcq(s)(k:Nat)(w)(hs:s.size<=1000000000)(p):Calls Tryz.prog 131 #[.string s,.int .i64 k] w (Zg (.string ⟨(piece s[k] (s.data.toList.drop (k+1))).toArray⟩) w):=by
 have E:=fun(w:World)(x:UInt8)=>K1 (P:=Tryz.prog) Tryz.underlying99 Tryz.underlying5 Tryz.underlying9 w x
 have z:(pair s[k]).length<=2:=by simp[pair]
 generalize t:Mi s[k]=v;have g:=Lib.hid t;clear t;cases v
 ·by_cases c:s[k]=32\/s[k]=9
  ·have q:∃b,((s[k].toNat:Int)==32)=b/\(b=false->((s[k].toNat:Int)==9)=true):=by
    refine⟨_,rfl,fun h=>?_⟩;rcases c with y|y
    ·simp_all
    ·simp_all
   obtain⟨b,u,n⟩:=q;by_cases r:k+1<s.size
   ·have A:(k:Int)<(s.size:Int) - 1:=aa
    have D:(k:Int)+1<(s.size:Int):=aa
    by_cases a:s[k+1]=10
    ·have i:=Lib.hid (show piece s[k] (s.data.toList.drop (k+1))=_ from Ft (s:=s.data.toList) p g.out (.inr (.inr ⟨r,a⟩)))
     have B:((s[k+1].toNat:Int)==10)=true:=by rw[a];rfl
     have C:((s[k+1].toNat:Int) !=10)=false:=by rw[a];rfl
     clear a c;cases b
     all_goals (try replace n:=n rfl)
     all_goals
      go_enter Tryz.func131,Tryz.ntmps131
      go_wp2_with(first|(go_at_call 203;refine(vw _ _ g.out _).mono ?_;rintro e l ⟨rfl,rfl⟩)|(go_at_call 204;refine(qw _ _).mono ?_;rintro e l ⟨rfl,j⟩))
      go_ret;exact⟨by rw[i.out];exact r1 (vS (by simp[yn];rfl)),(by repeat (first|assumption|exact Below.refl _ _|refine gy ?_ (by assumption)))⟩
    ·have i:=Lib.hid (show piece s[k] (s.data.toList.drop (k+1))=_ from yA (s:=s.data.toList) p (.inr ⟨c,r,a⟩))
     have B:((s[k+1].toNat:Int)==10)=false:=by simp[<-Yb]at a⊢;omega
     have C:((s[k+1].toNat:Int) !=10)=true:=by simp[<-Yb]at a⊢;omega
     clear a c;cases b
     all_goals (try replace n:=n rfl)
     all_goals
      go_enter Tryz.func131,Tryz.ntmps131
      go_wp2_with(first|(go_at_call 203;refine(vw _ _ g.out _).mono ?_;rintro e l ⟨rfl,rfl⟩)|(go_at_call 204;refine(qw _ _).mono ?_;rintro e l ⟨rfl,j⟩))
      go_ret;exact⟨by rw[i.out];rfl,(Below.refl _ _).alloc (Aa _) _⟩
   ·have i:=Lib.hid (show piece s[k] (s.data.toList.drop (k+1))=_ from Ft (s:=s.data.toList) p g.out (.inr (.inl dh)))
    have A:¬(k:Int)<(s.size:Int) - 1:=aa
    clear c;cases b
    all_goals (try replace n:=n rfl)
    all_goals
     go_enter Tryz.func131,Tryz.ntmps131
     go_wp2_with(first|(go_at_call 203;refine(vw _ _ g.out _).mono ?_;rintro e l ⟨rfl,rfl⟩)|(go_at_call 204;refine(qw _ _).mono ?_;rintro e l ⟨rfl,j⟩))
     go_ret;exact⟨by rw[i.out];exact r1 (vS (by simp[yn];rfl)),(by repeat (first|assumption|exact Below.refl _ _|refine gy ?_ (by assumption)))⟩
  ·have d:=fun h=>c (.inl h)
   have o:=fun h=>c (.inr h)
   have i:=Lib.hid (show piece s[k] (s.data.toList.drop (k+1))=_ from Ft (s:=s.data.toList) p g.out (.inl ⟨d,o⟩));have u:((s[k].toNat:Int)==32)=false:=by simp[<-Yb]at d⊢;omega
   have n:((s[k].toNat:Int)==9)=false:=by simp[<-Yb]at o⊢;omega
   clear c d o
   go_enter Tryz.func131,Tryz.ntmps131
   go_wp2_with(first|(go_at_call 203;refine(vw _ _ g.out _).mono ?_;rintro e l ⟨rfl,rfl⟩)|(go_at_call 204;refine(qw _ _).mono ?_;rintro e l ⟨rfl,j⟩))
   go_ret;exact⟨by rw[i.out];exact r1 (vS (by simp[yn];rfl)),(by repeat (first|assumption|exact Below.refl _ _|refine gy ?_ (by assumption)))⟩
 ·have i:=Lib.hid (show piece s[k] (s.data.toList.drop (k+1))=_ from yA (s:=s.data.toList) p (.inl g.out))
  by_cases d:s[k]=32
  ·have:=g.out;rw[d]at this;cases this
  ·by_cases o:s[k]=9
   ·have:=g.out;rw[o]at this;cases this
   ·have u:((s[k].toNat:Int)==32)=false:=by simp[<-Yb]at d⊢;omega
    have n:((s[k].toNat:Int)==9)=false:=by simp[<-Yb]at o⊢;omega
    clear d o
    go_enter Tryz.func131,Tryz.ntmps131
    go_wp2_with(first|(go_at_call 203;refine(vw _ _ g.out _).mono ?_;rintro e l ⟨rfl,rfl⟩)|(go_at_call 204;refine(qw _ _).mono ?_;rintro e l ⟨rfl,j⟩))
    go_ret;exact⟨by rw[i.out];rfl,(Below.refl _ _).alloc (Aa _) _⟩
end Go.Proofs.YtglaihdcndcmkaaGreatDoor
namespace ya
def crlf:ba:=[13,10]
def Wa:List ba->ba
 |[]=>[]
 |x::L=>x++crlf++Wa L
theorem gP:∀(x r:ba),(∀c∈x,c≠13)->Hg (x++13::10::r)=some x.length
 |[],r,_=>by simp[Hg]
 |c::x,r,h=>by
  rw[Fa,Hg,if_neg (fun a=>h c ea a.1),gP x r fun d b=>h d (by simp[b])];rfl
def QR(x r:ba)(a)(h:∀c∈x,c≠13):Sf (x++13::10::r) a=(x,a+x.length+2)::if x=[]then[]else Sf r (a+x.length+2):=by
 rw[lz (gP x r h)];have d:(x++13::10::r).take x.length=x:=ea
 have g:(x++13::10::r).drop (x.length+2)=r:=by rw[List.drop_append];simp
 rw[d,g];by_cases b:x=[]
 ·subst b;rfl
 ·rw[if_neg (fun e=>b (qz e)),if_neg b]
theorem hV:∀(L:List ba)(r:ba)(a)(st st'),(∀x∈L,x≠[]/\∀c∈x,c≠13)->Wd L st=some st'->
 Dj (Sf (Wa L++13::10::r) a) st=some (st'.1,st'.2,a+(Wa L).length+2)
 |[],r,a,st,st',_,h=>by
  simp[Wd]at h;subst h;have:=QR [] r a ea;simp only[Ma]at this;rw[show Wa []++13::10::r=13::10::r from rfl,this];rfl
 |x::L,r,a,st,st',g,h=>by
  obtain⟨d,b⟩:=g x ea;rw[Wd,nu]at h;obtain⟨s1,i,j⟩:=qb h;have e:Wa (x::L)++13::10::r=x++13::10::(Wa L++13::10::r):=by
   rw[Wa,crlf,Ac,Ac];rfl
  rw[e,QR _ _ _ b,if_neg d,Dj,if_neg d,i];dsimp only;rw[hV L r _ s1 st' (fun y k=>g y (by simp[k])) j];have:(Wa (x::L)).length=x.length+2+(Wa L).length:=by rw[Wa,crlf];simp only[Da,sa,Ca]
  rw[this];congr 3;omega
def WI(L:List ba)(r:ba)(F)(h:∀x∈L,x≠[]/\∀c∈x,c≠13)(a:Wd L ([],false)=some (F,false)):
 Pg (Wa L++13::10::r)=.ok (F.map fun p=>(p.1,trimB p.2)) ((Wa L).length+2):=by
 unfold Pg;rw[hV L r 0 _ _ h a];simp
def zcA:∀c,Mi c=true->c≠61:=Hb
def zbx:∀c,∀d∈pair c,d≠61/\d≠95:=Hb
def oe:ba->Bool
 |[]=>true
 |c::t=>!(c==61&&t.head?==some 95)&&oe t
def Gr{c}{t:ba}(h:c≠61):oe (c::t)=oe t:=by
 have:(c==61)=false:=by simpa using h
 rw[oe,this];rfl
theorem pT:∀(a b),oe a=true->oe b=true->(a.getLast?≠some 61\/b.head?≠some 95)->oe (a++b)=true
 |[],b,_,h,_=>h
 |[c],b,g,h,e=>by
  rw[List.singleton_append,oe,h,vk];rcases e with e|e
  ·have:(c==61)=false:=by simpa using e
   rw[this];rfl
  ·have:(b.head?==some 95)=false:=by simpa using e
   rw[this,fi];rfl
 |c::d::a,b,g,h,e=>by
  rw[oe,cc]at g;rw[Fa,oe,cc];exact⟨g.1,pT (d::a) b g.2 h (by simpa[List.getLast?_cons]using e)⟩
def sT(c)(t r:ba):oe (piece c t++r)=oe r:=by
 unfold piece;split
 ·rename_i h
  simp only[mq,cc,beq_iff_eq]at h;refine Gr ?_;rcases h with h|⟨h|h,_⟩
  ·exact zcA c h
  ·rw[h];decide
  ·rw[h];decide
 ·have a:=zbx c
  have e:pair c=[Tk (c/16),Tk (c % 16)]:=rfl;rw[e]at a⊢;have b:=a (Tk (c/16)) ea;have d:=a (Tk (c % 16)) ea;have g:(some (Tk (c/16))==some (95:UInt8))=false:=by simpa using b.2
  show oe (61::Tk (c/16)::Tk (c % 16)::r)=_;rw[oe,List.head?_cons,g,Gr b.1,Gr d.1];rfl
theorem fA:∀(s:ba)(line),oe (eb line s)=true
 |[],line=>rfl
 |c::t,line=>by
  rw[eb];split
  ·rw[Gr ha,Gr ha];exact fA t 0
  ·split
   ·show oe (61::13::10::(piece c t++eb _ t))=true
    rw[oe,Gr ha,Gr ha,sT,fA t];rfl
   ·rw[sT];exact fA t _
theorem qT:∀(x)(i),oe x=true->oe (x.drop i)=true
 |[],i,_=>by simp[oe]
 |c::x,0,h=>h
 |c::x,i+1,h=>by
  rw[oe,cc]at h;exact qT x i h.2
def zat{x r w:ba}(j:x≠[])(h:oe x=true):([13,10,45,45,61,95]++w).isPrefixOf (x++13::r)=false:=by
 rw[Do];intro i;rw[zk]at i;obtain⟨z,g⟩:=i
 match x,j,h with
 |[a],_,_=>simp at g
 |[a,b],_,_=>simp at g
 |[a,b,c],_,_=>simp at g
 |[a,b,c,d],_,_=>simp at g
 |[a,b,c,d,e],_,_=>simp at g
 |a::b::c::d::e::f::x,_,h=>
  simp at g;obtain⟨rfl,rfl,rfl,rfl,rfl,rfl,_⟩:=g;simp[oe]at h
variable {lib:Callee}
def eH:ck 111 2:=by unfold ck;kernel_rfl
def vq(lib:Callee)(qp:ba->ba):Prop:=∀s:ba,s.length<=10000->(qp s).length<=100000/\lib 99 [.flat (.string (S s))] [] []=some ([.flat (.string (S (qp s)))],false,[],[])
def MB(lib:Callee)(qp:ba->ba):Prop:=∀s:ba,s.length<=10000->lib 67 [.flat (.string (S s))] [] []=some ([.flat (.string (S (qp s)))],false,[],[])
def N4{enc}(o:dj lib enc)(p:Ge lib)(t:kc lib)(e:Qb lib){bx}{r:List (Nat×Nat)}{b:Nat}{u}{l f v:ba}(g:bx[b]?=some (111,bld u b l []))(y:v.length<=10000)(w:f.length<=10000)(x:Hf f=true)(a:l.length+(bf enc f v).length<=za)(hr:∀q∈r,q≠(b,1))(fa:∀q∈r,q.1<bx.length):
 da code lib 48 [.ptr b 0,.flat (.string (S f)),.flat (.string (S v))] bx (.cell b 1::cl r)=some ([],false,bx.set b (111,bld true b (l++bf enc f v) []),.cell b 1::cl r):=by
 have k:=zin o p t e f v y w;simp only[x,if_true]at k;have n:=cj (lib:=lib) (r:=r) (m:=bf enc f v) e g eH a hr fa;have h:=(qg g).1;obtain⟨r',c⟩:∃r',r'=(b,1)::r:=⟨_,rfl⟩;have d:Loc.cell b 1::cl r=cl r':=by rw[c];rfl
 rw[d]at n⊢;have i:∀q∈r',q.1<bx.length:=by
  rw[c];intro q j;rcases wb.1 j with rfl|j
  ·omega
  ·grind
 refine ja CZ (qa rfl) ?_;simp(maxSteps:=999999) (disch:=first|assumption|omega) only[go_sem,simprocAttr,au,k,n]
theorem FS_(G:Qb lib){bx}{r}{b}(L){u}{l}(H:bx[b]?=some (111,bld u b l []))(R:L.length<=1000000)(j:l.length+(Wa L).length<=za)(hr:∀q∈r,q≠(b,1))(fa:∀q∈r,q.1<bx.length)(O:1<=L.length):
 da code lib 49 [.ptr b 0,.ga L.length (va L)] bx (.cell b 1::cl r)=some ([],false,bx.set b (111,bld true b (l++Wa L) []),.cell b 1::cl r):=by
 have a:=(qg H).1;obtain⟨r',o⟩:∃r',r'=(b,1)::r:=⟨_,rfl⟩;have e:Loc.cell b 1::cl r=cl r':=by rw[o];rfl
 have I:∀q∈r',q.1<bx.length:=by
  rw[o];intro q i;rcases wb.1 i with rfl|i
  ·omega
  ·grind
 have g:∀(t:List ba)(k:Nat)(u:Bool)(x:ba)(n:Nat),k+t.length=L.length->L.drop k=t->x.length+(Wa t).length<=za->t.length<n->
  ∃c,(1<=t.length->c=true)/\(t=[]->c=u)/\Cc (oa (da code lib) ia cC) [0,6,7,8] bx.length n ⟨[(0,.ptr b 0),(6,.ga L.length (va L)),(7,.flat (.int .i64 (L.length:Nat))),(8,.flat (.int .i64 (k:Nat)))],cl r',[],bx.set b (111,bld u b x [])⟩=some (.exit 0,⟨[],cl r',[],bx.set b (111,bld c b (x++Wa t) [])⟩):=by
  intro t
  induction t with
  |nil=>
   intro k u x n B v M J;obtain⟨m,rfl⟩:∃m,n=m+1:=⟨n - 1,aa⟩;have i:k=L.length:=by simp only[Ca]at B;omega
   subst i;refine⟨u,ea,fun _=>rfl,?_⟩;rw[Bb];simp only[Wa,ph];exact Kb NT @Zb
  |cons y t P=>
   intro k u x n B v M J;simp only[sa]at B J;obtain⟨m,rfl⟩:∃m,n=m+1:=⟨n - 1,aa⟩;have i:k<L.length:=aa
   have D:(va L).drop k=.flat (.string (S y))::(va L).drop (k+1):=by
    have:(va L).drop k=va (y::t):=by rw[va,<-rm,v];rfl
    rw[this];have w:L.drop (k+1)=t:=by
     have:=congrArg (List.drop 1) v;rwa[Cd]at this
    show .flat (.string (S y))::va t=_;rw[va,va,<-rm,w]
   have A:L.drop (k+1)=t:=by
    have:=congrArg (List.drop 1) v;rwa[Cd]at this
   have C:(Wa (y::t)).length=y.length+2+(Wa t).length:=by simp only[Wa,crlf,Da,sa,Ca]
   rw[C]at M;have K:∀q,(bx.set b (111,bld u b x [])).set b q=bx.set b q:=fun q=>zo ..
   have N:=cj (lib:=lib) (bx:=bx.set b (111,bld u b x [])) (r:=r) (b:=b) (u:=u) (l:=x) (m:=y) (rest:=[]) G (Vg a) eH aa hr (by rw[Kc];exact fa);have F:=cj (lib:=lib) (bx:=bx.set b (111,bld true b (x++y) [])) (r:=r) (b:=b) (u:=true) (l:=x++y) (m:=[13,10]) (rest:=[]) G (Vg a) eH (by simp only[Da,sa,Ca];omega) hr (by rw[Kc];exact fa);rw[e,zo]at N F;obtain⟨c,d,Q,z⟩:=P (k+1) true (x++y++crlf) m aa A (by grind [crlf]) aa;have E:x++Wa (y::t)=x++y++crlf++Wa t:=by simp only[Wa,Ac]
   rw[E];refine⟨c,fun _=>?_,fun h=>(List.cons_ne_nil _ _ h).elim,?_⟩
   ·grind
   have p:x++(y++[13,10])=x++y++crlf:=by rw[Ac];rfl
   rw[Bb];simp only[crlf]at z⊢;simp only[Ee,wn,Ac]at z;simp only[Ac]at F⊢;simp(maxSteps:=999999) (disch:=first|assumption|omega) only[go_sem,simprocAttr,au,NT,Mb,D,N,F,z,dd]
 obtain⟨c,w,_,d⟩:=g L 0 u l ia aa rfl j Im;rw[w O]at d;rw[Zp H]at d;simp only[n0]at d;rw[e];refine ja DZ (qa rfl) ?_;simp(maxSteps:=999999) (disch:=first|assumption|omega) only[go_sem,simprocAttr,au,d,dd]
end ya
section
namespace ya
variable {lib:Callee}
def b3{d}{a b}:Va d (a++b)=Va d a++Va d b:=by unfold Va;rw[List.filter_append]
def Yv:ba:=[45,45,61,95,110,117,110,99,105,111]
def jj:ba:=[67,111,110,116,101,110,116,45,84,121,112,101,58,32,116,101,120,116,47]
def ij:ba:=[59,32,99,104,97,114,115,101,116,61,117,116,102,45,56]
def kj:ba:=[67,111,110,116,101,110,116,45,84,114,97,110,115,102,101,114,45,69,110,99,111,100,105,110,103,58,32,113,117,111,116,101,100,45,112,114,105,110,116,97,98,108,101]
def Np:ba:=[77,73,77,69,45,86,101,114,115,105,111,110,58,32,49,46,48]
def Qp:ba:=[67,111,110,116,101,110,116,45,84,121,112,101,58,32,109,117,108,116,105,112,97,114,116,47,97,108,116,101,114,110,97,116,105,118,101,59,32,98,111,117,110,100,97,114,121,61,34,61,95,110,117,110,99,105,111,34]
def Ln:ba:=[45,45,61,95,110,117,110,99,105,111,45,45]
def Nc:ba:=[112,108,97,105,110]
def Vc:ba:=[104,116,109,108]
def Ff:ba:=[70,114,111,109]
def kg:ba:=[84,111]
def Sg:ba:=[83,117,98,106,101,99,116]
def Zh(qp:ba->ba)(kind s:ba):List ba:=[Yv,jj++kind++ij,kj,[],qp s]
def Eg(enc qp:ba->ba)(m:tc):ba:=bf enc Ff m.fr++bf enc kg m.to++bf enc Sg m.su++Wa [Np,Qp,[]]++Wa (Zh qp Nc m.te)++Wa (Zh qp Vc m.ht)++Wa [Ln]
def bT:Hf Ff=true:=Hb
def dT:Hf kg=true:=Hb
def cT:Hf Sg=true:=Hb
def it{enc}(a:dj lib enc)(f v)(c:f.length<=10000)(b:v.length<=10000):(bf enc f v).length<=200000002:=by
 have:=bz (Ed enc v) 0 (f++[58],f.length+1) ⟨by simp only[Da,sa,Ca];omega,wh⟩ (IJ a v b);unfold bf;simp only[Da,sa,Ca];omega
def vU{qp}(a:vq lib qp)(kind s)(b:kind.length<=100)(hs:s.length<=10000):(Wa (Zh qp kind s)).length<=100300:=by
 have:=(a s hs).1;simp only[Zh,Wa,crlf,Yv,jj,ij,kj,Da,sa,Ca];omega
def zbQ{qp}(o:Qb lib)(p:vq lib qp){bx}{r}{b}{u}{l kind s:ba}(k:bx[b]?=some (111,bld u b l []))(v:kind.length<=100)(hs:s.length<=10000)(c:l.length+(Wa (Zh qp kind s)).length<=za)(hr:∀q∈r,q≠(b,1))(fa:∀q∈r,q.1<bx.length):
 da code lib 50 [.ptr b 0,.flat (.string (S kind)),.flat (.string (S s))] bx (.cell b 1::cl r)=some ([],false,bx.set b (111,bld true b (l++Wa (Zh qp kind s)) []),.cell b 1::cl r):=by
 have d:da code lib 99 [.flat (.string (S s))] [] []=some ([.flat (.string (S (qp s)))],false,[],[]):=tf ha ca (p s hs).2;have g:=FS_ (lib:=lib) o (r:=r) (Zh qp kind s) k (by simp[Zh]) c hr fa (by simp[Zh]);have a:=(qg k).1;obtain⟨z,t⟩:∃z,Wa (Zh qp kind s)=z:=⟨_,rfl⟩;rw[t]at g⊢;simp only[Zh,va,Xb,Fe,sa,Ca,Zc,Nat.reduceAdd,Yv,jj,ij,kj,Fa,Ma]at g;obtain⟨r',e⟩:∃r',r'=(b,1)::r:=⟨_,rfl⟩;have i:Loc.cell b 1::cl r=cl r':=by rw[e];rfl
 rw[i]at g⊢;have n:∀q∈r',q.1<bx.length:=by
  rw[e];intro q d;rcases wb.1 d with rfl|d
  ·exact a
  ·exact fa q d
 have j:(⟨#[]⟩:ByteArray)=S []:=rfl;have h:za=4294967296:=rfl;refine ja EZ (qa rfl) ?_;simp(maxSteps:=999999) (disch:=first|assumption|omega) only[go_sem,simprocAttr,au,j,d,g,h,Da,b3]end ya
end
namespace ya
def jp:ba:=[67,111,110,116,101,110,116,45,84,121,112,101]
def ND:ba:=[67,111,110,116,101,110,116,45,84,114,97,110,115,102,101,114,45,69,110,99,111,100,105,110,103]
def nl:ba:=[113,117,111,116,101,100,45,112,114,105,110,116,97,98,108,101]
def vo(kind:ba):ba:=[116,101,120,116,47]++kind
def ax(kind:ba):ba:=[116,101,120,116,47]++kind++[59,32,99,104,97,114,115,101,116,61,117,116,102,45,56]
def Zk:ba:=[109,117,108,116,105,112,97,114,116,47,97,108,116,101,114,110,97,116,105,118,101]
def ao:ba:=[109,117,108,116,105,112,97,114,116,47,97,108,116,101,114,110,97,116,105,118,101,59,32,98,111,117,110,100,97,114,121,61,34,61,95,110,117,110,99,105,111,34]
def bh:ba:=[61,95,110,117,110,99,105,111]
def ri(kind:ba):List lf:=[(jp,ax kind),(ND,nl)]
def Zm(a b c:ba):List lf:=[(Ff,a),(kg,b),(Sg,c),([77,73,77,69,45,86,101,114,115,105,111,110],[49,46,48]),(jp,ao)]
def zt(mark:ba):ba:=[45,45]++mark++[13,10]
def Cs(mark:ba):ba:=[13,10,45,45]++mark++[13,10]
def Us(mark:ba):ba:=[13,10,45,45]++mark++[45,45,13,10]
def tc.Sn(m:tc):Prop:=m.fr.length<=250/\m.to.length<=250/\m.su.length<=250/\m.te.length<=250/\m.ht.length<=250
end ya
section
set_option synthInstance.maxSize 4000
namespace ya
def iW(p)(s:ByteArray)(k)(h):(s.data.toList.take (k+1)).all p=((s.data.toList.take k).all p&&p s[k]):=by
 have a:=h;rw[xo a,ux];simp;rfl
def iK(p)(s:ByteArray)(k)(h:k<s.size)(a:p s[k]=false):s.data.toList.all p=false:=by
 rw[List.all_eq_false]
 exact⟨s[k],by have:s.data.toList[k]'h=s[k]:=rfl
               grind,by simp[a]⟩
def jK(p)(s:ByteArray):(s.data.toList.take s.size).all p=s.data.toList.all p:=by
 rw[xk ea]
end ya
namespace Go.Proofs.YtglaihdcndcmkaaGreatDoor
def zd7(s:ByteArray)(w:World)(hs:s.size<=maxLen):Calls Tryz.prog 136 #[.string s] w (Yf (.bool (s.data.toList.all Ti)) w):=by
 unfold maxLen at hs;obtain⟨V,j⟩:∃V,s.data.toList.all Ti=V:=⟨_,rfl⟩;rw[j];have l:=Lib.hid j;clear j
 go_enter Tryz.func136,Tryz.ntmps136
 go_wp2
 go_loop [3,4,7] (fun _ _ i=>∃k:Nat,k<=s.size/\i=.int .i64 k/\Hid ((s.data.toList.take k).all Ti=true)) (fun _ _ i=>s.size - (intOf i).toNat)
 case atStart=>exact⟨0,Ab _,rfl,Lib.hid rfl⟩
 case round=>
  obtain⟨k,o,rfl,a⟩:=hrel;by_cases fa:k<s.size
  ·have e:=iW Ti s k fa
   have b:=iK Ti s k fa;rw[l.out]at b;generalize n:s[k]=c at*;have h:=Lib.hid e;have g:=Lib.hid b;clear e b;go_wp2
   all_goals (try (go_ret;exact⟨r1 (vb (g.out (by(clear n h g a);(go_light;revert c;decide+kernel))).symm),rfl⟩))
   all_goals
    have d:Ti c=true:=by(clear n h g a);(go_light;revert c;decide+kernel)
    go_round
    case rel=>exact⟨k+1,aa,by go_num,Lib.hid (by rw[h.out,a.out,d];rfl)⟩
    case measure=>simp[intOf];omega
  ·obtain rfl:k=s.size:=aa
   have b:=a.out;rw[jK,l.out]at b;subst b;go_wp2;go_ret;exact⟨rfl,rfl⟩
def X_(s)(w)(hs:s.size<=maxLen):Calls Tryz.prog 137 #[.string s] w (Yf (.bool (pi s.data.toList)) w):=by
 unfold maxLen at hs;obtain⟨V,l⟩:∃V,pi s.data.toList=V:=⟨_,rfl⟩;rw[l];have b:s.data.toList.all bn=false->V=false:=by intro h;rw[<-l,pi,h,fi]
 have e:s.data.toList.all bn=true->V=(!s.data.toList.isEmpty&&decide (s.data.toList.length<=32)):=by intro h;rw[<-l,pi,h,vk]
 have r:=Lib.hid b;have q:=Lib.hid e;clear l b e
 go_enter Tryz.func137,Tryz.ntmps137
 go_wp2
 go_loop [3,4,7] (fun _ _ i=>∃k:Nat,k<=s.size/\i=.int .i64 k/\Hid ((s.data.toList.take k).all bn=true)) (fun _ _ i=>s.size - (intOf i).toNat)
 case atStart=>grind
 case round=>
  obtain⟨k,t,rfl,a⟩:=hrel;by_cases fa:k<s.size
  ·have j:=iW bn s k fa
   have d:=fun h=>r.out (iK bn s k fa h)
   generalize p:s[k]=c at*;have o:=Lib.hid j;have n:=Lib.hid d;clear j d;go_wp2
   all_goals (try (go_ret;exact⟨r1 (vb (n.out (by(clear p o n a);(go_light;revert c;decide+kernel))).symm),rfl⟩))
   all_goals
    have g:bn c=true:=by(clear p o n a);(go_light;revert c;decide+kernel)
    go_round
    case rel=>exact⟨k+1,aa,by go_num,Lib.hid (by rw[o.out,a.out,g];rfl)⟩
    case measure=>simp[intOf];omega
  ·obtain rfl:k=s.size:=aa
   have d:=a.out;rw[jK]at d;have g:=q.out d;have j:=Lib.hid g;clear d g;go_wp2
   all_goals go_ret
   all_goals refine⟨r1 (vb ?_),rfl⟩
   all_goals (rw[j.out,<-ByteArray.toList_eq])
   ·rename_i h _;rw[h];rfl
   ·rw[ByteArray.toList_eq,show s.data.toList.length=s.size from rfl]
    congr 1;rw[decide_eq_decide];omega
end Go.Proofs.YtglaihdcndcmkaaGreatDoor
end
namespace ya
def sm(g:Nat)(l:List UInt8)(w:World):Prop:=g<w.heap.size/\∀(j:Nat)(c:UInt8),l[j]?=some c->w.cell? ⟨g,j,none⟩=some (.int .u8 c.toNat)/\w.frozen? ⟨g,j,none⟩=false
def DY{P}(w)(g dst e)(s)(hs:P.underlying g=some .string)(o:P.underlying dst=some (.slice e))(p:P.underlying e=some (.int .u8)):
 ∃a l,(convert g dst (.string s)).run P w=.ok (.slice (some ⟨w.heap.size,0,none⟩) s.size a) l/\s.size<=a/\sm w.heap.size s.data.toList l/\Below w.heap.size w l:=by
 obtain⟨a,b⟩:∃a,grownCap w s.size 0 e=a:=⟨_,rfl⟩;have h:s.size<=a:=by rw[<-b];exact grownCap_ge _ _ _ _
 refine⟨a,_,by rw[run_bytes_of_string w g dst e s hs o p,b],h,⟨ea,fun j c n=>?_⟩,?_⟩
 ·have i:j<s.size:=(qg n).1
  have d:(w.drew.alloc (.cells (bytesRow s a) e ((bytesRow s a).size,(bytesRow s a).size+1))).heap[w.heap.size]?=some (.cells (bytesRow s a) e ((bytesRow s a).size,(bytesRow s a).size+1)):=heap_alloc_new w.drew _;have k:(bytesRow s a).size=a:=by
   unfold bytesRow;rw[Array.size_append,Array.size_map,Array.size_replicate,show s.data.size=s.size from rfl];omega
  refine⟨?_,?_⟩
  ·rw[cell_of_row _ _ _ _ _ _ d]
   unfold bytesRow;rw[Array.getElem?_append_left (by rw[Array.size_map];exact i),Array.getElem?_map];have:s.data[j]?=some c:=by rw[<-sB];exact n
   rw[this];rfl
  ·unfold World.frozen?
   simp only[d];rw[k];simp;omega
 ·exact(Bs w 1).alloc (Aa _) _
def sm.kept{g}{l}{w w'}(h:sm g l w)(k:Below w.heap.size w w'):sm g l w':=
 ⟨Ug h.1 k.size,fun j c a=>⟨(k.cell (p:=⟨g,j,none⟩) h.1).trans (h.2 j c a).1,(k.frozen (p:=⟨g,j,none⟩) h.1).trans (h.2 j c a).2⟩⟩
theorem sm.put{g}{l}{w}(h:sm g l w)(k)(e:k<l.length)(d):sm g (l.set k d) (w.setCell ⟨g,k,none⟩ (.int .u8 d.toNat)):=by
 have o:=(h.2 k _ (qe e)).1;refine⟨by have:=h.1;simpa using this,fun j c b=>?_⟩;by_cases a:j=k
 ·subst a
  rw[Vg e]at b;cases b;exact⟨World.cell?_setCell_same _ _ _ o,by rw[World.frozen?_setCell];exact(h.2 _ _ (qe e)).2⟩
 ·rw[rB aa]at b
  obtain⟨i,n⟩:=h.2 j c b;exact⟨by rw[World.cell?_setCell_other _ _ _ _ (by simp[Wf a])];exact i,by rw[World.frozen?_setCell];exact n⟩
def sm.back{P}{a dst e}(hs:P.underlying a=some (.slice e))(d:P.underlying e=some (.int .u8))(c:P.underlying dst=some .string){g}{l}{w}(h:sm g l w)(b):
 (convert a dst (.slice (some ⟨g,0,none⟩) l.length b)).run P w=.ok (.string ⟨l.toArray⟩) w:=
 run_convert_bytes_back w a dst e ⟨g,0,none⟩ b l hs d c fun j i=>by
  have:(⟨g,0,none⟩:Addr).add j=⟨g,j,none⟩:=by unfold Addr.add;split<;>simp_all
  rw[this];exact(h.2 j _ (qe i)).1
end ya
section
set_option synthInstance.maxSize 4000
namespace Go.Proofs.YtglaihdcndcmkaaGreatDoor
def d5(s:List UInt8)(k)(h):ie (s.take (k+1))++s.drop (k+1)=(ie (s.take k)++s.drop k).set k (Zy s[k]):=by
 have e:(ie (s.take k)).length=k:=by simp[ie];omega
 rw[xo h,du _ _ aa,e,Nat.sub_self,Qd h,List.set_cons_zero];unfold ie;rw[Xf,Ac];rfl
def LQ(s)(w:World)(hs:s.size<=1000000):Calls Tryz.prog 79 #[.string s] w (Zg (.string ⟨(ie s.data.toList).toArray⟩) w):=by
 have o:s.data.toList.length=s.size:=rfl;have S:=Lib.hid o;clear o;obtain⟨F,R,e,O,q,b⟩:=DY (P:=Tryz.prog) w 9 99 5 s Tryz.underlying9 Tryz.underlying99 Tryz.underlying5;obtain⟨B,G⟩:∃B,w.heap.size=B:=⟨_,rfl⟩;rw[G]at e q b;have J:=Lib.hid G;clear G;have D:=Lib.hid q;clear q;have H:Below w.heap.size w R:=by rw[J.out];exact b
 go_enter Tryz.func79,Tryz.ntmps79
 go_wp2
 go_loopw [4,5,10] (fun _ _ i wr=>∃(k:Nat)(l:List UInt8),k<=s.size/\i=.int .i64 k/\l.length=s.size/\sm B l wr/\Below B w wr/\Hid (l=ie (s.data.toList.take k)++s.data.toList.drop k))
  (fun _ _ i _=>s.size - (intOf i).toNat)
 case atStart=>exact⟨0,s.data.toList,Ab _,rfl,rfl,D.out,b,Lib.hid rfl⟩
 case round=>
  obtain⟨k,l,T,rfl,t,z,p,A⟩:=hrel;by_cases fa:k<s.size
  ·have n:=d5 s.data.toList k fa
   rw[<-A.out]at n;have g:l[k]?=some s[k]:=by
    rw[A.out,Af (by grind [ie])];simp[ie];rw[show min k s.size=k by omega];simp;exact hu fa
   have r:k<l.length:=aa
   have x:s.data.toList[k]'fa=s[k]:=rfl;rw[x]at n;clear x;have v:l[k]'r=s[k]:=(qg g).2;generalize N:s[k]=c at*;obtain⟨d,u⟩:∃d,Zy c=d:=⟨_,rfl⟩;rw[u]at n;obtain⟨Jd,I⟩:=z.2 k c g;have L:=Lib.hid n;have E:=Lib.hid t;have K:=Lib.hid v;clear n g t v;by_cases a:65<=c/\c<=90
   ·have M:(65:Int)<=c.toNat:=by have:=CB.1 a.1;exact lq.2 this
    have Q:(c.toNat:Int)<=90:=by have:=CB.1 a.2;exact lq.2 this
    have y:bits .or .u8 (c.toNat:Int) 32=d.toNat:=by rw[<-u];clear u N L E A z p Jd I K;revert c;decide+kernel
    have j:=z.put k r d;have C:=Lib.hid j;clear u a j;go_wp2;go_roundw
    case rel=>exact⟨k+1,l.set k d,aa,by go_num,by grind [Hid.out],C.out,p.setCell (Aa _) _,Lib.hid L.out.symm⟩
    grind [intOf]
   ·have M:¬((65:Int)<=c.toNat/\(c.toNat:Int)<=90):=by
     intro h;apply a;exact⟨CB.2 (lq.1 h.1),CB.2 (lq.1 h.2)⟩
    have y:d=c:=by rw[<-u,Zy];rw[if_neg];simpa using a
    have j:l.set k d=l:=by
     rw[y,<-K.out];exact List.set_getElem_self r
    have C:=Lib.hid j;subst y;clear u a j;by_cases Q:(65:Int)<=d.toNat
    all_goals (try have y:(90:Int)<d.toNat:=by omega)
    all_goals clear M
    all_goals clear N e
    all_goals
     go_wp2
     grind [Hid.out,intOf]
  ·obtain rfl:k=s.size:=aa
   have a:l=ie s.data.toList:=by rw[A.out,xk ea,Jj ea,ph]
   have g:=Lib.hid a;clear a;have j:=z.back (P:=Tryz.prog) Tryz.underlying99 Tryz.underlying5 Tryz.underlying9 F;rw[t]at j;go_wp2;go_ret;exact⟨r1 (by rw[g.out];rfl),by rw[J.out];exact p⟩
def BQ(l):(ie l).length=l.length:=by simp[ie]
def MQ(s)(l)(h:ie s.data.toList=l)(w:World)(hs:s.size<=1000000):Calls Tryz.prog 79 #[.string s] w (Zg (.string ⟨l.toArray⟩) w):=h▸LQ s w hs
def xX(s t)(w)(hs:s.size<=1000000)(ht:t.size<=1000000):Calls Tryz.prog 140 #[.string s,.string t] w (Zg (.bool (ie s.data.toList==ie t.data.toList)) w):=by
 have d:=BQ s.data.toList;have g:=BQ t.data.toList;obtain⟨x,l⟩:∃x,ie s.data.toList=x:=⟨_,rfl⟩;obtain⟨y,n⟩:∃y,ie t.data.toList=y:=⟨_,rfl⟩;rw[l]at d⊢;rw[n]at g⊢;have q:=Lib.hid l;have r:=Lib.hid n;clear l n;by_cases a:s.size=t.size
 ·obtain⟨b,i⟩:∃b,(x==y)=b:=⟨_,rfl⟩
  rw[i];have c:((⟨x.toArray⟩:ByteArray).toList==(⟨y.toArray⟩:ByteArray).toList)=b:=by rw[ByteArray.toList_eq,ByteArray.toList_eq];exact i
  have k:((s.size:Int)==(t.size:Int))=true:=by rw[a];simp
  clear a d g;have o:=Lib.hid i;have p:=Lib.hid c;clear i c
  go_enter Tryz.func140,Tryz.ntmps140
  go_wp2_with(go_at_call 79;first|((with_reducible refine(MQ s x q.out _ hs).mono ?_);rintro e u ⟨rfl,j⟩)|((with_reducible refine(MQ t y r.out _ ht).mono ?_);rintro e v ⟨rfl,c⟩))
  go_ret;exact⟨r1 (vb o.out),gy j c⟩
 ·have c:(x==y)=false:=by
   rw[beq_eq_false_iff_ne];intro h;have:=congrArg List.length h;rw[d,g]at this;exact a this
  rw[c];have k:((s.size:Int)==(t.size:Int))=false:=by rw[beq_eq_false_iff_ne];omega
  clear a d g c
  go_enter Tryz.func140,Tryz.ntmps140
  go_wp2;go_ret;exact⟨rfl,Below.refl _ _⟩
end Go.Proofs.YtglaihdcndcmkaaGreatDoor
namespace ya
theorem dropWhile_nil(p):∀l:List UInt8,l.dropWhile p=[] ↔ l.all p=true
 |[]=>by simp
 |c::l=>by
  rw[DB,Ck,cc];cases h:p c
  ·simp
  ·simpa using dropWhile_nil p l
theorem zg9(c)(l):tk (c::l)=if l.all vc&&vc c then[]else c::tk l:=by
 unfold tk;rw[List.reverse_cons,List.dropWhile_append];have b:(l.reverse.dropWhile vc).isEmpty=l.all vc:=by
  rw[bs,List.isEmpty_iff,dropWhile_nil,List.all_reverse]
 rw[b];cases h:l.all vc
 ·simp
 ·have a:l.reverse.dropWhile vc=[]:=(dropWhile_nil _ _).2 la
  rw[a];cases d:vc c<;>simp[d]
def zhf(l):(tk l).dropWhile vc=tk (l.dropWhile vc):=by
 induction l<;>grind [zg9,List.dropWhile_cons,dropWhile_nil,tk]
def QK(c):([32,9]:List UInt8).contains c=vc c:=by
 grind [vc]
def zhe(l):Go.Lib.trimS l [32,9]=trimB l:=by
 unfold Go.Lib.trimS Go.Lib.trimLeftS Go.Lib.trimRightS trimB;simp only[QK];exact zhf l
def zhd(l):Go.Lib.trimLeftS l [32,9]=l.dropWhile vc:=by
 unfold Go.Lib.trimLeftS;simp only[QK]
end ya
namespace Go.Proofs.YtglaihdcndcmkaaGreatDoor
def zhg(s)(w:World)(hs:s.size<=1000000000):Calls Tryz.prog 138 #[.string s] w (Zg (.string ⟨(trimB s.data.toList).toArray⟩) w):=by
 have h:=Any.strings_Trim_laid Tryz.U9 ca s ⟨#[32,9]⟩ w aa ha (ascii_of_all ha);rw[show(ByteArray.mk #[32,9]).data.toList=[32,9]from rfl,zhe]at h;have H:=Lib.hid h;clear h
 go_enter Tryz.func138,Tryz.ntmps138
 go_wp2_with(go_at_call 206;refine H.out.mono ?_;rintro e b ⟨rfl,a⟩)
 go_ret;exact⟨rfl,a⟩
end Go.Proofs.YtglaihdcndcmkaaGreatDoor
end
namespace ya
section
variable {F:Fence} {n:Nat} {P:Program} {b:Frame} {a:Act} {k:List Item} {cs:List Frame} {w:World} {Q:Exit→Act→World→Prop}
def WV{c}:step P (lone (b.atR a (.code (.scope c)::k)) cs w)=.next (lone (b.atR a (.code c::.inScope c::k)) cs w):=
 step_lone_go (by simp[Go.stepG,Go.stepG.exec,Frame.atR])
def zfJ{c}:step P (lone (b.atR a (.inScope c::k)) cs w)=.next (lone (b.atR a k) cs w):=
 step_lone_go (by simp[Go.stepG,Go.stepG.exec,Frame.atR])
theorem JJ{c rest}(l)(J)(A:findLabel c l=some rest)
 (C:∀l a w,¬Q (.goto l) a w)
 (first:c.wpIn F n P (Exit.jump l J Q) a w) (t:∀a w,J a w->rest.wpIn F n P Q a w):(Code.scope c).wpIn F n P Q a w:=by
 intro b k cs r v hr;have x:(lone (b.atR a (.code (.scope c)::k)) cs w).fenced P F:=fenced_calm v hr rfl;have B:gotoIn l (.inScope c::k)=some (.code rest::.inScope c::k):=by simp[gotoIn,A]
 have out:∀(m:Machine)(e:Exit)(g:Act)(h:World),Q e g h->ArrivesIn (Machine.fenced P F) P m b (.inScope c::k) cs e g h->ArrivesIn (Machine.fenced P F) P m b k cs e g h:=by
  intro m e g h i d;cases e with
  |normal=>exact StepsIn.trans d (.one (fenced_calm v hr rfl) zfJ)
  |exit id=>exact⟨fun k' j=>d.1 k' (by simp[exitTo,j]),fun o j=>d.2 o (by simp[exitTo,j])⟩
  |goto l'=>exact(C _ _ _ i).elim
  |ret=>exact d
  |panic j=>exact d
  |outgrown=>exact d
 obtain⟨e,g,h,q,d⟩:=first b (.inScope c::k) cs r v hr
 by_cases y:∃l',e=.goto l'
 ·obtain⟨l',rfl⟩:=y
  obtain⟨rfl,z⟩:=q;obtain⟨p,o,u,j,i⟩:=t g h z b (.inScope c::k) cs r v hr;exact⟨p,o,u,j,.of_steps (.head x WV (d.1 _ B)) (out _ _ _ _ j i)⟩
 ·have i:Q e g h:=by cases e<;>first|exact q|exact(y ⟨_,rfl⟩).elim
  exact⟨e,g,h,i,.of_steps (.one x WV) (out _ _ _ _ i d)⟩
end
def Nz{w w'}(h:Below w.heap.size w w'):KeepsOthers w w':=by
 refine⟨h.size,fun k o a b=>?_⟩;exact(h.block k (Nh.1 a).1).trans a
def Sv{e b:Nat}{w w'}(hs:w.heap.size<=w'.heap.size)(h:Lib.OthersKept e (some b) w w')(l:∃o,w.heap[b]?=some o/\o.isCells=true):KeepsOthers w w':=by
 refine⟨hs,fun k o j i=>?_⟩;refine h k o j ?_ ?_
 ·intro g
  obtain⟨n,d,a⟩:=l;cases g;rw[j]at d;cases d;rw[i]at a;cases a
 ·intro c d a
  subst a;cases i
def An(b:Nat)(W a:World):Prop:=a.heap[b]?=W.heap[b]?
def ZG{b}{A B C}(h:An b A B)(k:An b B C):An b A C:=Eq.trans k h
def XG{b}{w:World}(c:b<w.heap.size)(W)(l)(o a)(d:w.heap.size<=l)(h:W.heap[l]?=some o)(_:o.isCells=false)(_:o.isWalk=false):An b W (W.putObj l a):=
 World.putObj_heap_other aa
def No{β}{B}{J}(h:AbidesFrom B J){s:β}{W a}(b:J s W)(k:Below W.heap.size W a):J s a:=
 h s W a none b ⟨k.os,k.tape,k.output,k.size,fun i c _=>k.block i c⟩ (fun r e=>by cases e)
def YG{b}{W a}(c:b<W.heap.size)(k:Below W.heap.size W a):An b W a:=k.block b c
abbrev He:={p:ByteArray×Nat//p.1.size<=10000/\p.2<=20000}
def He.pair(p:He):List UInt8×Nat:=(p.1.1.data.toList,p.1.2)
def Fk(b c:Nat)(W a:World):Prop:=An b W a/\An c W a
def Mz{b c}{A B C}(h:Fk b c A B)(k:Fk b c B C):Fk b c A C:=⟨ZG h.1 k.1,ZG h.2 k.2⟩
def y9{b c}{w:World}(i:b<w.heap.size)(j:c<w.heap.size)(W)(l)(o a)(g:w.heap.size<=l)(h:W.heap[l]?=some o)(d:o.isCells=false)(e:o.isWalk=false):Fk b c W (W.putObj l a):=
 ⟨XG i W l o a g h d e,XG j W l o a g h d e⟩
theorem mS{b c}{W a}(d:b<W.heap.size)(e:c<W.heap.size)(k:Below W.heap.size W a):Fk b c W a:=⟨YG d k,YG e k⟩
def Bf(W:World):Prop:=∃m,W.cell? ⟨0,0,none⟩=some (.int .i64 m)
def Bf.kept{W a}(h:Bf W)(k:An 0 W a):Bf a:=by
 obtain⟨m,b⟩:=h;exact⟨m,by unfold World.cell? at b⊢;rw[k];exact b⟩
theorem Bf.lt{W}(h:Bf W):0<W.heap.size:=by
 obtain⟨m,a⟩:=h;exact eu W _ a
def Bf.below{W a}(h:Bf W)(k:Below W.heap.size W a):Bf a:=h.kept (YG h.lt k)
def Bf.KK{B}{W a}(h:Bf W)(b:0<B)(k:Below B W a):Bf a:=h.kept (k.block _ b)
def RJ(s:ByteArray)(k d:Nat)(w:World)(e:Ending)(w':World):Prop:=∃a b:ByteArray,e=.returned (.tuple #[.string a,.string b,.bool true])/\a.size=k/\b.size+(k+d)=s.size/\Hid (a.data.toList=s.data.toList.take k)/\Hid (b.data.toList=s.data.toList.drop (k+d))/\Below w.heap.size w w'
def QJ(s:ByteArray)(w:World)(e:Ending)(w':World):Prop:=e=.returned (.tuple #[.string s,.string ⟨#[]⟩,.bool false])/\Below w.heap.size w w'
end ya
namespace Go.Proofs.YtglaihdcndcmkaaGreatDoor
def Z1(s)(w)(a:Bf w)(hs:s.size<=1000000)(b:Hg s.data.toList=none):Calls Tryz.prog 39 #[.string s,.string ⟨#[13,10]⟩] w (QJ s w):=by
 obtain⟨m,a⟩:=a;refine(Tryz.strings_Cut s ⟨#[13,10]⟩ m w aa a).mono ?_;rintro e w' ⟨rfl,n,rfl⟩;refine⟨?_,Bs w n⟩;rw[show(ByteArray.mk #[13,10]).data.toList=[13,10]from rfl,oP,b]
def b2(s)(w)(a:Bf w)(hs:s.size<=1000000)(k:Nat)(c:Hg s.data.toList=some k):Calls Tryz.prog 39 #[.string s,.string ⟨#[13,10]⟩] w (RJ s k 2 w):=by
 obtain⟨m,a⟩:=a;refine(Tryz.strings_Cut s ⟨#[13,10]⟩ m w aa a).mono ?_;rintro e w' ⟨rfl,n,rfl⟩;have b:=Qs c;rw[show s.data.toList.length=s.size from rfl]at b;refine⟨⟨(s.data.toList.take k).toArray⟩,⟨(s.data.toList.drop (k+2)).toArray⟩,?_,?_,?_,Lib.hid rfl,Lib.hid rfl,Bs w n⟩
 ·grind [oP]
 ·rw[an,Ue,show s.data.toList.length=s.size from rfl];omega
 ·rw[an,fc,show s.data.toList.length=s.size from rfl];omega
def X1(c)(s)(w:World)(a:Bf w)(hs:s.size<=1000000)(b:vh c s.data.toList=none):Calls Tryz.prog 39 #[.string s,.string ⟨#[c]⟩] w (QJ s w):=by
 obtain⟨m,a⟩:=a;refine(Tryz.strings_Cut s ⟨#[c]⟩ m w aa a).mono ?_;rintro e w' ⟨rfl,n,rfl⟩;refine⟨?_,Bs w n⟩;rw[show(ByteArray.mk #[c]).data.toList=[c]from rfl,PD,b]
def QD(c)(s)(w:World)(a:Bf w)(hs:s.size<=1000000)(k:Nat)(d:vh c s.data.toList=some k):Calls Tryz.prog 39 #[.string s,.string ⟨#[c]⟩] w (RJ s k 1 w):=by
 obtain⟨m,a⟩:=a;refine(Tryz.strings_Cut s ⟨#[c]⟩ m w aa a).mono ?_;rintro e w' ⟨rfl,n,rfl⟩;have b:=lD d;rw[show s.data.toList.length=s.size from rfl]at b;refine⟨⟨(s.data.toList.take k).toArray⟩,⟨(s.data.toList.drop (k+1)).toArray⟩,?_,?_,?_,Lib.hid rfl,Lib.hid rfl,Bs w n⟩
 ·grind [PD]
 ·rw[an,Ue,show s.data.toList.length=s.size from rfl];omega
 ·rw[an,fc,show s.data.toList.length=s.size from rfl];omega
attribute [local go_sem] Oper.semAt_some
set_option maxRecDepth 100000 in
theorem m_(n:Nat)(hnZ:1<=n)(s)(hs:s.size<=10000)(A:Nat)(w)(u:Boxed w A 9 (.string s))(D:Bf w):
 SeqStopsK Fence.wide n Tryz.prog 205 #[.pointer (some ⟨A,0,none⟩)] (fun p:He=>#[.string p.1.1,.int .i64 p.1.2]) (Fk A 0)
  (fun xs=>xs.map He.pair=Sf s.data.toList 0) (fun xs=>∃r,xs.map He.pair++r=Sf s.data.toList 0) (s.size+1) w:=fun l J d W R Q c hYZ Z=>by
 have i:Boxed W A 9 (.string s):=(R.block _ u.lt).trans u;have O:=D.below R;have hc0:=i.cell;have X:=Lib.hid i;clear i;refine callsIn_of_wp Tryz.func205 rfl trivial ?_ rfl;simp only[Tryz.ntmps205,ou,sa,Ca,Nat.reduceAdd,Nat.reduceSub,pu,qu,ru,tu,Ma,Fa]
 gi_wp2
 gi_loopw [3,4,5,6,7] (fun v _ _ _ _ wr=>∃(k:Nat)(pre:List He),v=.int .i64 k/\k<=s.size/\pre.length<=k/\Hid (pre.map He.pair++Sf (s.data.toList.drop k) k=Sf s.data.toList 0)/\Hid (J pre wr)/\Hid (Boxed wr A 9 (.string s))/\Hid (Bf wr))
  (fun v _ _ _ _ _=>s.size+1 - (intOf v).toNat)
 case atStart=>exact⟨0,[],rfl,Ab _,Aa _,Lib.hid rfl,Lib.hid Z,X,Lib.hid O⟩
 case round=>
  obtain⟨k,pre,rfl,hkZ,hpl,q,t,g,hmx⟩:=hrel;replace t:=t.out;replace g:=g.out;have hc2:=g.cell;have M:=g.lt;have z:(s.extract k s.size).data.toList=s.data.toList.drop k:=by rw[Lib.extract_data,xk ea]
  have hsz:(s.extract k s.size).size=s.size - k:=by rw[BB];omega
  rcases F:Hg (s.data.toList.drop k)with _|j
  ·have G:=Lib.hid (show Hg (s.extract k s.size).data.toList=none by grind)
   have c:=Lib.hid (show pre.map He.pair=Sf s.data.toList 0 by grind [Hid.out,Bv]);clear F z
   gi_wp2_with (refine⟨trivial,?_⟩;gi_at_call 39;refine(callsIn_wide.2 (Z1 _ _ hmx.out aa G.out)).mono ?_;rintro e V ⟨rfl,d⟩)
   refine bodyPost_ret (results_none rfl _ _ _) rfl ?_;exact⟨⟨_,rfl⟩,.inl ⟨pre,c.out,No Q t d⟩⟩
  ·have fa:=Qs F
   rw[fc,show s.data.toList.length=s.size from rfl]at fa;have G:=Lib.hid (show Hg (s.extract k s.size).data.toList=some j by grind);have hit:=lz (a:=k) F;rw[Cd]at hit;have y:=Lib.hid hit;have I:=Lib.hid z;clear F z hit
   gi_wp2_with (refine⟨trivial,?_⟩;gi_at_call 39;refine(callsIn_wide.2 (b2 _ _ hmx.out aa j G.out)).mono ?_;rintro e V ⟨a,b,rfl,B,hbs,L,_,d⟩;have K:=No Q t d;have x:=(d.block _ M).trans g;have E:=hmx.out.below d;have hc1:=Boxed.cell x;have c:=Lib.hid B;have ha1:a.size+2<=s.size - k:=aa;clear B;obtain⟨fn,tmps,assign,body,U,hRZ⟩:=hYZ pre ⟨(a,k+(a.size+2)),by constructor<;>dsimp only<;>omega⟩ V K aa;dsimp only at U;rw[show((k+(a.size+2):Nat):Int)=(k:Int)+((a.size:Int)+2) by omega]at U)
   have o:He.pair ⟨(a,k+(a.size+2)),by constructor<;>dsimp only<;>omega⟩=((s.data.toList.drop k).take j,k+j+2):=by
    unfold He.pair;dsimp only;rw[L.out,I.out,c.out,Ij]
   have H:=Lib.hid o;clear o;refine hRZ.mono ?_;rintro e Y (⟨rfl,hJ3,C⟩|⟨rfl,hx3⟩)
   ·have S:Boxed Y A 9 (.string s):=Eq.trans C.1 x
    have T:=E.kept C.2;rcases Nat.eq_zero_or_pos j with N|N
    ·have hae:a.toList=[]:=by
      rw[Lib.toList_data];exact qz (c.out.trans N)
     have P:=Lib.hid (show(pre++[(⟨(a,k+(a.size+2)),by constructor<;>dsimp only<;>omega⟩:He)]).map He.pair=Sf s.data.toList 0 by
      rw[Xf,Cg,H.out,<-q.out,y.out,if_pos N])
     gi_wp2
     refine bodyPost_ret (results_none rfl _ _ _) rfl ?_
     grind [Hid.out]
    ·have e1:a.toList=[] ↔ False:=by
      rw[Lib.toList_data];exact iff_of_false (fun h=>by have:=c.out;have h2Z:a.size=0:=congrArg List.length h;omega) id
     have e2:a.toList.isEmpty=false:=by
      rw[Lib.toList_data];cases h:a.data.toList with
      |nil=>have:=c.out;have h2Z:a.size=0:=congrArg List.length h;omega
      |cons _ _=>rfl
     have P:=Lib.hid (show(pre++[(⟨(a,k+(a.size+2)),by constructor<;>dsimp only<;>omega⟩:He)]).map He.pair++Sf (s.data.toList.drop (k+(a.size+2))) (k+(a.size+2))=Sf s.data.toList 0 by
      rw[Xf,Cg,H.out,<-q.out,y.out,if_neg aa,c.out,Ac];rfl)
     gi_wp2
     grind [Lib.hid,intOf]
   ·have P:=Lib.hid (show(pre++[(⟨(a,k+(a.size+2)),by constructor<;>dsimp only<;>omega⟩:He)]).map He.pair++(if j=0 then[]else Sf (s.data.toList.drop (k+(j+2))) (k+j+2))=Sf s.data.toList 0 by
     rw[Xf,Cg,H.out,<-q.out,y.out,Ac];rfl)
    gi_wp2
    refine bodyPost_ret (results_none rfl _ _ _) rfl ?_
    grind [Hid.out]
end Go.Proofs.YtglaihdcndcmkaaGreatDoor
namespace ya
def Zd(l:List lf):List Value:=l.flatMap fun p=>[.string ⟨p.1.toArray⟩,.string ⟨p.2.toArray⟩]
theorem tv(l):(Zd l).length=l.length* 2:=by
 induction l<;>grind [Zd]
theorem tE(l)(p):Zd (l++[p])=Zd l++[.string ⟨p.1.toArray⟩,.string ⟨p.2.toArray⟩]:=by simp[Zd]
def Kp(pre:List He):List (List UInt8):=pre.map fun x=>x.1.1.data.toList
def bc(pre:List He):List lf×Bool:=(Wd (Kp pre) ([],false)).getD ([],false)
def Ek(pre:List He):Prop:=Wd (Kp pre) ([],false)=some (bc pre)/\∀x∈pre,x.1.1.data.toList≠[]
def O5:Ek []:=⟨rfl,ea⟩
def gR{pre}{x}{st}(h:Ek pre)(b:x.1.1.data.toList≠[])(hs:Ae (bc pre) x.1.1.data.toList=some st):Ek (pre++[x])/\bc (pre++[x])=st:=by
 have e:Wd (Kp (pre++[x])) ([],false)=some st:=by
  unfold Kp;rw[Xf,Cg,DS];show(Wd (Kp pre) ([],false)).bind _=_;rw[h.1];exact hs
 refine⟨⟨by grind [bc],?_⟩,by grind [bc]⟩;intro y a;rcases We.1 a with a|a
 ·exact h.2 y a
 grind
def II{pre}(h:Ek pre)(r):Dj (pre.map He.pair++r) ([],false)=Dj r (bc pre):=by
 refine gV _ _ _ _ ?_ ?_
 ·intro x a
  obtain⟨y,b,rfl⟩:=zi.1 a;exact h.2 y b
 ·rw[List.map_map];exact h.1
def ZV{st}{l}(h:l.all Ti=false):Ae st l=none:=by grind [Ae]
def zfK{st}{l}(a:(l.head?.map vc).getD false=true)(h:st.1=[]):Ae st l=none:=by
 grind [Ae]
def XV{st}{l}{F}{q}(hs:l.all Ti=true)(a:(l.head?.map vc).getD false=true)(h:st.1=F++[q]):
 Ae st l=some (F++[(q.1,q.2++l)],st.2||decide (998<l.length)):=by
 grind [Ae]
def zfM{st}{l}(a:(l.head?.map vc).getD false=false)(h:vh 58 l=none):Ae st l=none:=by
 grind [Ae]
def zfN{st}{l}{k}(a:(l.head?.map vc).getD false=false)(h:vh 58 l=some k)(b:pi (l.take k)=false):Ae st l=none:=by
 grind [Ae]
def YV{st}{l}{k}(hs:l.all Ti=true)(a:(l.head?.map vc).getD false=false)(h:vh 58 l=some k)(b:pi (l.take k)=true):
 Ae st l=some (st.1++[(l.take k,l.drop (k+1))],st.2||decide (998<l.length)):=by
 grind [Ae]
def zfL{st st'}{l}(h:Ae st l=some st'):st'.1.length<=st.1.length+1:=by
 grind [Ae]
theorem GS:∀(a)(st st'),Wd a st=some st'->st'.1.length<=st.1.length+a.length
 |[],st,st',h=>by grind [Wd]
 |l::a,st,st',h=>by
  rw[Wd,nu]at h;obtain⟨s1,b,c⟩:=qb h;have:=zfL b;have:=GS a s1 st' c
  grind
def zfO{st st'}{l}{C}(h:Ae st l=some st')(a:∀f∈st.1,f.2.length<=C):∀f∈st'.1,f.2.length<=C+l.length:=by
 unfold Ae at h;split at h
 ·cases h
 ·split at h<;>grind [List.dropLast_sublist]
theorem HS:∀(b)(st st')(C M),Wd b st=some st'->(∀f∈st.1,f.2.length<=C)->(∀l∈b,l.length<=M)->∀f∈st'.1,f.2.length<=C+M* b.length
 |[],st,st',C,M,h,c,_=>by grind [Wd]
 |l::b,st,st',C,M,h,c,d=>by
  rw[Wd,nu]at h;obtain⟨s1,e,g⟩:=qb h;have a:=zfO e c;have k:=d l ea;have:=HS b s1 st' (C+M) M g (fun f j=>by grind) (fun x i=>d x (by simp[i]))
  grind [Nat.mul_succ]
def hR{pre}(h:Ek pre):∀f∈(bc pre).1,f.2.length<=10000* pre.length:=by
 have:=HS _ _ _ 0 10000 h.1 ea (by
  intro l a;unfold Kp at a;obtain⟨x,_,rfl⟩:=zi.1 a;exact x.2.1)
 grind [Kp]
def DE{pre}(h:Ek pre):(bc pre).1.length<=pre.length:=by
 have:=GS _ _ _ h.1
 grind [Kp]
def Q5(p:ByteArray)(h):(p.data.toList.head?.map vc).getD false=vc p[0]:=by
 rw[List.head?_eq_getElem?,qe (show 0<p.data.toList.length from h)];rfl
def cY:∀c,vc c=true->((c.toNat:Int)==32)=true\/((c.toNat:Int)==32)=false/\((c.toNat:Int)==9)=true:=Hb
def bY:∀c,vc c=false->((c.toNat:Int)==32)=false/\((c.toNat:Int)==9)=false:=Hb
theorem Aw{W}{B t e base size n:Nat}{u v}{xs}(h:Boxed W B t u)(a:t≠e)(hr:W.ownsRow base e size v n xs)(b):(W.setCell ⟨B,0,none⟩ b).ownsRow base e size v n xs:=
 hr.kept (grownBy_setCell' W B b) (.inr (h.not_row a hr).symm)
def nS{b c B}{W}(a:b≠B)(d:c≠B)(u)(o):Fk b c W (W.setCell ⟨B,o,none⟩ u):=
 ⟨Below.heap_setCell _ _ _ _ aa,Below.heap_setCell _ _ _ _ aa⟩
def xA{w w'}{B e size n:Nat}{v}{xs}(h:w.ownsRow B e size v n xs)(k:Below w.heap.size w w'):w'.ownsRow B e size v n xs:=
 World.ownsRow.kept (row:=none) h ⟨k.os,k.tape,k.output,k.size,fun i a _=>k.block i a⟩ la
def cell_two_new(w:World)(x y)(t):∀(j) u,[x,y][j]?=some u->(w.alloc (.cells #[x,y] t)).cell? ((⟨w.heap.size,0,none⟩:Addr).add j)=some u:=by
 intro j u a
 match j,a with
 |0,a=>simp at a;subst a;simp[Addr.add]
 |1,a=>simp at a;subst a;simp[Addr.add]
theorem EI{w:World}{B}{e size:Nat}{v}{n}{xs}(h:w.ownsRow B e size v n xs):(v=.slice none 0 0/\n=0)\/∃g a,v=.slice (some ⟨g,0,none⟩) n a/\B<=g/\g<w.heap.size/\n<=a:=by
 rcases h.2 with c|⟨g,a,b,rfl,d,j,i,_⟩<;>grind
end ya
namespace Go.Proofs.YtglaihdcndcmkaaGreatDoor
def SA(s)(b)(h:s.data.toList.all Ti=b)(w)(hs:s.size<=maxLen):Calls Tryz.prog 136 #[.string s] w (Yf (.bool b) w):=h▸zd7 s w hs
def rH(s)(b)(h:pi s.data.toList=b)(w)(hs:s.size<=maxLen):Calls Tryz.prog 137 #[.string s] w (Yf (.bool b) w):=h▸X_ s w hs
attribute [local go_sem] Oper.semAt_some
def l_(s)(w):Calls Tryz.prog 135 #[.string s] w fun e w'=>e=.returned (.func (.func 205) #[] #[.pointer (some ⟨w.heap.size,0,none⟩)])/\w'=w.alloc (.cells #[.string s] 9):=by
 go_enter Tryz.func135,Tryz.ntmps135
 go_wp2;go_ret;simp
def ze1:Split->World->Ending->World->Prop
 | .form,w,e,w'=>e=.returned (.tuple #[.slice none 0 0,.int .i64 0,.int .i64 7])/\Below w.heap.size w w'
 | .long,w,e,w'=>e=.returned (.tuple #[.slice none 0 0,.int .i64 0,.int .i64 6])/\Below w.heap.size w w'
 | .ok l b,w,e,w'=>∃v,e=.returned (.tuple #[v,.int .i64 b,.int .i64 0])/\w'.ownsRow w.heap.size 60 2 v l.length (Zd l)/\Below w.heap.size w w'
def Cx(n0:Nat)(w:World)(s:ByteArray)(pre:List He)(W:World):Prop:=
 (((∃v,Boxed W n0 49 v/\W.ownsRow n0 60 2 v (bc pre).1.length (Zd (bc pre).1)/\True)/\Boxed W (n0+1) 3 (.int .i64 0)/\Boxed W (n0+1+1) 24 (.int .i64 (if(bc pre).2 then 6 else 0))/\Boxed W (n0+1+1+1) 9 (.string s))/\Ek pre)/\Below n0 w W
def Out(n0:Nat)(w:World)(c:Code)(pre:List He)(W:World):Prop:=
 (((Boxed W n0 49 (.slice none 0 0)/\Boxed W (n0+1) 3 (.int .i64 0)/\Boxed W (n0+1+1) 24 (.int .i64 7))/\(c=.ret/\∃a x,pre=a++[x]/\Ek a/\x.1.1.data.toList≠[]/\Ae (bc a) x.1.1.data.toList=none))/\Below n0 w W)\/
 (((∃v,Boxed W n0 49 v/\W.ownsRow n0 60 2 v (bc pre.dropLast).1.length (Zd (bc pre.dropLast).1)/\True)/\Boxed W (n0+1) 3 (.int .i64 ((pre.getLast?.map fun x=>x.1.2).getD 0:Nat))/\Boxed W (n0+1+1) 24 (.int .i64 (if(bc pre.dropLast).2 then 6 else 0)))/\(c=.exit 0/\∃a x,pre=a++[x]/\Ek a/\x.1.1.data.toList=[]))/\Below n0 w W
def OwnFrom.or{β}{B}{I J:β->World->Prop}(h:OwnFrom B I)(k:OwnFrom B J):OwnFrom B (fun s W=>I s W\/J s W):=fun s W b row hs c hr=>hs.elim (fun a=>.inl (h s W b row a c hr)) (fun a=>.inr (k s W b row a c hr))
def M_(n0)(w)(s)(B)(b:n0<=w.heap.size)(a:n0<=B):OwnFrom B (Cx n0 w s):=
 OwnFrom.and (OwnFrom.and (OwnFrom.and (Own.from (holdsRow_own n0 n0 49 60 2 (fun pre:List He=>(bc pre).1.length) (fun pre=>Zd (bc pre).1) (fun _ _=>True)) _) (OwnFrom.and (Own.from (boxed_own _ _ _) _) (OwnFrom.and (Own.from (boxed_own _ _ _) _) (Own.from (boxed_own _ _ _) _)))) (ownFrom_pure _ _)) (ownFrom_below b a)
def zbk(n0)(w)(c)(B)(b:n0<=w.heap.size)(a:n0<=B):OwnFrom B (Out n0 w c):=
 OwnFrom.or (OwnFrom.and (OwnFrom.and (OwnFrom.and (Own.from (boxed_own _ _ _) _) (OwnFrom.and (Own.from (boxed_own _ _ _) _) (Own.from (boxed_own _ _ _) _))) (ownFrom_pure _ _)) (ownFrom_below b a))
  (OwnFrom.and (OwnFrom.and (OwnFrom.and (Own.from (holdsRow_own n0 n0 49 60 2 (fun pre:List He=>(bc pre.dropLast).1.length) (fun pre=>Zd (bc pre.dropLast).1) (fun _ _=>True)) _) (OwnFrom.and (Own.from (boxed_own _ _ _) _) (Own.from (boxed_own _ _ _) _))) (ownFrom_pure _ _)) (ownFrom_below b a))
end Go.Proofs.YtglaihdcndcmkaaGreatDoor
namespace ya
theorem xr:∀(L M:List ba),Wa (L++M)=Wa L++Wa M
 |[],M=>rfl
 |x::L,M=>by rw[Fa,Wa,Wa,xr L M,Ac,Ac,Ac]
def ES(x:ba):Wa [x]=x++[13,10]:=by simp[Wa,crlf]
def ul(q:List ba×ba)(x:ba):List ba×ba:=if ek x q.2.length then(q.1++[q.2],32::x)else(q.1,q.2++32::x)
def zfE(q:List ba×ba)(x:ba):Rg (Wa q.1++q.2,q.2.length) x=(Wa (ul q x).1++(ul q x).2,(ul q x).2.length):=by
 unfold Rg qk ll ul;dsimp only;split
 ·rw[xr,ES]
  simp only[Ac,sa,Zc,Vr]
 ·simp only[Ac,Da,sa,Prod.mk.injEq,true_and]
  omega
theorem zQ:∀(a:List ba)(q:List ba×ba),a.foldl Rg (Wa q.1++q.2,q.2.length)=(Wa (a.foldl ul q).1++(a.foldl ul q).2,(a.foldl ul q).2.length)
 |[],q=>rfl
 |x::a,q=>by rw[Pf,zfE,zQ a (ul q x),Pf]
def gt(enc:ba->ba)(f v:ba):List ba×ba:=(Ed enc v).foldl ul ([],f++[58])
def ur(enc:ba->ba)(f v:ba):List ba:=(gt enc f v).1++[(gt enc f v).2]
def Oz(enc:ba->ba)(f v:ba):bf enc f v=Wa (ur enc f v):=by
 unfold bf ur;have h:=zQ (Ed enc v) ([],f++[58]);simp only[Wa,Ma,Da,sa,Ca,Zc]at h;rw[xr,ES,<-Ac,h];rfl
def yg(c:UInt8):Bool:=decide (32<=c.toNat)&&decide (c.toNat<=126)
def zdX:∀c:UInt8,yg c=true->Ti c=true:=Hb
def zdW:∀c:UInt8,yg c=true->c≠13:=Hb
def Vp(x:ba):Prop:=x.length<=76/\x.all yg=true
def MT{x:ba}(h:Vp x):x.all Ti=true:=by
 rw[Ag];intro c a;exact zdX c (Ag.1 h.2 c a)
structure El (f:ba) (F:List lf) (q:List ba × ba) (r:ba):Prop where
 one:∀ x∈q.1,Vp x∧x≠[]
 two:Vp q.2
 pB:(q.1=[]∧q.2=f++58::r)∨∃ v y,Wd q.1 (F,false)=some (F++[(f,v)],false)∧q.2=32::y∧r=v++32::y
def be(a:List ba):ba:=a.flatMap (32::·)
def Ot(w:ba)(a:List ba):be (w::a)=32::(w++be a):=by simp[be]
def U_:∀c:UInt8,bn c=true->c≠58:=Hb
def V_:∀c:UInt8,bn c=true->vc c=false:=Hb
theorem mD:∀(f r:ba),f.all bn=true->vh 58 (f++58::r)=some f.length
 |[],r,_=>by simp[vh]
 |c::f,r,h=>by
  rw[Ck,cc]at h;rw[Fa,vh,if_neg (U_ c h.1),mD f r h.2];rfl
def pE{f r:ba}{F:List lf}(a:pi f=true)(g:Vp (f++58::r)):Ae (F,false) (f++58::r)=some (F++[(f,r)],false):=by
 have d:=a;unfold pi at a;simp only[cc]at a;obtain⟨⟨e,_⟩,b⟩:=a;have ht:(f++58::r).take f.length=f:=ea
 have j:(f++58::r).drop (f.length+1)=r:=by rw[List.drop_append];simp
 have i:((f++58::r).head?.map vc).getD false=false:=by
  cases f with
  |nil=>simp at e
  |cons c f=>rw[Ck,cc]at b;exact V_ c b.1
 have h:=YV (st:=(F,false)) (MT g) i (mD f r b) (by rw[ht];exact d);rw[h,ht,j];have:decide (998<(f++58::r).length)=false:=decide_eq_false (by have:=g.1;omega);rw[this];rfl
def N_{f r v:ba}{F:List lf}(a:Vp (32::r)):Ae (F++[(f,v)],false) (32::r)=some (F++[(f,v++32::r)],false):=by
 have h:=XV (st:=(F++[(f,v)],false)) (F:=F) (q:=(f,v)) (MT a) rfl rfl;rw[h];have:decide (998<(32::r).length)=false:=decide_eq_false (by have:=a.1;omega);rw[this];rfl
def El.done{f r:ba}{F:List lf}{q:List ba×ba}(d:pi f=true)(h:El f F q r):Wd (q.1++[q.2]) (F,false)=some (F++[(f,r)],false):=by
 have b:=h.two;rw[DS];rcases h.pB with⟨c,a⟩|⟨v,y,c,a,rfl⟩
 ·rw[a]at b
  rw[c,a];exact pE d b
 ·rw[a]at b
  rw[a,c];exact N_ b
def El.step{f r:ba}{F:List lf}{q:List ba×ba}(i:pi f=true)(h:El f F q r){x:ba}(k:x.length<=75)(j:x.all yg=true):El f F (ul q x) (r++32::x):=by
 have g:=h.done i;have e:(32::x:ba).all yg=true:=by rw[Ck,j];rfl
 have d:q.2≠[]:=by
  rcases h.pB with⟨_,a⟩|⟨_,_,_,a,_⟩
  ·rw[a];simp
  ·rw[a];simp
 unfold ul ek;by_cases b:76<=x.length+q.2.length
 ·rw[if_pos (decide_eq_true b)]
  refine⟨fun y c=>?_,⟨by simp only[sa];omega,e⟩,.inr ⟨r,x,g,rfl,rfl⟩⟩;rcases We.1 c with c|c
  ·exact h.one y c
  ·rw[Ao.1 c];exact⟨h.two,d⟩
 ·rw[if_neg (by simpa using b)]
  refine⟨h.one,⟨by simp only[Da,sa];omega,by rw[ux,h.two.2,e];rfl⟩,?_⟩;rcases h.pB with⟨c,a⟩|⟨v,y,c,a,rfl⟩
  ·exact .inl ⟨c,by dsimp only;rw[a];simp⟩
  ·exact .inr ⟨v,y++32::x,c,by dsimp only;rw[a];simp,ea⟩
theorem El.fold{f:ba}{F:List lf}(c:pi f=true):∀(a:List ba)(q:List ba×ba)(r:ba),El f F q r->(∀x∈a,x.length<=75/\x.all yg=true)->El f F (a.foldl ul q) (r++be a)
 |[],q,r,h,_=>by
  have e:r++be []=r:=by simp[be]
  rw[e];exact h
 |x::a,q,r,h,b=>by
  have e:r++be (x::a)=(r++32::x)++be a:=by rw[Ot];simp
  rw[Pf,e];exact El.fold c a _ _ (h.step c (b x ea).1 (b x ea).2) fun y d=>b y (by simp[d])
def aH{enc:ba->ba}{f v:ba}(F:List lf)(c:pi f=true)(hs:f.all yg=true)(e:∀x∈Ed enc v,x.length<=75/\x.all yg=true):
 (∀x∈ur enc f v,Vp x/\x≠[])/\Wd (ur enc f v) (F,false)=some (F++[(f,be (Ed enc v))],false):=by
 have g:f.length<=32:=by
  have h:=c;unfold pi at h;simp only[cc,decide_eq_true_eq]at h;exact h.1.2
 have d:El f F ([],f++[58]) []:=⟨ea,⟨by simp only[Da,sa,Ca];omega,by rw[ux,hs];rfl⟩,.inl ⟨rfl,rfl⟩⟩;have h:=El.fold c (Ed enc v) _ _ d e;refine⟨fun x a=>?_,h.done c⟩;rcases We.1 a with a|a
 ·exact h.one x a
 ·rw[Ao.1 a]
  refine⟨h.two,?_⟩;rcases h.pB with⟨_,b⟩|⟨_,_,_,b,_⟩
  ·show(gt enc f v).2≠[];unfold gt;rw[b];simp
  ·show(gt enc f v).2≠[];unfold gt;rw[b];simp
open Go.Sort
section
variable {P:Program} {ops:Array Oper} {md:Region.Mode} {C:World→Prop}
def Fu(P:Program)(md:Region.Mode)(ops:Array Oper)(C:World->Prop)(n:Nat)(L:Array Bool->Act->Prop):Nat->Array Bool->Act->Prop
 |0,b,a=>L b a
 |f+1,b,a=>
  Region.ready md ops b≠[]/\∀i∈Region.ready md ops b,i<n/\qOp P ops C i (Fu P md ops C n L f (b.setIfInBounds i true)) a
theorem mK{n g}{L}{Q'}(e:∀b a w,C w->L b a->wpAny P md ops Q' g b a w):
 ∀(f)(b)(a)(w),C w->Fu P md ops C n L f b a->wpAny P md ops Q' (f+g) b a w
 |0,b,a,w,c,h=>by rw[Zc];exact e _ _ _ c h
 |f+1,b,a,w,c,h=>by
  rw[show f+1+g=(f+g)+1 by omega];exact⟨fun k=>absurd k h.1,fun i l=>wpOp_of_qOp c (fun a' w' d j=>mK e f _ a' w' d j) (h.2 i l).2⟩
theorem FX{n i}{A}{v}{L}(K:ops[i]?=some A)(u:∀(j:Nat)(o) cs b,ops[j]?=some o->o.op≠.select cs b)
 (hs:Region.sinkB md ops n=true) (Q:Region.chainB md ops n=true) (R:n<ops.size) (D:i<n)
 (w:∀c a,L c a->∀j∈Region.ready md ops c,n<=j):
 ∀(f)(c)(a),HeadInv md ops n c->
  (∀j z,ops[j]?=some z->j≠i->c.getD j true=false->(∀e∈z.after,Region.binds md e=true->e.on≠i)->A.apart ops z=true)->
  i∈Region.ready md ops c->YieldsIn P ops C A v a->
  Fu P md ops C n L f (c.setIfInBounds i true) (a.put A.dst v)->Fu P md ops C n L (f+1) c a:=by
 intro f
 induction f with
 |zero=>
  intro c a r _ hr I H;have g:=(mem_ready.1 hr).1;refine⟨fun h=>(by rw[h]at hr;cases hr),fun j x=>?_⟩;have q:j<n:=by
   rcases Oh j n with h|h
   ·exact h
   ·exact absurd x (tail_waits hs Q R r _ i rfl D g j h)
  refine⟨q,?_⟩;by_cases d:j=i
  ·subst d;exact I.qOp K H
  ·have:=w _ _ H j (ready_mono x d)
   omega
 |succ f W=>
  intro c a r l hr I H;have g:=(mem_ready.1 hr).1;refine⟨fun h=>(by rw[h]at hr;cases hr),fun j x=>?_⟩;have q:j<n:=by
   rcases Oh j n with h|h
   ·exact h
   ·exact absurd x (tail_waits hs Q R r _ i rfl D g j h)
  refine⟨q,?_⟩;by_cases d:j=i
  ·subst d;exact I.qOp K H
  ·have G:=(H.2 j (ready_mono x d)).2
   obtain⟨t,z,y,B⟩:=mem_ready.1 x;have F:∀e∈z.after,Region.binds md e=true->e.on≠i:=fun e U T J=>by
    have G:=B e U T;rw[J,getD_both g]at G;cases G
   have S:=qOp_put y (l j z y d t F) (fun cs b=>u i A cs b K) (fun cs b=>u j z cs b y) I G
   have p:∀k ok,ops[k]?=some ok->k≠i->(c.setIfInBounds j true).getD k true=false->
    (∀e∈ok.after,Region.binds md e=true->e.on≠i)->A.apart ops ok=true:=fun k ok V M g N=>by
    refine l k ok V M ?_ N;by_cases E:j=k
    ·subst E;exact t
    ·rw[getD_set_ne true E]at g;exact g
   refine qOp_mono (fun a' O=>W (c.setIfInBounds j true) a' (r.set x q) p (ready_mono hr (Wf d)) O.1 ?_) S;rw[Array.setIfInBounds_comm _ _ d];exact O.2
theorem lK{n g}{u}(d:Region.noSelect ops=true)(hs:Region.sinkB md ops n=true)(y:Region.chainB md ops n=true)(A:n<ops.size):
 ∀(l)(k)(b)(a),(∀j,j<l.length->l[j]?=ops[k+j]?)->k+l.length=n->HeadInv md ops n b->
 Region.lexHead md ops g l.length k b=true->wpQuiet P ops C u l a->
 Fu P md ops C n (fun c a'=>Region.seqB md ops g n c=true/\u a') l.length b a
 |[],k,b,a,_,t,_,r,h=>by
  have:k=n:=by simpa using t
  subst this;exact⟨by simpa[Region.lexHead]using r,h⟩
 |o::l,k,b,a,z,t,p,r,h=>by
  have q:ops[k]?=some o:=by simpa using(z 0 ea).symm
  simp only[sa,Region.lexHead,cc]at r;obtain⟨⟨hr,E⟩,w⟩:=r;have e:k<n:=by simp only[sa]at t;omega
  have i:k∈Region.ready md ops b:=by simpa using hr
  have x:qOp P ops C k (wpQuiet P ops C u l) a:=by unfold qOp;simp only[q];exact h
  obtain⟨v,F,B⟩:=yieldsIn_of_qOp q x
  exact FX q (Region.noSelect_spec d) hs y A e (fun c a' D=>seqB_ready D.1) l.length b a p (Region.free_spec q E) i F
   (lK d hs y A l (k+1) _ _ (fun j G=>by have:=z (j+1) La;simpa[Ij,Vr 1 j]using this) (by simp only[sa]at t;omega) (p.set i e) w B)
def zdm{id}{Q}{a}{w}{l:List Oper}(n)(z:P.follows .mixedOrders=true)(q:Region.lexTailB .any l.toArray n=true)
 (x:C {w with drawn:=w.drawn+1})
 (h:wpQuiet P l.toArray C (fun a'=>∀w',C w'->wpList P l.toArray Q (l.drop n) a' w') (l.take n) a):(Code.region id l.toArray true).wp P Q a w:=by
 simp only[Region.lexTailB,cc,decide_eq_true_eq]at q;obtain⟨⟨⟨⟨i,v⟩,hs⟩,y⟩,e⟩:=q;have A:n<l.length:=by simpa using v
 have b:(l.take n).length=n:=La
 have d:(l.drop n).length=l.toArray.size - n:=ea
 have k:HeadInv .any l.toArray n (Array.replicate l.toArray.size false):=
  ⟨ea,fun j B _ o=>(by rw[getD_replicate_false]at o;cases o),fun t _ ht=>getD_in (by simpa using ht) (getD_replicate_false _ _)⟩
 have H:=lK (md:=.any) (g:=l.toArray.size - n) i hs y v (l.take n) 0 _ a (fun j u=>by
  have o:j<n:=by rw[b]at u;exact u
  simp[o]) (by simpa using b) k (by rw[b];exact e) h
 refine wp_region_any z ?_;have:=mK (Q':=Q) (g:=l.toArray.size - n) (fun c a' w' p r=>by
  have:=wpAny_of_seq (md:=.any) (Q':=Q) (l.drop n) n c a' w' (fun j=>by simp[lg]) (by rw[d];exact r.1) (r.2 w' p);rwa[d]at this) _ _ _ _ x H
 rw[b,show n+(l.toArray.size - n)=l.toArray.size by omega]at this;exact this
theorem zdn{id}{Q}{a}{w}{l:List Oper}(n)(g:P.follows .mixedOrders=true)(e:Region.lexTailB .any l.toArray n=true)
 (h:wpQuiet P l.toArray (fun w'=>∃p:Regrown,w'=grow (redrawn w p.d) p.os) (fun a'=>∀w',Below w.heap.size w w'->wpList P l.toArray Q (l.drop n) a' w') (l.take n) a):(Code.region id l.toArray true).wp P Q a w:=
 zdm (C:=fun w'=>∃p:Regrown,w'=grow (redrawn w p.d) p.os) n g e ⟨⟨w.drawn+1,#[]⟩,by rw[grow_empty];rfl⟩ (by
  have mono:∀(l':List Oper)(a:Act),wpQuiet P l.toArray (fun w'=>∃p:Regrown,w'=grow (redrawn w p.d) p.os) (fun a'=>∀w',Below w.heap.size w w'->wpList P l.toArray Q (l.drop n) a' w') l' a->
   wpQuiet P l.toArray (fun w'=>∃p:Regrown,w'=grow (redrawn w p.d) p.os) (fun a'=>∀w',(∃p:Regrown,w'=grow (redrawn w p.d) p.os)->wpList P l.toArray Q (l.drop n) a' w') l' a:=by
   intro l'
   induction l' with
   |nil=>intro a h w' ⟨p,b⟩;exact h w' (b▸below_regrown w p.d p.os)
   |cons o l' c=>
    intro a h;unfold wpQuiet at h⊢;split
    ·rename_i b;rw[if_pos b]at h;exact Oper.quiet_mono (fun a' d=>c a' d) h
    ·rename_i b;rw[if_neg b]at h;exact c _ h
  exact mono _ _ h)
end
end ya
namespace Go.Proofs.YtglaihdcndcmkaaGreatDoor
def vE(s:ByteArray):Yi s.data.toList=(s.toList==[98,114]||(s.toList==[104,114]||s.toList==[105,109,103])):=by
 grind [ey,Yi]
def cx(s)(b)(h:Yi s.data.toList=b)(w):Calls Tryz.prog 182 #[.string s] w fun e w'=>e=.returned (.bool b)/\w'=w:=by
 subst h;rw[vE]
 go_enter Tryz.func182,Tryz.ntmps182
 go_wp2
 all_goals (go_ret;refine⟨?_,rfl⟩;simp[*,Bool.or_assoc])
def qX(w:World)(g o:Nat)(t:Tok):Prop:=∃a3 n3 c3,w.cell? ⟨g,o,none⟩=some (.int .u8 t.kind.toNat)/\w.cell? ⟨g,o+1,none⟩=some (.string (S t.name))/\w.cell? ⟨g,o+2,none⟩=some (.string (S t.text))/\w.cell? ⟨g,o+3,none⟩=some (.slice a3 n3 c3)/\w.cell? ⟨g,o+4,none⟩=some (.int .i64 (t.fr:Nat))/\w.cell? ⟨g,o+5,none⟩=some (.int .i64 (t.to:Nat))
def ZJ(w:World)(a:Option Addr)(L:List Tok):Prop:=L=[]\/∃g o,a=some ⟨g,o,none⟩/\g<w.heap.size/\∀k t,L[k]?=some t->qX w g (o+k* 6) t
def cq(l:List ba):List Value:=l.map fun x=>.string (S x)
def QE:(Tryz.prog.info? 9).map (fun i=>(i.zero,i.size,i.bytes))=some (some (.string ⟨#[]⟩),1,16):=ca
def Vl(L:List Tok)(q:List ba×Nat):Option (List ba):=Ob (bl L) none (L.length - q.2+1) q
theorem Hr{L}{op a}{k}{t}(b:L[k]?=some t)(h:qj t op=some a):Vl L (op,k)=Vl L (a,k+1):=by
 grind [Vl,hf,bl]
theorem iA{L}{op}{k}{t}(a:L[k]?=some t)(h:qj t op=none):Vl L (op,k)=none:=by
 unfold Vl;dsimp only;rw[hd (show bl L (op,k)=.inr none by grind [bl])]
def zav{L}{op}:Vl L (op,L.length)=some op:=by
 have a:L[L.length]?=none:=Qf (Aa _);unfold Vl;dsimp only;rw[hd (show bl L (op,L.length)=.inr (some op) by grind [bl])]
def zbr{w:World}{base}{e}{g a n}{op}(v:op.length=n+1)(h:w.ownsRow base e 1 (.slice (some ⟨g,0,none⟩) (n+1) a) (n+1) (cq op)):w.ownsRow base e 1 (.slice (some ⟨g,0,none⟩) n a) n (cq (op.take n)):=by
 obtain⟨u,l⟩:=h;rcases l with⟨k,_⟩|⟨t,j,c,r,o,p,q,b,d,i⟩
 ·cases k
 ·cases r
  refine⟨by grind [cq],.inr ⟨g,a,c,rfl,o,p,aa,b,d,?_⟩⟩
  grind [cq,List.map_take]
def zbq{w w'}{base}{e}{size}{v}{n}{xs}(h:w.ownsRow base e size v n xs)(k:Below w.heap.size w w'):w'.ownsRow base e size v n xs:=
 World.ownsRow.kept (row:=none) h ⟨k.os,k.tape,k.output,k.size,fun i a _=>k.block i a⟩ la
theorem tH{t}{op}(h:t.kind.toNat=111)(a:Yi t.name=false):qj t op=if 32<op.length+1 then none else some (op++[t.name]):=by grind [qj]
theorem Yz{t}{op}(h:t.kind.toNat=99):qj t op=if op.getLast?=some t.name then some op.dropLast else none:=by grind [qj]
def Zz{t}{op}(h:¬(t.kind.toNat=111/\Yi t.name=false))(a:¬t.kind.toNat=99):qj t op=some op:=by grind [qj]
set_option maxRecDepth 100000 in
def zae(L)(a)(cap)(w)(hr:ZJ w a L)(hLZ:L.length<=1000000000)(b)(hbZ:co L=b):Calls Tryz.prog 162 #[.slice a L.length cap] w fun e w'=>e=.returned (.bool b)/\Below w.heap.size w w':=by
 have Z:decide (Vl L ([],0)=some [])=b:=hbZ;have HRZ:=Lib.hid hr;have HBZ:=Lib.hid Z;clear hr hbZ Z
 go_enter Tryz.func162,Tryz.ntmps162
 go_wp2
 go_loopw [3,9] (fun v i wr=>∃(k:Nat)(op:List ba),i=.int .i64 k/\k<=L.length/\op.length<=32/\wr.ownsRow w.heap.size 9 1 v op.length (cq op)/\Below w.heap.size w wr/\Hid (Vl L ([],0)=Vl L (op,k)))
  (fun _ i _=>L.length - (intOf i).toNat)
 case atStart=>exact⟨0,[],rfl,Ab _,ea,zB _ _ _ _,Below.refl _ _,Lib.hid rfl⟩
 case round=>
  obtain⟨k,op,rfl,hkZ,X,z,c,D⟩:=hrel;by_cases fa:k<L.length
  ·obtain⟨g,o,rfl,Q,G⟩:=HRZ.out.resolve_left la
   have hcZ:=qe fa;obtain⟨t,ht⟩:∃t,L[k]=t:=⟨_,rfl⟩;rw[ht]at hcZ;obtain⟨a3,n3,cp3,c0Z,c1,c2,c3,c4,c5⟩:=G k t hcZ;have q0Z:=(c.cell (p:=⟨g,o+k* 6,none⟩) Q).trans c0Z;have q1Z:=(c.cell (p:=⟨g,o+k* 6+1,none⟩) Q).trans c1;have q2Z:=(c.cell (p:=⟨g,o+k* 6+2,none⟩) Q).trans c2;have q3Z:=(c.cell (p:=⟨g,o+k* 6+3,none⟩) Q).trans c3;have q4Z:=(c.cell (p:=⟨g,o+k* 6+4,none⟩) Q).trans c4;have q5Z:=(c.cell (p:=⟨g,o+k* 6+5,none⟩) Q).trans c5;have hgwr:=Ug Q c.size;have q:=c.size;have U:=Lib.hid hcZ;have HRW:=Lib.hid G;clear c0Z c1 c2 c3 c4 c5 G hcZ ht;have c6Z:Tryz.prog.cellsOf 190=6:=ca
   obtain⟨n,hnZ⟩:∃n,t.kind.toNat=n:=⟨_,rfl⟩;rw[hnZ]at q0Z;have J:=Lib.hid hnZ;clear hnZ;have r:=Lib.hid z;obtain⟨voZ,hvo⟩:∃voZ,Yi t.name=voZ:=⟨_,rfl⟩;have P:=Lib.hid hvo;clear hvo;rcases z.2 with⟨rfl,I⟩|⟨gsZ,Ya,cur,rfl,hgs,F,hnc,hcm,hcsz,htk⟩
   ·have A:=qz I
    subst A;clear z;by_cases R:n=111
    ·subst R
     cases voZ with
     |true=>
      go_wp2_with(go_at_call 182;refine(cx _ _ P.out _).mono ?_;rintro e w2Z ⟨rfl,rfl⟩)
      all_goals
       go_roundw
       case rel=>exact⟨k+1,[],by go_num,fa,ea,r.out.alloc _,c.alloc q _,Lib.hid (D.out.trans (Hr U.out (Zz (by rw[P.out];simp) (by rw[J.out];decide))))⟩
       case measure=>simp[intOf];omega
     |false=>
      go_wp2_with(first|(go_at_call 182;refine(cx _ _ P.out _).mono ?_;rintro e w2Z ⟨rfl,rfl⟩)|(at_builtin;refine Qi pa _ _ _ pa 9 _ 1 16 Tryz.underlying29 QE pa aa w.heap.size _ _ _ _ pa (r.out.alloc _) [.string (S t.name)] pa (by simp[Value.oneCell']) (by show Value.slice (some ⟨wr.heap.size+1,0,none⟩) 1 1=_;simp) ea ea La ?_;intro ggZ K w8Z hgg j y u M;have O:=Lib.hid j;have E:=Lib.hid u;clear j u y))
      all_goals
       refine⟨⟨k+1,[t.name],by go_num,fa,ea,O.out,(c.alloc q _).trans (E.out.mono aa),?_⟩,by grind [intOf]⟩
       grind [Hr,Hid.out,tH]
    ·by_cases Y:n=99
     ·subst Y
      have N:=Lib.hid (show false=b by grind [Hid.out,iA,Yz]);go_wp2
      (refine wp_region_quiet_below ca ca ?_;(repeat (first|go_big_quiet_skip|(go_big_quiet_want;go_big_quiet_op;first|go_big_quiet_on|(apply Exists.intro;refine⟨fun _=>?_,?_⟩;(· (fail));go_big_quiet_on))));refine wpQuiet_nil ?_;intro _ C;obtain⟨⟨dq,osq⟩,l⟩:=C;subst l)
      go_wp2
      all_goals (go_ret;exact⟨congrArg (fun x=>Ending.returned (Value.bool x)) N.out,(c.alloc q _).trans ((below_regrown _ _ _).mono La)⟩)
     ·have e1:((n:Int)==111)=false:=La
      have e9Z:((n:Int)==99)=false:=La
      go_wp2
      all_goals
       first
        |exact⟨⟨k+1,[],by go_num,fa,ea,r.out.alloc _,c.alloc q _,Lib.hid (D.out.trans (Hr U.out (Zz (fun h=>R (J.out.symm.trans h.1)) (fun h=>Y (J.out.symm.trans h)))))⟩,by grind [intOf]⟩
        |skip
   ·have hfz:op.length=0\/∃m x,op.length=m+1/\op[m]?=some x/\op.getLast?=some x/\op.dropLast=op.take m:=by
     cases hoZ:op.length with
     |zero=>omega
     |succ m=>obtain⟨x,R,h2Z,B,_⟩:=rS hoZ;grind
    have HFZ:=Lib.hid hfz;clear z hfz;by_cases R:n=111
    ·subst R
     cases voZ with
     |true=>
      go_wp2_with(go_at_call 182;refine(cx _ _ P.out _).mono ?_;rintro e w2Z ⟨rfl,rfl⟩)
      all_goals
       go_roundw
       case rel=>exact⟨k+1,op,by go_num,fa,X,r.out.alloc _,c.alloc q _,Lib.hid (D.out.trans (Hr U.out (Zz (by rw[P.out];simp) (by rw[J.out];decide))))⟩
       case measure=>simp[intOf];omega
     |false=>
      by_cases H:op.length+1<=32
      ·have B:¬(32:Int)<(op.length:Int)+1:=aa
       go_wp2_with(first|(go_at_call 182;refine(cx _ _ P.out _).mono ?_;rintro e w2Z ⟨rfl,rfl⟩)|(at_builtin;refine Qi pa _ _ _ pa 9 _ 1 16 Tryz.underlying29 QE pa aa w.heap.size _ _ _ _ pa (r.out.alloc _) [.string (S t.name)] pa (by simp[Value.oneCell']) (by show Value.slice (some ⟨wr.heap.size+1,0,none⟩) 1 1=_;simp) aa aa La ?_;intro ggZ K w8Z hgg j y u M;have O:=Lib.hid j;have E:=Lib.hid u;clear j u y))
       all_goals
        refine⟨⟨k+1,op++[t.name],by go_num,fa,La,?_,(c.alloc q _).trans (E.out.mono aa),?_⟩,by first|(simp[intOf];done)|(simp[intOf];omega)⟩
        ·grind [Hid.out,cq]
        grind [Hr,Hid.out,tH]
      ·have B:(32:Int)<(op.length:Int)+1:=aa
       have N:=Lib.hid (show false=b by grind [Hid.out,iA,tH])
       go_wp2_with(first|(go_at_call 182;refine(cx _ _ P.out _).mono ?_;rintro e w2Z ⟨rfl,rfl⟩)|(at_builtin;refine Qi pa _ _ _ pa 9 _ 1 16 Tryz.underlying29 QE pa aa w.heap.size _ _ _ _ pa (r.out.alloc _) [.string (S t.name)] pa (by simp[Value.oneCell']) (by show Value.slice (some ⟨wr.heap.size+1,0,none⟩) 1 1=_;simp) aa aa La ?_;intro ggZ K w8Z hgg j y u M;have O:=Lib.hid j;have E:=Lib.hid u;clear j u y))
       all_goals (go_ret;exact⟨congrArg (fun x=>Ending.returned (Value.bool x)) N.out,(c.alloc q _).trans (E.out.mono aa)⟩)
    ·by_cases Y:n=99
     ·subst Y
      rcases HFZ.out with hzZ|⟨m,x,T,hx1,hx2,hx3⟩
      ·have A:=qz hzZ
       subst A;have N:=Lib.hid (show false=b by grind [Hid.out,iA,Yz]);simp only[Ca];go_wp2
       (refine wp_region_quiet_below ca ca ?_;(repeat (first|go_big_quiet_skip|(go_big_quiet_want;go_big_quiet_op;first|go_big_quiet_on|(apply Exists.intro;refine⟨fun _=>?_,?_⟩;(· (fail));go_big_quiet_on))));refine wpQuiet_nil ?_;intro _ C;obtain⟨⟨dq,osq⟩,l⟩:=C;subst l)
       go_wp2
       all_goals (go_ret;exact⟨congrArg (fun x=>Ending.returned (Value.bool x)) N.out,(c.alloc q _).trans ((below_regrown _ _ _).mono La)⟩)
      ·have B:wr.ownsRow w.heap.size 9 1 (.slice (some ⟨gsZ,0,none⟩) (m+1) Ya) (m+1) (cq op):=T▸r.out
       have V:=Lib.hid B;have hcx:wr.cell? ⟨gsZ,m,none⟩=some (.string (S x)):=(B.cellAt m aa).trans (by grind [cq]);have hgsl:=(Nh.1 F).1;have hm32:m<=31:=aa
       have hwr:IntKind.i64.wrap (m:Int)=(m:Int):=by rw[IntKind.wrap_i64];omega
       have hix1:(m:Int)<(m:Int)+1:=aa
       have hix2:(m:Int)<((m+1:Nat):Int):=aa
       have hix3:m<m+1:=aa
       have hix0:(0:Int)<=(m:Int):=aa
       have c1:Tryz.prog.cellsOf 9=1:=ca
       have I:¬((m:Int)<0):=aa
       have hd0:decide ((m:Int)<0)=false:=ea
       have hcx5:=fun o=>(((Below.refl wr.heap.size wr).alloc (Aa _) o).cell (p:=⟨gsZ,m,none⟩) hgsl).trans hcx
       have hcx6:=fun o d os=>cell_regrown (hcx5 o) d os
       have hty:(wr.alloc (.cells #[.int .u8 99,.string (S t.name),.string (S t.text),.slice a3 n3 cp3,.int .i64 (t.fr:Nat),.int .i64 (t.to:Nat)] 190)).cell? ⟨wr.heap.size,1,none⟩=some (.string (S t.name)):=ea
       have hty2:=fun d os=>cell_regrown hty d os
       have W:=Lib.hid hx2;have HX3:=Lib.hid hx3;have HMZ:=Lib.hid T;rw[T];rw[T]at hnc;clear B hx1 hx2 hx3 F htk;by_cases hxZ:x=t.name
       ·have H:qj t op=some (op.take m):=by rw[Yz J.out,W.out,hxZ,if_pos rfl,HX3.out]
        have HCP:=Lib.hid H;clear H;subst hxZ;clear T;go_wp2
        (refine wp_region_quiet_below ca ca ?_;(repeat (first|go_big_quiet_skip|(go_big_quiet_want;go_big_quiet_op;first|go_big_quiet_on|(apply Exists.intro;refine⟨fun _=>?_,?_⟩;(· (fail));go_big_quiet_on))));refine wpQuiet_nil ?_;intro _ C;obtain⟨⟨dq,osq⟩,l⟩:=C;subst l)
        go_wp2
        all_goals
         refine⟨⟨k+1,op.take m,by go_num,fa,la,?_,(c.alloc q _).trans ((below_regrown _ _ _).mono La),Lib.hid (D.out.trans (Hr U.out HCP.out))⟩,by grind [intOf]⟩;have hlZ:(op.take m).length=m:=by rw[Ue,HMZ.out];omega
         rw[hlZ];exact zbq ((zbr HMZ.out V.out).alloc _) (below_regrown _ _ _)
       ·have H:qj t op=none:=by rw[Yz J.out,W.out,if_neg (fun h=>hxZ la)]
        have N:=Lib.hid (show false=b by grind [Hid.out,iA]);clear H T;have hne:((S x).toList==(S t.name).toList)=false:=by
         rw[ey,ey];exact beq_false_of_ne hxZ
        go_wp2
        (refine wp_region_quiet_below ca ca ?_;(repeat (first|go_big_quiet_skip|(go_big_quiet_want;go_big_quiet_op;first|go_big_quiet_on|(apply Exists.intro;refine⟨fun _=>?_,?_⟩;(· (fail));go_big_quiet_on))));refine wpQuiet_nil ?_;intro _ C;obtain⟨⟨dq,osq⟩,l⟩:=C;subst l)
        go_wp2
        all_goals (go_ret;exact⟨congrArg (fun x=>Ending.returned (Value.bool x)) N.out,(c.alloc q _).trans ((below_regrown _ _ _).mono La)⟩)
     ·have e1:((n:Int)==111)=false:=La
      have e9Z:((n:Int)==99)=false:=La
      go_wp2
      all_goals
       exact⟨⟨k+1,op,by go_num,fa,X,r.out.alloc _,c.alloc q _,Lib.hid (D.out.trans (Hr U.out (Zz (fun h=>R (J.out.symm.trans h.1)) (fun h=>Y (J.out.symm.trans h)))))⟩,by grind [intOf]⟩
  ·obtain rfl:k=L.length:=aa
   have j:Vl L ([],0)=some op:=by rw[D.out,zav]
   have l:b=decide (op=[]):=by rw[<-HBZ.out,j];simp
   rcases z.2 with⟨rfl,I⟩|⟨gsZ,Ya,cur,rfl,hgs,F,hnc,hcm,hcsz,htk⟩
   ·have A:=qz I
    subst A;have q:=Lib.hid (show true=b by grind);clear l j;go_wp2
    all_goals (go_ret;exact⟨congrArg (fun x=>Ending.returned (Value.bool x)) q.out,c⟩)
   ·have h2Z:((op.length:Int)==0)=b:=by
     rw[l];by_cases A:op=[]
     ·grind
     ·simp[A]
    have q:=Lib.hid h2Z;clear h2Z l j;go_wp2
    all_goals (go_ret;exact⟨congrArg (fun x=>Ending.returned (Value.bool x)) q.out,c⟩)
end Go.Proofs.YtglaihdcndcmkaaGreatDoor
namespace ya
def sX{a b}(h:fb a=fb b):a=b:=by
 obtain⟨c,d,a3,a4⟩:=a;obtain⟨b1,e,g,i⟩:=b;simp only[fb,Wr,PV.flat.injEq,Value.string.injEq,Value.int.injEq,true_and,and_true,Fx,Xr]at h;obtain⟨rfl,rfl,rfl,rfl⟩:=h;rfl
theorem bK:∀{l l'},uc l=uc l'->l=l'
 |[],[],_=>rfl
 |[],b::l',h=>by have:=congrArg List.length h;rw[Zf,Zf]at this;simp at this
 |a::l,[],h=>by have:=congrArg List.length h;rw[Zf,Zf]at this;simp at this
 |a::l,b::l',h=>by
  have c:=h;obtain⟨d,e⟩:=List.append_inj c rfl;rw[sX d,bK e]
def zgi{a b}(h:wa a=wa b):a=b:=by
 obtain⟨e,g,a3,a4,a5,i⟩:=a;obtain⟨b1,j,k,l,n,o⟩:=b;simp only[wa,Wr,PV.flat.injEq,PV.ga.injEq,Value.string.injEq,Value.int.injEq,true_and,and_true,Fx,Xr]at h;obtain⟨c,rfl,rfl,⟨_,d⟩,rfl,rfl⟩:=h;rw[Yb.1 c,bK d]
theorem oW:∀{l l'},qc l=qc l'->l=l'
 |[],[],_=>rfl
 |[],b::l',h=>by have:=congrArg List.length h;rw[Uf,Uf]at this;simp at this
 |a::l,[],h=>by have:=congrArg List.length h;rw[Uf,Uf]at this;simp at this
 |a::l,b::l',h=>by
  have c:=h;obtain⟨d,e⟩:=List.append_inj c rfl;rw[zgi d,oW e]
open Classical in
noncomputable def dw:Callee:=fun f args bx oc=>if h:f=162/\bx=[]/\oc=[]/\∃L:List Tok,L.length<=1000000000/\args=[.ga L.length (qc L)]then some ([.flat (.bool (co (choose h.2.2.2)))],false,[],[])else none
def Z_(L)(d:L.length<=1000000000):dw 162 [.ga L.length (qc L)] [] []=some ([.flat (.bool (co L))],false,[],[]):=by
 unfold dw;have h:162=162/\([]:Na)=[]/\([]:List Loc)=[]/\∃a:List Tok,a.length<=1000000000/\[PV.ga L.length (qc L)]=[.ga a.length (qc a)]:=⟨rfl,rfl,rfl,L,d,rfl⟩;rw[dif_pos h];have c:=(uu h.2.2.2).2;obtain⟨a,b⟩:∃a,Classical.choose h.2.2.2=a:=⟨_,rfl⟩;rw[b]at c;rw[b];simp only[Wr,PV.ga.injEq,and_true]at c;rw[<-oW c.2]
def zaa{Γ}:Gb Tryz.prog Γ dw:=by
 intro f args bx oc V os bx' oc' i;unfold dw at i;split at i
 case isFalse=>cases i
 rename_i h;cases i;have F:=uu h.2.2.2;obtain⟨L,B⟩:∃L,Classical.choose h.2.2.2=L:=⟨_,rfl⟩;rw[B]at F;rw[B];obtain⟨rfl,rfl,rfl,_⟩:=h;obtain⟨c,rfl⟩:=F;intro w Fr β vs J;refine enters_of ca ha ?_;have E:=J.args;simp only[ra]at E;obtain⟨v,r,rfl,K,rfl⟩:=E;simp only[Rd]at K;obtain⟨a,l,rfl,G,d⟩:=K;have Q:ZJ w a L:=by
  rcases d with⟨W,O⟩|⟨g,o,us,rfl,C,D,X⟩
  ·exact .inl (qz O)
  ·by_cases I:L=[]
   ·exact .inl I
   ·refine .inr ⟨g,o,rfl,?_,fun k t ht=>?_⟩
    ·obtain⟨t,b,rfl⟩:=List.exists_cons_of_ne_nil I
     obtain⟨v0,n,_⟩:=D.get 0 _ pa;exact eu w _ (C 0 v0 n).2
    ·have b:∀j p,(wa t)[j]?=some p->∃v,w.cell? ⟨g,o+k* 6+j,none⟩=some v/\Rd w Fr β p v:=fun j p H=>by
      have T:=iJ ht;have:(qc L)[k* 6+j]?=some p:=by
       rw[<-lg,T,yl (qg H).1,H]
      obtain⟨v,n,P⟩:=D.get _ _ this;exact⟨v,by rw[Ij];exact(C _ v n).2,P⟩
     obtain⟨v0,M,q⟩:=b 0 _ rfl;obtain⟨Y,c1,u⟩:=b 1 _ rfl;obtain⟨Z,c2,x⟩:=b 2 _ rfl;obtain⟨v3,c3,y⟩:=b 3 _ rfl;obtain⟨v4,c4,z⟩:=b 4 _ rfl;obtain⟨v5,c5,A⟩:=b 5 _ rfl;simp only[Rd]at q u x y z A;obtain⟨rfl,_⟩:=q;obtain⟨rfl,_⟩:=u;obtain⟨rfl,_⟩:=x;obtain⟨a3,N,rfl,_⟩:=y;obtain⟨rfl,_⟩:=z;obtain⟨rfl,_⟩:=A;exact⟨_,_,_,M,c1,c2,c3,c4,c5⟩
 refine(zae L a l w Q c _ rfl).mono ?_;rintro e w' ⟨rfl,S⟩;obtain⟨R,U⟩:=J.rel.grow S (Fr':=Fr) fun _ _=>rfl
 exact⟨_,Fr,β,rfl,by simp[Rc,Rd,yc],R,U,(fun L h=>by cases h),fun h=>by cases h⟩
end ya
section
set_option synthInstance.maxSize 4000
namespace ya
def zc8:Option (List UInt8)->Go.Value
 |none=>.tuple #[.string ⟨#[]⟩,.int .i64 7]
 |some l=>.tuple #[.string ⟨l.toArray⟩,.int .i64 0]
attribute [simp] zc8
end ya
namespace Go.Proofs.YtglaihdcndcmkaaGreatDoor
end Go.Proofs.YtglaihdcndcmkaaGreatDoor
end
section
set_option synthInstance.maxSize 4000
namespace ya
def kW(s:List UInt8)(k)(h):s.take (k+1)=s.take k++[s[k]]:=by
 rw[xo h]
end ya
namespace Go.Proofs.YtglaihdcndcmkaaGreatDoor
end Go.Proofs.YtglaihdcndcmkaaGreatDoor
end
namespace ya
theorem WP{s:List UInt8}{k line}(a)(h:s[k]=10):eb line (s.drop k)=[13,10]++eb 0 (s.drop (k+1)):=by
 rw[Qd a,eb,if_pos h];rfl
def YP{s:List UInt8}{k line}(a)(h:s[k]≠10){p}(c:piece s[k] (s.drop (k+1))=p)(b:line+p.length>75):eb line (s.drop k)=[61,13,10]++p++eb p.length (s.drop (k+1)):=by
 rw[Qd a,eb,if_neg h,c,if_pos b];simp
def XP{s:List UInt8}{k line}(a)(h:s[k]≠10){p}(c:piece s[k] (s.drop (k+1))=p)(b:¬line+p.length>75):eb line (s.drop k)=p++eb (line+p.length) (s.drop (k+1)):=by
 rw[Qd a,eb,if_neg h,c,if_neg b]
end ya
namespace Go.Proofs.YtglaihdcndcmkaaGreatDoor
def xU(s)(k:Nat)(p)(w)(hs:s.size<=1000000000)(a)(h:piece s[k] (s.data.toList.drop (k+1))=p):Calls Tryz.prog 131 #[.string s,.int .i64 k] w (Zg (.string ⟨p.toArray⟩) w):=h▸zcq s k w hs a
set_option maxRecDepth 100000 in
def p3(s)(w)(hs:s.size<=1000000):Calls Tryz.prog 67 #[.string s] w (Zg (.string ⟨(eb 0 s.data.toList).toArray⟩) w):=by
 go_enter Tryz.func67,Tryz.ntmps67
 go_wp2
 go_loopw [3,4,5,6] (fun v l i _ wr=>∃(k line:Nat)(b:List UInt8),k<=s.size/\line<=75/\i=.int .i64 k/\l=.int .i64 line/\v=.string ⟨b.toArray⟩/\b.length<=6* k/\Below w.heap.size w wr/\Hid (eb 0 s.data.toList=b++eb line (s.data.toList.drop k)))
  (fun _ _ i _ _=>s.size - (intOf i).toNat)
 case atStart=>exact⟨0,0,[],Ab _,aa,rfl,rfl,rfl,ea,Below.refl _ _,Lib.hid ea⟩
 case round=>
  obtain⟨k,line,b,B,o,rfl,rfl,rfl,t,c,a⟩:=hrel;by_cases fa:k<s.size
  ·by_cases d:s[k]=10
   ·have h:=Lib.hid (a.out.trans (congrArg (b++·) (WP (s:=s.data.toList) (line:=line) fa d)))
    have y:((s[k].toNat:Int)==10)=true:=by rw[d];rfl
    clear d a;go_wp2;go_roundw
    case rel=>exact⟨k+1,0,b++[13,10],aa,aa,by go_num,rfl,vS (by simp[yn]),La,c,Lib.hid (by rw[h.out];simp)⟩
    case measure=>simp[intOf];omega
   ·have y:((s[k].toNat:Int)==10)=false:=by simp[<-Yb]at d⊢;omega
    have j:=kI s[k] (s.data.toList.drop (k+1));generalize r:piece s[k] (s.data.toList.drop (k+1))=p at j;obtain⟨u,x⟩:=j;have n:=Lib.hid r;clear r;by_cases q:line+p.length>75
    ·have h:=Lib.hid (a.out.trans (congrArg (b++·) (YP (s:=s.data.toList) (line:=line) fa d n.out q)))
     clear d a;have z:(75:Int)<(line:Int)+(p.length:Int):=aa
     go_wp2_with(go_at_call 131;refine(xU _ _ _ _ aa fa n.out).mono ?_;rintro e A ⟨rfl,g⟩)
     go_roundw
     case rel=>exact⟨k+1,p.length,b++([61,13,10]++p),aa,aa,by go_num,ea,vS (by simp[yn]),La,c.trans (g.mono c.size),Lib.hid (by rw[h.out];simp)⟩
     case measure=>simp[intOf];omega
    ·have h:=Lib.hid (a.out.trans (congrArg (b++·) (XP (s:=s.data.toList) (line:=line) fa d n.out q)))
     clear d a;have z:¬(75:Int)<(line:Int)+(p.length:Int):=aa
     go_wp2_with(go_at_call 131;refine(xU _ _ _ _ aa fa n.out).mono ?_;rintro e A ⟨rfl,g⟩)
     go_roundw
     case rel=>exact⟨k+1,line+p.length,b++p,aa,aa,by go_num,ea,vS (by simp[yn]),La,c.trans (g.mono c.size),Lib.hid (by rw[h.out];simp)⟩
     case measure=>simp[intOf];omega
  ·obtain rfl:k=s.size:=aa
   go_wp2;go_ret;exact⟨r1 (vs (by rw[a.out,show s.data.toList.drop s.size=[]from Jj (Aa _)];simp[eb])),c⟩
end Go.Proofs.YtglaihdcndcmkaaGreatDoor
namespace ya
def Gh(s:List UInt8)(k:Nat):List UInt8:=match s[k]? with|none=>[]|some c=>if c=10 then[]else piece c (s.drop (k+1))
abbrev th:={p:ByteArray//p.size<=3}
def th.bytes(p:th):List UInt8:=p.1.data.toList
end ya
namespace Go.Proofs.YtglaihdcndcmkaaGreatDoor
attribute [local go_sem] Oper.semAt_some
set_option maxRecDepth 100000 in
def zct(n:Nat)(hnZ:1<=n)(s)(hs:s.size<=1000000)(P:Nat)(w)(L:Boxed w P 9 (.string s)):
 SeqStopsK Fence.wide n Tryz.prog 233 #[.pointer (some ⟨P,0,none⟩)] (fun p:th=>#[.string p.1]) (An P)
  (fun xs=>xs.map th.bytes=(List.range s.size).map (Gh s.data.toList)) (fun _=>True) s.size w:=fun l J c W hWZ N a O Z=>by
 have D:Boxed W P 9 (.string s):=(hWZ.block _ L.lt).trans L;have hc0:=D.cell;have V:=Lib.hid D;clear D;refine callsIn_of_wp Tryz.func233 rfl trivial ?_ rfl;simp only[Tryz.ntmps233,ou,sa,Ca,Nat.reduceAdd,Nat.reduceSub,pu,qu,ru,tu,Ma,Fa]
 gi_wp2
 gi_loopw [8] (fun v wr=>∃(k:Nat)(pre:List th),v=.int .i64 k/\k<=s.size/\Hid (pre.map th.bytes=(List.range k).map (Gh s.data.toList))/\Hid (J pre wr)/\Hid (Boxed wr P 9 (.string s)))
  (fun v _=>s.size - (intOf v).toNat)
 case atStart=>exact⟨0,[],rfl,Ab _,Lib.hid rfl,Lib.hid Z,V⟩
 case round=>
  obtain⟨k,pre,rfl,hkZ,d,u,r⟩:=hrel;replace u:=u.out;replace r:=r.out;have hc2:=r.cell;have A:=r.lt;have T:pre.length=k:=by have:=congrArg List.length d.out;simpa using this
  by_cases fa:k<s.size
  ·have hpl:(pair s[k]).length<=2:=by simp[pair]
   have F:s.data.toList[k]?=some s[k]:=by rw[qe (show k<s.data.toList.length from fa)];rfl
   by_cases G:s[k]=10
   ·have B:=Lib.hid (show Gh s.data.toList k=[] by grind [Gh])
    have q0Z:((s[k].toNat:Int)==10)=true:=by rw[G];rfl
    clear F G
    gi_wp2_with (first|(refine⟨trivial,?_⟩;gi_at_call 234;refine(callsIn_wide.2 (Ct _ _)).mono ?_;rintro e I ⟨rfl,c⟩;have g:=No N u c;have a:=(c.block _ A).trans r;have E:=Boxed.cell a;obtain⟨fn,tmps,assign,body,H,C⟩:=O pre ⟨⟨#[]⟩,ha⟩ I g aa;dsimp only at H)|(refine⟨trivial,?_⟩;gi_at_call 214;refine(callsIn_wide.2 (kn _ _ K.out _)).mono ?_;rintro e S ⟨rfl,rfl⟩))
    refine C.mono ?_;rintro e Q (⟨rfl,i,j⟩|⟨rfl,o⟩)
    ·gi_wp2
     go_roundw
     case rel=>exact⟨k+1,pre++[⟨⟨#[]⟩,ha⟩],by go_num,aa,Lib.hid (by rw[Xf,d.out,fs,Xf,Cg,Cg,B.out];rfl),Lib.hid i,Lib.hid (Eq.trans j a)⟩
     grind [intOf]
    ·gi_wp2
     refine bodyPost_ret (results_none rfl _ _ _) rfl ?_;exact⟨⟨_,rfl⟩,.inr ⟨_,trivial,o⟩⟩
   ·have t:Gh s.data.toList k=piece s[k] (s.data.toList.drop (k+1)):=by unfold Gh;rw[F];simp[G]
    have q0Z:((s[k].toNat:Int)==10)=false:=by simp[<-Yb]at G⊢;omega
    clear F G;generalize U:Mi s[k]=X;have K:=Lib.hid U;clear U;cases X
    ·by_cases y:s[k]=32\/s[k]=9
     ·have q:∃b,((s[k].toNat:Int)==32)=b/\(b=false->((s[k].toNat:Int)==9)=true):=by
       refine⟨_,rfl,fun h=>?_⟩;rcases y with Y|Y
       ·simp_all
       ·simp_all
      obtain⟨b,q1Z,M⟩:=q;by_cases R:k+1<s.size
      ·have i2Z:(k:Int)+1<(s.size:Int):=aa
       by_cases x:s[k+1]=10
       ·have B:=Lib.hid (t.trans (Ft (s:=s.data.toList) fa K.out (.inr (.inr ⟨R,x⟩))))
        have q3Z:((s[k+1].toNat:Int)==10)=true:=by rw[x];rfl
        have q4Z:((s[k+1].toNat:Int) !=10)=false:=by rw[x];rfl
        clear x y t;cases b
        all_goals (try replace M:=M rfl)
        all_goals
         gi_wp2_with (first|(refine⟨trivial,?_⟩;gi_at_call 234;refine(callsIn_wide.2 (Ct _ _)).mono ?_;rintro e I ⟨rfl,c⟩;have g:=No N u c;have a:=(c.block _ A).trans r;have E:=Boxed.cell a;obtain⟨fn,tmps,assign,body,H,C⟩:=O pre ⟨⟨#[61]⟩++⟨(pair s[k]).toArray⟩,by simp[qq,an,pair]⟩ I g aa;dsimp only at H)|(refine⟨trivial,?_⟩;gi_at_call 214;refine(callsIn_wide.2 (kn _ _ K.out _)).mono ?_;rintro e S ⟨rfl,rfl⟩))
         refine C.mono ?_;rintro e Q (⟨rfl,i,j⟩|⟨rfl,o⟩)
         ·gi_wp2
          go_roundw
          case rel=>exact⟨k+1,pre++[⟨⟨#[61]⟩++⟨(pair s[k]).toArray⟩,by simp[qq,an,pair]⟩],by go_num,aa,Lib.hid (by rw[Xf,d.out,fs,Xf,Cg,Cg,B.out];exact congrArg (fun z=>List.map (Gh s.data.toList) (List.range k)++[z]) ((yn).trans rfl)),Lib.hid i,Lib.hid (Eq.trans j a)⟩
          case measure=>simp[intOf];omega
         ·gi_wp2
          refine bodyPost_ret (results_none rfl _ _ _) rfl ?_;exact⟨⟨_,rfl⟩,.inr ⟨_,trivial,o⟩⟩
       ·have B:=Lib.hid (t.trans (yA (s:=s.data.toList) fa (.inr ⟨y,R,x⟩)))
        have q3Z:((s[k+1].toNat:Int)==10)=false:=by simp[<-Yb]at x⊢;omega
        have q4Z:((s[k+1].toNat:Int) !=10)=true:=by simp[<-Yb]at x⊢;omega
        clear x y t;cases b
        all_goals (try replace M:=M rfl)
        all_goals
         gi_wp2_with (first|(refine⟨trivial,?_⟩;gi_at_call 234;refine(callsIn_wide.2 (Ct _ _)).mono ?_;rintro e I ⟨rfl,c⟩;have g:=No N u c;have a:=(c.block _ A).trans r;have E:=Boxed.cell a;obtain⟨fn,tmps,assign,body,H,C⟩:=O pre ⟨s.extract k (k+1),by simp[BB];omega⟩ I g aa;dsimp only at H)|(refine⟨trivial,?_⟩;gi_at_call 214;refine(callsIn_wide.2 (kn _ _ K.out _)).mono ?_;rintro e S ⟨rfl,rfl⟩))
         refine C.mono ?_;rintro e Q (⟨rfl,i,j⟩|⟨rfl,o⟩)
         ·gi_wp2
          go_roundw
          case rel=>exact⟨k+1,pre++[⟨s.extract k (k+1),la⟩],by go_num,aa,Lib.hid (by rw[Xf,d.out,fs,Xf,Cg,Cg,B.out];exact congrArg (fun z=>List.map (Gh s.data.toList) (List.range k)++[z]) ((ext1 s k fa).trans rfl)),Lib.hid i,Lib.hid (Eq.trans j a)⟩
          case measure=>simp[intOf];omega
         ·gi_wp2
          refine bodyPost_ret (results_none rfl _ _ _) rfl ?_;exact⟨⟨_,rfl⟩,.inr ⟨_,trivial,o⟩⟩
      ·have B:=Lib.hid (t.trans (Ft (s:=s.data.toList) fa K.out (.inr (.inl dh))))
       have x:¬(k:Int)+1<(s.size:Int):=aa
       clear y t;cases b
       all_goals (try replace M:=M rfl)
       all_goals
        gi_wp2_with (first|(refine⟨trivial,?_⟩;gi_at_call 234;refine(callsIn_wide.2 (Ct _ _)).mono ?_;rintro e I ⟨rfl,c⟩;have g:=No N u c;have a:=(c.block _ A).trans r;have E:=Boxed.cell a;obtain⟨fn,tmps,assign,body,H,C⟩:=O pre ⟨⟨#[61]⟩++⟨(pair s[k]).toArray⟩,by simp[qq,an,pair]⟩ I g aa;dsimp only at H)|(refine⟨trivial,?_⟩;gi_at_call 214;refine(callsIn_wide.2 (kn _ _ K.out _)).mono ?_;rintro e S ⟨rfl,rfl⟩))
        refine C.mono ?_;rintro e Q (⟨rfl,i,j⟩|⟨rfl,o⟩)
        ·gi_wp2
         go_roundw
         case rel=>exact⟨k+1,pre++[⟨⟨#[61]⟩++⟨(pair s[k]).toArray⟩,by simp[qq,an,pair]⟩],by go_num,aa,Lib.hid (by rw[Xf,d.out,fs,Xf,Cg,Cg,B.out];exact congrArg (fun z=>List.map (Gh s.data.toList) (List.range k)++[z]) ((yn).trans rfl)),Lib.hid i,Lib.hid (Eq.trans j a)⟩
         case measure=>simp[intOf];omega
        ·gi_wp2
         refine bodyPost_ret (results_none rfl _ _ _) rfl ?_;exact⟨⟨_,rfl⟩,.inr ⟨_,trivial,o⟩⟩
     ·have x:¬s[k]=32:=fun h=>y (.inl h)
      have R:¬s[k]=9:=fun h=>y (.inr h)
      have B:=Lib.hid (t.trans (Ft (s:=s.data.toList) fa K.out (.inl ⟨x,R⟩)));have q1Z:((s[k].toNat:Int)==32)=false:=by simp[<-Yb]at x⊢;omega
      have M:((s[k].toNat:Int)==9)=false:=by simp[<-Yb]at R⊢;omega
      clear y x R t
      gi_wp2_with (first|(refine⟨trivial,?_⟩;gi_at_call 234;refine(callsIn_wide.2 (Ct _ _)).mono ?_;rintro e I ⟨rfl,c⟩;have g:=No N u c;have a:=(c.block _ A).trans r;have E:=Boxed.cell a;obtain⟨fn,tmps,assign,body,H,C⟩:=O pre ⟨⟨#[61]⟩++⟨(pair s[k]).toArray⟩,by simp[qq,an,pair]⟩ I g aa;dsimp only at H)|(refine⟨trivial,?_⟩;gi_at_call 214;refine(callsIn_wide.2 (kn _ _ K.out _)).mono ?_;rintro e S ⟨rfl,rfl⟩))
      refine C.mono ?_;rintro e Q (⟨rfl,i,j⟩|⟨rfl,o⟩)
      ·gi_wp2
       go_roundw
       case rel=>exact⟨k+1,pre++[⟨⟨#[61]⟩++⟨(pair s[k]).toArray⟩,by simp[qq,an,pair]⟩],by go_num,aa,Lib.hid (by rw[Xf,d.out,fs,Xf,Cg,Cg,B.out];exact congrArg (fun z=>List.map (Gh s.data.toList) (List.range k)++[z]) ((yn).trans rfl)),Lib.hid i,Lib.hid (Eq.trans j a)⟩
       grind [intOf]
      ·gi_wp2
       refine bodyPost_ret (results_none rfl _ _ _) rfl ?_;exact⟨⟨_,rfl⟩,.inr ⟨_,trivial,o⟩⟩
    ·have B:=Lib.hid (t.trans (yA (s:=s.data.toList) fa (.inl K.out)))
     clear t
     gi_wp2_with (first|(refine⟨trivial,?_⟩;gi_at_call 234;refine(callsIn_wide.2 (Ct _ _)).mono ?_;rintro e I ⟨rfl,c⟩;have g:=No N u c;have a:=(c.block _ A).trans r;have E:=Boxed.cell a;obtain⟨fn,tmps,assign,body,H,C⟩:=O pre ⟨s.extract k (k+1),by simp[BB];omega⟩ I g aa;dsimp only at H)|(refine⟨trivial,?_⟩;gi_at_call 214;refine(callsIn_wide.2 (kn _ _ K.out _)).mono ?_;rintro e S ⟨rfl,rfl⟩))
     refine C.mono ?_;rintro e Q (⟨rfl,i,j⟩|⟨rfl,o⟩)
     ·gi_wp2
      go_roundw
      case rel=>exact⟨k+1,pre++[⟨s.extract k (k+1),la⟩],by go_num,aa,Lib.hid (by rw[Xf,d.out,fs,Xf,Cg,Cg,B.out];exact congrArg (fun z=>List.map (Gh s.data.toList) (List.range k)++[z]) ((ext1 s k fa).trans rfl)),Lib.hid i,Lib.hid (Eq.trans j a)⟩
      case measure=>simp[intOf];omega
     ·gi_wp2
      refine bodyPost_ret (results_none rfl _ _ _) rfl ?_;exact⟨⟨_,rfl⟩,.inr ⟨_,trivial,o⟩⟩
  ·obtain rfl:k=s.size:=aa
   gi_wp2
   go_end0
   exact⟨⟨_,rfl⟩,.inl ⟨pre,d.out,u⟩⟩
end Go.Proofs.YtglaihdcndcmkaaGreatDoor
namespace ya
def Gi(st:Nat×List UInt8)(p:List UInt8):Nat×List UInt8:=
 if p=[]then(0,st.2++[13,10])else if p.length<=75 - st.1 then(st.1+p.length,st.2++p)else(p.length,st.2++[61,13,10]++p)
def yh(ps:List (List UInt8)):Nat×List UInt8:=ps.foldl Gi (0,[])
def fQ(ps)(p):yh (ps++[p])=Gi (yh ps) p:=by simp[yh]
def L3{st}{p}{n}(a:p.length<=3)(h:st.1<=75/\st.2.length<=6* n):(Gi st p).1<=75/\(Gi st p).2.length<=6* (n+1):=by
 grind [Gi]
def g5(ps:List th):∀(st)(n),(st.1<=75/\st.2.length<=6* n)->((ps.map th.bytes).foldl Gi st).1<=75/\((ps.map th.bytes).foldl Gi st).2.length<=6* (n+ps.length):=by
 induction ps with
 |nil=>simp
 |cons x l a=>
  intro st n h;have:=a (Gi st x.bytes) (n+1) (L3 x.2 h)
  grind
def J3(ps:List th):(yh (ps.map th.bytes)).1<=75/\(yh (ps.map th.bytes)).2.length<=6* ps.length:=by
 have:=g5 ps (0,[]) 0 ea
 grind [yh]
theorem K3(s):∀k,k<=s.length->eb 0 s=(yh ((List.range k).map (Gh s))).2++eb (yh ((List.range k).map (Gh s))).1 (s.drop k)/\(yh ((List.range k).map (Gh s))).1<=75:=by
 intro k
 induction k with
 |zero=>grind [yh]
 |succ k h=>
  intro i;obtain⟨c,e⟩:=h aa;rw[fs,Xf,Cg,fQ];generalize yh ((List.range k).map (Gh s))=st at c e;have fa:k<s.length:=aa
  unfold Gh;rw[qe fa];simp only;by_cases a:s[k]=10
  ·grind [Gi,WP]
  ·rw[if_neg a]
   have g:=kI s[k] (s.drop (k+1));generalize b:piece s[k] (s.drop (k+1))=p at g;unfold Gi;rw[if_neg la];by_cases d:p.length<=75 - st.1
   ·rw[if_pos d,c,XP fa a b aa];grind
   ·rw[if_neg d,c,YP fa a b aa];grind
def I3(s):(yh ((List.range s.length).map (Gh s))).2=eb 0 s:=by
 grind [K3,eb]
end ya
namespace Go.Proofs.YtglaihdcndcmkaaGreatDoor
attribute [local go_sem] Oper.semAt_some
def Bd.own{β}(B b)(f:β->List UInt8):Own (fun(s:β) W=>Bd B b (f s) W):=by
 intro s W u row h q hr;have r:∀p,Lib.BuilderAtF 101 5 B b p (Lib.byteCells (f s)) W->Lib.BuilderAtF 101 5 B b p (Lib.byteCells (f s)) u:=by
  rintro p ⟨w,v,j,a,l⟩;have t:∀g o,W.heap[g]?=some o->o.isCells=true->some g≠row:=by
   intro g o k n e;obtain⟨y,i,d⟩:=hr g e.symm;rw[k]at i;cases i;rw[n]at d;cases d
  refine⟨w,v,(q.block b (Nh.1 j).1 (t b _ j rfl)).trans j,a.kept q ?_,l⟩;rcases x:v.ownBlock with _|g
  ·simp
  ·obtain⟨c,i,d⟩:=Lib.ownsRowF_kind a g x
   exact .inr (t g _ d rfl)
 rcases h with h|h
 ·exact .inl (r _ h)
 ·exact .inr (r _ h)
def Bd.set{B b k}{l}{w}{t}{v:Value}(n:Value)(h:Bd B b l w)(c:Boxed w k t v)(d:k≠b)(ht:t≠5):Bd B b l (w.setCell ⟨k,0,none⟩ n):=by
 have j:∀p,Lib.BuilderAtF 101 5 B b p (Lib.byteCells l) w->Lib.BuilderAtF 101 5 B b p (Lib.byteCells l) (w.setCell ⟨k,0,none⟩ n):=by
  rintro p ⟨o,v,q,a,g⟩;exact⟨o,v,(Below.heap_setCell _ _ _ _ (fun e=>d e.symm)).trans q,a.kept (row:=some k) ⟨rfl,rfl,rfl,ea,fun i _ r=>Below.heap_setCell _ _ _ _ (fun e=>r (by simp[e]))⟩ (.inr (Lib.ownBlock_neF a c ht)),g⟩
 rcases h with h|h
 ·exact .inl (j _ h)
 ·exact .inr (j _ h)
def Dn{e b k:Nat}{t}{v}{w w'}(h:Lib.OthersKept e (some b) w w')(d:Boxed w k t v)(a:k≠b)(ht:t≠e):Boxed w' k t v:=
 h k _ d (fun e=>a la) (fun c g e=>by grind)
theorem Bd.isCells{B b}{l}{w}(h:Bd B b l w):∃o,w.heap[b]?=some o/\o.isCells=true:=by
 rcases h with⟨_,v,a,_⟩|⟨_,v,a,_⟩<;>exact⟨_,a,rfl⟩
def zcr(s)(w):Calls Tryz.prog 165 #[.string s] w fun e w'=>e=.returned (.func (.func 233) #[] #[.pointer (some ⟨w.heap.size,0,none⟩)])/\w'=w.alloc (.cells #[.string s] 9):=by
 go_enter Tryz.func165,Tryz.ntmps165
 go_wp2;go_ret;simp
set_option maxRecDepth 100000 in
def o3(s)(w)(hs:s.size<=1000000):Calls Tryz.prog 99 #[.string s] w (Zg (.string ⟨(eb 0 s.data.toList).toArray⟩) w):=by
 refine(callsIn_wide (n:=3)).1 ?_;refine callsIn_of_wp_marks Tryz.func99 rfl trivial ?_ rfl;simp only[Tryz.ntmps99,ou,sa,Ca,Nat.reduceAdd,Nat.reduceSub,pu,qu,ru,tu,Ma,Fa]
 gi_wp2_with (refine⟨trivial,?_⟩;gi_at_call 165;refine(callsIn_wide.2 (zcr _ _)).mono ?_;rintro e w' ⟨rfl,rfl⟩)
 have hB0:Below w.heap.size w (((w.alloc (.cells #[.pointer none,.slice none 0 0] 101)).alloc (.cells #[.int .i64 0] 3)).alloc (.cells #[.string s] 9)):=(((Below.refl _ w).alloc (Aa _) _).alloc ea _).alloc La _;have U:Bd w.heap.size w.heap.size [] (((w.alloc (.cells #[.pointer none,.slice none 0 0] 101)).alloc (.cells #[.int .i64 0] 3)).alloc (.cells #[.string s] 9)):=((Bd.fresh w).alloc _).alloc _;have hl0:Boxed (((w.alloc (.cells #[.pointer none,.slice none 0 0] 101)).alloc (.cells #[.int .i64 0] 3)).alloc (.cells #[.string s] 9)) (w.heap.size+1) 3 (.int .i64 0):=by
  have:=Boxed.new (w.alloc (.cells #[.pointer none,.slice none 0 0] 101)) 3 (.int .i64 0);rw[sn]at this;exact this.alloc _
 have X:Boxed (((w.alloc (.cells #[.pointer none,.slice none 0 0] 101)).alloc (.cells #[.int .i64 0] 3)).alloc (.cells #[.string s] 9)) (w.heap.size+1+1) 9 (.string s):=by
  have:=Boxed.new ((w.alloc (.cells #[.pointer none,.slice none 0 0] 101)).alloc (.cells #[.int .i64 0] 3)) 9 (.string s);rw[sn,sn]at this;exact this
 refine wpIn_rangeFunc_ownF rfl aa (gf:=233) (lb:=#[.pointer (some ⟨w.heap.size+1+1,0,none⟩)]) rfl trivial (enters_of Tryz.func233 ca rfl)
  (zct _ aa s hs (w.heap.size+1+1) _ X) ZG (XG ea) (Below.refl _ _) (fun _=>rfl)
  (fun pre W=>(Bd w.heap.size w.heap.size (yh (pre.map th.bytes)).2 W/\Boxed W (w.heap.size+1) 3 (.int .i64 (yh (pre.map th.bytes)).1)/\Boxed W (w.heap.size+1+1) 9 (.string s))/\Below w.heap.size w W)
  (fun _ _ _=>False)
  (OwnFrom.and (OwnFrom.and (Own.from (Bd.own _ _ _) _) (OwnFrom.and (Own.from (boxed_own _ _ _) _) (Own.from (boxed_own _ _ _) _))) (ownFrom_below (Aa _) La))
  (fun _ _ _ _ _ hs _ _=>hs)
  ⟨⟨U,hl0,X⟩,hB0⟩
  (fun x=>{tmps:=#[.string s,undef,.string ⟨#[]⟩,.pointer (some ⟨w.heap.size,0,none⟩),.pointer (some ⟨w.heap.size+1,0,none⟩),.string x.1,.string s,
    .func (.func 233) #[] #[.pointer (some ⟨w.heap.size+1+1,0,none⟩)],.string x.1,undef,undef,undef,undef,undef,undef,undef,undef,undef,undef,undef,undef,undef,undef,undef,undef],defers:=[]}) ?assign ?body ?done ?stop
 case assign=>
  intro l x W K hKZ
  gi_wp2
  exact hKZ
 case body=>
  rintro l pre x W ⟨⟨j,k,A⟩,T⟩ hlen;have I:=J3 pre;have hcZ:=k.cell;have hfZ:=k.frozen;have P:yh ((pre++[x]).map th.bytes)=Gi (yh (pre.map th.bytes)) x.bytes:=by rw[Xf,Cg,fQ]
  generalize Z:yh (pre.map th.bytes)=st at j k I hcZ P;obtain⟨line,out⟩:=st;obtain⟨hb1,C⟩:=I;dsimp only at j k hb1 C hcZ;have B:=Lib.hid k;have o:=Lib.hid A;have q:=Lib.hid P;clear k A P Z;obtain⟨p,hpZ⟩:=x;simp only[th.bytes]at q;have E:=j.isCells;have O:=Lib.hid E;clear E;have y:p.data.toList.length=p.size:=rfl;have HLZ:=Lib.hid y;clear y;dsimp only;by_cases heZ:p.data.toList=[]
  ·obtain rfl:p=⟨#[]⟩:=by cases p<;>grind
   clear heZ
   gi_wp2
   refine JJ 0 (fun _ _=>False) rfl (fun l a w h=>h.2.elim) ?_ (fun _ _ h=>h.elim)
   gi_wp2_with (first|(refine⟨trivial,?_⟩;gi_at_call 45;refine(CallsIn.inRound l (callsIn_wide.2 (Hu _ _ _ _ _ j (by show out.length+2<=_;omega)))).mono ?_;rintro e w2Z ⟨rfl,i,g,c⟩;have b:=Dn c B.out ea ha;have L:=Boxed.cell b;have M:=Boxed.frozen b;have d:=Lib.hid b;clear b))
   exact⟨(Sv g.size c O.out).trans (KeepsOthers.setCell _ _ _),(Below.heap_setCell _ _ _ _ ea).trans ((Dn c o.out aa ha).trans o.out.symm),⟨by rw[q.out];exact i.set _ d.out aa ha,by rw[q.out];exact d.out.set _,(Below.heap_setCell _ _ _ _ ea).trans (Dn c o.out aa ha)⟩,(T.trans g).setCell (p:=⟨w.heap.size+1,0,none⟩) ea _⟩
  ·have HEZ:=Lib.hid heZ;clear heZ
   have e1:p.toList=[] ↔ False:=by rw[Lib.toList_data];exact iff_of_false HEZ.out id
   have e2:p.toList.isEmpty=false:=by
    rw[Lib.toList_data];cases h:p.data.toList with
    |nil=>grind [Hid.out]
    |cons _ _=>rfl
   by_cases hfit:p.size<=75 - line
   ·have i1Z:(p.size:Int)<=75 - (line:Int):=aa
    gi_wp2
    refine JJ 0 (fun _ _=>False) rfl (fun l a w h=>h.2.elim) ?_ (fun _ _ h=>h.elim)
    gi_wp2
    refine wpIn_label ?_
    gi_wp2_with (first|(refine⟨trivial,?_⟩;gi_at_call 45;refine(CallsIn.inRound l (callsIn_wide.2 (Hu _ _ _ _ _ j aa))).mono ?_;rintro e w2Z ⟨rfl,i,g,c⟩;have b:=Dn c B.out ea ha;have L:=Boxed.cell b;have M:=Boxed.frozen b;have d:=Lib.hid b;clear b))
    have R:Gi (line,out) p.data.toList=(line+p.size,out++p.data.toList):=by
     unfold Gi;rw[if_neg HEZ.out,if_pos (by rw[HLZ.out];omega),HLZ.out]
    have F:=Dn c o.out aa ha;exact⟨(Sv g.size c O.out).trans (KeepsOthers.setCell _ _ _),(Below.heap_setCell _ _ _ _ ea).trans (F.trans o.out.symm),⟨by rw[q.out,R];exact i.set _ d.out ea ha,by rw[q.out,R];exact d.out.set _,(Below.heap_setCell _ _ _ _ ea).trans F⟩,(T.trans g).setCell (p:=⟨w.heap.size+1,0,none⟩) ea _⟩
   ·have i1Z:decide ((p.size:Int)<=75 - (line:Int))=false:=La
    have R:Gi (line,out) p.data.toList=(p.size,out++[61,13,10]++p.data.toList):=by
     unfold Gi;rw[if_neg HEZ.out,if_neg (by grind [Hid.out]),HLZ.out]
    have S:=Lib.hid R;clear R
    gi_wp2
    refine JJ 0 (fun a' Q=>a'={tmps:=#[.string s,undef,.string ⟨#[]⟩,.pointer (some ⟨w.heap.size,0,none⟩),.pointer (some ⟨w.heap.size+1,0,none⟩),.string p,.string s,
     .func (.func 233) #[] #[.pointer (some ⟨w.heap.size+1+1,0,none⟩)],.string p,.string p,.bool false,undef,.string p,.int .i64 p.size,.int .i64 line,.int .i64 (75 - line),.bool false,undef,undef,undef,undef,undef,undef,.tuple #[.int .i64 3,.nilIface],undef],defers:=[]}/\
     Bd w.heap.size w.heap.size (out++[61,13,10]) Q/\Boxed Q (w.heap.size+1) 3 (.int .i64 0)/\Boxed Q (w.heap.size+1+1) 9 (.string s)/\KeepsOthers W Q/\Below w.heap.size w Q) rfl (fun l a w h=>h.2.elim) ?_ ?_
    ·gi_wp2
     refine wpIn_label ?_
     gi_wp2_with (first|(refine⟨trivial,?_⟩;gi_at_call 45;refine(CallsIn.inRound l (callsIn_wide.2 (Hu _ _ _ _ _ j (by show out.length+3<=_;omega)))).mono ?_;rintro e w2Z ⟨rfl,i,g,c⟩;have b:=Dn c B.out ea ha;have L:=Boxed.cell b;have M:=Boxed.frozen b;have d:=Lib.hid b;clear b))
     have F:=Dn c o.out aa ha;refine wpIn_goto ?_;exact⟨rfl,rfl,i.set _ d.out ea ha,d.out.set _,(Below.heap_setCell _ _ _ _ ea).trans F,(Sv g.size c O.out).trans (KeepsOthers.setCell _ _ _),(T.trans g).setCell (p:=⟨w.heap.size+1,0,none⟩) ea _⟩
    ·rintro a' Q ⟨rfl,H,r,N,hk3,hB3⟩
     clear hcZ hfZ;have hc3:=r.cell;have hf3:=r.frozen;have HX3:=Lib.hid r;have HS3:=Lib.hid N;clear r N;have i2Z:(p.size:Int)<=75:=aa
     gi_wp2_with (first|(refine⟨trivial,?_⟩;gi_at_call 45;refine(CallsIn.inRound l (callsIn_wide.2 (Hu _ _ _ _ _ H La))).mono ?_;rintro e w4Z ⟨rfl,V,J,v⟩;have u:=Dn v HX3.out ea ha;have hcw4:=Boxed.cell u;have hfw4:=Boxed.frozen u;have G:=Lib.hid u;clear u))
     have Y:=Dn v HS3.out aa ha;exact⟨hk3.trans ((Sv J.size v H.isCells).trans (KeepsOthers.setCell _ _ _)),(Below.heap_setCell _ _ _ _ ea).trans (Y.trans o.out.symm),⟨by rw[q.out,S.out];exact V.set _ G.out ea ha,by rw[q.out,S.out];exact G.out.set _,(Below.heap_setCell _ _ _ _ ea).trans Y⟩,(hB3.trans J).setCell (p:=⟨w.heap.size+1,0,none⟩) ea _⟩
 case done=>
  rintro D ys W q r ⟨⟨j,k,A⟩,T⟩ hKZ;have g:=Lib.hid hKZ;clear hKZ;have B:=Lib.hid k;have o:=Lib.hid A;clear k A
  gi_wp2_with (first|(refine⟨trivial,?_⟩;gi_at_call 46;refine(callsIn_wide.2 (ZC _ _ _ _ j)).mono ?_;rintro e w2Z ⟨rfl,i,C,d⟩))
  have E:=j.isCells;have b:=(Sv C.size d E).same D _ g.out rfl;refine⟨ea,.inl ⟨_,_,rfl,run_takeDeferred b,?_⟩⟩;have c:(⟨(yh ((List.range s.size).map (Gh s.data.toList))).2.toArray⟩:ByteArray)=⟨(eb 0 s.data.toList).toArray⟩:=by rw[show s.size=s.data.toList.length from rfl,I3]
  exact⟨_,results_tmp (t:=2) rfl _ _ _,congrArg (fun z=>Ending.returned (.string z)) c,(T.trans C).trans (belowK_b (w:=w) (Aa _) _ D _ _ (by simp at q;omega) b rfl rfl)⟩
 simp
def vj(k:FuncId)(g:List Value->Option Value):FuncId->List Value->Option Value:=fun f vs=>if f=k then g vs else none
def xt{Γ}{k}{g}(b:k≠hb)(h:Io Tryz.prog Γ k g):Gb Tryz.prog Γ (Pk (vj k g)):=Y4 (fun f vs v a=>by
 unfold vj at a;split at a
 ·rename_i e;rw[e];exact b
 ·cases a) (fun f vs v a=>by
 have e:f=k:=by
  unfold vj at a;split at a
  ·assumption
  ·cases a
 subst e;have:vj f g f=g:=by funext vs;unfold vj;rw[if_pos rfl]
 rw[this];exact h)
def cI{k}{g}{args}{vs}{v}(a:Ap args=some vs)(b:g vs=some v):Pk (vj k g) k args [] []=some ([.flat v],false,[],[]):=by
 unfold Pk vj;dsimp only;rw[a,Ja,if_pos rfl,b];rfl
def JB(w:World):Prop:=(∃m,w.cell? ⟨0,0,none⟩=some (.int .i64 m))/\xm w
def Lj:ue where
 D g:=g=0\/g=3
 G:=JB
 lt w h g hg:=by
  rcases hg with rfl|rfl
  ·obtain⟨m,a⟩:=h.1;exact eu w _ a
  ·exact h.2.lt
 Gf w w' h hk:=by
  obtain⟨⟨m,a⟩,ht⟩:=h;refine⟨⟨m,?_⟩,fun i b=>?_⟩
  ·unfold World.cell? at a⊢;rw[hk _ (.inl rfl)];exact a
  ·have:=ht i b;unfold World.cell? at this⊢;rw[hk _ (.inr rfl)];exact this
def QA:List Value->Option Value
 |[.string s,.int .u8 c]=>if s.size<=1000000000 then some (.int .i64 (Lib.lastIndexByte s c))else none
 |_=>none
def OA:List Value->Option Value
 |[.string s,.string p]=>if s.size<=1000000000 then some (.bool (Lib.contains s.data.toList p.data.toList))else none
 |_=>none
def Ej(e:ba->ba):List Value->Option Value
 |[.string s]=>if s.size<=1000000 then some (.string (S (e s.data.toList)))else none
 |_=>none
def lV{w}:Below w.heap.size w w:=Below.refl _ _
def l4:Io Tryz.prog Lj 157 QA:=⟨ca,fun vs v h=>by
 unfold QA at h;split at h
 ·split at h
  ·rename_i hs
   cases h;exact⟨rfl,fun w _=>(Tryz.strings_LastIndexByte _ _ aa w).mono (by rintro e w' ⟨rfl,rfl⟩;exact⟨rfl,lV⟩)⟩
  ·cases h
 ·cases h⟩
def k4:Io Tryz.prog Lj 158 OA:=⟨ca,fun vs v h=>by
 unfold OA at h;split at h
 ·split at h
  ·rename_i hs
   cases h;refine⟨rfl,fun w a=>?_⟩;obtain⟨⟨m,b⟩,_⟩:=a;exact(Tryz.strings_Contains _ _ m w aa b).mono (by rintro e w' ⟨rfl,rfl⟩;exact⟨rfl,lV⟩)
  ·cases h
 ·cases h⟩
def j4:Io Tryz.prog Lj 232 (Ej Ra):=⟨ca,fun vs v h=>by
 unfold Ej at h;split at h
 ·split at h
  ·rename_i hs
   cases h;exact⟨rfl,fun w a=>(q3 _ w a.2 hs).mono (by rintro e w' ⟨rfl,b⟩;exact⟨rfl,b⟩)⟩
  ·cases h
 ·cases h⟩
def m4:Io Tryz.prog Lj 99 (Ej (eb 0)):=⟨ca,fun vs v h=>by
 unfold Ej at h;split at h
 ·split at h
  ·rename_i hs
   cases h;exact⟨rfl,fun w b=>(o3 _ w hs).mono (by rintro e w' ⟨rfl,a⟩;exact⟨rfl,a⟩)⟩
  ·cases h
 ·cases h⟩
theorem cE(n):∀l,l.length<=n->(Ra l).length=(l.length+2)/3* 4:=by
 induction n with
 |zero=>intro l h
        have:l=[]:=qz aa;subst this;simp[Ra]
 |succ n d=>
  intro l h
  match l,h with
  |[],_=>simp[Ra]
  |[a],_=>simp[Ra,qI]
  |[a,b],_=>simp[Ra,qI]
  |a::b::c::l,h=>rw[Ra,Da,qI,d l (by simp at h;omega)];simp;omega
theorem Ts:∀(s)(line),(eb line s).length<=6* s.length
 |[],_=>by simp[eb]
 |c::t,line=>by
  have a:=(kI c t).2;unfold eb;split
  ·have:=Ts t 0;simp only[sa];omega
  ·split
   ·have:=Ts t (piece c t).length
    simp only[Da,sa,Ca];omega
   ·have:=Ts t (line+(piece c t).length)
    simp only[Da,sa];omega
theorem YJ{s}:(S s).data.toList=s:=by simp[S]
end Go.Proofs.YtglaihdcndcmkaaGreatDoor
namespace ya
def okW(x:ba):Prop:=x.length<=75/\x.all yg=true
def Dy(c:UInt8)(s:ba):∃p ps,db c s=p::ps:=by
 cases s with
 |nil=>exact⟨_,_,rfl⟩
 |cons x l=>
  unfold db;split
  ·exact⟨_,_,rfl⟩
  ·split<;>exact⟨_,_,rfl⟩
theorem cR(s:ba):∀(l:ba)(k long n:Nat),long<=60->Jg s k long l=some n->∃p ps,db 32 l=p::ps/\long+p.length<=60/\p.all yg=true/\∀w∈ps,w.length<=60/\w.all yg=true
 |[],k,long,n,d,h=>⟨[],[],rfl,by simpa using d,rfl,ea⟩
 |c::t,k,long,n,d,h=>by
  rw[Jg]at h;split at h
  ·cases h
  ·rename_i hs
   simp only[mq,decide_eq_true_eq,not_or,mn,cc]at hs;obtain⟨⟨q,r,u,v⟩,x⟩:=hs;obtain⟨p,ps,e,g,i,j⟩:=cR s t (k+1) (Eh c long) n aa h;have o:yg c=true:=by unfold yg;rw[decide_eq_true (by omega:32<=c.toNat),decide_eq_true (by omega:c.toNat<=126)];rfl
   unfold Eh at g;by_cases b:c.toNat=32
   ·have a:c=32:=Yb.1 b
    rw[if_pos b]at g;refine⟨[],p::ps,by rw[db,if_pos a,e],by simpa using d,rfl,fun w hw=>?_⟩;rcases wb.1 hw with rfl|hw
    ·exact⟨aa,i⟩
    ·exact j w hw
   ·have a:c≠32:=fun e=>b (by rw[e];rfl)
    rw[if_neg b]at g;refine⟨c::p,ps,by rw[db,if_neg a,e],by simp only[sa];omega,by rw[Ck,o,i];rfl,j⟩
def Ky(n:Nat)(h:n<64):yg (mc n)=true:=by
 have:∀n:Fin 64,yg (mc n.1)=true:=Hb
 exact this ⟨n,h⟩
def rI(l:List UInt8):(ae l).all yg=true:=by
 have a:=Ky (num l 3/262144 % 64) (Nat.mod_lt _ ha);have b:=Ky (num l 3/4096 % 64) (Nat.mod_lt _ ha);have c:=Ky (num l 3/64 % 64) (Nat.mod_lt _ ha);have d:=Ky (num l 3 % 64) (Nat.mod_lt _ ha);have e:yg 61=true:=ha
 unfold ae;simp only[Ck,List.all_nil,a,b,pd,vk];split<;>split<;>simp[c,d,e]
theorem UP:∀l:List UInt8,(Ra l).all yg=true
 |[]=>rfl
 |[a]=>rI _
 |[a,b]=>rI _
 |a::b::c::l=>by rw[Ra,ux,rI,UP l];rfl
def cP{g:ba}(h:g.length<=45):okW (Gc Ra g):=by
 have a:=cE _ g (Aa _);refine⟨by simp only[Gc,Md,Da,sa,Ca,a];omega,?_⟩;simp only[Gc,ux,UP,vk];decide
def gL(n:Nat):(Ka n).length<=4:=by
 unfold Ka xe;rw[qn]
 repeat' split
 all_goals simp
theorem ez:∀(l:List Nat)(b:ba),b.length<=45->∀x∈Kg Ra b l,okW x
 |[],b,h,x,a=>by simp[Kg]at a;subst a;exact cP h
 |r::l,b,h,x,a=>by
  have c:=gL r;rw[Kg]at a;split at a
  ·rcases wb.1 a with rfl|a
   ·exact cP h
   ·exact ez l _ aa x a
  ·exact ez l _ (by rw[Da];omega) x a
def vx(s:ba):∀x∈Ed Ra s,okW x:=by
 intro x a;unfold Ed at a;split at a
 ·simp at a
 ·split at a
  ·rename_i c b
   unfold Ni at b;rw[decide_eq_false c,Wg]at b;cases d:Jg s 0 0 s with
   |none=>rw[d]at b;simp at b
   |some n=>
    obtain⟨p,ps,e,i,h,g⟩:=cR s s 0 0 n aa d;rw[e]at a;rcases wb.1 a with rfl|a
    ·exact⟨aa,h⟩
    ·exact⟨by have:=(g x a).1;omega,(g x a).2⟩
  ·exact ez _ _ ea x a
def Te(l:List ba):Nat:=(l.map fun x=>x.length+3).sum
theorem KQ:∀(a:List ba)(q:ba×Nat),(a.foldl Rg q).1.length<=q.1.length+Te a
 |[],q=>by simp[Te]
 |x::a,q=>by
  rw[Pf];have h:=KQ a (Rg q x);have b:(Rg q x).1.length<=q.1.length+(x.length+3):=by
   unfold Rg qk;dsimp only;split<;>simp only[Da,sa,Ca]<;>omega
  have e:Te (x::a)=x.length+3+Te a:=by simp[Te]
  omega
theorem mP(c:UInt8):∀s:ba,Te (db c s)<=4* s.length+3
 |[]=>by simp[db,Te]
 |x::l=>by
  have a:=mP c l;obtain⟨p,ps,e⟩:=Dy c l;rw[e]at a;have e2:Te (p::ps)=p.length+3+Te ps:=by simp[Te]
  unfold db;split
  ·have e3:Te ([]::db c l)=3+Te (p::ps):=by rw[e];simp[Te]
   rw[e3];simp only[sa];omega
  ·rw[e]
   have e3:Te ((x::p)::ps)=p.length+1+3+Te ps:=by simp[Te]
   dsimp only;rw[e3];simp only[sa];omega
theorem IE:∀(l:List Nat)(a:ba),42* (Kg Ra a l).length<=42+a.length+4* l.length
 |[],a=>by simp[Kg]
 |r::l,a=>by
  have b:=gL r;rw[Kg];split
  ·have:=IE l (Ka r)
   simp only[sa];omega
  ·have:=IE l (a++Ka r)
   rw[Da]at this;simp only[sa];omega
theorem dW{n:Nat}:∀l:List ba,(∀x∈l,x.length<=n)->Te l<=(n+3)* l.length
 |[],_=>by simp[Te]
 |x::l,h=>by
  have b:=dW l fun y a=>h y (by simp[a])
  have c:=h x ea;have e2:Te (x::l)=x.length+3+Te l:=by simp[Te]
  rw[e2,sa,Nat.mul_add];omega
def XW(s:ba)(hs:s.length<=250):Te (Ed Ra s)<=1950:=by
 unfold Ed;split
 ·simp[Te]
 ·split
  ·have:=mP 32 s;omega
  ·have a:=IE (Kd s) []
   have c:(Kd s).length<=s.length:=by unfold Kd;rw[qn];exact KI _ s (Aa _)
   have d:=dW (n:=75) (Kg Ra [] (Kd s)) fun x b=>(ez _ _ ea x b).1
   simp only[Ca]at a;omega
def bH(f s:ba)(hs:s.length<=250)(c:f.length<=32):(bf Ra f s).length<=1985:=by
 have a:=KQ (Ed Ra s) (f++[58],f.length+1);have b:=XW s hs;unfold bf;simp only[Da,sa,Ca]at a⊢;omega
variable {lib:Callee}
def fH(A B:List ba)(st:List lf×Bool):Wd (A++B) st=(Wd A st).bind (Wd B):=by
 unfold Wd;rw[List.foldlM_append];rfl
def ot:ba:=[77,73,77,69,45,86,101,114,115,105,111,110]
def Sk(m:tc):List ba:=ur Ra Ff m.fr++(ur Ra kg m.to++(ur Ra Sg m.su++[Np,Qp]))
def Re(kind s:ba):ba:=Wa [jj++kind++ij,kj]++13::10::eb 0 s
def gj(m:tc):ba:=zt bh++(Re Nc m.te++(Cs bh++(Re Vc m.ht++Us bh)))
def jy(m:tc):Eg Ra (eb 0) m=Wa (Sk m)++13::10::gj m:=by
 unfold Eg Sk gj Re;rw[Oz,Oz,Oz,xr,xr,xr];simp[Zh,Wa,crlf,zt,Cs,Us,Yv,bh,Ln,Ac]
def xf(v:ba):ba:=be (Ed Ra v)
def Sc(v:ba):ba:=trimB (xf v)
def R5(m:tc):(∀x∈Sk m,Vp x/\x≠[])/\Wd (Sk m) ([],false)=some ([(Ff,xf m.fr),(kg,xf m.to),(Sg,xf m.su),(ot,[32,49,46,48]),(jp,32::ao)],false):=by
 obtain⟨b,c⟩:=aH (enc:=Ra) (v:=m.fr) (f:=Ff) [] ha ha fun x a=>vx m.fr x a
 obtain⟨b1,d⟩:=aH (enc:=Ra) (v:=m.to) (f:=kg) [(Ff,xf m.fr)] ha ha fun x a=>vx m.to x a
 obtain⟨c1,c2⟩:=aH (enc:=Ra) (v:=m.su) (f:=Sg) [(Ff,xf m.fr),(kg,xf m.to)] ha ha fun x a=>vx m.su x a
 refine⟨fun x a=>?_,?_⟩
 ·unfold Sk at a
  rcases We.1 a with a|a
  ·exact b x a
  rcases We.1 a with a|a
  ·exact b1 x a
  rcases We.1 a with a|a
  ·exact c1 x a
  rcases wb.1 a with rfl|a
  ·exact⟨⟨ha,ha⟩,ha⟩
  ·rw[Ao.1 a];exact⟨⟨ha,ha⟩,ha⟩
 ·unfold Sk
  rw[fH,c,Ja,fH];show(Wd _ ([(Ff,xf m.fr)],false)).bind _=_;rw[d,Ja,fH];show(Wd _ ([(Ff,xf m.fr),(kg,xf m.to)],false)).bind _=_;rw[c2,Ja];have e:=pE (f:=ot) (r:=[32,49,46,48]) (F:=[(Ff,xf m.fr),(kg,xf m.to),(Sg,xf m.su)]) ha ⟨ha,ha⟩;have g:=pE (f:=jp) (r:=32::ao) (F:=[(Ff,xf m.fr),(kg,xf m.to),(Sg,xf m.su),(ot,[32,49,46,48])]) ha ⟨ha,ha⟩;rw[Wd,nu];show(Ae ([(Ff,xf m.fr),(kg,xf m.to),(Sg,xf m.su)],false) (ot++58::[32,49,46,48])).bind _=_;rw[e];show(List.foldlM Ae ([(Ff,xf m.fr),(kg,xf m.to),(Sg,xf m.su),(ot,[32,49,46,48])],false) [jp++58::(32::ao)])=_;rw[nu,g];rfl
def zaJ{x:ba}(h:Vp x):∀c∈x,c≠13:=fun c a=>zdW c (Ag.1 h.2 c a)
def ze4(m:tc):Pg (Eg Ra (eb 0) m)=.ok (Zm (Sc m.fr) (Sc m.to) (Sc m.su)) ((Wa (Sk m)).length+2):=by
 obtain⟨a,c⟩:=R5 m;rw[jy,WI (Sk m) (gj m) _ (fun x b=>⟨(a x b).2,zaJ (a x b).1⟩) c];have e1:trimB [32,49,46,48]=[49,46,48]:=Hb
 have e2:trimB (32::ao)=ao:=Hb
 simp only[Xb,Fe,e1,e2,Zm,ot,Sc]
def ze5(s:ba):Pg (Re Nc s)=.ok (ri Nc) ((Wa [jj++Nc++ij,kj]).length+2):=
 WI [jj++Nc++ij,kj] (eb 0 s) [(jp,32::ax Nc),(ND,32::nl)] Hb Hb
def ze3(s:ba):Pg (Re Vc s)=.ok (ri Vc) ((Wa [jj++Vc++ij,kj]).length+2):=
 WI [jj++Vc++ij,kj] (eb 0 s) [(jp,32::ax Vc),(ND,32::nl)] Hb Hb
def bE(a:ba)(r:ba):(a++13::10::r).drop (a.length+2)=r:=by
 rw[List.drop_append];simp
def rT{kind s:ba}(a:kind=Nc\/kind=Vc):oe (Re kind s)=true:=by
 unfold Re;have h:(Wa [jj++kind++ij,kj]++[13,10])++eb 0 s=Wa [jj++kind++ij,kj]++13::10::eb 0 s:=ea
 rw[<-h];refine pT _ _ ?_ (fA s 0) (.inl ?_)
 ·rcases a with rfl|rfl<;>decide+kernel
 ·rcases a with rfl|rfl<;>decide+kernel
def hI{kind s:ba}(a:kind=Nc\/kind=Vc)(hs:s.length<=250):(Re kind s).length<=1600:=by
 have:=Ts s 0;have h:(Wa [jj++kind++ij,kj]).length<=90:=by rcases a with rfl|rfl<;>decide+kernel
 unfold Re;simp only[Da,sa];omega
def aL(m:tc)(l:m.Sn):(Eg Ra (eb 0) m).length<=10000:=by
 obtain⟨g,h,i,j,k⟩:=l;have a:=bH Ff m.fr g ha;have b:=bH kg m.to h ha;have c:=bH Sg m.su i ha;have d:=hI (kind:=Nc) (.inl rfl) j;have e:=hI (kind:=Vc) (.inr rfl) k;rw[jy];rw[Oz]at a b c;have q:(Wa [Np,Qp]).length<=100:=Hb
 have n:(zt bh).length=12:=ha
 have o:(Cs bh).length=14:=ha
 have p:(Us bh).length=16:=ha
 unfold Sk gj;simp only[xr,Da,sa,n,o,p]at*;omega
theorem sP:∀(w:ba)(t:ba),(32:UInt8)∉w->db 32 (w++32::t)=w::db 32 t
 |[],t,_=>by rw[Ma,db,if_pos rfl]
 |c::w,t,h=>by
  simp only[wb,not_or]at h;rw[Fa,db,if_neg (fun e=>h.1 e.symm),sP w t h.2]
theorem rP:∀(w:ba),(32:UInt8)∉w->db 32 w=[w]
 |[],_=>rfl
 |c::w,h=>by
  simp only[wb,not_or]at h;rw[db,if_neg (fun e=>h.1 e.symm),rP w h.2]
theorem SD:∀(a:List ba)(w:ba),(∀x∈w::a,(32:UInt8)∉x)->db 32 (w++be a)=w::a
 |[],w,h=>by
  have:be []=[]:=rfl;rw[this,ph];exact rP w (h w ea)
 |x::a,w,h=>by
  rw[Ot,sP w _ (h w ea),SD a x fun y b=>h y (by simp at b⊢;exact Or.inr b)]
def h3{w t:ba}(b:w≠[])(a:∀c∈w,vc c=false):(32::(w++t)).dropWhile vc=w++t:=by
 cases w with
 |nil=>exact absurd rfl b
 |cons c w=>
  have:=a c ea;rw[DB,if_pos ha,Fa,DB,if_neg (by rw[this];decide)]
def zha{s w:ba}(e:w≠[])(b:∀c∈w,vc c=false):tk (s++w)=s++w:=by
 unfold tk;rw[List.reverse_append];have hr:w.reverse≠[]:=by simpa using e
 cases a:w.reverse with
 |nil=>exact absurd a hr
 |cons c r=>
  have d:c∈w:=by rw[<-List.mem_reverse,a];simp
  rw[Fa,DB,if_neg (by rw[b c d];decide),<-Fa,<-a,<-List.reverse_append,List.reverse_reverse]
theorem wW:∀(a:List ba)(w s:ba),(∀x∈w::a,x≠[]/\∀c∈x,vc c=false)->tk (s++(w++be a))=s++(w++be a)
 |[],w,s,h=>by
  have:be []=[]:=rfl;rw[this,ph];exact zha (h w ea).1 (h w ea).2
 |x::a,w,s,h=>by
  rw[Ot];have e:s++(w++32::(x++be a))=(s++w++[32])++(x++be a):=ea
  rw[e];exact wW a x _ fun y b=>h y (by simp at b⊢;exact Or.inr b)
def yW(w:ba)(a:List ba)(h:∀x∈w::a,x≠[]/\∀c∈x,vc c=false):trimB (be (w::a))=w++be a:=by
 unfold trimB;rw[Ot,h3 (h w ea).1 (h w ea).2];have:=wW a w [] h;simpa using this
def xT{w:ba}(h:∀c∈w,vc c=false):(32:UInt8)∉w:=fun a=>by have:=h 32 a;simp[vc]at this
theorem RU(dec:ba->ba×Bool):∀(a:List ba)(s:ba),(∀x∈a,x≠[]/\dec x=(x,false))->(a.foldl (ig dec) (s,true,false)).1=s++be a
 |[],s,_=>by simp[be]
 |w::a,s,h=>by
  have b:=h w ea;rw[Pf,Ot];have:ig dec (s,true,false) w=(s++32::w,true,false):=by
   unfold ig;rw[if_neg b.1,b.2];simp
  rw[this,RU dec a _ fun x c=>h x (by simp[c])];simp
theorem QU(dec:ba->ba×Bool):∀(a:List (ba×ba))(s:ba),(∀x∈a,x.1≠[]/\dec x.1=(x.2,true))->((a.map (·.1)).foldl (ig dec) (s,true,true)).1=s++a.flatMap (·.2)
 |[],s,_=>by simp
 |w::d,s,h=>by
  have b:=h w ea;rw[Xb,Pf];have:ig dec (s,true,true) w.1=(s++w.2,true,true):=by
   unfold ig;rw[if_neg b.1,b.2];simp
  rw[this,QU dec d _ fun x c=>h x (by simp[c])];simp
def zc6(dec:ba->ba×Bool)(w:ba)(b:List ba)(h:∀x∈w::b,x≠[]/\(∀c∈x,vc c=false)/\dec x=(x,false)):Aj dec (32::trimB (be (w::b)))=w++be b:=by
 unfold Aj;rw[yW w b fun x a=>⟨(h x a).1,(h x a).2.1⟩,db,if_pos rfl,SD b w fun x a=>xT (h x a).2.1,Pf,Pf];have d:=h w ea;have:ig dec (ig dec ([],false,false) []) w=(w,true,false):=by
  unfold ig;rw[if_pos rfl,if_neg d.1,d.2.2];simp
 rw[this,RU dec b _ fun x a=>⟨(h x (by simp[a])).1,(h x (by simp[a])).2.2⟩]
def zc4(dec:ba->ba×Bool)(g:ba×ba)(a:List (ba×ba))(h:∀x∈g::a,x.1≠[]/\(∀c∈x.1,vc c=false)/\dec x.1=(x.2,true)):Aj dec (32::trimB (be ((g::a).map (·.1))))=g.2++a.flatMap (·.2):=by
 unfold Aj;have d:∀x∈g.1::a.map (·.1),x≠[]/\∀c∈x,vc c=false:=fun x b=>by
  rw[<-Xb]at b;obtain⟨y,i,rfl⟩:=zi.1 b;exact⟨(h y i).1,(h y i).2.1⟩
 rw[Xb,yW g.1 (a.map (·.1)) d,db,if_pos rfl,SD (a.map (·.1)) g.1 fun x b=>xT (d x b).2,Pf,Pf];have e:=h g ea;have:ig dec (ig dec ([],false,false) []) g.1=(g.2,true,true):=by
  unfold ig;rw[if_pos rfl,if_neg e.1,e.2.2];simp
 rw[this,QU dec a _ fun x b=>⟨(h x (by simp[b])).1,(h x (by simp[b])).2.2⟩]
def zc5(dec:ba->ba×Bool):Aj dec (32::trimB (be []))=[]:=by simp[Aj,be,trimB,tk,db,ig]
end ya
