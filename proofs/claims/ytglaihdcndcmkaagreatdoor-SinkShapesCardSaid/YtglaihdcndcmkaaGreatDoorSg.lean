/- Texts of this proof, merged. -/
import Derived.Test.YtglaihdcndcmkaaGreatDoorSf
import Derived.Shelf.Strings.Builder1
import Derived.Shelf.Strings.Builder2
import Derived.Shelf.Strings.Trim
import Derived.Shelf.Small.Utf8
import Derived.Shelf.Small.Strs
import Derived.Shelf.Small.Wraps
import Derived.Shelf.Strings.BuilderF
import Derived.Shelf.Strings.BuilderK
import Derived.Shelf.Utf8.RuneCount
import Derived.Shelf.Strings.Builder2Cap
import Derived.Shelf.Strings.Search1
import Derived.Shelf.Strings.Search2
import Derived.Shelf.Strings.Search3
import Derived.Shelf.Strings.Cut
import Derived.Shelf.Strings.Count
import Derived.Shelf.LaysM
import Derived.Shelf.Strings.Shaped
import Derived.Shelf.Strings.LastIndex
import Derived.Shelf.Strings.Prefix
import Derived.Shelf.Strings.Split
import Derived.Shelf.Strings.Replace
import Derived.Shelf.Strings.SplitShaped
import Derived.Shelf.Unicode.Decode
import Derived.Shelf.Strings.Runes
import Derived.Shelf.Strings.RuneCount
import Derived.Shelf.Strings.AsciiSet
import Derived.Shelf.Unicode.DecodeSlow
import Derived.Shelf.Unicode.DecodeAny
import Derived.Shelf.Unicode.DecodeLast
import Derived.Shelf.Strings.BuilderCap
import Derived.Shelf.Slices.Turned
import Derived.Ground.PaProg
import Derived.Shelf.Path.Small
import Derived.Test.YtglaihdcndcmkaaGreatDoorProg
import Derived.WalkKit
import Derived.WalkSpells
import Derived.WalkLawsBesides
import Derived.Lib.Hide
import Derived.BigQuiet
import Derived.Lib.QuietBelow
import Derived.ShutString
import Derived.Deep.Light
import Derived.Lib.UnsafeStr
import Derived.Test.YtglaihdcndcmkaaGreatDoorRows
import Derived.Lib.FrozenHead2
import Derived.Lib.OthersKept
import Derived.Lib.Builder
import Derived.Laws.Externs
import Derived.Lib.Strings
import Derived.Lib.IndexBytes
import Derived.Lib.IndexMore
import Derived.Lib.SlTrimSet
import Derived.Shelf.Strings.SlTrimAscii
import Derived.Laws.OwnMore
import Derived.Laws.IdiomStrings
import Derived.RangeFuncNested
import Derived.RangeFuncBound
import Derived.RangeFuncCalls
import Derived.RangeFuncLeaves
import Derived.RangeFuncBox
import Derived.Shelf.Abstract
import Derived.Shelf.RegionOpen
import Derived.OwnWalkIn
import Derived.TacticsInMore
import Derived.LoopNIn
import Derived.LoopIn
import Derived.ScopeJumps
import Derived.StillTail
import Derived.OwnWalk
set_option linter.all false
open Go ya Go.Proofs Go.RowKit Go.Proofs.YtglaihdcndcmkaaGreatDoor
set_option maxHeartbeats 4000000
namespace Go.Proofs
open Go.Shelf
def Tryz.tR:Go.Shelf.Ren:=⟨fun|169=>46|n=>n,fun|70=>98|9=>9|0=>0|72=>101|37=>99|127=>170|3=>3|5=>5|n=>n,fun|n=>n⟩
def Tryz.L8:Go.Proofs.Lays.n169 Tryz.prog Tryz.tR:={
 mixed:=ca
 f169:=Tryz.func46.trans (congrArg some ca)
 t0:=Tryz.underlying0
 a0:=Tryz.isAgg0
 z0:=Tryz.sizeOf0
 v0:=Tryz.zeroValue0
 t3:=Tryz.underlying3
 a3:=Tryz.isAgg3
 z3:=Tryz.sizeOf3
 v3:=Tryz.zeroValue3
 t9:=Tryz.underlying9
 a9:=Tryz.isAgg9
 z9:=Tryz.sizeOf9
 v9:=Tryz.zeroValue9
 t37:=Tryz.underlying99
 a37:=Tryz.isAgg99
 z37:=Tryz.sizeOf99
 v37:=Tryz.zeroValue99
 t70:=Tryz.underlying98
 a70:=Tryz.isAgg98
 z70:=Tryz.sizeOf98
 v70:=Tryz.zeroValue98
 t72:=Tryz.underlying101
 a72:=Tryz.isAgg101
 z72:=Tryz.sizeOf101
 v72:=Tryz.zeroValue101
 t127:=Tryz.underlying170
 a127:=Tryz.isAgg170
 z127:=Tryz.sizeOf170
 v127:=Tryz.zeroValue170}
def Tryz.eW:Builder.Extra Tryz.prog Tryz.tR:={
 sizeBuilder:=ca
 liesBuilder:=ca
 t5:=Tryz.underlying5
 a5:=Tryz.isAgg5
 z5:=Tryz.sizeOf5
 v5:=Tryz.zeroValue5
 infoByte:=ca
 cellsByte:=ca
 sizeByte:=ca
 neB5:=by decide}
def Tryz.K8:Go.Shelf.Ren:=⟨fun|161=>269|231=>262|227=>264|233=>265|235=>267|228=>288|197=>152|151=>289|260=>222|152=>293|137=>96|119=>295|224=>217|225=>216|217=>161|266=>228|n=>n,fun|9=>9|4=>4|3=>3|5=>5|117=>309|116=>308|0=>0|124=>312|105=>224|21=>21|119=>318|46=>269|139=>321|138=>320|n=>n,fun|3=>1|4=>2|n=>n⟩
def Tryz.J8:Go.Proofs.Lays.n161 Tryz.prog Tryz.K8:={
 mixed:=ca
 f119:=Tryz.func295.trans (congrArg some ca)
 f137:=Tryz.func96.trans (congrArg some ca)
 f151:=Tryz.func289.trans (congrArg some ca)
 f152:=Tryz.func293.trans (congrArg some ca)
 f161:=Tryz.func269.trans (congrArg some ca)
 f197:=Tryz.func152.trans (congrArg some ca)
 f217:=Tryz.func161.trans (congrArg some ca)
 f224:=Tryz.func217.trans (congrArg some ca)
 f225:=Tryz.func216.trans (congrArg some ca)
 f227:=Tryz.func264.trans (congrArg some ca)
 f228:=Tryz.func288.trans (congrArg some ca)
 f231:=Tryz.func262.trans (congrArg some ca)
 f233:=Tryz.func265.trans (congrArg some ca)
 f235:=Tryz.func267.trans (congrArg some ca)
 f260:=Tryz.func222.trans (congrArg some ca)
 f266:=Tryz.func228.trans (congrArg some ca)
 t0:=Tryz.underlying0
 a0:=Tryz.isAgg0
 z0:=Tryz.sizeOf0
 v0:=Tryz.zeroValue0
 t3:=Tryz.underlying3
 a3:=Tryz.isAgg3
 z3:=Tryz.sizeOf3
 v3:=Tryz.zeroValue3
 t4:=Tryz.underlying4
 a4:=Tryz.isAgg4
 z4:=Tryz.sizeOf4
 v4:=Tryz.zeroValue4
 t5:=Tryz.underlying5
 a5:=Tryz.isAgg5
 z5:=Tryz.sizeOf5
 v5:=Tryz.zeroValue5
 t9:=Tryz.underlying9
 a9:=Tryz.isAgg9
 z9:=Tryz.sizeOf9
 v9:=Tryz.zeroValue9
 t21:=Tryz.underlying21
 a21:=Tryz.isAgg21
 z21:=Tryz.sizeOf21
 v21:=Tryz.zeroValue21
 t46:=Tryz.underlying269
 a46:=Tryz.isAgg269
 z46:=Tryz.sizeOf269
 v46:=Tryz.zeroValue269
 t105:=Tryz.underlying224
 a105:=Tryz.isAgg224
 z105:=Tryz.sizeOf224
 v105:=Tryz.zeroValue224
 t116:=Tryz.underlying308
 a116:=Tryz.isAgg308
 z116:=Tryz.sizeOf308
 t117:=Tryz.underlying309
 a117:=Tryz.isAgg309
 z117:=Tryz.sizeOf309
 v117:=Tryz.zeroValue309
 t119:=Tryz.underlying318
 a119:=Tryz.isAgg318
 z119:=Tryz.sizeOf318
 t124:=Tryz.underlying312
 a124:=Tryz.isAgg312
 z124:=Tryz.sizeOf312
 v124:=Tryz.zeroValue312
 t138:=Tryz.underlying320
 a138:=Tryz.isAgg320
 z138:=Tryz.sizeOf320
 v138:=Tryz.zeroValue320
 t139:=Tryz.underlying321
 a139:=Tryz.isAgg321
 z139:=Tryz.sizeOf321
 v139:=Tryz.zeroValue321
 g3:=ca
 g4:=by kernel_rfl}
def Tryz.I8:Go.Shelf.Ren:=⟨fun|160=>206|232=>263|231=>262|227=>264|234=>266|233=>265|236=>268|235=>267|228=>288|271=>290|151=>289|197=>152|120=>294|152=>293|260=>222|137=>96|119=>295|224=>217|225=>216|217=>161|266=>228|n=>n,fun|9=>9|4=>4|3=>3|5=>5|117=>309|116=>308|0=>0|124=>312|21=>21|105=>224|46=>269|119=>318|139=>321|138=>320|n=>n,fun|3=>1|4=>2|n=>n⟩
def Tryz.H8:Go.Proofs.Lays.n160 Tryz.prog Tryz.I8:={
 mixed:=ca
 f119:=Tryz.func295.trans (congrArg some ca)
 f120:=Tryz.func294.trans (congrArg some ca)
 f137:=Tryz.func96.trans (congrArg some ca)
 f151:=Tryz.func289.trans (congrArg some ca)
 f152:=Tryz.func293.trans (congrArg some ca)
 f160:=Tryz.func206.trans (congrArg some ca)
 f197:=Tryz.func152.trans (congrArg some ca)
 f217:=Tryz.func161.trans (congrArg some ca)
 f224:=Tryz.func217.trans (congrArg some ca)
 f225:=Tryz.func216.trans (congrArg some ca)
 f227:=Tryz.func264.trans (congrArg some ca)
 f228:=Tryz.func288.trans (congrArg some ca)
 f231:=Tryz.func262.trans (congrArg some ca)
 f232:=Tryz.func263.trans (congrArg some ca)
 f233:=Tryz.func265.trans (congrArg some ca)
 f234:=Tryz.func266.trans (congrArg some ca)
 f235:=Tryz.func267.trans (congrArg some ca)
 f236:=Tryz.func268.trans (congrArg some ca)
 f260:=Tryz.func222.trans (congrArg some ca)
 f266:=Tryz.func228.trans (congrArg some ca)
 f271:=Tryz.func290.trans (congrArg some ca)
 t0:=Tryz.underlying0
 a0:=Tryz.isAgg0
 z0:=Tryz.sizeOf0
 v0:=Tryz.zeroValue0
 t3:=Tryz.underlying3
 a3:=Tryz.isAgg3
 z3:=Tryz.sizeOf3
 v3:=Tryz.zeroValue3
 t4:=Tryz.underlying4
 a4:=Tryz.isAgg4
 z4:=Tryz.sizeOf4
 v4:=Tryz.zeroValue4
 t5:=Tryz.underlying5
 a5:=Tryz.isAgg5
 z5:=Tryz.sizeOf5
 v5:=Tryz.zeroValue5
 t9:=Tryz.underlying9
 a9:=Tryz.isAgg9
 z9:=Tryz.sizeOf9
 v9:=Tryz.zeroValue9
 t21:=Tryz.underlying21
 a21:=Tryz.isAgg21
 z21:=Tryz.sizeOf21
 v21:=Tryz.zeroValue21
 t46:=Tryz.underlying269
 a46:=Tryz.isAgg269
 z46:=Tryz.sizeOf269
 v46:=Tryz.zeroValue269
 t105:=Tryz.underlying224
 a105:=Tryz.isAgg224
 z105:=Tryz.sizeOf224
 v105:=Tryz.zeroValue224
 t116:=Tryz.underlying308
 a116:=Tryz.isAgg308
 z116:=Tryz.sizeOf308
 t117:=Tryz.underlying309
 a117:=Tryz.isAgg309
 z117:=Tryz.sizeOf309
 v117:=Tryz.zeroValue309
 t119:=Tryz.underlying318
 a119:=Tryz.isAgg318
 z119:=Tryz.sizeOf318
 t124:=Tryz.underlying312
 a124:=Tryz.isAgg312
 z124:=Tryz.sizeOf312
 v124:=Tryz.zeroValue312
 t138:=Tryz.underlying320
 a138:=Tryz.isAgg320
 z138:=Tryz.sizeOf320
 v138:=Tryz.zeroValue320
 t139:=Tryz.underlying321
 a139:=Tryz.isAgg321
 z139:=Tryz.sizeOf321
 v139:=Tryz.zeroValue321
 g3:=ca
 g4:=by kernel_rfl}
def Tryz.x8:Go.Shelf.Ren:=⟨fun|137=>96|217=>161|266=>228|n=>n,fun|9=>9|5=>5|3=>3|n=>n,fun|n=>n⟩
def Tryz.w8:Go.Proofs.Lays.n137 Tryz.prog Tryz.x8:={
 mixed:=ca
 f137:=Tryz.func96.trans (congrArg some ca)
 f217:=Tryz.func161.trans (congrArg some ca)
 f266:=Tryz.func228.trans (congrArg some ca)
 t3:=Tryz.underlying3
 a3:=Tryz.isAgg3
 z3:=Tryz.sizeOf3
 v3:=Tryz.zeroValue3
 t5:=Tryz.underlying5
 a5:=Tryz.isAgg5
 z5:=Tryz.sizeOf5
 v5:=Tryz.zeroValue5
 t9:=Tryz.underlying9
 a9:=Tryz.isAgg9
 z9:=Tryz.sizeOf9
 v9:=Tryz.zeroValue9}
open Go.RowKit in
theorem Tryz.strings_IndexByte(s:ByteArray)(c:Int)(w:World):
 Calls Tryz.prog 96 #[.string s,.int .u8 c] w fun e w'=>e=.returned (.int .i64 (Lib.indexByte s.data.toList c.toNat.toUInt8))/\w'=w:=Any.strings_IndexByte Tryz.w8 s c w
def Tryz.s8:Go.Shelf.Ren:=⟨fun|103=>90|210=>153|206=>141|n=>n,fun|9=>9|4=>4|24=>86|3=>3|n=>n,fun|n=>n⟩
def Tryz.r8:Go.Proofs.Lays.n103 Tryz.prog Tryz.s8:={
 mixed:=ca
 f103:=Tryz.func90.trans (congrArg some ca)
 f206:=Tryz.func141.trans (congrArg some ca)
 f210:=Tryz.func153.trans (congrArg some ca)
 t3:=Tryz.underlying3
 a3:=Tryz.isAgg3
 z3:=Tryz.sizeOf3
 v3:=Tryz.zeroValue3
 t4:=Tryz.underlying4
 a4:=Tryz.isAgg4
 z4:=Tryz.sizeOf4
 v4:=Tryz.zeroValue4
 t9:=Tryz.underlying9
 a9:=Tryz.isAgg9
 z9:=Tryz.sizeOf9
 v9:=Tryz.zeroValue9
 t24:=Tryz.underlying86
 a24:=Tryz.isAgg86
 z24:=Tryz.sizeOf86
 v24:=Tryz.zeroValue86}
open Go.RowKit in
theorem Tryz.strings_CutPrefix(s p:ByteArray)(w:World):
 Calls Tryz.prog 90 #[.string s,.string p] w fun e w'=>e=.returned (.tuple #[.string ⟨(Lib.trimPrefix s.data.toList p.data.toList).toArray⟩,.bool (Lib.hasPrefix s.data.toList p.data.toList)])/\w'=w:=Any.strings_CutPrefix Tryz.r8 s p w
def Tryz.v8:Go.Shelf.Ren:=⟨fun|104=>84|211=>147|207=>215|n=>n,fun|9=>9|4=>4|24=>86|3=>3|n=>n,fun|n=>n⟩
def Tryz.t8q:Go.Proofs.Lays.n104 Tryz.prog Tryz.v8:={
 mixed:=ca
 f104:=Tryz.func84.trans (congrArg some ca)
 f207:=Tryz.func215.trans (congrArg some ca)
 f211:=Tryz.func147.trans (congrArg some ca)
 t3:=Tryz.underlying3
 a3:=Tryz.isAgg3
 z3:=Tryz.sizeOf3
 v3:=Tryz.zeroValue3
 t4:=Tryz.underlying4
 a4:=Tryz.isAgg4
 z4:=Tryz.sizeOf4
 v4:=Tryz.zeroValue4
 t9:=Tryz.underlying9
 a9:=Tryz.isAgg9
 z9:=Tryz.sizeOf9
 v9:=Tryz.zeroValue9
 t24:=Tryz.underlying86
 a24:=Tryz.isAgg86
 z24:=Tryz.sizeOf86
 v24:=Tryz.zeroValue86}
open Go.RowKit in
theorem Tryz.strings_CutSuffix(s p:ByteArray)(w:World)(hs:s.size<=9223372036854775807):
 Calls Tryz.prog 84 #[.string s,.string p] w fun e w'=>e=.returned (.tuple #[.string ⟨(Lib.trimSuffix s.data.toList p.data.toList).toArray⟩,.bool (Lib.hasSuffix s.data.toList p.data.toList)])/\w'=w:=Any.strings_CutSuffix Tryz.t8q s p w hs
open Go.RowKit in
theorem Tryz.Builder_String_any_k(B b:Nat)(l:List UInt8)(w:World)(h:Lib.IsBuilderF 101 5 B b (Lib.byteCells l) w)(a:B<=w.heap.size):
 Calls Tryz.prog 46 #[.pointer (some ⟨b,0,none⟩)] w fun e w'=>e=.returned (.string ⟨l.toArray⟩)/\(Lib.IsBuilderF 101 5 B b (Lib.byteCells l) w'/\Below B w w'/\Lib.OthersKept 5 (some b) w w'):=Any.Builder_String_any_k Tryz.L8 Tryz.eW B b l w h a
def Tryz.z8:Go.Shelf.Ren:=⟨fun|143=>146|219=>148|217=>161|225=>216|224=>217|267=>218|266=>228|314=>273|n=>n,fun|9=>9|3=>3|4=>4|5=>5|46=>269|146=>315|51=>271|n=>n,fun|1=>0|n=>n⟩
def Tryz.y8:Go.Proofs.Lays.n143 Tryz.prog Tryz.z8:={
 mixed:=ca
 f143:=Tryz.func146.trans (congrArg some ca)
 f217:=Tryz.func161.trans (congrArg some ca)
 f219:=Tryz.func148.trans (congrArg some ca)
 f224:=Tryz.func217.trans (congrArg some ca)
 f225:=Tryz.func216.trans (congrArg some ca)
 f266:=Tryz.func228.trans (congrArg some ca)
 f267:=Tryz.func218.trans (congrArg some ca)
 f314:=Tryz.func273.trans (congrArg some ca)
 t3:=Tryz.underlying3
 a3:=Tryz.isAgg3
 z3:=Tryz.sizeOf3
 v3:=Tryz.zeroValue3
 t4:=Tryz.underlying4
 a4:=Tryz.isAgg4
 z4:=Tryz.sizeOf4
 v4:=Tryz.zeroValue4
 t5:=Tryz.underlying5
 a5:=Tryz.isAgg5
 z5:=Tryz.sizeOf5
 v5:=Tryz.zeroValue5
 t9:=Tryz.underlying9
 a9:=Tryz.isAgg9
 z9:=Tryz.sizeOf9
 v9:=Tryz.zeroValue9
 t46:=Tryz.underlying269
 a46:=Tryz.isAgg269
 z46:=Tryz.sizeOf269
 v46:=Tryz.zeroValue269
 t51:=Tryz.underlying271
 a51:=Tryz.isAgg271
 z51:=Tryz.sizeOf271
 v51:=Tryz.zeroValue271
 t146:=Tryz.underlying315
 a146:=Tryz.isAgg315
 z146:=Tryz.sizeOf315
 v146:=Tryz.zeroValue315
 g1:=by kernel_rfl}
open Go.RowKit Go.Lib in
theorem Tryz.strings_Index(s a:ByteArray)(m:Int)(w:World)(hs:s.size<4294967281)(b:w.cell? ⟨0,0,none⟩=some (.int .i64 m)):
 Calls Tryz.prog 146 #[.string s,.string a] w fun e w'=>e=.returned (.int .i64 (Lib.index s.data.toList a.data.toList))/\w'=w:=Any.strings_Index Tryz.y8 s a m w hs b
def Tryz.B8:Go.Shelf.Ren:=⟨fun|144=>158|143=>146|219=>148|217=>161|225=>216|224=>217|267=>218|266=>228|314=>273|n=>n,fun|9=>9|4=>4|3=>3|5=>5|46=>269|146=>315|51=>271|n=>n,fun|1=>0|n=>n⟩
def Tryz.A8:Go.Proofs.Lays.n144 Tryz.prog Tryz.B8:={
 mixed:=ca
 f143:=Tryz.func146.trans (congrArg some ca)
 f144:=Tryz.func158.trans (congrArg some ca)
 f217:=Tryz.func161.trans (congrArg some ca)
 f219:=Tryz.func148.trans (congrArg some ca)
 f224:=Tryz.func217.trans (congrArg some ca)
 f225:=Tryz.func216.trans (congrArg some ca)
 f266:=Tryz.func228.trans (congrArg some ca)
 f267:=Tryz.func218.trans (congrArg some ca)
 f314:=Tryz.func273.trans (congrArg some ca)
 t3:=Tryz.underlying3
 a3:=Tryz.isAgg3
 z3:=Tryz.sizeOf3
 v3:=Tryz.zeroValue3
 t4:=Tryz.underlying4
 a4:=Tryz.isAgg4
 z4:=Tryz.sizeOf4
 v4:=Tryz.zeroValue4
 t5:=Tryz.underlying5
 a5:=Tryz.isAgg5
 z5:=Tryz.sizeOf5
 v5:=Tryz.zeroValue5
 t9:=Tryz.underlying9
 a9:=Tryz.isAgg9
 z9:=Tryz.sizeOf9
 v9:=Tryz.zeroValue9
 t46:=Tryz.underlying269
 a46:=Tryz.isAgg269
 z46:=Tryz.sizeOf269
 v46:=Tryz.zeroValue269
 t51:=Tryz.underlying271
 a51:=Tryz.isAgg271
 z51:=Tryz.sizeOf271
 v51:=Tryz.zeroValue271
 t146:=Tryz.underlying315
 a146:=Tryz.isAgg315
 z146:=Tryz.sizeOf315
 v146:=Tryz.zeroValue315
 g1:=by kernel_rfl}
open Go.RowKit Go.Lib in
theorem Tryz.strings_Contains(s a:ByteArray)(m:Int)(w:World)(hs:s.size<4294967281)(b:w.cell? ⟨0,0,none⟩=some (.int .i64 m)):
 Calls Tryz.prog 158 #[.string s,.string a] w fun e w'=>e=.returned (.bool (Lib.contains s.data.toList a.data.toList))/\w'=w:=Any.strings_Contains Tryz.A8 s a m w hs b
def Tryz.D8:Go.Shelf.Ren:=⟨fun|145=>39|220=>87|219=>148|217=>161|225=>216|224=>217|267=>218|266=>228|314=>273|n=>n,fun|9=>9|4=>4|59=>96|3=>3|5=>5|46=>269|146=>315|51=>271|n=>n,fun|1=>0|n=>n⟩
def Tryz.C8:Go.Proofs.Lays.n145 Tryz.prog Tryz.D8:={
 mixed:=ca
 f145:=Tryz.func39.trans (congrArg some ca)
 f217:=Tryz.func161.trans (congrArg some ca)
 f219:=Tryz.func148.trans (congrArg some ca)
 f220:=Tryz.func87.trans (congrArg some ca)
 f224:=Tryz.func217.trans (congrArg some ca)
 f225:=Tryz.func216.trans (congrArg some ca)
 f266:=Tryz.func228.trans (congrArg some ca)
 f267:=Tryz.func218.trans (congrArg some ca)
 f314:=Tryz.func273.trans (congrArg some ca)
 t3:=Tryz.underlying3
 a3:=Tryz.isAgg3
 z3:=Tryz.sizeOf3
 v3:=Tryz.zeroValue3
 t4:=Tryz.underlying4
 a4:=Tryz.isAgg4
 z4:=Tryz.sizeOf4
 v4:=Tryz.zeroValue4
 t5:=Tryz.underlying5
 a5:=Tryz.isAgg5
 z5:=Tryz.sizeOf5
 v5:=Tryz.zeroValue5
 t9:=Tryz.underlying9
 a9:=Tryz.isAgg9
 z9:=Tryz.sizeOf9
 v9:=Tryz.zeroValue9
 t46:=Tryz.underlying269
 a46:=Tryz.isAgg269
 z46:=Tryz.sizeOf269
 v46:=Tryz.zeroValue269
 t51:=Tryz.underlying271
 a51:=Tryz.isAgg271
 z51:=Tryz.sizeOf271
 v51:=Tryz.zeroValue271
 t59:=Tryz.underlying96
 a59:=Tryz.isAgg96
 z59:=Tryz.sizeOf96
 v59:=Tryz.zeroValue96
 t146:=Tryz.underlying315
 a146:=Tryz.isAgg315
 z146:=Tryz.sizeOf315
 v146:=Tryz.zeroValue315
 g1:=by kernel_rfl}
open Go.RowKit Go.Lib in
theorem Tryz.strings_Cut(s sep:ByteArray)(m:Int)(w:World)(hs:s.size<4294967281)(a:w.cell? ⟨0,0,none⟩=some (.int .i64 m)):
 Calls Tryz.prog 39 #[.string s,.string sep] w fun e w'=>e=.returned (.tuple #[.string ⟨(Lib.cut s.data.toList sep.data.toList).1.toArray⟩,.string ⟨(Lib.cut s.data.toList sep.data.toList).2.1.toArray⟩,.bool (Lib.cut s.data.toList sep.data.toList).2.2])/\∃n,w'=w.drewN n:=Any.strings_Cut Tryz.C8 s sep m w hs a
def Tryz.F8:Go.Shelf.Ren:=⟨fun|149=>157|222=>226|n=>n,fun|9=>9|5=>5|3=>3|4=>4|n=>n,fun|n=>n⟩
def Tryz.E8:Go.Proofs.Lays.n149 Tryz.prog Tryz.F8:={
 mixed:=ca
 f149:=Tryz.func157.trans (congrArg some ca)
 f222:=Tryz.func226.trans (congrArg some ca)
 t3:=Tryz.underlying3
 a3:=Tryz.isAgg3
 z3:=Tryz.sizeOf3
 v3:=Tryz.zeroValue3
 t4:=Tryz.underlying4
 a4:=Tryz.isAgg4
 z4:=Tryz.sizeOf4
 v4:=Tryz.zeroValue4
 t5:=Tryz.underlying5
 a5:=Tryz.isAgg5
 z5:=Tryz.sizeOf5
 v5:=Tryz.zeroValue5
 t9:=Tryz.underlying9
 a9:=Tryz.isAgg9
 z9:=Tryz.sizeOf9
 v9:=Tryz.zeroValue9}
open Go.RowKit Go.Lib in
theorem Tryz.strings_LastIndexByte(s:ByteArray)(c:Int)(hs:s.size<4611686018427387904)(w:World):
 Calls Tryz.prog 157 #[.string s,.int .u8 c] w fun e w'=>e=.returned (.int .i64 (Lib.lastIndexByte s c))/\w'=w:=Any.strings_LastIndexByte Tryz.E8 s c hs w
def Tryz.N8:Go.Shelf.Ren:=⟨fun|99=>80|206=>141|n=>n,fun|9=>9|4=>4|3=>3|n=>n,fun|n=>n⟩
def Tryz.M8:Go.Proofs.Lays.n99 Tryz.prog Tryz.N8:={
 mixed:=ca
 f99:=Tryz.func80.trans (congrArg some ca)
 f206:=Tryz.func141.trans (congrArg some ca)
 t3:=Tryz.underlying3
 a3:=Tryz.isAgg3
 z3:=Tryz.sizeOf3
 v3:=Tryz.zeroValue3
 t4:=Tryz.underlying4
 a4:=Tryz.isAgg4
 z4:=Tryz.sizeOf4
 v4:=Tryz.zeroValue4
 t9:=Tryz.underlying9
 a9:=Tryz.isAgg9
 z9:=Tryz.sizeOf9
 v9:=Tryz.zeroValue9}
open Go.RowKit Go.Lib in
theorem Tryz.strings_HasPrefix(s p:ByteArray)(w:World):
 Calls Tryz.prog 80 #[.string s,.string p] w fun e w'=>e=.returned (.bool (Lib.hasPrefix s.data.toList p.data.toList))/\w'=w:=Any.strings_HasPrefix Tryz.M8 s p w
def Tryz.sR:Go.Shelf.Ren:=⟨fun|155=>42|154=>89|138=>150|165=>151|143=>146|166=>45|197=>152|169=>46|195=>219|218=>220|240=>93|241=>221|219=>148|260=>222|276=>156|277=>274|217=>161|225=>216|224=>217|267=>218|266=>228|314=>273|n=>n,fun|9=>9|3=>3|4=>4|72=>101|0=>0|76=>107|105=>224|21=>21|5=>5|70=>98|20=>20|37=>99|75=>105|127=>170|164=>230|46=>269|119=>318|139=>321|138=>320|146=>315|51=>271|80=>75|n=>n,fun|1=>0|3=>1|4=>2|n=>n⟩
def Tryz.G8:Go.Proofs.Lays.n155 Tryz.prog Tryz.sR:={
 mixed:=ca
 f138:=Tryz.func150.trans (congrArg some ca)
 f143:=Tryz.func146.trans (congrArg some ca)
 f154:=Tryz.func89.trans (congrArg some ca)
 f155:=Tryz.func42.trans (congrArg some ca)
 f165:=Tryz.func151.trans (congrArg some ca)
 f166:=Tryz.func45.trans (congrArg some ca)
 f169:=Tryz.func46.trans (congrArg some ca)
 f195:=Tryz.func219.trans (congrArg some ca)
 f197:=Tryz.func152.trans (congrArg some ca)
 f217:=Tryz.func161.trans (congrArg some ca)
 f218:=Tryz.func220.trans (congrArg some ca)
 f219:=Tryz.func148.trans (congrArg some ca)
 f224:=Tryz.func217.trans (congrArg some ca)
 f225:=Tryz.func216.trans (congrArg some ca)
 f240:=Tryz.func93.trans (congrArg some ca)
 f241:=Tryz.func221.trans (congrArg some ca)
 f260:=Tryz.func222.trans (congrArg some ca)
 f266:=Tryz.func228.trans (congrArg some ca)
 f267:=Tryz.func218.trans (congrArg some ca)
 f276:=Tryz.func156.trans (congrArg some ca)
 f277:=Tryz.func274.trans (congrArg some ca)
 f314:=Tryz.func273.trans (congrArg some ca)
 t0:=Tryz.underlying0
 a0:=Tryz.isAgg0
 z0:=Tryz.sizeOf0
 v0:=Tryz.zeroValue0
 t3:=Tryz.underlying3
 a3:=Tryz.isAgg3
 z3:=Tryz.sizeOf3
 v3:=Tryz.zeroValue3
 t4:=Tryz.underlying4
 a4:=Tryz.isAgg4
 z4:=Tryz.sizeOf4
 v4:=Tryz.zeroValue4
 t5:=Tryz.underlying5
 a5:=Tryz.isAgg5
 z5:=Tryz.sizeOf5
 v5:=Tryz.zeroValue5
 t9:=Tryz.underlying9
 a9:=Tryz.isAgg9
 z9:=Tryz.sizeOf9
 v9:=Tryz.zeroValue9
 t20:=Tryz.underlying20
 a20:=Tryz.isAgg20
 z20:=Tryz.sizeOf20
 v20:=Tryz.zeroValue20
 t21:=Tryz.underlying21
 a21:=Tryz.isAgg21
 z21:=Tryz.sizeOf21
 v21:=Tryz.zeroValue21
 t37:=Tryz.underlying99
 a37:=Tryz.isAgg99
 z37:=Tryz.sizeOf99
 v37:=Tryz.zeroValue99
 t46:=Tryz.underlying269
 a46:=Tryz.isAgg269
 z46:=Tryz.sizeOf269
 v46:=Tryz.zeroValue269
 t51:=Tryz.underlying271
 a51:=Tryz.isAgg271
 z51:=Tryz.sizeOf271
 v51:=Tryz.zeroValue271
 t70:=Tryz.underlying98
 a70:=Tryz.isAgg98
 z70:=Tryz.sizeOf98
 v70:=Tryz.zeroValue98
 t72:=Tryz.underlying101
 a72:=Tryz.isAgg101
 z72:=Tryz.sizeOf101
 v72:=Tryz.zeroValue101
 t75:=Tryz.underlying105
 a75:=Tryz.isAgg105
 z75:=Tryz.sizeOf105
 v75:=Tryz.zeroValue105
 t76:=Tryz.underlying107
 a76:=Tryz.isAgg107
 z76:=Tryz.sizeOf107
 v76:=Tryz.zeroValue107
 t105:=Tryz.underlying224
 a105:=Tryz.isAgg224
 z105:=Tryz.sizeOf224
 v105:=Tryz.zeroValue224
 t119:=Tryz.underlying318
 a119:=Tryz.isAgg318
 z119:=Tryz.sizeOf318
 t127:=Tryz.underlying170
 a127:=Tryz.isAgg170
 z127:=Tryz.sizeOf170
 v127:=Tryz.zeroValue170
 t138:=Tryz.underlying320
 a138:=Tryz.isAgg320
 z138:=Tryz.sizeOf320
 v138:=Tryz.zeroValue320
 t139:=Tryz.underlying321
 a139:=Tryz.isAgg321
 z139:=Tryz.sizeOf321
 v139:=Tryz.zeroValue321
 t146:=Tryz.underlying315
 a146:=Tryz.isAgg315
 z146:=Tryz.sizeOf315
 v146:=Tryz.zeroValue315
 t164:=Tryz.underlying230
 a164:=Tryz.isAgg230
 z164:=Tryz.sizeOf230
 v164:=Tryz.zeroValue230
 g1:=ca
 g3:=ca
 g4:=by kernel_rfl}
def Tryz.dW:Builder.Extra Tryz.prog Tryz.sR:={
 sizeBuilder:=ca
 liesBuilder:=ca
 t5:=Tryz.underlying5
 a5:=Tryz.isAgg5
 z5:=Tryz.sizeOf5
 v5:=Tryz.zeroValue5
 infoByte:=ca
 cellsByte:=ca
 sizeByte:=ca
 neB5:=by decide}
open Go.RowKit Go.Lib in
theorem Tryz.strings_ReplaceAll(s old a:ByteArray)(m:Int)(w:World)(hs:s.size<4294967281)(d:w.cell? ⟨0,0,none⟩=some (.int .i64 m))(c:1<=old.size)(b:s.size+Lib.countB s old* a.size<=140737488355328):
 Calls Tryz.prog 42 #[.string s,.string old,.string a] w fun e w'=>
  e=.returned (.string ⟨(Lib.replaceAll s.data.toList old.data.toList a.data.toList).toArray⟩)/\Below w.heap.size w w':=Any.strings_ReplaceAll Tryz.G8 Tryz.dW s old a m w hs d c b
end Go.Proofs
namespace ya
instance zgt{p:UInt8->Prop}[DecidablePred p]:Decidable (∀c,p c):=
 decidable_of_iff (∀i:Fin 256,p ⟨⟨i⟩⟩) ⟨fun h c=>h c.toBitVec.toFin,fun h i=>h _⟩
def Xg(v:Value)(w:World)(e:Ending)(w':World):Prop:=e=.returned v/\Below w.heap.size w w'
def ag(v:Value)(w:World)(e:Ending)(w':World):Prop:=e=.returned v/\w=w'
def r1{v a}(h:v=a):Ending.returned v=.returned a:=by rw[h]
def t2{a b c d}(h:a=b)(e:c=d):Ending.returned (.tuple #[a,c])=.returned (.tuple #[b,d]):=by rw[h,e]
def t3{a b c d e f}(h:a=b)(i:c=d)(g:e=f):Ending.returned (.tuple #[a,c,e])=.returned (.tuple #[b,d,f]):=by rw[h,i,g]
def vi{k}{a b}(h:a=b):Value.int k a=.int k b:=by rw[h]
def vb{a b}(h:a=b):Value.bool a=.bool b:=by rw[h]
theorem vs{a b:List UInt8}(h:a=b):Value.string ⟨a.toArray⟩=.string ⟨b.toArray⟩:=by rw[h]
def vS{s}{b}(h:s.data.toList=b):Value.string s=.string ⟨b.toArray⟩:=by
 subst h;rfl
def zcd{P}{f}{args}{w}{d}{os}{v}(h:∀w,Calls P f args w (Xg v w)):
 Calls P f args (Go.Sort.grow (redrawn w d) os) fun e a=>e=.returned v/\∃p:Regrown,a=Go.Sort.grow (redrawn w p.d) p.os:=Calls.regrown_of (h _)
def iU{P}{f}{args}{w:World}{n}{v}(h:∀w,Calls P f args w (ag v w)):
 Calls P f args (w.drewN n) fun e a=>e=.returned v/\∃m,a=w.drewN m:=Calls.quiet_of_same ((h _).mono fun _ _ ⟨b,c⟩=>⟨b,c.symm⟩)
def Xr(w)(n):Below w.heap.size w (w.drewN n):=⟨rfl,rfl,rfl,Aa _,fun _ _=>rfl⟩
def Ex{w a b}(h:Below w.heap.size w a)(k:Below a.heap.size a b):Below w.heap.size w b:=h.trans (k.mono h.size)
theorem q0{P}{a dst e}(hs:P.underlying a=some (.slice e))(d:P.underlying e=some (.int .u8))(c:P.underlying dst=some .string)(w:World)(x y):
 (convert a dst (.slice (some ⟨w.heap.size,0,none⟩) 2 2)).run P (w.alloc (.cells #[.int .u8 x.toNat,.int .u8 y.toNat] e)).drew=.ok (.string ⟨#[x,y]⟩) (w.alloc (.cells #[.int .u8 x.toNat,.int .u8 y.toNat] e)).drew:=
 run_convert_bytes_back _ a dst e ⟨w.heap.size,0,none⟩ 2 [x,y] hs d c (by
  intro j b
  match j,b with
  |0,b=>simp[Addr.add]
  |1,b=>simp[Addr.add])
def Gi{P}{ops}{rest}{o}{a}{Q}(A:o.guard=none)(s x)(t)
 (O:o.op=.call {callee:=.builtin .append,args:=#[s,x],argTypes:=#[t,t]})
 (e) (z) (size bytes) (ht:P.underlying t=some (.slice e)) (N:(P.info? e).map (fun i=>(i.zero,i.size,i.bytes))=some (some z,size,bytes))
 (I:z.cells.size=size) (l:0<size) (B) (w) (v) (n) (xs) (hs:a.eval s=v) (d:w.ownsRow B e size v n xs)
 (cells) (M:cells.length=size) (K:∀u∈cells,u.oneCell'=true) (R:a.eval x=.slice (some ⟨w.heap.size,0,none⟩) 1 1)
 (p:(n+1)* bytes<=140737488355328) (U:n+1<=140737488355328) (L:B<=w.heap.size)
 (h:∀g c w',B<=g->w'.ownsRow B e size (.slice (some ⟨g,0,none⟩) (n+1) c) (n+1) (xs++cells)->w.grownBy w' v.ownBlock->Below B w w'->w.heap.size<w'.heap.size->
   wpList P ops Q rest (a.put o.dst (.slice (some ⟨g,0,none⟩) (n+1) c)) w'):
 wpList P ops Q (o::rest) a (w.alloc (.cells cells.toArray e)):=by
 obtain⟨S,C,F,G,H⟩:=info_parts N;refine wpList_append_own _ A s x t O B e S z size bytes ht C F G H I l v n xs hs (d.alloc _) ⟨w.heap.size,0,none⟩ 1 1 cells R aa ?_ K (by unfold maxLen;omega) p Ma ?_
 ·intro j u q
  have:(w.alloc (.cells cells.toArray e)).heap[w.heap.size]?=some (.cells cells.toArray e (0,0)):=heap_alloc_new w _;have b:(⟨w.heap.size,0,none⟩:Addr).add j=⟨w.heap.size,j,none⟩:=by unfold Addr.add;split<;>simp_all
  rw[b,cell_of_row _ _ _ _ _ _ this];simpa using q
 ·intro V w' b j _
  have q:=(((Below.refl B w).alloc L _).grown j Ma (fun k D=>(d.lt k D).1));have l:=j.size;simp at l;rcases b.2 with⟨_,T⟩|⟨g,c,J,rfl,y,r⟩
  ·omega
  ·exact h g c w' y b ⟨j.os,j.tape,j.output,aa,fun k D E=>(j.block k Ma E).trans (Lib.alloc_old w _ k D)⟩ q aa
def o0{P}{a dst e}(hs:P.underlying a=some (.slice e))(d:P.underlying e=some (.int .u8))(c:P.underlying dst=some .string){w}{B}{v}{l}
 (h:w.ownsRow B e 1 v l.length (Lib.byteCells l)):(convert a dst v).run P w=.ok (.string ⟨l.toArray⟩) w:=by
 rcases h.2 with⟨rfl,k⟩|⟨g,b,i,rfl,r⟩
 ·have:l=[]:=by simpa using k
  subst this;exact run_convert_bytes_nil (w:=w) a e hs d 0 0 dst c
 ·refine run_convert_bytes_back _ a dst e ⟨g,0,none⟩ b l hs d c fun j n=>?_
  exact h.cells (g:=g) rfl j _ (by simp[Lib.byteCells,n])
def Fk(B:Nat)(e:TypeId)(v:Value)(l:List UInt8)(w:World):Prop:=w.ownsRow B e 1 v l.length (Lib.byteCells l)
def Fk.nil(B)(e)(w):Fk B e (.slice none 0 0) [] w:=cB _ _ _ _
theorem Fk.kept{B}{e}{v}{l}{w w'}(h:Fk B e v l w)(k:Below w.heap.size w w'):Fk B e v l w':=
 World.ownsRow.kept (row:=none) h ⟨k.os,k.tape,k.output,k.size,fun i a _=>k.block i a⟩ (by cases v.ownBlock<;>simp)
def Fk.made{B}{e}(w:World)(b:B<=w.heap.size)(a)(cs)(d:cs.size=a)(c:a<=maxLen):Fk B e (.slice (some ⟨w.heap.size,0,none⟩) 0 a) [] (w.alloc (.cells cs e)):=
 World.ownsRow_made w cs a b c aa
def uX(l)(c):Lib.byteCells (l++[c])=Lib.byteCells l++[.int .u8 c.toNat]:=by simp[Lib.byteCells]
def Mv{P}{ops}{rest}{o}{a}{Q}(j:o.guard=none)(s x)(t)
 (A:o.op=.call {callee:=.builtin .append,args:=#[s,x],argTypes:=#[t,t]})
 (e) (ht:P.underlying t=some (.slice e)) (z:(P.info? e).map (fun i=>(i.zero,i.size,i.bytes))=some (some (.int .u8 0),1,1))
 (B) (w) (v) (l) (hs:a.eval s=v) (d:Fk B e v l w) (c)
 (C:a.eval x=.slice (some ⟨w.heap.size,0,none⟩) 1 1) (k:l.length+1<=140737488355328) (y:B<=w.heap.size)
 (h:∀g b w',B<=g->Fk B e (.slice (some ⟨g,0,none⟩) (l.length+1) b) (l++[c]) w'->w.grownBy w' v.ownBlock->Below B w w'->w.heap.size<w'.heap.size->
   wpList P ops Q rest (a.put o.dst (.slice (some ⟨g,0,none⟩) (l.length+1) b)) w'):
 wpList P ops Q (o::rest) a (w.alloc (.cells #[.int .u8 c.toNat] e)):=
 Gi j s x t A e (.int .u8 0) 1 1 ht z rfl ha B w v _ _ hs d [.int .u8 c.toNat] rfl (by simp[Value.oneCell']) C aa aa y
  fun g b w' n p q r u=>h g b w' n (by unfold Fk;rw[uX,Ba];exact p) q r u
end ya
namespace Go.Proofs.YtglaihdcndcmkaaGreatDoor
def EU:(Tryz.prog.info? 101).map (·.size)=some 2:=ca
def Yj:liesAt Tryz.prog Tryz.prog.depth 101 (2/Tryz.prog.cellsOf 101) 0 101 1=true:=ca
def infoByte:(Tryz.prog.info? 5).map (fun i=>(i.zero,i.size,i.bytes))=some (some (.int .u8 0),1,1):=ca
set_option maxRecDepth 100000 in
def u0(b)(w)(c:w.cell? ⟨b,0,none⟩=some (.pointer (some ⟨b,0,none⟩))):
 Calls Tryz.prog 93 #[.pointer (some ⟨b,0,none⟩)] w fun e w'=>e=.returned (.tuple #[])/\w'=w:=by
 obtain⟨j,a,_⟩:=qm EU
 go_enter Tryz.func93,Tryz.ntmps93
 go_wp2;rw[Lib.run_neq_ptr_same w _ Tryz.underlying98 a];go_wp2
 go_end0
 simp
set_option maxRecDepth 100000 in
def s0(b)(w)(i:w.cell? ⟨b,0,none⟩=some (.pointer none))(a:w.shape? b=some (101,2))(h:w.frozen? ⟨b,0,none⟩=false):
 Calls Tryz.prog 93 #[.pointer (some ⟨b,0,none⟩)] w fun e w'=>e=.returned (.tuple #[])/\w'=w.setCell ⟨b,0,none⟩ (.pointer (some ⟨b,0,none⟩)):=by
 obtain⟨j,d,c⟩:=qm EU;have g:(w.setCell ⟨b,0,none⟩ (.pointer (some ⟨b,0,none⟩))).cell? ⟨b,0,none⟩=some (.pointer (some ⟨b,0,none⟩)):=World.cell?_setCell_same' _ _ _ na
 go_enter Tryz.func93,Tryz.ntmps93
 go_wp2;rw[Lib.run_to_unsafe w ⟨b,0,none⟩ Tryz.underlying98 Tryz.underlying230 d (by rw[c];decide) a (Nat.zero_lt_succ 1)];simp only[Result.andThen];rw[Kt];go_wp2;rw[run_callFunc_extern Tryz.func156 ca ca ca (e:=Extern.AbiNoEscape.same) ca];rw[Lib.run_noEscape];simp only[Result.andThen];rw[Kt];go_wp2;rw[Lib.run_from_unsafe w ⟨b,0,none⟩ Tryz.underlying230 Tryz.underlying98 d a Yj];simp only[Result.andThen];rw[Kt];go_wp2
 go_end0
 simp
def fO(B b)(a)(w)(h:Lib.IsBuilderF 101 5 B b a w):
 Calls Tryz.prog 93 #[.pointer (some ⟨b,0,none⟩)] w fun e w'=>e=.returned (.tuple #[])/\(Lib.BuilderAtF 101 5 B b (.pointer (some ⟨b,0,none⟩)) a w'/\Below B w w'/\Lib.OthersKept 5 (some b) w w'):=by
 rcases h with h|h
 ·refine(s0 b w h.cell0 h.shape h.frozen0).mono ?_
  rintro e w' ⟨rfl,rfl⟩;exact⟨rfl,h.used _,(Below.refl B w).setCell (p:=⟨b,0,none⟩) h.1 _,(Lib.OthersKept.refl _ _ w).setCell ⟨b,0,none⟩ rfl _⟩
 ·refine(u0 b w h.cell0).mono ?_
  grind [Below.refl,Lib.OthersKept.refl]
set_option maxRecDepth 100000 in
theorem zgl(B b)(r)(c)(w)(h:Lib.IsBuilderF 101 5 B b r w)(G:r.length+1<=140737488355328)(I:B<=w.heap.size):
 Calls Tryz.prog 44 #[.pointer (some ⟨b,0,none⟩),.int .u8 c] w fun e w'=>e=.returned .nilIface/\(Lib.IsBuilderF 101 5 B b (r++[.int .u8 c]) w'/\Below B w w'/\Lib.OthersKept 5 (some b) w w'):=by
 obtain⟨K,J,A,C,D⟩:=info_parts infoByte
 go_enter Tryz.func44,Tryz.ntmps44
 go_wp2_with(go_at_call 93;refine(fO B b r _ h).mono ?_)
 rintro e t ⟨rfl,H,o,y⟩;obtain⟨F,v,q,d,z⟩:=H;have M:t.cell? ⟨b,0,none⟩=some (.pointer (some ⟨b,0,none⟩)):=by rw[Lib.cell_of_heap q];rfl
 have c1:t.cell? ⟨b,1,none⟩=some v:=by rw[Lib.cell_of_heap q];rfl
 go_wp2_with(at_builtin;refine wpList_append_ownF _ rfl _ _ 99 rfl B 5 K (.int .u8 0) 1 1 Tryz.underlying99 J A C D rfl ha _ _ _ rfl (d.alloc _) ⟨t.heap.size,0,none⟩ 1 1 [.int .u8 c] rfl rfl ?c1 ?c2 ?c3 ?c4 ?c5 ?_)
 case c1=>
  intro j u x
  match j,x with
  |0,x=>simp at x;subst x;simp[Addr.add]
 case c2=>intro u j;simp at j;subst j;rfl
 case c3=>grind [maxLen]
 case c4=>omega
 case c5=>have:=o.size;simp;omega
 intro L E i a _;have fa:b<t.heap.size:=by
  rcases Mh b t.heap.size with j|j
  ·exact j
  ·grind
 have l:E.heap[b]?=some (.cells #[.pointer (some ⟨b,0,none⟩),v] 101 (0,0)):=by
  rw[a.block b Ma (fun e=>z e.symm),Lib.alloc_old t _ b fa];exact q
 have N:E.cell? ⟨b,0,none⟩=some (.pointer (some ⟨b,0,none⟩)):=by rw[Lib.cell_of_heap l];rfl
 have O:E.cell? ⟨b,1,none⟩=some v:=by rw[Lib.cell_of_heap l];rfl
 have P:=Lib.frozen_of_heap l 1;obtain⟨g,n,rfl⟩:∃g n,L=.slice (some ⟨g,0,none⟩) (r.length+1) n:=by
  rcases i.2 with⟨_,Q⟩|⟨g,n,j,x,R,_⟩<;>grind
 go_wp2;go_ret;refine⟨rfl,.inr ?_,?_,((y.alloc _).grown a (Lib.ownsRowF_kind (d.alloc _))).setCell ⟨b,1,none⟩ rfl _⟩
 ·exact Lib.BuilderAtF.put (T:=101) (e:=5) F l (bs':=r++[.int .u8 c]) (by simpa using i) ha
 ·exact((o.alloc aa _).grown a (by have:=o.size;simp;omega) (fun k j=>(d.lt k j).1)).setCell (p:=⟨b,1,none⟩) F _
set_option maxRecDepth 100000 in
def writeString(B b)(n)(s)(w)(h:Lib.IsBuilderF 101 5 B b n w)(E:n.length+s.size<=140737488355328)(H:B<=w.heap.size):
 Calls Tryz.prog 45 #[.pointer (some ⟨b,0,none⟩),.string s] w fun e w'=>e=.returned (.tuple #[.int .i64 s.size,.nilIface])/\(Lib.IsBuilderF 101 5 B b (n++Lib.strCells s) w'/\Below B w w'/\Lib.OthersKept 5 (some b) w w'):=by
 obtain⟨K,I,u,x,y⟩:=info_parts infoByte
 go_enter Tryz.func45,Tryz.ntmps45
 go_wp2_with(go_at_call 93;refine(fO B b n _ h).mono ?_)
 rintro e o ⟨rfl,G,q,r⟩;obtain⟨D,v,l,c,t⟩:=G;have M:o.cell? ⟨b,0,none⟩=some (.pointer (some ⟨b,0,none⟩)):=by rw[Lib.cell_of_heap l];rfl
 have c1:o.cell? ⟨b,1,none⟩=some v:=by rw[Lib.cell_of_heap l];rfl
 go_wp2_with(at_builtin;refine Lib.wpList_append_own_stringF _ rfl _ _ 99 9 rfl B 5 K Tryz.underlying99 Tryz.underlying9 I u x y _ _ _ rfl c s rfl ?c3 ?c4 ?c5 ?_)
 case c3=>grind [maxLen]
 case c4=>omega
 case c5=>grind
 intro L z d a _;have fa:b<o.heap.size:=by
  rcases Mh b o.heap.size with C|C
  ·exact C
  ·grind
 have i:z.heap[b]?=some (.cells #[.pointer (some ⟨b,0,none⟩),v] 101 (0,0)):=by
  rw[a.block b fa (fun e=>t e.symm)];exact l
 have N:z.cell? ⟨b,0,none⟩=some (.pointer (some ⟨b,0,none⟩)):=by rw[Lib.cell_of_heap i];rfl
 have O:z.cell? ⟨b,1,none⟩=some v:=by rw[Lib.cell_of_heap i];rfl
 have P:=Lib.frozen_of_heap i 1;obtain⟨A,F,j,rfl⟩:∃A F j,L=.slice A F j:=by
  rcases d.2 with⟨J,_⟩|⟨g,j,C,Q,J,_⟩<;>grind
 go_wp2
 go_ret2
 refine⟨rfl,.inr ?_,?_,(r.grown a (Lib.ownsRowF_kind c)).setCell ⟨b,1,none⟩ rfl _⟩
 ·exact Lib.BuilderAtF.put (T:=101) (e:=5) D i (bs':=n++Lib.strCells s) (by simpa[Lib.strCells_length]using d) ha
 ·exact(q.grown a aa (fun k C=>(c.lt k C).1)).setCell (p:=⟨b,1,none⟩) D _
def Bd(B b:Nat)(l:List UInt8)(w:World):Prop:=Lib.IsBuilderF 101 5 B b (Lib.byteCells l) w
def Bd.fresh(w:World):Bd w.heap.size w.heap.size [] (w.alloc (.cells #[.pointer none,.slice none 0 0] 101)):=Lib.IsBuilderF.of (Lib.fresh_isBuilder _ _ w)
theorem Bd.drew{B b}{l}{w}(h:Bd B b l w):Bd B b l w.drew:=h
theorem Bd.alloc{B b}{l}{w}(h:Bd B b l w)(o):Bd B b l (w.alloc o):=by
 rcases h with h|h
 ·exact .inl (h.alloc o)
 ·exact .inr (h.alloc o)
theorem Bd.lt{B b}{l}{w}(h:Bd B b l w):B<=b/\b<w.heap.size:=by
 rcases h with h|h
 ·exact⟨h.1,h.lt⟩
 ·exact⟨h.1,h.lt⟩
theorem Bd.kept{B b}{l}{w w'}(h:Bd B b l w)(k:Below w.heap.size w w'):Bd B b l w':=by
 have d:∀p,Lib.BuilderAtF 101 5 B b p (Lib.byteCells l) w->Lib.BuilderAtF 101 5 B b p (Lib.byteCells l) w':=by
  rintro p h;have fa:=h.lt;obtain⟨e,v,g,a,c⟩:=h;exact⟨e,v,(k.block b fa).trans g,a.kept (row:=none) ⟨k.os,k.tape,k.output,k.size,fun i j _=>k.block i j⟩ na,c⟩
 rcases h with h|h
 ·exact .inl (d _ h)
 ·exact .inr (d _ h)
def Wr(B b)(l)(c)(w)(h:Bd B b l w)(a:l.length+1<=140737488355328):
 Calls Tryz.prog 44 #[.pointer (some ⟨b,0,none⟩),.int .u8 c.toNat] w fun e w'=>e=.returned .nilIface/\Bd B b (l++[c]) w'/\Below B w w'/\Lib.OthersKept 5 (some b) w w':=by
 have i:=h.lt;refine(zgl B b _ c.toNat w h (by grind [Lib.byteCells_length]) aa).mono ?_;rintro e w' ⟨rfl,d,g⟩;exact⟨rfl,by unfold Bd;rw[Lib.byteCells_append];exact d,g⟩
def eu(B b)(l)(s)(w)(h:Bd B b l w)(a:l.length+s.size<=140737488355328):
 Calls Tryz.prog 45 #[.pointer (some ⟨b,0,none⟩),.string s] w fun e w'=>e=.returned (.tuple #[.int .i64 s.size,.nilIface])/\Bd B b (l++s.data.toList) w'/\Below B w w'/\Lib.OthersKept 5 (some b) w w':=by
 have c:=h.lt;refine(writeString B b _ s w h (by grind [Lib.byteCells_length]) aa).mono ?_
 grind [Bd,Lib.byteCells_append,Lib.strCells_eq]
def BC(B b)(l)(w)(h:Bd B b l w):
 Calls Tryz.prog 46 #[.pointer (some ⟨b,0,none⟩)] w fun e w'=>e=.returned (.string ⟨l.toArray⟩)/\Bd B b l w'/\Below B w w'/\Lib.OthersKept 5 (some b) w w':=
 Tryz.Builder_String_any_k B b l w h (by have:=h.lt;omega)
end Go.Proofs.YtglaihdcndcmkaaGreatDoor
namespace ya
def ext1(s:ByteArray)(k)(h):(s.extract k (k+1)).data.toList=[s[k]]:=by
 have a:=h;rw[Lib.extract_data,Pd a,ri];rfl
theorem m0{P}{a dst e}(hs:P.underlying a=some (.slice e))(d:P.underlying e=some (.int .u8))(c:P.underlying dst=some .string)(w:World)(x):
 (convert a dst (.slice (some ⟨w.heap.size,0,none⟩) 1 1)).run P (w.alloc (.cells #[.int .u8 x.toNat] e))=.ok (.string ⟨#[x]⟩) (w.alloc (.cells #[.int .u8 x.toNat] e)):=
 run_convert_bytes_back _ a dst e ⟨w.heap.size,0,none⟩ 1 [x] hs d c (by
  intro j b
  match j,b with
  |0,b=>simp[Addr.add])
def Qm(l:List UInt8):(ByteArray.mk l.toArray).size=l.length:=rfl
end ya
section
set_option synthInstance.maxSize 4000
namespace ya
def Fu:List UInt8:=[65,66,67,68,69,70,71,72,73,74,75,76,77,78,79,80,81,82,83,84,85,86,87,88,89,90,97,98,99,100,101,102,103,104,105,106,107,108,109,110,111,112,113,114,115,116,117,118,119,120,121,122,48,49,50,51,52,53,54,55,56,57,43,47]
def lc(n:Nat):UInt8:=Fu.getD n 0
def Jh(c:UInt8):Option Nat:=if 65<=c/\c<=90 then some (c.toNat - 65)else if 97<=c/\c<=122 then some (c.toNat - 71)else if 48<=c/\c<=57 then some (c.toNat+4)else if c=43 then some 62 else if c=47 then some 63 else none
def nk(i:Nat):List UInt8:=(Fu.drop (16* i)).take 16
def om(w:Go.World):Prop:=∀i,i<4->w.cell? ⟨3,i,none⟩=some (.string ⟨(nk i).toArray⟩)
theorem om.lt{w}(h:om w):3<w.heap.size:=Go.World.block_lt_of_cell? w _ (h 0 ha)
def om.kept{w w'}(h:om w)(a:Go.RowKit.Below w.heap.size w w'):om w':=fun i b=>(a.cell (p:=⟨3,i,none⟩) h.lt).trans (h i b)
def h1:∀i:Fin 4,∀j:Fin 16,(nk i.1)[j.1]?=some (lc (16* i.1+j.1)):=Fb
end ya
namespace Go.Proofs.YtglaihdcndcmkaaGreatDoor
def zW(x:Nat)(h:x<4294967296):bits .and .u32 (x:Int) 3=((x % 4:Nat):Int):=by
 rw[show(3:Int)=((3:Nat):Int)from rfl,u32_and_nat x 3 h ha,Jt x 2]
def yW(x:Nat)(h:x<4294967296):bits .and .u32 (x:Int) 15=((x % 16:Nat):Int):=by
 rw[show(15:Int)=((15:Nat):Int)from rfl,u32_and_nat x 15 h ha,Jt x 4]
def j1(n:Nat)(e:n<64)(w)(c:om w):Calls Tryz.prog 276 #[.int .u32 n] w (ag (.int .u8 (lc n).toNat) w):=by
 have l:=c (n/16) aa;have hr:=h1 ⟨n/16,aa⟩ ⟨n % 16,aa⟩;simp only[show 16* (n/16)+n % 16=n from Nat.div_add_mod n 16]at hr;have e1:bits .and .u32 ((n:Int)/16) 3=((n/16:Nat):Int):=by
  rw[show(n:Int)/16=((n/16:Nat):Int) by omega,zW _ aa];omega
 have e2:=yW n aa;generalize g:n/16=x at*;generalize a:n % 16=y at*;have h:(x:Int)<4:=aa
 have j:(y:Int)<16:=aa
 have b:(nk x).length=16:=by
  have:∀i:Fin 4,(nk i.1).length=16:=ha
  exact this ⟨x,aa⟩
 have k:=b;have H:=Lib.hid hr;clear hr g a e;have a:y<16:=aa
 go_enter Tryz.func276,Tryz.ntmps276
 go_wp2;go_ret;refine⟨r1 (vi ?_),rfl⟩;obtain⟨_,d⟩:=qg H.out;rw[<-d];rfl
def zgf(c)(w):Calls Tryz.prog 223 #[.int .u8 c.toNat] w (ag (.tuple #[.int .u32 ((Jh c).getD 0),.bool (Jh c).isSome]) w):=by
 go_enter Tryz.func223,Tryz.ntmps223
 go_wp2
 all_goals (go_ret2;refine⟨t2 (vi ?_) (vb ?_),rfl⟩)
 all_goals (go_light;revert c;decide+kernel)
end Go.Proofs.YtglaihdcndcmkaaGreatDoor
end
section
set_option synthInstance.maxSize 4000
namespace ya
def num(l:List UInt8):Nat->Nat
 |0=>0
 |i+1=>num l i* 256+((l[i]?).getD 0).toNat
def ae(l:List UInt8):List UInt8:=[lc (num l 3/262144 % 64),lc (num l 3/4096 % 64),if l.length<2 then 61 else lc (num l 3/64 % 64),if l.length<3 then 61 else lc (num l 3 % 64)]
def Na:List UInt8->List UInt8
 |[]=>[]
 |[a]=>ae [a]
 |[a,b]=>ae [a,b]
 |a::b::c::l=>ae [a,b,c]++Na l
def DS(l)(i):num l i<256^i:=by
 induction i with
 |zero=>simp[num]
 |succ i a=>
  have:=((l[i]?).getD 0).toNat_lt
  grind [num]
def l_(l)(i)(h:i<=3):num l i<16777216:=mh (DS l i) (Gr (n:=256) ha h)
def ES(l)(i)(h:i<3):num l i<65536:=mh (DS l i) (Gr (n:=256) ha (Nat.le_of_lt_succ h))
def m_(l)(i)(h:i<3)(c)(a:l[i]?=some c):Go.bits .or .u32 ((num l i:Int)* 256) c.toNat=num l (i+1):=by
 have b:=ES l i h;have d:=c.toNat_lt;have e:(num l i:Int)* 256=((num l i* 256:Nat):Int):=aa
 rw[e,Go.u32_or_nat _ _ aa aa,Go.nat_join 8 _ _ aa aa,num,a];rfl
def n_(l)(i)(a:l[i]?=none):(num l (i+1):Int)=num l i* 256:=by rw[num,a];simp
def RO(l)(h:l≠[]):Na l=ae l++Na (l.drop 3):=by
 match l,h with
 |[a],_=>rfl
 |[a,b],_=>rfl
 |a::b::c::l,_=>
  rfl
end ya
namespace Go.Proofs.YtglaihdcndcmkaaGreatDoor
def rm(x:Nat)(h:x<4294967296):bits .and .u32 (x:Int) 63=((x % 64:Nat):Int):=by
 rw[show(63:Int)=((63:Nat):Int)from rfl,u32_and_nat x 63 h ha,Jt x 6]
def oy(m:Int)(n:Nat)(h:m=n)(b:n<64)(w)(a:om w):Calls Tryz.prog 276 #[.int .u32 m] w (ag (.int .u8 (lc n).toNat) w):=h▸j1 n b w a
def hV(s:List UInt8)(k)(h):s.take (k+1)=s.take k++[s[k]]:=by
 simp
def W1(s)(w)(O:om w)(hs:s.size<=1000000):Calls Tryz.prog 232 #[.string s] w (Xg (.string ⟨(Na s.data.toList).toArray⟩) w):=by
 have d:s.data.toList.length=s.size:=rfl;have E:=Lib.hid d;clear d
 go_enter Tryz.func232,Tryz.ntmps232
 go_wp2
 go_loopw [0] (fun b wr=>∃(k:Nat)(t:ByteArray)(p:List UInt8),k<=s.size/\b=.string t/\t.size+k=s.size/\Bd w.heap.size w.heap.size p wr/\p.length<=4* k/\Below w.heap.size w wr/\Hid (t.data.toList=s.data.toList.drop k)/\Hid (Na s.data.toList=p++Na (s.data.toList.drop k)))
  (fun b _=>match b with| .string t=>t.size|_=>0)
 case atStart=>exact⟨0,s,[],Cb _,rfl,rfl,Bd.fresh w,ea,(Below.refl _ _).alloc (Aa _) _,Lib.hid rfl,Lib.hid rfl⟩
 case round=>
  obtain⟨k,t,p,hkZ,rfl,ht,o,X,a,y,u⟩:=hrel;have q:=O.kept a;by_cases fa:0<t.size
  ·go_wp2
   have L:min 3 ((t.size:Nat):Int)=((min 3 t.size:Nat):Int):=aa
   have T:1<=min 3 t.size:=aa
   have U:min 3 t.size<=3:=aa
   have V:min 3 t.size<=t.size:=aa
   have C:Hid (min 3 t.size=min 3 t.data.toList.length):=Lib.hid rfl;have G:min 3 t.size=3\/min 3 t.size=t.size:=aa
   rw[L];clear L;generalize min 3 t.size=K at*
   go_loopw [5,14] (fun n i Ui=>∃j:Nat,j<=3/\i=.int .i64 j/\n=.int .u32 (num t.data.toList j)/\Ui=wr) (fun _ i _=>3 - (intOf i).toNat)
   case atStart=>exact⟨0,aa,rfl,rfl,rfl⟩
   case round=>
    obtain⟨j,Y,rfl,rfl,rfl⟩:=hrel;by_cases D:j<3
    ·have B:=ES t.data.toList j D
     by_cases A:j<K
     ·have r:=m_ t.data.toList j D (t[j]' aa) (qe (l:=t.data.toList) (by show j<t.size;omega))
      have v:=Lib.hid r;clear r;have x:=(t[j]' aa).toNat_lt;go_wp2;go_roundw
      case rel=>exact⟨j+1,aa,by go_num,vi (by first|exact v.out|(rw[<-v.out];congr 1;omega)),trivial⟩
      case measure=>simp[intOf];omega
     ·have r:=n_ t.data.toList j (Qf (by show t.size<=j;omega))
      have v:=Lib.hid r;clear r;go_wp2;go_roundw
      case rel=>exact⟨j+1,aa,by go_num,vi (by first|exact v.out.symm|(rw[v.out];omega)),trivial⟩
      case measure=>simp[intOf];omega
    ·obtain rfl:j=3:=aa
     obtain⟨A,B,v,x,P,J,e1,e2,e3⟩:∃A B v x,ae t.data.toList=[A,B,v,x]/\A=lc (num t.data.toList 3/262144 % 64)/\B=lc (num t.data.toList 3/4096 % 64)/\v=(if K<2 then 61 else lc (num t.data.toList 3/64 % 64))/\x=(if K<3 then 61 else lc (num t.data.toList 3 % 64)):=by
      refine⟨_,_,_,_,rfl,rfl,rfl,?_,?_⟩
      ·have:=C.out;split<;>split<;>first|rfl|omega
      ·have:=C.out;split<;>split<;>first|rfl|omega
     have S:=Lib.hid P;clear P;generalize M:num t.data.toList 3=N at*;have W:=M▸l_ _ _ (Aa _);clear M;have Q:=Lib.hid J;have R:=Lib.hid e1;have H:=Lib.hid e2;have I:=Lib.hid e3;clear J e1 e2 e3;go_wp2;rw[show((3:Nat):Int)=3 from rfl]
     go_loopw [29] (fun i Ui=>∃j:Nat,j<=4/\i=.int .i64 j/\Bd w.heap.size w.heap.size (p++[A,B,v,x].take j) Ui/\Below w.heap.size w Ui) (fun i _=>4 - (intOf i).toNat)
     case atStart=>exact⟨0,aa,rfl,by simpa using o,a⟩
     case round=>
      clear o a q;obtain⟨j,Y,rfl,o,a⟩:=hrel;have q:=O.kept a;by_cases Z:j<4
      ·have d:(p++[A,B,v,x].take j).length+1<=140737488355328:=Ma
       obtain rfl|rfl|rfl|rfl:j=0\/j=1\/j=2\/j=3:=aa
       ·have F:bits .and .u32 ((N:Int)/262144) 63=((N/262144 % 64:Nat):Int):=rm (N/262144) aa
        obtain rfl:=Q.out
        go_wp2_with(first|(go_at_call 276;refine(oy _ (N/262144 % 64) aa aa _ q).mono ?_;rintro e w' ⟨rfl,rfl⟩)|(go_at_call 44;refine(Wr _ _ _ _ _ o d).mono ?_;rintro e z ⟨rfl,c,g,_⟩))
        go_roundw
        case rel=>exact⟨1,aa,by go_num,by simpa using c,a.trans g⟩
        case measure=>simp[intOf]
       ·have F:bits .and .u32 ((N:Int)/4096) 63=((N/4096 % 64:Nat):Int):=rm (N/4096) aa
        obtain rfl:=R.out
        go_wp2_with(first|(go_at_call 276;refine(oy _ (N/4096 % 64) aa aa _ q).mono ?_;rintro e w' ⟨rfl,rfl⟩)|(go_at_call 44;refine(Wr _ _ _ _ _ o d).mono ?_;rintro e z ⟨rfl,c,g,_⟩))
        go_roundw
        case rel=>exact⟨2,aa,by go_num,by simpa using c,a.trans g⟩
        case measure=>simp[intOf]
       ·have F:bits .and .u32 ((N:Int)/64) 63=((N/64 % 64:Nat):Int):=rm (N/64) aa
        by_cases r:K<2
        ·obtain rfl:v=61:=by rw[H.out,if_pos r]
         go_wp2_with(first|(go_at_call 44;refine(Wr _ _ _ 61 _ o d).mono ?_;rintro e z ⟨rfl,c,g,_⟩))
         go_roundw
         case rel=>exact⟨3,aa,by go_num,by simpa using c,a.trans g⟩
         case measure=>simp[intOf]
        ·obtain rfl:v=lc (N/64 % 64):=by rw[H.out,if_neg r]
         go_wp2_with(first|(go_at_call 276;refine(oy _ (N/64 % 64) aa aa _ q).mono ?_;rintro e w' ⟨rfl,rfl⟩)|(go_at_call 44;refine(Wr _ _ _ _ _ o d).mono ?_;rintro e z ⟨rfl,c,g,_⟩))
         go_roundw
         case rel=>exact⟨3,aa,by go_num,by simpa using c,a.trans g⟩
         case measure=>simp[intOf]
       ·have F:=rm N aa
        by_cases r:K<3
        ·obtain rfl:x=61:=by rw[I.out,if_pos r]
         go_wp2_with(first|(go_at_call 44;refine(Wr _ _ _ 61 _ o d).mono ?_;rintro e z ⟨rfl,c,g,_⟩))
         go_roundw
         case rel=>exact⟨4,aa,by go_num,by simpa using c,a.trans g⟩
         case measure=>simp[intOf]
        ·obtain rfl:x=lc (N % 64):=by rw[I.out,if_neg r]
         go_wp2_with(first|(go_at_call 276;refine(oy _ (N % 64) aa aa _ q).mono ?_;rintro e w' ⟨rfl,rfl⟩)|(go_at_call 44;refine(Wr _ _ _ _ _ o d).mono ?_;rintro e z ⟨rfl,c,g,_⟩))
         go_roundw
         case rel=>exact⟨4,aa,by go_num,by simpa using c,a.trans g⟩
         case measure=>simp[intOf]
      ·obtain rfl:j=4:=aa
       go_wp2;go_roundw
       case rel=>
        have F:(t.extract K t.size).data.toList=s.data.toList.drop (k+K):=by
         rw[Lib.extract_data,uk ea,y.out,yd]
        refine⟨k+K,_,_,aa,rfl,?_,o,Ma,a,Lib.hid F,Lib.hid ?_⟩
        ·simp;omega
        ·rw[u.out,RO _ (by intro h;have:=congrArg List.length h;rw[fc,E.out]at this;simp at this;omega),<-y.out,S.out]
         have r:List.drop 3 t.data.toList=s.data.toList.drop (k+K):=by
          rcases G with h|h
          ·rw[h,y.out,yd]
          ·rw[Ej bh,Ej (by rw[E.out];omega)]
         rw[r];simp
       case measure=>simp;omega
  ·have v:k=s.size:=aa
   have j:Na s.data.toList=p:=by
    rw[u.out,Ej (by rw[E.out];omega)];simp[Na]
   have r:=Lib.hid j;clear j
   go_wp2_with(go_at_call 46;refine(BC _ _ _ _ o).mono ?_;rintro e z ⟨rfl,c,g,_⟩)
   go_ret;rw[r.out];exact⟨rfl,a.trans g⟩
end Go.Proofs.YtglaihdcndcmkaaGreatDoor
end
section
set_option synthInstance.maxSize 4000
namespace ya
def Ai(l:List UInt8)(last:Bool):Nat:=if last=true/\l[3]?=some 61 then(if l[2]?=some 61 then 2 else 3)else 4
def Ff(l:List UInt8)(k:Nat):Nat->Option Nat
 |0=>some 0
 |i+1=>match Ff l k i with
  |none=>none
  |some n=>if k<=i then some (n* 64)else match Jh (l[i]?.getD 0)with
   |none=>none
   |some x=>some (n* 64+x)
def wg(l:List UInt8)(last:Bool):List UInt8×Bool:=match Ff l (Ai l last) 4 with
 |none=>([],false)
 |some n=>([UInt8.ofNat (n/65536),UInt8.ofNat (n/256),UInt8.ofNat n].take (Ai l last - 1),n % 256^(4 - Ai l last)==0)
def DV(c):∀x,Jh c=some x->x<64:=by
 have:∀c:UInt8,(Jh c).getD 0<64:=Fb
 grind
def KP(l)(k i):∀n,Ff l k i=some n->n<64^i:=by
 induction i with
 |zero=>grind [Ff]
 |succ i c=>
  intro n h;rw[Ff]at h;split at h
  ·cases h
  ·rename_i m a
   have:=c m a;rw[Nat.pow_succ];split at h
   ·grind
   ·split at h
    ·cases h
    ·rename_i x b
     have:=DV _ _ b
     grind
def M3(l)(k i n)(a:i<4)(h:Ff l k i=some n):n<262144:=mh (KP l k i n h) (Gr (n:=64) ha (Nat.le_of_lt_succ a))
def N3(l)(k n)(h:Ff l k 4=some n):n<16777216:=KP l k 4 n h
def O3{l}{k i}(h:Ff l k i=none)(j)(a:i<=j):Ff l k j=none:=by
 induction j<;>grind [Ff.eq_2]
def T3(n x:Nat)(h:n<262144)(a:x<64):Go.bits .or .u32 ((n:Int)* 64) x=((n* 64+x:Nat):Int):=by
 have e:(n:Int)* 64=((n* 64:Nat):Int):=aa
 rw[e,Go.u32_or_nat _ _ aa aa,Go.nat_join 6 _ _ aa aa]
theorem I3(l)(last):Ai l last=2\/Ai l last=3\/Ai l last=4:=by grind [Ai]
end ya
namespace Go.Proofs.YtglaihdcndcmkaaGreatDoor
def IA(n:Nat):(UInt8.ofNat n).toNat=n % 256:=ea
theorem p0{P}{a dst e}(hs:P.underlying a=some (.slice e))(d:P.underlying e=some (.int .u8))(c:P.underlying dst=some .string)(w:World)(x y z):
 (convert a dst (.slice (some ⟨w.heap.size,0,none⟩) 3 3)).run P (w.alloc (.cells #[.int .u8 x.toNat,.int .u8 y.toNat,.int .u8 z.toNat] e))=.ok (.string ⟨#[x,y,z]⟩) (w.alloc (.cells #[.int .u8 x.toNat,.int .u8 y.toNat,.int .u8 z.toNat] e)):=
 run_convert_bytes_back _ a dst e ⟨w.heap.size,0,none⟩ 3 [x,y,z] hs d c (by
  intro j b
  match j,b with
  |0,b=>simp[Addr.add]
  |1,b=>simp[Addr.add]
  |2,b=>simp[Addr.add])
def WV(c)(o)(h:Jh c=o)(w):Calls Tryz.prog 223 #[.int .u8 c.toNat] w (ag (.tuple #[.int .u32 (o.getD 0),.bool o.isSome]) w):=h▸zgf c w
def S3(s)(last)(w)(hs:s.size=4):Calls Tryz.prog 154 #[.string s,.bool last] w (Xg (.tuple #[.string ⟨(wg s.data.toList last).1.toArray⟩,.bool (wg s.data.toList last).2]) w):=by
 have o:s.data.toList.length=s.size:=rfl;have O:=Lib.hid o;clear o;have G:s.data.toList[2]?=some (s[2]' aa):=qe (l:=s.data.toList) bh;have H:s.data.toList[3]?=some (s[3]' aa):=qe (l:=s.data.toList) bh;obtain⟨K,F,J,p⟩:∃K,Ai s.data.toList last=K/\2<=K/\(last=false/\K=4\/last=true/\K=4/\(((s[3]' aa).toNat:Int)==61)=false\/last=true/\K=3/\(((s[3]' aa).toNat:Int)==61)=true/\(((s[2]' aa).toNat:Int)==61)=false\/last=true/\K=2/\(((s[3]' aa).toNat:Int)==61)=true/\(((s[2]' aa).toNat:Int)==61)=true):=by
  refine⟨_,rfl,by grind [I3],?_⟩;unfold Ai;rw[G,H];cases last
  ·simp
  ·by_cases a:s[3]' aa=61
   ·by_cases c:s[2]' aa=61
    ·simp_all
    ·exact .inr (.inr (.inl ⟨rfl,na,bh,by simp[<-Xb]at c⊢;omega⟩))
   ·exact .inr (.inl ⟨rfl,by simp[a],by simp[<-Xb]at a⊢;omega⟩)
 clear G H;have B:wg s.data.toList last=match Ff s.data.toList K 4 with
  |none=>([],false)
  |some n=>([UInt8.ofNat (n/65536),UInt8.ofNat (n/256),UInt8.ofNat n].take (K - 1),n % 256^(4 - K)==0):=by unfold wg;rw[F]
 generalize wg s.data.toList last=V at B⊢;have y:=Lib.hid B;clear B F;rcases p with⟨rfl,b⟩|⟨rfl,b,E⟩|⟨rfl,b,E,I⟩|⟨rfl,b,E,I⟩
 all_goals
  go_enter Tryz.func154,Tryz.ntmps154
  go_wp2
  go_loopw [6] (fun k wr=>∃j:Nat,k=.int .i64 j/\K<=j/\j<=4/\wr=w) (fun k _=>(intOf k).toNat)
  case atStart=>exact⟨4,rfl,aa,aa,rfl⟩
  case round=>
   obtain⟨j,rfl,L,M,rfl⟩:=hrel;by_cases u:j=K
   ·have z:=Lib.hid b
    rw[b]at u;subst u;clear b;go_wp2
    try rw[show((4:Nat):Int)=4 from rfl]
    try rw[show((3:Nat):Int)=3 from rfl]
    try rw[show((2:Nat):Int)=2 from rfl]
    go_loopw [7,26] (fun n D Ui=>∃(i m:Nat),i<=4/\D=.int .i64 i/\n=.int .u32 m/\Ui=wr/\Hid (Ff s.data.toList K i=some m)) (fun _ D _=>4 - (intOf D).toNat)
    case atStart=>exact⟨0,0,aa,rfl,rfl,rfl,Lib.hid rfl⟩
    case round=>
     obtain⟨i,m,Q,rfl,rfl,rfl,h⟩:=hrel;by_cases C:i<4
     ·have v:=M3 _ _ _ _ C h.out
      by_cases c:K<=i
      ·have a:Ff s.data.toList K (i+1)=some (m* 64):=by rw[Ff,h.out];simp only[if_pos c]
       have r:=Lib.hid a;clear a;have d:=c;rw[z.out]at d;clear h
       first
        |(exfalso;omega)
        |(go_wp2
          go_roundw
          case rel=>exact⟨i+1,m* 64,aa,by go_num,by go_num,trivial,r⟩
          case measure=>simp[intOf];omega)
      ·have d:=Nat.lt_of_not_le c
       rw[z.out]at d;have g:s.data.toList[i]?.getD 0=s[i]' aa:=by
        rw[qe (l:=s.data.toList) bh];rfl
       rcases q:Jh (s[i]' aa)with _|x
       ·have a:Ff s.data.toList K (i+1)=none:=by rw[Ff,h.out];simp only[if_neg c,g,q]
        have t:V=([],false):=by rw[y.out,O3 a 4 aa]
        have r:=Lib.hid t;have A:=Lib.hid q;clear a t q g h
        go_wp2_with(go_at_call 223;refine(WV _ _ A.out _).mono ?_;rintro e w' ⟨rfl,rfl⟩)
        go_ret2
        rw[r.out];exact⟨rfl,Below.refl _ _⟩
       ·have a:Ff s.data.toList K (i+1)=some (m* 64+x):=by rw[Ff,h.out];simp only[if_neg c,g,q]
        have N:=DV _ _ q;have t:=T3 m x v N;have r:=Lib.hid a;have A:=Lib.hid q;clear a q g h
        go_wp2_with(go_at_call 223;refine(WV _ _ A.out _).mono ?_;rintro e w' ⟨rfl,rfl⟩)
        go_roundw
        case rel=>exact⟨i+1,m* 64+x,aa,by go_num,by go_num,trivial,r⟩
        case measure=>simp[intOf];omega
     ·obtain rfl:i=4:=aa
      have v:=N3 _ _ _ h.out;rw[h.out]at y;simp only[]at y;have n1:=IA (m/65536);have n2:=IA (m/256);have n3:=IA m;have g:=p0 (P:=Tryz.prog) Tryz.underlying99 Tryz.underlying5 Tryz.underlying9 wr (UInt8.ofNat (m/65536)) (UInt8.ofNat (m/256)) (UInt8.ofNat m);rw[n1,n2,n3,show(((m/65536 % 256:Nat)):Int)=(m:Int)/65536 by omega,show(((m/256 % 256:Nat)):Int)=(m:Int)/256 % 256 by omega,show(((m % 256:Nat)):Int)=(m:Int) % 256 by omega]at g;clear n1 n2 n3;have q:bits .and .u32 (m:Int) 0=0:=by rw[show(0:Int)=((0:Nat):Int)from rfl,u32_and_nat m 0 aa ha,Nat.and_zero]
      have r:bits .and .u32 (m:Int) 255=((m % 256:Nat):Int):=by rw[show(255:Int)=((255:Nat):Int)from rfl,u32_and_nat m 255 aa ha,Jt m 8]
      have t:bits .and .u32 (m:Int) 65535=((m % 65536:Nat):Int):=by rw[show(65535:Int)=((65535:Nat):Int)from rfl,u32_and_nat m 65535 aa ha,Jt m 16]
      have d:(ByteArray.mk #[UInt8.ofNat (m/65536),UInt8.ofNat (m/256),UInt8.ofNat m]).size=3:=rfl;go_wp2
      (refine wp_region_quiet_below ca ca ?_;(repeat (first|go_big_quiet_skip|(go_big_quiet_want;go_big_quiet_op;first|go_big_quiet_on|(apply Exists.intro;refine⟨fun _=>?_,?_⟩;(· (fail));go_big_quiet_on))));refine wpQuiet_nil ?_;intro _ c;obtain⟨⟨dq,osq⟩,a⟩:=c;subst a)
      go_wp2
      go_ret2
      rw[y.out,z.out];refine⟨t2 (vS rfl) (vb ?_),((Below.refl _ _).alloc (Aa _) _).trans ((below_regrown _ _ _).mono ea)⟩
      first|rfl|(rw[Ir];simp;omega)
   ·obtain rfl|rfl:j=3\/j=4:=aa
    all_goals first
     |(exfalso;omega)
     |(subst b
       go_wp2
       grind [intOf])
end Go.Proofs.YtglaihdcndcmkaaGreatDoor
end
section
set_option synthInstance.maxSize 4000
namespace ya
def qf:List UInt8->Option (List UInt8)
 |[]=>some []
 |[_]=>none
 |[_,_]=>none
 |[_,_,_]=>none
 |a::b::c::d::l=>if(wg [a,b,c,d] l.isEmpty).2 then(qf l).map ((wg [a,b,c,d] l.isEmpty).1++·)else none
def jy(o:Option (List UInt8)):Go.Value:=match o with|some l=>.tuple #[.string ⟨l.toArray⟩,.int .i64 0]|none=>.tuple #[.string ⟨#[]⟩,.int .i64 7]
@[simp] theorem zgr:jy none=.tuple #[.string ⟨#[]⟩,.int .i64 7]:=rfl
@[simp] theorem zgs (l):jy (some l)=.tuple #[.string ⟨l.toArray⟩,.int .i64 0]:=rfl
theorem uO(l)(h:4<=l.length):qf l=if(wg (l.take 4) (l.drop 4).isEmpty).2 then(qf (l.drop 4)).map ((wg (l.take 4) (l.drop 4).isEmpty).1++·)else none:=by
 match l,h with
 |a::b::c::d::l,_=>rfl
theorem vO(n):∀l,l.length<=n->l.length % 4≠0->qf l=none:=by
 induction n with
 |zero=>omega
 |succ n h=>
  intro l g e
  match l,g,e with
  |[],_,e=>grind
  |[_],_,_=>rfl
  |[_,_],_,_=>rfl
  |[_,_,_],_,_=>rfl
  |a::b::c::d::l,g,e=>
   grind [qf.eq_5]
theorem LP(l)(b):(wg l b).1.length<=3:=by
 unfold wg;grind
end ya
namespace Go.Proofs.YtglaihdcndcmkaaGreatDoor
def MP(s)(last:Bool)(x)(ok:Bool)(h:wg s.data.toList last=(x,ok))(w)(hs:s.size=4):Calls Tryz.prog 154 #[.string s,.bool last] w (Xg (.tuple #[.string ⟨x.toArray⟩,.bool ok]) w):=by
 have:=S3 s last w hs;rw[h]at this;exact this
def BO(s)(w)(hs:s.size<=1000000):Calls Tryz.prog 91 #[.string s] w (Xg (jy (qf s.data.toList)) w):=by
 have n:s.data.toList.length=s.size:=rfl;have z:=Lib.hid n;clear n;by_cases D:s.size % 4=0
 ·have o:(s.size:Int) % 4=0:=aa
  go_enter Tryz.func91,Tryz.ntmps91
  go_wp2
  try rw[o]
  clear o
  go_loopw [5,6,7] (fun i _ _ wr=>∃(k:Nat)(h:List UInt8),i=.int .i64 (4* k:Nat)/\4* k<=s.size/\Bd w.heap.size w.heap.size h wr/\h.length<=3* k/\Below w.heap.size w wr/\Hid (qf s.data.toList=(qf (s.data.toList.drop (4* k))).map (h++·)))
   (fun i _ _ _=>s.size - (intOf i).toNat)
  case atStart=>exact⟨0,[],rfl,aa,Bd.fresh w,ea,(Below.refl _ _).alloc (Aa _) _,Lib.hid ea⟩
  case round=>
   obtain⟨k,h,rfl,I,j,E,a,q⟩:=hrel;by_cases fa:4* k<s.size
   ·have t:(s.extract (4* k) (4* k+4)).size=4:=by rw[dB];omega
    have r:(s.extract (4* k) (4* k+4)).data.toList=(s.data.toList.drop (4* k)).take 4:=by
     rw[Lib.extract_data,ri]
    have b:((s.data.toList.drop (4* k)).drop 4).isEmpty=decide ((4* k+4:Int)=s.size):=by
     rw[Ir];simp only[List.isEmpty_iff,decide_eq_true_iff,yd,xk,z.out];omega
    have d:=uO (s.data.toList.drop (4* k)) (by grind [Hid.out]);rw[<-r,yd]at d;rw[yd]at b;have g:=LP (s.extract (4* k) (4* k+4)).data.toList ((s.data.toList.drop (4* k+4)).isEmpty);generalize v:(s.data.toList.drop (4* k+4)).isEmpty=B at d b g;rcases u:wg (s.extract (4* k) (4* k+4)).data.toList B with⟨x,ok⟩
    rw[u]at d g;simp only[]at d g;have A:=Lib.hid u;clear u v r;have F:(4* (k:Int)+4==(s.size:Int))=B:=by rw[b,Ir];simp
    clear b;have y:(ByteArray.mk x.toArray).size=x.length:=rfl;cases ok
    ·have c:qf s.data.toList=none:=by rw[q.out,d];rfl
     have C:=Lib.hid c;clear c d
     go_wp2_with(go_at_call 154;refine(MP _ _ _ _ A.out _ t).mono ?_;rintro e G ⟨rfl,l⟩)
     go_ret2
     rw[C.out];exact⟨rfl,a.trans (l.mono a.size)⟩
    ·have C:=Lib.hid d;clear d
     go_wp2_with(first|(go_at_call 154;refine(MP _ _ _ _ A.out _ t).mono ?_;rintro e G ⟨rfl,l⟩;have j:=Bd.kept j l;have a:=a.trans (l.mono a.size))|(go_at_call 45;refine(eu _ _ _ _ _ j (by rw[y];omega)).mono ?_;rintro e H ⟨rfl,j,p,_⟩;have a:=a.trans p))
     go_roundw
     case rel=>
      refine⟨k+1,h++x,by go_num,aa,j,na,a,Lib.hid ?_⟩;rw[q.out,C.out,if_pos trivial,Option.map_map,show 4* (k+1)=4* k+4 from rfl];congr 1;grind
     case measure=>simp[intOf];omega
   ·have g:4* k=s.size:=aa
    have c:qf s.data.toList=some h:=by
     rw[q.out,Ej (by rw[z.out];omega)];simp[qf]
    have d:=Lib.hid c;clear c
    go_wp2_with(go_at_call 46;refine(BC _ _ _ _ j).mono ?_;rintro e H ⟨rfl,b,p,_⟩)
    go_ret2
    rw[d.out];exact⟨rfl,a.trans p⟩
 ·have a:=vO s.size s.data.toList (Aa _) D
  rw[a];clear a;have o:¬(s.size:Int) % 4=0:=aa
  go_enter Tryz.func91,Tryz.ntmps91
  go_wp2
  go_ret2
  exact⟨rfl,Below.refl _ _⟩
end Go.Proofs.YtglaihdcndcmkaaGreatDoor
end
section
set_option synthInstance.maxSize 4000
namespace ya
def soft(c:UInt8):Bool:=c==9||c==10||c==13||c==32
def bare(l:List UInt8):List UInt8:=l.filter fun c=>!soft c
def LH(l):(ae l).length=4:=rfl
end ya
namespace Go.Proofs.YtglaihdcndcmkaaGreatDoor
theorem Du(t)(l)(V:Option (List UInt8))(ht:t.data.toList=l)(a:qf l=V)(w:World)(hs:t.size<=1000000):Calls Tryz.prog 91 #[.string t] w (Xg (jy V) w):=by
 subst ht;subst a;exact BO t w hs
end Go.Proofs.YtglaihdcndcmkaaGreatDoor
end
section
set_option synthInstance.maxSize 4000
namespace ya
def xv(l:List Nat):List Value:=l.map fun(n:Nat)=>.int .i64 (n:Int)
theorem M9(l)(n):xv (l++[n])=xv l++[.int .i64 n]:=by simp[xv]
def Hj(B:Nat)(e:TypeId)(v:Value)(l:List Nat)(w:World):Prop:=w.ownsRow B e 1 v l.length (xv l)
theorem Hj.kept{B}{e}{v}{l}{w w'}(h:Hj B e v l w)(k:Below w.heap.size w w'):Hj B e v l w':=
 World.ownsRow.kept (row:=none) h ⟨k.os,k.tape,k.output,k.size,fun i a _=>k.block i a⟩ na
def Hj.made{B}{e}(w:World)(b:B<=w.heap.size)(a)(cs)(d:cs.size=a)(c:a<=maxLen):Hj B e (.slice (some ⟨w.heap.size,0,none⟩) 0 a) [] (w.alloc (.cells cs e)):=
 World.ownsRow_made (size:=1) w cs a b c aa
def pushn{P}{ops}{rest}{o}{a}{Q}(d:o.guard=none)(s x)(t)
 (A:o.op=.call {callee:=.builtin .append,args:=#[s,x],argTypes:=#[t,t]})
 (e) (ht:P.underlying t=some (.slice e)) (y:(P.info? e).map (fun i=>(i.zero,i.size,i.bytes))=some (some (.int .i64 0),1,8))
 (B) (w) (v) (l) (hs:a.eval s=v) (b:Hj B e v l w) (m:Int) (c:Nat) (z:m=c)
 (C:a.eval x=.slice (some ⟨w.heap.size,0,none⟩) 1 1) (j:(l.length+1)* 8<=140737488355328) (u:B<=w.heap.size)
 (h:∀k w',Hj B e k (l++[c]) w'->w.grownBy w' v.ownBlock->Below B w w'->w.heap.size<w'.heap.size->wpList P ops Q rest (a.put o.dst k) w'):
 wpList P ops Q (o::rest) a (w.alloc (.cells #[.int .i64 m] e)):=by
 subst z
 exact Gi d s x t A e (.int .i64 0) 1 8 ht y rfl ha B w v _ _ hs b [.int .i64 c] rfl (by simp[Value.oneCell']) C aa aa u
  fun g n w' D E p q r=>h _ w' (by grind [Hj,M9]) p q r
def Af(c:UInt8):List Nat:=[c.toNat/128 % 2,c.toNat/64 % 2,c.toNat/32 % 2,c.toNat/16 % 2,c.toNat/8 % 2,c.toNat/4 % 2,c.toNat/2 % 2,c.toNat % 2]
def mf(l:List UInt8):List Nat:=l.flatMap Af
def SW(l)(c):mf (l++[c])=mf l++Af c:=by grind [mf]
def bK(l):(mf l).length=8* l.length:=by
 induction l with
 |nil=>rfl
 |cons c l a=>show(Af c++mf l).length=_;rw[Ba,a];simp[Af];omega
def qB(v:Value)(l:List Nat)(w:World):Prop:=∃g o a,v=.slice (some ⟨g,o,none⟩) l.length a/\l.length<=a/\g<w.heap.size/\∀(j x:Nat),l[j]?=some x->w.cell? ⟨g,o+j,none⟩=some (.int .i64 x)
def qB.kept{v}{l}{w w'}(h:qB v l w)(k:Below w.heap.size w w'):qB v l w':=by
 obtain⟨g,o,a,rfl,c,b,hr⟩:=h;exact⟨g,o,a,rfl,c,mh b k.size,fun j x d=>(k.cell (p:=⟨g,o+j,none⟩) b).trans (hr j x d)⟩
def Mf(l:List Nat):Nat->Nat
 |0=>0
 |i+1=>2* Mf l i+(l[i]?).getD 0
def QW(c)(j)(h:j<8):(Af c).take (j+1)=(Af c).take j++[(Af c).getD j 0]:=by
 rw[oo (by simpa[Af]using h)];grind
end ya
namespace Go.Proofs.YtglaihdcndcmkaaGreatDoor
def R4:(Tryz.prog.info? 3).map (fun i=>(i.zero,i.size,i.bytes))=some (some (.int .i64 0),1,8):=ca
def VW(s)(w)(hs:s.size<=1000000):Calls Tryz.prog 239 #[.string s] w fun e w'=>∃v,e=.returned v/\Hj w.heap.size 3 v (mf s.data.toList) w'/\Below w.heap.size w w':=by
 have l:s.data.toList.length=s.size:=rfl;have F:=Lib.hid l;clear l
 go_enter Tryz.func239,Tryz.ntmps239
 go_wp2
 go_loopw [3,4,5] (fun v i _ wr=>∃(k:Nat),k<=s.size/\i=.int .i64 k/\Hj w.heap.size 3 v (mf (s.data.toList.take k)) wr/\Below w.heap.size w wr)
  (fun _ i _ _=>s.size - (intOf i).toNat)
 case atStart=>exact⟨0,Cb _,rfl,Hj.made w (Aa _) _ _ rfl ha,(Below.refl _ _).alloc (Aa _) _⟩
 case round=>
  obtain⟨k,H,rfl,d,a⟩:=hrel;have C:(mf (s.data.toList.take k)).length<=8* k:=by rw[bK,Se];omega
  by_cases fa:k<s.size
  ·have r:mf (s.data.toList.take (k+1))=mf (s.data.toList.take k)++Af s[k]:=by
    rw[hV _ _ (by grind [Hid.out]),SW];rfl
   generalize mf (s.data.toList.take k)=h at*;have B:=Lib.hid r;clear r;have D:=s[k].toNat_lt;go_wp2
   go_loopw [3,5] (fun v q Ui=>∃(j:Nat),j<=8/\q=.int .i64 ((128/2^j:Nat):Int)/\Hj w.heap.size 3 v (h++(Af s[k]).take j) Ui/\Below w.heap.size w Ui)
    (fun _ q _=>(intOf q).toNat)
   case atStart=>exact⟨0,aa,rfl,by simpa using d,a⟩
   case round=>
    clear d a;obtain⟨j,G,rfl,d,a⟩:=hrel;by_cases u:j<8
    ·obtain⟨b,t⟩:∃b,(Af s[k]).getD j 0=b:=⟨_,rfl⟩
     have o:=QW s[k] j u;rw[t]at o;have p:=Lib.hid (show h++(Af s[k]).take (j+1)=h++(Af s[k]).take j++[b] by rw[o,vc]);clear o;have y:((h++(Af s[k]).take j).length+1)* 8<=140737488355328:=by
      rw[Ba,Se];omega
     have A:=Lib.hid t;clear t;have x:=Lib.hid y;clear y;obtain rfl|rfl|rfl|rfl|rfl|rfl|rfl|rfl:j=0\/j=1\/j=2\/j=3\/j=4\/j=5\/j=6\/j=7:=aa
     all_goals
      go_wp2_with(at_builtin;refine pushn ra _ _ _ ra 3 Tryz.underlying151 R4 w.heap.size wr _ _ ra d _ b (by rw[<-A.out];simp[Af]) ra x.out a.size ?_;intro I J n E g z)
      go_roundw
      case rel=>
       have c:=n;rw[<-p.out]at c
       first|exact⟨1,aa,by go_num,c,a.trans g⟩|exact⟨2,aa,by go_num,c,a.trans g⟩|exact⟨3,aa,by go_num,c,a.trans g⟩|exact⟨4,aa,by go_num,c,a.trans g⟩|exact⟨5,aa,by go_num,c,a.trans g⟩|exact⟨6,aa,by go_num,c,a.trans g⟩|exact⟨7,aa,by go_num,c,a.trans g⟩|exact⟨8,aa,by go_num,c,a.trans g⟩
      case measure=>simp[intOf]
    ·obtain rfl:j=8:=aa
     have c:h++(Af s[k]).take 8=mf (s.data.toList.take (k+1)):=by rw[B.out];rfl
     rw[c]at d;clear c;go_wp2;go_roundw
     case rel=>exact⟨k+1,aa,by go_num,d,a⟩
     case measure=>simp[intOf];omega
  ·obtain rfl:k=s.size:=aa
   rw[uk ea]at d;go_wp2;go_ret;simp_all
end Go.Proofs.YtglaihdcndcmkaaGreatDoor
end
section
set_option synthInstance.maxSize 4000
namespace ya
def zcP(l)(a:∀x∈l,x<=1)(i):Mf l i<2^i:=by
 induction i with
 |zero=>simp[Mf]
 |succ i b=>
  have:(l[i]?).getD 0<=1:=by
   rcases h:l[i]? with _|x
   ·simp
   ·exact a x (nh h)
  grind [Mf.eq_2]
def DU(l)(b:∀x∈l,x<=1)(i)(a:i<=6):Mf l i<64:=mh (zcP l b i) (Gr (n:=2) ha a)
def sf(l:List Nat):List UInt8:=if h:0<l.length then lc (Mf l 6)::sf (l.drop 6)else[]
termination_by l.length
decreasing_by grind
def CD{l}(h:0<l.length):sf l=lc (Mf l 6)::sf (l.drop 6):=by rw[sf,dif_pos h]
def DD:sf []=[]:=by grind [sf.eq_1]
def p1(n):∀l,l.length<=n->(sf l).length<=l.length:=by
 induction n<;>grind [sf.eq_1]
def RW(l):∀x∈mf l,x<=1:=by
 intro x h;unfold mf at h;obtain⟨c,_,a⟩:=List.mem_flatMap.1 h;simp[Af]at a;omega
def dl(l:List UInt8):List UInt8:=l++List.replicate ((4 - l.length % 4) % 4) 61
def d1:∀i:Fin 64,((⟨Fu.toArray⟩:ByteArray).extract i.1 (i.1+1)).data.toList=[lc i.1]:=Fb
end ya
namespace Go.Proofs.YtglaihdcndcmkaaGreatDoor
def m1(w):Calls Tryz.prog 238 #[] w (ag (.string ⟨Fu.toArray⟩) w):=by
 go_enter Tryz.func238,Tryz.ntmps238
 go_wp2;go_ret;exact⟨rfl,rfl⟩
def JO(g o d n)(l)(p:n=l.length)(w)(hr:∀(j x:Nat),l[j]?=some x->w.cell? ⟨g,o+j,none⟩=some (.int .i64 x))(h:∀x∈l,x<=1)(C:n<=1000000000):
 Calls Tryz.prog 240 #[.slice (some ⟨g,o,none⟩) n d] w (ag (.string ⟨#[lc (Mf l 6)]⟩) w):=by
 have q:=Lib.hid hr;clear hr;have c:=Lib.hid h;clear h;have A:=Lib.hid p;clear p;have b:=d1 ⟨Mf l 6,DU l c.out 6 ha⟩;have t:=Lib.hid b;clear b
 go_enter Tryz.func240,Tryz.ntmps240
 go_wp2
 go_loopw [3,4] (fun m i wr=>∃(k:Nat),k<=6/\i=.int .i64 k/\m=.int .i64 (Mf l k)/\wr=w)
  (fun _ i _=>6 - (intOf i).toNat)
 case atStart=>exact⟨0,aa,rfl,rfl,rfl⟩
 case round=>
  obtain⟨k,v,rfl,rfl,rfl⟩:=hrel;have u:=DU l c.out k v;by_cases B:k<6
  ·by_cases y:k<n
   ·obtain⟨x,b⟩:∃x,l[k]?=some x:=⟨_,qe (by grind [Hid.out])⟩
    have Ub:=q.out k x b;have z:=c.out x (nh b);have a:((Mf l (k+1):Nat):Int)=2* Mf l k+x:=by rw[Mf,b];simp
    have r:=Lib.hid a;clear a b;go_wp2
    grind [Hid.out,intOf]
   ·have a:((Mf l (k+1):Nat):Int)=2* Mf l k:=by rw[Mf,Qf (by grind [Hid.out])];simp
    have r:=Lib.hid a;clear a;go_wp2;go_roundw
    case rel=>grind [Hid.out]
    grind [intOf]
  ·obtain rfl:k=6:=aa
   have a:(ByteArray.mk Fu.toArray).size=64:=rfl
   go_wp2_with(go_at_call 238;refine(m1 _).mono ?_;rintro e w' ⟨rfl,rfl⟩)
   go_ret;exact⟨r1 (vS t.out),rfl⟩
theorem zak{B}{e}{v}{l}{w}(h:Hj B e v l w):(v=.slice none 0 0/\l=[])\/∃g a,v=.slice (some ⟨g,0,none⟩) l.length a/\l.length<=a/\∀(j x:Nat),l[j]?=some x->w.cell? ⟨g,0+j,none⟩=some (.int .i64 x):=by
 rcases h.2 with⟨o,i⟩|⟨g,a,b,rfl,k,n,c,_⟩
 ·grind
 ·refine .inr ⟨g,a,rfl,c,fun j x d=>?_⟩
  have:=World.ownsRow.cells h (g:=g) rfl j (.int .i64 x) (by simp[xv,d])
  grind [Addr.add]
def pW(g o k):(⟨g,o,none⟩:Addr).add k=⟨g,o+k,none⟩:=by grind [Addr.add]
def X1(s)(w)(hs:s.size<=1000000):Calls Tryz.prog 177 #[.string s] w (Xg (.string ⟨(dl (sf (mf s.data.toList))).toArray⟩) w):=by
 have A:(mf s.data.toList).length=8* s.size:=bK _;have y:=RW s.data.toList;have hds:=p1 (8* s.size) (mf s.data.toList) aa;have p:=VW s w hs;generalize mf s.data.toList=L at*;have F:=Lib.hid p;have HBZ:=Lib.hid y;clear p y
 go_enter Tryz.func177,Tryz.ntmps177
 go_wp2_with(go_at_call 239;refine F.out.mono ?_;rintro e O ⟨v,rfl,C,I⟩)
 obtain⟨a0,n0,k,rfl,B,hc0,D⟩:∃a0 n0 k,v=.slice a0 n0 k/\n0=L.length/\n0<=k/\(n0=0\/∃g o,a0=some ⟨g,o,none⟩/\∀(j x:Nat),L[j]?=some x->O.cell? ⟨g,o+j,none⟩=some (.int .i64 x)):=by
  grind [zak]
 clear C;have X:=Lib.hid D;clear D;have J:n0<=8000000:=aa
 have W:=Lib.hid B;clear B A
 go_loopw [3,4] (fun v t wr=>∃(M:List Nat)(c:List UInt8)(a:Option Addr)(n r:Nat),v=.slice a n r/\t=.string ⟨c.toArray⟩/\wr=O/\n=M.length/\n<=r/\c.length+n<=8000000/\Hid (∀x∈M,x<=1)/\Hid (sf L=c++sf M)/\Hid (n=0\/∃g o,a=some ⟨g,o,none⟩/\∀(j x:Nat),M[j]?=some x->O.cell? ⟨g,o+j,none⟩=some (.int .i64 x)))
  (fun v _ _=>match v with| .slice _ n _=>n|_=>0)
 case atStart=>grind [Hid.out]
 case round=>
  obtain⟨M,c,a,n,r,rfl,rfl,rfl,T,Q,J,G,hdZ,hr⟩:=hrel;by_cases fa:0<n
  ·rcases hr.out with h|⟨g,o,rfl,Ub⟩
   ·omega
   have q:=CD (l:=M) aa;have S:min 6 ((n:Nat):Int)=((min 6 n:Nat):Int):=aa
   have Y:1<=min 6 n:=aa
   have Z:min 6 n<=n:=aa
   have hK3:min 6 n<=6:=aa
   have E:min 6 n=6\/min 6 n=n:=aa
   have N:=Lib.hid T;clear T;generalize min 6 n=K at*;have z:=Lib.hid q;clear q hr;have d:=Lib.hid Ub;clear Ub;have P:=pW g o K;have U:(ByteArray.mk c.toArray).size=c.length:=rfl;have V:(ByteArray.mk #[lc (Mf M 6)]).size=1:=rfl;by_cases H:r=K
   ·subst H
    go_wp2_with(go_at_call 240;refine(JO g o _ n M N.out _ d.out G.out aa).mono ?_;rintro e w' ⟨rfl,rfl⟩)
    grind [ByteArray.toList_data_append,Lib.hid,Hid.out]
   ·go_wp2_with(go_at_call 240;refine(JO g o _ n M N.out _ d.out G.out aa).mono ?_;rintro e w' ⟨rfl,rfl⟩)
    go_roundw
    case rel=>
     refine⟨M.drop 6,c++[lc (Mf M 6)],_,_,_,rfl,vS ra,trivial,?_,aa,?_,Lib.hid (fun x hxZ=>G.out x (List.mem_of_mem_drop hxZ)),Lib.hid (by grind [Hid.out]),Lib.hid ?_⟩
     ·grind [Hid.out]
     ·grind
     ·rcases E with h6Z|hKn
      ·refine .inr ⟨g,o+K,ra,fun j x R=>?_⟩
       rw[kg]at R;have:=d.out _ _ R
       grind
      omega
    grind
  ·have H:M=[]:=qz aa
   have P:sf L=c:=by rw[hdZ.out,H,DD];simp
   have R:=Lib.hid P;clear P;have z:dl (sf L)=c++List.replicate ((4 - c.length % 4) % 4) 61:=by rw[R.out];rfl
   have U:=Lib.hid z;clear z;go_wp2
   go_loopw [4] (fun t Ui=>∃(i:Nat)(u:ByteArray),i<=(4 - c.length % 4) % 4/\t=.string u/\u.size=c.length+i/\Hid (u.data.toList=c++List.replicate i 61)/\Ui=wr)
    (fun t _=>match t with| .string b=>c.length+4 - b.size|_=>0)
   case atStart=>exact⟨0,_,aa,rfl,rfl,Lib.hid ea,rfl⟩
   case round=>
    obtain⟨i,u,Z,rfl,Y,E,rfl⟩:=hrel;by_cases V:i<(4 - c.length % 4) % 4
    ·have N:¬((c.length:Int)+i) % 4=0:=aa
     go_wp2;go_roundw
     case rel=>exact⟨i+1,_,aa,rfl,by rw[Tp,Y];rfl,Lib.hid (by rw[mn,E.out,List.replicate_succ',vc]),trivial⟩
     case measure=>
      have d:(ByteArray.mk #[61]).size=1:=rfl;simp only[Tp,d];omega
    ·have N:((c.length:Int)+i) % 4=0:=aa
     have q:i=(4 - c.length % 4) % 4:=aa
     have d:u.data.toList=dl (sf L):=by rw[E.out,U.out,q]
     have S:=Lib.hid d;clear d q;go_wp2;go_ret;exact⟨r1 (vS S.out),I⟩
end Go.Proofs.YtglaihdcndcmkaaGreatDoor
end
namespace ya
def GC:∀a:UInt8,32* (a.toNat/128 % 2)+16* (a.toNat/64 % 2)+8* (a.toNat/32 % 2)+4* (a.toNat/16 % 2)+2* (a.toNat/8 % 2)+a.toNat/4 % 2=a.toNat/4:=Fb
def HC:∀a:UInt8,2* (a.toNat/2 % 2)+a.toNat % 2=a.toNat % 4:=aa
def cK:∀a:UInt8,8* (a.toNat/128 % 2)+4* (a.toNat/64 % 2)+2* (a.toNat/32 % 2)+a.toNat/16 % 2=a.toNat/16:=Fb
def dK:∀a:UInt8,8* (a.toNat/8 % 2)+4* (a.toNat/4 % 2)+2* (a.toNat/2 % 2)+a.toNat % 2=a.toNat % 16:=aa
def TW:∀a:UInt8,2* (a.toNat/128 % 2)+a.toNat/64 % 2=a.toNat/64:=Fb
def UW:∀a:UInt8,32* (a.toNat/32 % 2)+16* (a.toNat/16 % 2)+8* (a.toNat/8 % 2)+4* (a.toNat/4 % 2)+2* (a.toNat/2 % 2)+a.toNat % 2=a.toNat % 64:=aa
def FC(c)(l):mf (c::l)=Af c++mf l:=rfl
def wS(a b c)(l):num (a::b::c::l) 3=(a.toNat* 256+b.toNat)* 256+c.toNat:=by simp[num]
def uS(a b):num [a,b] 3=(a.toNat* 256+b.toNat)* 256:=by simp[num]
def tS(a):num [a] 3=a.toNat* 256* 256:=by simp[num]
def Cq(a b c d e g)(l):sf (a::b::c::d::e::g::l)=lc (32* a+16* b+8* c+4* d+2* e+g)::sf l:=by
 rw[CD ea]
 grind [Mf]
def o1(a b c)(l):sf (mf (a::b::c::l))=ae (a::b::c::l)++sf (mf l):=by
 have n:=a.toNat_lt;have o:=b.toNat_lt;have p:=c.toNat_lt;rw[FC,FC,FC];unfold Af;simp only[Ha,Ra];rw[Cq,Cq,Cq,Cq];unfold ae;rw[if_neg ea,if_neg ea,wS];have d:((a.toNat* 256+b.toNat)* 256+c.toNat)/262144 % 64=a.toNat/4:=aa
 have e1:((a.toNat* 256+b.toNat)* 256+c.toNat)/4096 % 64=16* (a.toNat % 4)+b.toNat/16:=aa
 have e2:((a.toNat* 256+b.toNat)* 256+c.toNat)/64 % 64=4* (b.toNat % 16)+c.toNat/64:=aa
 have e3:((a.toNat* 256+b.toNat)* 256+c.toNat) % 64=c.toNat % 64:=aa
 rw[d,e1,e2,e3];have e:=GC a;have g:=HC a;have h:=cK b;have i:=dK b;have j:=TW c;have k:=UW c;simp only[Ha,Ra,Dr];refine⟨by congr 1,by congr 1;omega,by congr 1;omega,by congr 1,trivial⟩
def KO(l)(h:0<l.length)(a:l.length<=6):sf l=[lc (Mf l 6)]:=by
 rw[CD h,Ej a,DD]
def zaq(x y)(h:x.length=4):dl (x++y)=x++dl y:=by
 grind [dl]
def zeQ(a):dl (sf (mf [a]))=ae [a]:=by
 have g:=a.toNat_lt;have c:=GC a;have d:=HC a;show dl (sf (Af a))=_;unfold Af;rw[Cq,KO _ ea ea];have e:Mf [a.toNat/2 % 2,a.toNat % 2] 6=16* (a.toNat % 4):=by simp[Mf];omega
 rw[e,c];unfold ae;rw[if_pos ea,if_pos ea,tS];have b:a.toNat* 256* 256/262144 % 64=a.toNat/4:=aa
 have e1:a.toNat* 256* 256/4096 % 64=16* (a.toNat % 4):=aa
 rw[b,e1];rfl
def zeR(a b):dl (sf (mf [a,b]))=ae [a,b]:=by
 have k:=a.toNat_lt;have l:=b.toNat_lt;have g:=GC a;have h:=HC a;have i:=cK b;have j:=dK b;show dl (sf (Af a++Af b))=_;unfold Af;simp only[Ha,Ra];rw[Cq,Cq,KO _ ea ea];have e:Mf [b.toNat/8 % 2,b.toNat/4 % 2,b.toNat/2 % 2,b.toNat % 2] 6=4* (b.toNat % 16):=by simp[Mf];omega
 rw[e,g];unfold ae;rw[if_neg ea,if_pos ea,uS];have c:(a.toNat* 256+b.toNat)* 256/262144 % 64=a.toNat/4:=aa
 have e1:(a.toNat* 256+b.toNat)* 256/4096 % 64=16* (a.toNat % 4)+b.toNat/16:=aa
 have e2:(a.toNat* 256+b.toNat)* 256/64 % 64=4* (b.toNat % 16):=aa
 have d:32* (a.toNat/2 % 2)+16* (a.toNat % 2)+8* (b.toNat/128 % 2)+4* (b.toNat/64 % 2)+2* (b.toNat/32 % 2)+b.toNat/16 % 2=16* (a.toNat % 4)+b.toNat/16:=aa
 rw[c,e1,e2,d];rfl
def T1(n):∀l,l.length<=n->dl (sf (mf l))=Na l:=by
 induction n with
 |zero=>
  intro l h;have:l=[]:=qz aa;subst this;show dl (sf [])=_;rw[DD];rfl
 |succ n d=>
  intro l h
  match l,h with
  |[],_=>grind
  |[a],_=>exact zeQ a
  |[a,b],_=>exact zeR a b
  |a::b::c::l,h=>
   rw[o1,zaq _ _ rfl,d l na,RO (a::b::c::l) ea];rfl
def zfr:∀i:Fin 64,Jh (lc i.1)=some i.1:=Fb
def mo{n}(h:n<64):Jh (lc n)=some n:=zfr ⟨n,h⟩
def f1:∀i:Fin 64,lc i.1≠61:=Fb
def GO{n}(h:n<64):lc n≠61:=f1 ⟨n,h⟩
def L3{a b c d}{e g h i}(j:Jh a=some e)(k:Jh b=some g)(l:Jh c=some h)(n:Jh d=some i):
 Ff [a,b,c,d] 4 4=some (((e* 64+g)* 64+h)* 64+i):=by simp[Ff,j,k,l,n]
def K3{a b c k}{d e g}(h:Jh a=some d)(i:Jh b=some e)(j:Jh c=some g):
 Ff [a,b,c,k] 3 4=some (((d* 64+e)* 64+g)* 64):=by simp[Ff,h,i,j]
def J3{a b h i}{c d}(e:Jh a=some c)(g:Jh b=some d):
 Ff [a,b,h,i] 2 4=some (((c* 64+d)* 64)* 64):=by simp[Ff,e,g]
theorem vD(x l):qf (ae x++l)=if(wg (ae x) l.isEmpty).2 then(qf l).map ((wg (ae x) l.isEmpty).1++·)else none:=rfl
def xt(a)(n:Nat)(h:n % 256=a.toNat):UInt8.ofNat n=a:=by
 apply Xb.1;simp[h]
theorem R3(a b c)(l)(last):wg (ae (a::b::c::l)) last=([a,b,c],true):=by
 have j:=a.toNat_lt;have k:=b.toNat_lt;have o:=c.toNat_lt;have g:ae (a::b::c::l)=[lc (num (a::b::c::l) 3/262144 % 64),lc (num (a::b::c::l) 3/4096 % 64),lc (num (a::b::c::l) 3/64 % 64),lc (num (a::b::c::l) 3 % 64)]:=by
  unfold ae;rw[if_neg ea,if_neg ea]
 rw[g,wS];generalize i:(a.toNat* 256+b.toNat)* 256+c.toNat=N;have d:Ai [lc (N/262144 % 64),lc (N/4096 % 64),lc (N/64 % 64),lc (N % 64)] last=4:=by
  unfold Ai;rw[if_neg];intro h;exact GO (n:=N % 64) aa (by simpa using h.2)
 unfold wg;rw[d,L3 (mo aa) (mo aa) (mo aa) (mo aa)];have e:((N/262144 % 64* 64+N/4096 % 64)* 64+N/64 % 64)* 64+N % 64=N:=aa
 simp only[e];rw[xt a (N/65536) aa,xt b (N/256) aa,xt c N aa]
 grind
def Q3(a b):wg (ae [a,b]) true=([a,b],true):=by
 have i:=a.toNat_lt;have j:=b.toNat_lt;have d:ae [a,b]=[lc (num [a,b] 3/262144 % 64),lc (num [a,b] 3/4096 % 64),lc (num [a,b] 3/64 % 64),61]:=by
  unfold ae;rw[if_neg ea,if_pos ea]
 rw[d,uS];generalize g:(a.toNat* 256+b.toNat)* 256=N;have c:Ai [lc (N/262144 % 64),lc (N/4096 % 64),lc (N/64 % 64),61] true=3:=by
  unfold Ai;rw[if_pos ea,if_neg];intro h;exact GO (n:=N/64 % 64) aa na
 unfold wg;rw[c,K3 (mo aa) (mo aa) (mo aa)];have e:((N/262144 % 64* 64+N/4096 % 64)* 64+N/64 % 64)* 64=N:=aa
 simp only[e];rw[xt a (N/65536) aa,xt b (N/256) aa];simp;omega
def P3(a):wg (ae [a]) true=([a],true):=by
 have g:=a.toNat_lt;have c:ae [a]=[lc (num [a] 3/262144 % 64),lc (num [a] 3/4096 % 64),61,61]:=by
  unfold ae;rw[if_pos ea,if_pos ea]
 rw[c,tS];generalize d:a.toNat* 256* 256=N;have b:Ai [lc (N/262144 % 64),lc (N/4096 % 64),61,61] true=2:=by
  unfold Ai;rw[if_pos ea,if_pos ea]
 unfold wg;rw[b,J3 (mo aa) (mo aa)];have e:((N/262144 % 64* 64+N/4096 % 64)* 64)* 64=N:=aa
 simp only[e];rw[xt a (N/65536) aa];simp;omega
def N0(n):∀l,l.length<=n->qf (Na l)=some l:=by
 induction n with
 |zero=>
  intro l h;have:l=[]:=qz aa;subst this;rfl
 |succ n d=>
  intro l h
  match l,h with
  |[],_=>rfl
  |[a],_=>show qf (ae [a]++[])=_;rw[vD];rw[show([]:List UInt8).isEmpty=true from rfl,P3];rfl
  |[a,b],_=>show qf (ae [a,b]++[])=_;rw[vD];rw[show([]:List UInt8).isEmpty=true from rfl,Q3];rfl
  |a::b::c::l,h=>
   grind [Na,vD,R3]
def ig(dec:ba->ba×Bool)(q:ba×Bool×Bool)(w:ba):ba×Bool×Bool:=
 if w=[]then q else(q.1++(if q.2.1&& !(q.2.2&&(dec w).2)then[32]else[])++(dec w).1,true,(dec w).2)
def xj(dec:ba->ba×Bool)(rest:ba):ba:=((db 32 rest).foldl (ig dec) ([],false,false)).1
def rf(w:ba):ba×Bool:=
 if Kd.isPrefixOf w&&[63,61].isSuffixOf (w.drop 10)then
  match qf ((w.drop 10).take ((w.drop 10).length - 2))with
  |some t=>if Sh t then(t,true)else(w,false)
  |none=>(w,false)
 else(w,false)
def Ci(v:ba):ba:=[88,58,32]++v++[13,10]
def nc(c:UInt8):Bool:=c==32||c==9
def Tm(c:UInt8):Bool:=(65<=c&&c<=90)||(97<=c&&c<=122)||(48<=c&&c<=57)||c==45
def ji(l:List UInt8):Bool:=!l.isEmpty&&decide (l.length<=32)&&l.all Tm
def Ki(c:UInt8):Bool:=c==9||(32<=c&&c<=126)
def Fy(c:UInt8):UInt8:=if 65<=c&&c<=90 then c+32 else c
def ie(l:List UInt8):List UInt8:=l.map Fy
def pk(l:List UInt8):List UInt8:=(l.reverse.dropWhile nc).reverse
def trimB(l:List UInt8):List UInt8:=pk (l.dropWhile nc)
def Ig:List UInt8->Option Nat
 |[]=>none
 |c::r=>if c=13/\r.head?=some 10 then some 0 else(Ig r).map (·+1)
theorem js:∀{l}{k},Ig l=some k->k+2<=l.length
 |c::r,k,h=>by
  rw[Ig]at h;split at h
  ·rename_i a
   cases h
   match r,a with
   |d::r,_=>simp
  ·rcases hr:Ig r with _|j
   ·grind
   ·rw[hr]at h
    have:=js hr
    grind
theorem JQ:∀l,Go.Lib.index l [13,10]=match Ig l with|some k=>(k:Int)|none=>-1
 |[]=>rfl
 |c::r=>by
  rw[Go.Lib.index,JQ r,Ig];have a:List.isPrefixOf [13,10] (c::r)=decide (c=13/\r.head?=some 10):=by
   match r with
   |[]=>grind
   |d::r=>grind
  grind
theorem oO(l):Go.Lib.cut l [13,10]=match Ig l with|some k=>(l.take k,l.drop (k+2),true)|none=>(l,[],false):=by
 grind [Go.Lib.cut,JQ]
def th(b:UInt8):List UInt8->Option Nat
 |[]=>none
 |c::r=>if c=b then some 0 else(th b r).map (·+1)
theorem OC{b}:∀{l}{k},th b l=some k->k<l.length
 |c::r,k,h=>by
  rw[th]at h;split at h
  ·grind
  ·rcases hr:th b r with _|j
   ·grind
   ·rw[hr]at h
    have:=OC hr
    grind
theorem IQ(b):∀l,Go.Lib.index l [b]=match th b l with|some k=>(k:Int)|none=>-1
 |[]=>rfl
 |c::r=>by
  rw[Go.Lib.index,IQ b r,th]
  grind
theorem pD(b)(l):Go.Lib.cut l [b]=match th b l with|some k=>(l.take k,l.drop (k+1),true)|none=>(l,[],false):=by
 grind [Go.Lib.cut,IQ]
abbrev kf:=List UInt8×List UInt8
def ze(st:List kf×Bool)(l:List UInt8):Option (List kf×Bool):=
 if l.all Ki=false then none
 else if(l.head?.map nc).getD false then
  (match st.1.getLast? with
   |none=>none
   |some p=>some (st.1.dropLast++[(p.1,p.2++l)],st.2||decide (998<l.length)))
 else match th 58 l with
  |none=>none
  |some k=>if ji (l.take k)then some (st.1++[(l.take k,l.drop (k+1))],st.2||decide (998<l.length))else none
def Uf(l:List UInt8)(at_:Nat):List (List UInt8×Nat):=
 match h:Ig l with
 |none=>[]
 |some k=>(l.take k,at_+k+2)::if k=0 then[]else Uf (l.drop (k+2)) (at_+k+2)
termination_by l.length
decreasing_by have:=js h;grind
theorem Uu{l}{a}(h:Ig l=none):Uf l a=[]:=by
 grind [Uf.eq_1]
def Oy{l}{a k}(h:Ig l=some k):Uf l a=(l.take k,a+k+2)::if k=0 then[]else Uf (l.drop (k+2)) (a+k+2):=by
 grind [Uf.eq_1]
def M5(n):∀(l)(a),l.length<=n->∀x∈Uf l a,2<=x.2:=by
 induction n with
 |zero=>
  intro l a h x b;rw[qz (l:=l) aa,Uu rfl]at b;cases b
 |succ n d=>
  intro l a h x b;rcases c:Ig l with _|k
  ·grind [Uu]
  ·have:=js c
   rw[Oy c]at b
   grind
def L5(n):∀(l)(a),l.length<=n->(Uf l a).length<=l.length:=by
 induction n with
 |zero=>
  intro l a h;rw[qz (l:=l) aa,Uu rfl];simp
 |succ n c=>
  intro l a h;rcases b:Ig l with _|k
  ·grind [Uu]
  ·have:=js b
   rw[Oy b,ua]
   grind
def zj:List (List UInt8×Nat)->List kf×Bool->Option (List kf×Bool×Nat)
 |[],_=>none
 |(b,a)::r,st=>if b=[]then some (st.1,st.2,a)else match ze st b with|none=>none|some st'=>zj r st'
def Ud(a:List (List UInt8))(st:List kf×Bool):Option (List kf×Bool):=a.foldlM ze st
def AR(a)(l)(st):Ud (a++[l]) st=(Ud a st).bind fun s=>ze s l:=by
 unfold Ud;simp
theorem cU:∀(xs r)(st st'),(∀x∈xs,x.1≠[])->Ud (xs.map (·.1)) st=some st'->zj (xs++r) st=zj r st'
 |[],r,st,st',_,h=>by grind [Ud]
 |(i,a)::xs,r,st,st',b,h=>by
  have e:=b (i,a) ea;rw[gc,Ud,Ot]at h;obtain⟨s1,c,d⟩:=qb h;rw[Ha,zj,if_neg e,c];exact cU xs r s1 st' (fun x g=>b x (by simp[g])) d
inductive Split where
 | form
 | long
 | ok (l:List kf) (body:Nat)
def ih(l:List UInt8):Split:=match zj (Uf l 0) ([],false)with
 |none=>.form
 |some (_,true,_)=>.long
 |some (f,false,b)=>.ok (f.map fun p=>(p.1,trimB p.2)) b
variable {lib:Callee}
def Mr(lib:Callee):Prop:=∀s:ba,s.length<=1000000->lib 91 [.flat (.string (S s))] [] []=some ((match qf s with|some t=>[.flat (.string (S t)),.flat (.int .i64 0)]|none=>[.flat (.string (S [])),.flat (.int .i64 7)]),false,[],[])
def O0(H:Mr lib)(s)(h:s.length<=1000000):da code lib 91 [.flat (.string (S s))] [] []=some ((match qf s with|some t=>[.flat (.string (S t)),.flat (.int .i64 0)]|none=>[.flat (.string (S [])),.flat (.int .i64 7)]),false,[],[]):=Ef ha ca (H s h)
def tO(n):∀l t:ba,l.length<=n->qf l=some t->t.length<=l.length:=by
 induction n with
 |zero=>
  intro l t h a;have:l=[]:=qz aa;subst this;cases a;simp
 |succ n a=>
  grind [uO,Option.map_eq_some_iff,LP,vO]
theorem zO(w):(rf w).1.length<=w.length:=by
 unfold rf;split
 ·split
  ·rename_i t ht
   split
   ·have:=tO _ _ _ (Aa _) ht
    grind
   simp
  simp
 simp
def X0(g:Xi lib)(i:jm lib)(e:Mr lib)(s)(hs:s.length<=1000000):da code lib 43 [.flat (.string (S s))] [] []=some ([.flat (.string (S (rf s).1)),.flat (.bool (rf s).2)],false,[],[]):=by
 have e1:=tD g s Kd aa;have e2:=fun t(h:t.length<=1000000000)=>uD i t [63,61] h
 have e3:=fun t h=>O0 e t h
 have e4:=fun t(h:t.length<=1000000)=>OQ (lib:=lib) t (by grind [Sm])
 refine la CY (qa rfl) ?_;unfold rf;have hf:Kd.length=10:=rfl;rw[hf]at e1;by_cases a:Kd.isPrefixOf s=true
 ·rw[if_pos a,a]at e1
  rw[a,od];have k:(s.drop 10).length<=s.length:=by rw[fc];omega
  obtain⟨x,l⟩:∃x,s.drop 10=x:=⟨_,rfl⟩;rw[l]at e1 k⊢;have e2:=e2 x aa;by_cases b:([63,61]:ba).isSuffixOf x=true
  ·rw[if_pos b,b]at e2
   rw[if_pos b];have d:(x.take (x.length - 2)).length<=x.length:=by rw[Se];omega
   have e3:=e3 (x.take (x.length - 2)) aa;have j:([63,61]:ba).length=2:=rfl;rw[j]at e2;obtain⟨y,n⟩:∃y,x.take (x.length - 2)=y:=⟨_,rfl⟩;rw[n]at e2 e3 d⊢;cases c:qf y with
   |none=>
    rw[c]at e3;unfold Kd at e1;exact sa
   |some t=>
    have ht:=tO _ _ _ (Aa _) c;rw[c]at e3;have e4:=e4 t aa;unfold Kd at e1;dsimp only at e3⊢;rcases Nh (Sh t)with h|h
    ·rw[h]at e4⊢
     exact sa
    ·rw[h]at e4⊢
     exact sa
  ·have c:=vo.2 b
   rw[if_neg b,c]at e2;rw[if_neg b];unfold Kd at e1;exact sa
 ·have a':=vo.2 a
  rw[if_neg a,a']at e1;rw[a',De];have e2:=e2 s aa;unfold Kd at e1;exact sa
def aX(c):da code lib 86 [.flat (.int .u8 c.toNat)] [] []=some ([.flat (.bool (nc c))],false,[],[]):=by
 refine la BY (qa rfl) ?_;have e:=(by decide+kernel:∀c:UInt8,nc c=(decide (c.toNat=32)||decide (c.toNat=9))) c;rw[e];obtain⟨x,h⟩:∃x,c.toNat=x:=⟨_,rfl⟩;rw[h];by_cases d:x=32
 ·subst d
  exact sa
 ·by_cases g:x=9
  ·subst g
   exact sa
  ·have a:=eq_false d
   have b:=eq_false g;simp only[a,b,decide_false,pn];exact sa
def ur(l:ba)(k:Nat):Bool:=Tb l [13,10] k&&(match l[k+2]? with|some d=>nc d|none=>false)
def Zj(l:ba)(q:ba×Nat):(ba×Nat) ⊕ Option ba:=
 match l[q.2]? with
 |none=>.inr (some q.1)
 |some c=>if ur l q.2 then .inl (q.1,q.2+2)
  else if c=13\/c=10 then .inr none else .inl (q.1++[c],q.2+1)
def Ln(l:ba):Option ba:=Mb (Zj l) none (l.length+1) ([],0)
def d9(l)(h:∀c∈l,c≠13/\c≠10):Ln l=some l:=by
 have b:∀(n k:Nat),k<=l.length->l.length - k<n->Mb (Zj l) none n (l.take k,k)=some l:=by
  intro n
  induction n with
  |zero=>omega
  |succ n g=>
   intro k d e;by_cases fa:k<l.length
   ·grind [Tb,List.drop_eq_getElem_cons,Zj,ur,ef]
   ·have a:k=l.length:=aa
    subst a;have ht:Zj l (l.take l.length,l.length)=.inr (some l):=by
     unfold Zj;simp only[Qf (Aa _),cm]
    rw[ad ht]
 exact b (l.length+1) 0 (Cb _) aa
def FR{l}(a c)(b:a.2<=l.length/\a.1.length<=a.2)(h:Zj l a=.inl c):(c.2<=l.length/\c.1.length<=c.2)/\l.length - c.2<l.length - a.2:=by
 grind [Zj,ur]
def X8(F:sc lib)(D:Sb lib)(G:jm lib)(s:ba)(hs:s.length<=100000000):da code lib 38 [.flat (.string (S s))] [] []=some ((match(if([13,10]:ba).isSuffixOf s then Ln (s.take (s.length - 2))else none)with|some x=>[.flat (.string (S x)),.flat (.bool true)]|none=>[.flat (.string (S [])),.flat (.bool false)]),false,[],[]):=by
 have e1:=uD G s [13,10] aa;refine la DY (qa rfl) ?_;by_cases b:([13,10]:ba).isSuffixOf s=true
 case neg=>
  have e:=vo.2 b;rw[if_neg b,e]at e1;rw[if_neg b];exact sa
 rw[if_pos b,b]at e1;rw[if_pos b];have I:([13,10]:ba).length=2:=rfl;rw[I]at e1;have C:(s.take (s.length - 2)).length<=100000000:=by rw[Se];omega
 obtain⟨l,J⟩:∃l,s.take (s.length - 2)=l:=⟨_,rfl⟩;rw[J]at e1 C⊢;have A:∀(x:UInt8)(u:Bool)(out:ba),out.length+1<=za->da code lib 44 [.ptr 0 0,.flat (.int .u8 x.toNat)] [(101,bld u 0 out [])] [.cell 0 1]=some ([.flat .nilIface],false,[(101,bld true 0 (out++[x]) [])],[.cell 0 1]):=fun x u out h=>Cw (lib:=lib) (r:=[]) (c:=x) D rfl lj h ea ea
 have hrel:=Il (body:=ma (da code lib) ja EB) (live:=[0,5,6]) (nb:=1)
  (fun(u:Bool)(q:ba×Nat)=>(⟨[(0,.flat (.string (S l))),(5,.ptr 0 0),(6,.flat (.int .i64 (q.2:Nat)))],[.cell 0 1],[],[(101,bld u 0 q.1 [])]⟩:St))
  (Zj l) none (fun a o st=>match a with
    |some x=>o=.exit 0/\∃u,st=⟨[(5,.ptr 0 0)],[.cell 0 1],[],[(101,bld u 0 x [])]⟩
    |none=>o=.ret/\∃y,st=⟨[(2,.flat (.string (S []))),(3,.flat (.bool false))],[.cell 0 1],[],[y]⟩)
  (fun a=>a.2<=l.length/\a.1.length<=a.2) (fun a=>l.length - a.2) (fun u ⟨out,j⟩ z=>?_) (fun u ⟨out,j⟩ z=>?_) (fun a c z h=>FR a c z h) (n:=l.length+1) (m:=ja) false ([],0) ⟨Cb _,Aa _⟩ aa (by grind [ja])
 ·obtain⟨o,st,e,g⟩:=hrel
  have k:Mb (Zj l) none (l.length+1) ([],0)=Ln l:=rfl;rw[k]at g;dsimp only at e;rw[Fx]at e;simp only[n0]at e;cases i:Ln l with
  |some x=>
   rw[i]at g;obtain⟨rfl,u,rfl⟩:=g;have p:=lk (lib:=lib) (bx:=[(101,bld u 0 x [])]) (b:=0) (oc:=[.cell 0 1]) D rfl ea;exact sa
  |none=>
   rw[i]at g;obtain⟨rfl,y,rfl⟩:=g;exact sa
 ·dsimp only at z⊢
  have v:=EC F l [13,10] j aa ha;unfold Zj;dsimp only;by_cases fa:j<l.length
  ·have w:=qe fa
   obtain⟨c,E⟩:∃c,l[j]=c:=⟨_,rfl⟩;rw[E]at w;simp only[w];by_cases g:Tb l [13,10] j=true
   ·have i:c=13:=by
     unfold Tb at g;rw[Pd fa,E,bc]at g;have:=g.2;simp only[List.isPrefixOf,bc,beq_iff_eq]at this;exact this.1.symm
    have k:(c.toNat=13)=True:=eq_true bh;rw[g]at v;by_cases H:j+2<l.length
    ·have t:=qe H
     obtain⟨d,B⟩:∃d,l[j+2]=d:=⟨_,rfl⟩;rw[B]at t;have p:=aX (lib:=lib) d;cases e:nc d with
     |true=>
      rw[e]at p;simp only[ur,g,t,e,Dg,if_true];refine⟨u,?_⟩;have e2:(j:Int)+1+1=(j:Int)+2:=aa
      exact va pr
     |false=>
      rw[e]at p;simp only[ur,g,t,e,Zh,La,if_false,i,true_or,if_true];refine⟨.ret,⟨[(2,.flat (.string (S []))),(3,.flat (.bool false))],[.cell 0 1],[],[(101,bld u 0 out [])]⟩,?_,ea,rfl,_,rfl⟩;exact va pr
    ·have t:l[j+2]?=none:=Qf aa
     simp only[ur,g,t,Zh,La,if_false,i,true_or,if_true];refine⟨.ret,⟨[(2,.flat (.string (S []))),(3,.flat (.bool false))],[.cell 0 1],[],[(101,bld u 0 out [])]⟩,?_,ea,rfl,_,rfl⟩;exact va pr
   ·have t:=vo.2 g
    rw[t]at v;simp only[ur,t,De,La,if_false];by_cases k:c=13
    ·have p:(c.toNat=13)=True:=eq_true bh
     rw[if_pos (.inl k)];refine⟨.ret,⟨[(2,.flat (.string (S []))),(3,.flat (.bool false))],[.cell 0 1],[],[(101,bld u 0 out [])]⟩,?_,ea,rfl,_,rfl⟩;exact va pr
    ·have p:(c.toNat=13)=False:=eq_false fun h=>k (Xb.1 h)
     by_cases e:c=10
     ·have i:(c.toNat=10)=True:=eq_true bh
      rw[if_pos (.inr e)];refine⟨.ret,⟨[(2,.flat (.string (S []))),(3,.flat (.bool false))],[.cell 0 1],[],[(101,bld u 0 out [])]⟩,?_,ea,rfl,_,rfl⟩;exact va pr
     ·have i:(c.toNat=10)=False:=eq_false fun h=>e (Xb.1 h)
      rw[if_neg na];have B:=A c u out (by grind [za]);refine⟨true,?_⟩;exact va pr
  ·have w:l[j]?=none:=Qf aa
   simp only[w];refine⟨.exit 0,⟨[(5,.ptr 0 0)],[.cell 0 1],[],[(101,bld u 0 out [])]⟩,?_,ea,rfl,u,rfl⟩;exact va pr
 ·exact sa
abbrev bu:=ba×Bool×Bool
def jt(W:List ba)(q:bu×Nat):(bu×Nat) ⊕ bu:=match W[q.2]? with
 |none=>.inr q.1
 |some w=>.inl (ig rf q.1 w,q.2+1)
theorem JT(W)(d):∀(t:List ba)(k n)(q),W.drop k=t->t.length<n->Mb (jt W) d n (q,k)=t.foldl (ig rf) q
 |[],k,n+1,q,h,_=>by
  have:W[k]?=none:=by
   have:=congrArg List.length h;rw[fc]at this;exact Qf na
  rw[ad (r:=q) (by grind [jt])];rfl
 |w::t,k,n+1,q,h,c=>by
  have a:W[k]?=some w:=by
   have:=congrArg (·[0]?) h;simpa using this
  rw[ef (b:=(ig rf q w,k+1)) (by grind [jt]),Cg];refine JT W d t (k+1) n _ ?_ na;rw[<-yd,h];rfl
theorem zbN(q:bu)(w):(ig rf q w).1.length<=q.1.length+1+w.length:=by
 grind [zO,ig]
def Zn(s:ba):ba×ba×Nat:=
 match(if([13,10]:ba).isSuffixOf s then Ln (s.take (s.length - 2))else none)with
 |none=>([],[],7)
 |some l=>if(Lib.cut l [58]).2.2&&Hf (Lib.cut l [58]).1 then((Lib.cut l [58]).1,xj rf (Lib.replaceAll (Lib.cut l [58]).2.1 [9] [32]),0)else([],[],7)
def c9{l x}(h:Ln l=some x):x.length<=l.length:=by
 have:=kk (step:=Zj l) (d:=none) (I:=fun a=>a.2<=l.length/\a.1.length<=a.2) (μ:=fun a=>l.length - a.2) (Q:=fun r=>∀x,r=some x->x.length<=l.length) (fun a c=>by
  cases hs:Zj l a with
  |inl b=>exact FR a b c hs
  |inr r=>
   grind [Zj]) (l.length+1) ([],0) ⟨Cb _,Aa _⟩ aa
 exact this x h
def zgb(I:We lib)(C:Xi lib)(v:Sb lib)(D:jm lib)(B:Mr lib)(f)(W)(K:W.length<=10001)(H:∀w∈W,w.length<=10000):
 ∃o st,Ac (ma (da code lib) ja vx) [2,9,10,11,40,41,42] 1 ja ⟨[(2,.flat (.string (S f))),(9,.ptr 0 0),(10,.flat (.bool false)),(11,.flat (.bool false)),(40,.ia W.length (wa W)),(41,.flat (.int .i64 (W.length:Nat))),(42,.flat (.int .i64 0))],[.cell 0 1],[],[(101,bld false 0 [] [])]⟩=some (o,st)/\
  o=.exit 0/\∃u,st=⟨[(2,.flat (.string (S f))),(9,.ptr 0 0)],[.cell 0 1],[],[(101,bld u 0 (W.foldl (ig rf) ([],false,false)).1 [])]⟩:=by
 have d:∀(x:ba)(u:Bool)(out:ba),out.length+x.length<=za->da code lib 45 [.ptr 0 0,.flat (.string (S x))] [(101,bld u 0 out [])] [.cell 0 1]=some ([.flat (.int .i64 x.length),.flat .nilIface],false,[(101,bld true 0 (out++x) [])],[.cell 0 1]):=fun x u out h=>ai (lib:=lib) (r:=[]) (m:=x) v rfl lj h ea ea
 have k:∀(u:Bool)(out:ba),out.length+1<=za->da code lib 44 [.ptr 0 0,.flat (.int .u8 32)] [(101,bld u 0 out [])] [.cell 0 1]=some ([.flat .nilIface],false,[(101,bld true 0 (out++[32]) [])],[.cell 0 1]):=fun u out h=>Cw (lib:=lib) (r:=[]) (c:=32) v rfl lj h ea ea
 have hrel:=Il (body:=ma (da code lib) ja vx) (live:=[2,9,10,11,40,41,42]) (nb:=1)
  (fun(u:Bool)(q:bu×Nat)=>(⟨[(2,.flat (.string (S f))),(9,.ptr 0 0),(10,.flat (.bool q.1.2.1)),(11,.flat (.bool q.1.2.2)),(40,.ia W.length (wa W)),(41,.flat (.int .i64 (W.length:Nat))),(42,.flat (.int .i64 (q.2:Nat)))],[.cell 0 1],[],[(101,bld u 0 q.1.1 [])]⟩:St))
  (jt W) ([],false,false) (fun q o st=>o=.exit 0/\∃u,st=⟨[(2,.flat (.string (S f))),(9,.ptr 0 0)],[.cell 0 1],[],[(101,bld u 0 q.1 [])]⟩)
  (fun q=>q.2<=W.length/\q.1.1.length<=q.2* 10001) (fun q=>W.length - q.2) (fun u ⟨⟨out,z,A⟩,j⟩ b=>?_) (fun u ⟨⟨out,z,A⟩,j⟩ b=>?_) (fun a c b h=>?_) (n:=W.length+1) (m:=ja) false (([],false,false),0) ⟨Cb _,Aa _⟩ aa (by grind [ja])
 ·rw[JT W _ W 0 (W.length+1) _ rfl aa]at hrel
  exact hrel
 ·dsimp only at b⊢
  unfold jt;dsimp only;by_cases fa:j<W.length
  ·have g:=qe fa
   have l:(wa W).drop j=.flat (.string (S W[j]))::(wa W).drop (j+1):=by
    rw[wa,<-dm,<-dm,Pd fa];rfl
   have p:=H W[j] (List.getElem_mem fa);obtain⟨w,G⟩:∃w,W[j]=w:=⟨_,rfl⟩;rw[G]at g l p;simp only[g];have L:out.length+10001<=200000000:=by have:=b.2;have:=b.1;have J:j* 10001<=10001* 10001:=Nat.mul_le_mul_right _ aa;omega
   clear b;have F:za=4294967296:=rfl;unfold ig;by_cases i:w=[]
   ·subst i
    rw[if_pos rfl];refine⟨u,?_⟩;exact va Ss
   ·rw[if_neg i]
    have E:=eq_false i;have y:=X0 C D B w aa;have e:=zO w;obtain⟨⟨t,c⟩,ht⟩:∃q,rf w=q:=⟨_,rfl⟩;rw[ht]at y e⊢;dsimp only at y e⊢;have M:=k u out aa;have N:=d t true (out++[32]) na;have O:=d t u out aa;refine⟨true,?_⟩;cases z
    ·simp only[De,La,if_false,Sg]
     exact va Ss
    ·cases A
     ·simp only[De,gn,Dg,if_true]
      exact va Ss
     ·cases c
      ·simp only[Zh,gn,Dg,if_true]
       exact va Ss
      ·simp only[Dg,am,Zh,La,if_false,Sg]
       exact va Ss
  ·have g:W[j]?=none:=Qf aa
   simp only[g];refine⟨.exit 0,⟨[(2,.flat (.string (S f))),(9,.ptr 0 0)],[.cell 0 1],[],[(101,bld u 0 out [])]⟩,?_,ea,rfl,u,rfl⟩;exact va Ss
 ·exact sa
 grind [jt,zbN]
def E0(l w:ba):(Lib.cut l w).1.length<=l.length/\(Lib.cut l w).2.1.length<=l.length:=by
 grind [Lib.cut]
def dE(t:We lib)(C:sc lib)(p:Wt lib)(e:Xi lib)(D:Xw lib)(d:Sb lib)(v:jm lib)(B:Mr lib)(s)(hs:s.length<=10000):da code lib 20 [.flat (.string (S s))] [] []=some ([.flat (.string (S (Zn s).1)),.flat (.string (S (Zn s).2.1)),.flat (.int .i64 ((Zn s).2.2:Nat))],false,[],[]):=by
 have e1:=X8 C d v s aa;refine la AY (qa rfl) ?_;unfold Zn;have c:∀x,(if([13,10]:ba).isSuffixOf s then Ln (s.take (s.length - 2))else none)=some x->x.length<=10000:=fun x A=>by
  split at A
  ·have:=c9 A;grind
  grind
 obtain⟨o,H⟩:∃o,(if([13,10]:ba).isSuffixOf s then Ln (s.take (s.length - 2))else none)=o:=⟨_,rfl⟩;rw[H]at e1 c⊢;cases o with
 |none=>
  dsimp only at e1⊢;have e2:=qO p [] [58] ea;rw[show Lib.cut [] [58]=([],[],false) by decide]at e2;dsimp only at e2;exact sa
 |some l=>
  have N:=c l rfl;dsimp only at e1⊢;have e2:=qO p l [58] aa;have a:=E0 l [58];obtain⟨⟨f,r,b⟩,E⟩:∃q,Lib.cut l [58]=q:=⟨_,rfl⟩;rw[E]at e2 a⊢;dsimp only at e2 a⊢;have e3:=bS (lib:=lib) f aa;cases b with
  |false=>
   rw[De];exact sa
  |true=>
   rcases Nh (Hf f)with i|i
   ·rw[i]at e3⊢
    have e4:=zb7 D r [9] [32] aa ha ha;have k:=zb8 r [9] [32] ha;obtain⟨y,M⟩:∃y,Lib.replaceAll r [9] [32]=y:=⟨_,rfl⟩;rw[M]at e4 k⊢;have e5:=pO t y 32 aa;have L:=Bu 32 y;obtain⟨o,st,g,rfl,u,rfl⟩:=zgb t e d v B f (db 32 y) aa fun w K=>by have:=gy 32 y w K;omega
    have J:=lk (lib:=lib) (bx:=[(101,bld u 0 (xj rf y) [])]) (b:=0) (oc:=[.cell 0 1]) d rfl ea;have j:((db 32 y).foldl (ig rf) ([],false,false)).1=xj rf y:=rfl;rw[j]at g;rw[Fx]at g;have h:((32:UInt8).toNat:Int)=32:=rfl;rw[h]at e5;obtain⟨W,z⟩:∃W,db 32 y=W:=⟨_,rfl⟩;rw[z]at e5 g;have G:=dd W;have F:=fun n=>Xd (n:=n) W
    have I:W.length<=10001:=by rw[<-z];omega
    exact sa
   ·rw[i]at e3⊢
    exact sa
end ya
section
set_option synthInstance.maxSize 4000
set_option synthInstance.maxHeartbeats 400000
namespace ya
def free(c:UInt8):Bool:=(97<=c&&c<=122)||(65<=c&&c<=90)||(48<=c&&c<=57)||c==45||c==46||c==95||c==126
def wo(c:UInt8):Option UInt8:=if 48<=c/\c<=57 then some (c - 48)else if 97<=c/\c<=102 then some (c - 87)else if 65<=c/\c<=70 then some (c - 55)else none
def Qk(c:UInt8):UInt8:=if c<10 then 48+c else 55+c
def pair(c:UInt8):List UInt8:=[Qk (c/16),Qk (c % 16)]
def Ly(a b:UInt8):Option UInt8:=match wo a,wo b with|some x,some y=>some (16* x+y)|_,_=>none
def gi(s:List UInt8)(at_:Int):Option UInt8:=
 if at_<0 then none else match s[at_.toNat]?,s[at_.toNat+1]? with|some a,some b=>Ly a b|_,_=>none
theorem nQ(s:ByteArray)(n)(h:n<0\/(s.size:Int) - 2<n):gi s.data.toList n=none:=by
 unfold gi;split
 ·rfl
 ·rename_i a
  have:s.data.toList[n.toNat+1]?=none:=by
   rw[Qf];simp;show s.size<=_;omega
  grind
def B4(s:ByteArray)(n:Int)(c:0<=n)(h:n+2<=s.size):gi s.data.toList n=Ly (s[n.toNat]' aa) (s[(n+1).toNat]' aa):=by
 have e:(n+1).toNat=n.toNat+1:=aa
 have a:s.data.toList[n.toNat]?=some (s[n.toNat]' aa):=by
  rw[qe Ma];rfl
 have b:s.data.toList[n.toNat+1]?=some (s[(n+1).toNat]' aa):=by
  rw[qe Ma];simp only[e];rfl
 grind [gi]
theorem zgh{c x}(h:wo c=some x):x<16:=by
 grind [wo]
theorem zac:∀x,x<16->∀y:UInt8,y<16->Go.bits .or .u8 (↑x.toNat* 16 % 256) ↑y.toNat=↑(16* x+y).toNat:=Fb
end ya
namespace Go.Proofs.YtglaihdcndcmkaaGreatDoor
def zgg(c)(w):Calls Tryz.prog 272 #[.int .u8 c.toNat] w (ag (.tuple #[.int .u8 ((wo c).getD 0).toNat,.bool (wo c).isSome]) w):=by
 go_enter Tryz.func272,Tryz.ntmps272
 go_wp2
 all_goals (go_ret2;refine⟨t2 (vi ?_) (vb ?_),rfl⟩)
 all_goals (go_light;revert c;decide+kernel)
def dt(c)(w):Calls Tryz.prog 234 #[.int .u8 c.toNat] w (Xg (.string ⟨(pair c).toArray⟩) w):=by
 have h:(c.toNat:Int)<256:=by have:=c.toNat_lt;omega
 have b:(0:Int)<=c.toNat/16:=aa
 have d:(c.toNat:Int)/16<16:=aa
 have e:(0:Int)<=c.toNat % 16:=aa
 have g:(c.toNat:Int) % 16<16:=aa
 have a:=fun(w:World)(x y:UInt8)=>q0 (P:=Tryz.prog) Tryz.underlying99 Tryz.underlying5 Tryz.underlying9 w x y
 go_enter Tryz.func234,Tryz.ntmps234
 go_wp2
 go_region
 go_wp2;go_ret;refine⟨r1 (vS ?_),((Below.refl _ _).alloc (Aa _) _).drew⟩;clear a
 (go_light;revert c;decide+kernel)
def Hv(c)(w):Calls Tryz.prog 204 #[.int .u8 c.toNat] w (Xg (.string ⟨(pair c).toArray⟩) w):=by
 have d:(c.toNat:Int)<256:=by have:=c.toNat_lt;omega
 go_enter Tryz.func204,Tryz.ntmps204
 go_wp2
 (refine wp_region_quiet_below ca ca ?_;(repeat (first|go_big_quiet_skip|(go_big_quiet_want;go_big_quiet_op;first|go_big_quiet_on|(apply Exists.intro;refine⟨fun _=>?_,?_⟩;(· (fail));go_big_quiet_on))));refine wpQuiet_nil ?_;intro _ b;obtain⟨⟨dq,osq⟩,a⟩:=b;subst a)
 go_wp2;go_ret;refine⟨r1 (vS ?_),below_regrown _ _ _⟩
 (go_light;revert c;decide+kernel)
def zgi(c)(o)(h:wo c=o)(w:World):Calls Tryz.prog 272 #[.int .u8 c.toNat] w (ag (.tuple #[.int .u8 (o.getD 0).toNat,.bool o.isSome]) w):=h▸zgg c w
def vX(s)(n)(w)(hs:s.size<=1000000000):
 Calls Tryz.prog 213 #[.string s,.int .i64 n] w (ag (.tuple #[.int .u8 ((gi s.data.toList n).getD 0).toNat,.bool (gi s.data.toList n).isSome]) w):=by
 by_cases i:0<=n/\n+2<=s.size
 ·obtain⟨g,h⟩:=i
  have j:¬(n<0):=aa
  have k:¬((s.size:Int) - 2<n):=aa
  have l:(0:Int)<=n+1:=aa
  have o:n+1<(s.size:Int):=aa
  have p:n<(s.size:Int):=aa
  rw[B4 s n g h];unfold Ly;generalize a:wo s[n.toNat]=x;generalize b:wo s[(n+1).toNat]=y;have c:=Lib.hid a;have d:=Lib.hid b;clear a b;cases x<;>cases y
  all_goals
   go_enter Tryz.func213,Tryz.ntmps213
   go_wp2_with(go_at_call 272;refine(zgi _ _ (by first|exact c.out|exact d.out) _).mono ?_;rintro e w' ⟨rfl,rfl⟩)
   go_ret2
  all_goals go_light
  all_goals first|exact⟨rfl,rfl⟩|refine⟨t2 (vi ?_) rfl,rfl⟩
  grind [zac,zgh,Hid.out]
 ·go_enter Tryz.func213,Tryz.ntmps213
  go_wp2
  all_goals (go_ret2;refine⟨t2 (vi ?_) (vb ?_),rfl⟩<;>rw[nQ s n aa]<;>rfl)
end Go.Proofs.YtglaihdcndcmkaaGreatDoor
end
namespace ya
def yj{α:Type}(step:Nat->Option (List α×Nat))(len:Nat):Nat->Nat->Option (List α)
 |0,_=>some []
 |f+1,k=>if k<len then match step k with
  |none=>none
  |some (o,n)=>(yj step len f (k+n)).map (o++·)
  else some []
theorem zci{α}{step:Nat->Option (List α×Nat)}{len}(b:∀k o n,step k=some (o,n)->0<n):
 ∀f f' k,len - k<=f->len - k<=f'->yj step len f k=yj step len f' k:=by
 intro f
 induction f with
 |zero=>
  intro f' k h _;cases f' with
  |zero=>rfl
  |succ f'=>simp only[yj];rw[if_neg aa]
 |succ f c=>
  intro f' k h d;by_cases a:k<len
  ·cases f' with
   |zero=>omega
   |succ f'=>
    simp only[yj];rw[if_pos a];cases hs:step k with
    |none=>simp[a]
    |some p=>
     obtain⟨o,n⟩:=p;have:=b k o n hs;simp only;rw[c f' (k+n) aa aa,if_pos a]
  ·have e:yj step len (f+1) k=some []:=by simp only[yj];rw[if_neg a]
   rw[e];cases f' with
   |zero=>rfl
   |succ f'=>simp only[yj];rw[if_neg a]
def Ii{α:Type}(step:Nat->Option (List α×Nat))(len k:Nat):Option (List α):=yj step len (len - k) k
def zcj{α}{step:Nat->Option (List α×Nat)}{len k}(h:len<=k):Ii step len k=some []:=by
 unfold Ii;rw[Nat.sub_eq_zero_of_le h];rfl
def aU{α}{step:Nat->Option (List α×Nat)}{len k}(h:k<len)(hs:step k=none):Ii step len k=none:=by
 unfold Ii;obtain⟨m,a⟩:∃m,len - k=m+1:=⟨len - k - 1,aa⟩;rw[a];simp only[yj];rw[if_pos h,hs]
def bU{α}{step}{len k n}{o:List α}(a:∀k o n,step k=some (o,n)->0<n)(h:k<len)(hs:step k=some (o,n)):
 Ii step len k=(Ii step len (k+n)).map (o++·):=by
 unfold Ii;obtain⟨m,b⟩:∃m,len - k=m+1:=⟨len - k - 1,aa⟩;rw[b];simp only[yj];rw[if_pos h,hs];have:=a k o n hs;simp only;rw[zci a m (len - (k+n)) (k+n) aa (Aa _)]
def kt{α}{step}{len k n}{o a}{r:Option (List α)}(c:∀k o n,step k=some (o,n)->0<n)(h:k<len)(hs:step k=some (o,n))
 (b:r=(Ii step len k).map (a++·)):r=(Ii step len (k+n)).map ((a++o)++·):=by
 rw[b,bU c h hs];cases Ii step len (k+n)<;>simp
def zck{α}{step step':Nat->Option (List α×Nat)}{len d}(hs:∀k,step' (d+k)=step k):∀f k,yj step' (d+len) f (d+k)=yj step len f k:=by
 intro f
 induction f with
 |zero=>intro k;rfl
 |succ f b=>
  intro k;simp only[yj];rw[hs];by_cases a:k<len
  ·rw[if_pos a,if_pos aa]
   cases step k with
   |none=>rfl
   |some p=>simp only;rw[tk,b]
  ·rw[if_neg a,if_neg aa]
def zcl{α}{step step':Nat->Option (List α×Nat)}{len d}(hs:∀k,step' (d+k)=step k)(k):Ii step' (d+len) (d+k)=Ii step len k:=by
 unfold Ii;rw[show d+len - (d+k)=len - k by omega];exact zck hs _ _
def Qh(s w:List UInt8)(n:Int):Bool:=decide (0<=n)&&decide (n<=s.length)&&w.isPrefixOf (s.drop n.toNat)
def YJ(s w)(k:Nat)(h:k<=s.length):Qh s w k=w.isPrefixOf (s.drop k):=by
 unfold Qh;simp[h]
def ZJ(a l w)(k):Qh (a++l) w ((a.length+k:Nat):Int)=Qh l w k:=by
 unfold Qh;have e1:(((a.length+k:Nat):Int)).toNat=a.length+k:=aa
 have e3:((k:Int)).toNat=k:=aa
 have e4:(a++l).drop (a.length+k)=l.drop k:=by rw[<-yd];simp
 rw[e1,e3,e4];have e5:decide (((a.length+k:Nat):Int)<=((a++l).length:Int))=decide ((k:Int)<=(l.length:Int)):=by
  rw[Ba];by_cases h:k<=l.length
  ·rw[decide_eq_true aa,decide_eq_true aa]
  ·rw[decide_eq_false aa,decide_eq_false aa]
 have e6:decide ((0:Int)<=((a.length+k:Nat):Int))=decide ((0:Int)<=(k:Int)):=by
  rw[decide_eq_true aa,decide_eq_true aa]
 rw[e5,e6]
end ya
section
set_option synthInstance.maxSize 4000
namespace ya
def Ei(c:UInt8):Bool:=33<=c&&c<=126&&c !=61
def hj(s:List UInt8)(k:Nat):Option (List UInt8×Nat):=
 match s[k]? with
 |none=>none
 |some c=>if Qh s [13,10] k then some ([10],2)else if Qh s [61,13,10] k then some ([],3)
  else if c=61 then(gi s (k+1)).map fun b=>([b],3)else if Ei c||c==32||c==9 then some ([c],1)else none
def Dq(s):∀k o n,hj s k=some (o,n)->0<n:=by
 intro k o n h;unfold hj at h;split at h
 ·cases h
 ·repeat' split at h
  all_goals first|(cases h;omega)|skip
  ·simp at h;omega
  grind
def bp(s:ByteArray)(k)(g:k<s.size)(a c)(d:Qh s.data.toList [13,10] k=a)(e:Qh s.data.toList [61,13,10] k=c):hj s.data.toList k=
 if a then some ([10],2)else if c then some ([],3)else if s[k]=61 then(gi s.data.toList (k+1)).map (fun b=>([b],3))else if Ei s[k]||s[k]==32||s[k]==9 then some ([s[k]],1)else none:=by
 unfold hj;rw[qe (show k<s.data.toList.length from g)];simp only[d,e];rfl
def Ie(s:List UInt8):Option (List UInt8):=Ii (hj s) s.length 0
def wO:Option (List UInt8)->Go.Value
 |none=>.tuple #[.string ⟨#[]⟩,.int .i64 7]
 |some l=>.tuple #[.string ⟨l.toArray⟩,.int .i64 0]
attribute [simp] wO
end ya
namespace Go.Proofs.YtglaihdcndcmkaaGreatDoor
def OW(s t)(n:Int)(w:World)(hs:s.size<=1000000000):Calls Tryz.prog 85 #[.string s,.string t,.int .i64 n] w (ag (.bool (Qh s.data.toList t.data.toList n)) w):=by
 by_cases h:0<=n/\n<=s.size
 ·obtain⟨c,d⟩:=h
  obtain⟨k,rfl⟩:=Int.eq_ofNat_of_zero_le c;have a:Qh s.data.toList t.data.toList (k:Int)=Lib.hasPrefix (s.extract k s.size).data.toList t.data.toList:=by
   rw[YJ _ _ _ bh,Lib.extract_to_end];rfl
  have b:=Lib.hid a;clear a
  go_enter Tryz.func85,Tryz.ntmps85
  go_wp2_with(go_at_call 80;refine(Tryz.strings_HasPrefix _ _ _).mono ?_;rintro e w' ⟨rfl,rfl⟩)
  go_ret;exact⟨r1 (vb (by rw[b.out];simp)),rfl⟩
 ·have a:Qh s.data.toList t.data.toList n=false:=by
   unfold Qh;by_cases d:0<=n
   ·rw[decide_eq_false (p:=n<=(s.data.toList.length:Int)) bh];simp
   ·grind
  have b:=Lib.hid a;clear a;by_cases d:0<=n
  ·have c:decide (n<=(s.size:Int))=false:=Ma
   go_enter Tryz.func85,Tryz.ntmps85
   go_wp2;go_ret;exact⟨r1 (vb (by rw[b.out])),rfl⟩
  ·go_enter Tryz.func85,Tryz.ntmps85
   go_wp2;go_ret;exact⟨r1 (vb (by rw[b.out])),rfl⟩
set_option maxRecDepth 100000 in
def zbo(c)(w):Calls Tryz.prog 214 #[.int .u8 c.toNat] w (ag (.bool (Ei c)) w):=by
 go_enter Tryz.func214,Tryz.ntmps214
 go_wp2
 all_goals (go_ret;refine⟨r1 (vb ?_),rfl⟩)
 all_goals (go_light;revert c;decide+kernel)
set_option maxRecDepth 100000 in
def zbp(c)(w):Calls Tryz.prog 203 #[.int .u8 c.toNat] w (ag (.bool (Ei c)) w):=by
 go_enter Tryz.func203,Tryz.ntmps203
 go_wp2
 all_goals (go_ret;refine⟨r1 (vb ?_),rfl⟩)
 all_goals (go_light;revert c;decide+kernel)
end Go.Proofs.YtglaihdcndcmkaaGreatDoor
end
section
set_option synthInstance.maxSize 4000
namespace ya
def one(s:List UInt8)(n:Int):Option (UInt8×Nat):=
 if n<0 then none else match s[n.toNat]? with
 |none=>none
 |some c=>if free c then some (c,1)else if c=37 then(gi s (n+1)).map fun x=>(x,3)else none
def K_:Option (UInt8×Nat)->Go.Value
 |none=>.tuple #[.int .u8 0,.int .i64 0,.bool false]
 |some (c,k)=>.tuple #[.int .u8 c.toNat,.int .i64 k,.bool true]
attribute [simp] K_
end ya
namespace Go.Proofs.YtglaihdcndcmkaaGreatDoor
def qK(s)(n)(o)(h:gi s.data.toList n=o)(w)(hs:s.size<=1000000000):
 Calls Tryz.prog 213 #[.string s,.int .i64 n] w (ag (.tuple #[.int .u8 (o.getD 0).toNat,.bool o.isSome]) w):=h▸vX s n w hs
end Go.Proofs.YtglaihdcndcmkaaGreatDoor
end
namespace Go.Proofs.YtglaihdcndcmkaaGreatDoor
def Jo(s t)(n)(b:Bool)(h:Qh s.data.toList t.data.toList n=b)(w:World)(hs:s.size<=1000000000):Calls Tryz.prog 85 #[.string s,.string t,.int .i64 n] w (ag (.bool b) w):=h▸OW s t n w hs
def Ym(c)(b)(h:Ei c=b)(w:World):Calls Tryz.prog 214 #[.int .u8 c.toNat] w (ag (.bool b) w):=h▸zbo c w
def Kv(c)(b)(h:Ei c=b)(w:World):Calls Tryz.prog 203 #[.int .u8 c.toNat] w (ag (.bool b) w):=h▸zbp c w
set_option maxRecDepth 100000 in
def W0(s)(w)(hs:s.size<=100000000):Calls Tryz.prog 143 #[.string s] w (Xg (wO (Ie s.data.toList)) w):=by
 have C:s.data.toList.length=s.size:=rfl;have K:=Lib.hid C;clear C
 go_enter Tryz.func143,Tryz.ntmps143
 go_wp2
 go_loopw [4,5,6,7,8] (fun v i _ _ _ wr=>∃(k:Nat)(q:List UInt8),i=.int .i64 k/\k<=s.size+2/\q.length<=k/\Fk w.heap.size 5 v q wr/\Below w.heap.size w wr/\Hid (Ie s.data.toList=(Ii (hj s.data.toList) s.data.toList.length k).map (q++·)))
  (fun _ i _ _ _ _=>s.size+2 - (intOf i).toNat)
 case atStart=>exact⟨0,[],rfl,aa,ea,Fk.nil _ _ _,Below.refl _ _,Lib.hid (by unfold Ie;simp)⟩
 case round=>
  obtain⟨k,q,rfl,R,N,t,a,d⟩:=hrel;by_cases fa:k<s.size
  ·generalize p:Qh s.data.toList (⟨#[13,10]⟩:ByteArray).data.toList (k:Int)=L
   generalize G:Qh s.data.toList (⟨#[61,13,10]⟩:ByteArray).data.toList (k:Int)=M;have j:=Lib.hid p;have l:=Lib.hid G;clear p G;cases L
   ·cases M
    ·by_cases u:s[k]=61
     ·have O:((s[k].toNat:Int)==61)=true:=by rw[u];rfl
      rcases r:gi s.data.toList ((k:Int)+1)with _|b
      ·have y:=Lib.hid (show Ie s.data.toList=none by rw[d.out,aU (len:=s.data.toList.length) fa (by rw[bp s k fa _ _ j.out l.out,if_neg ea,if_neg ea,if_pos u,r];rfl)];rfl)
       have D:=Lib.hid r;clear r d u
       go_wp2_with(first|(go_at_call 85;refine(Jo _ _ _ _ (by first|exact j.out|exact l.out) _ aa).mono ?_;rintro e x ⟨rfl,rfl⟩)|(go_at_call 213;refine(qK _ _ _ D.out _ aa).mono ?_;rintro e x ⟨rfl,rfl⟩))
       go_ret2
       rw[y.out];exact⟨rfl,a⟩
      ·have y:=Lib.hid (kt (Dq _) fa (o:=[b]) (n:=3) (by rw[bp s k fa _ _ j.out l.out,if_neg ea,if_neg ea,if_pos u,r];rfl) d.out)
       have F:k+3<=s.size:=by
        by_cases E:k+3<=s.size
        ·exact E
        ·grind [nQ]
       have D:=Lib.hid r;clear r d u
       go_wp2_with(first|(go_at_call 85;refine(Jo _ _ _ _ (by first|exact j.out|exact l.out) _ aa).mono ?_;rintro e x ⟨rfl,rfl⟩)|(go_at_call 213;refine(qK _ _ _ D.out _ aa).mono ?_;rintro e I ⟨rfl,rfl⟩;skip)|(at_builtin;refine Mv ra _ _ _ ra 5 Tryz.underlying99 infoByte w.heap.size wr _ _ ra t b ra aa a.size ?_;intro g A x H c B p z))
       go_roundw
       case rel=>exact⟨k+3,q++[b],by go_num,aa,na,c,a.trans p,y⟩
       grind [intOf]
     ·have O:((s[k].toNat:Int)==61)=false:=by simp[<-Xb]at u⊢;omega
      by_cases D:Ei s[k]=true
      ·have y:=Lib.hid (kt (Dq _) fa (o:=[s[k]]) (n:=1) (by rw[bp s k fa _ _ j.out l.out];grind) d.out)
       have E:=Lib.hid D;clear D d u
       go_wp2_with(first|(go_at_call 85;refine(Jo _ _ _ _ (by first|exact j.out|exact l.out) _ aa).mono ?_;rintro e x ⟨rfl,rfl⟩)|(go_at_call 214;refine(Ym _ _ E.out _).mono ?_;rintro e x ⟨rfl,rfl⟩)|(at_builtin;refine Mv ra _ _ _ ra 5 Tryz.underlying99 infoByte w.heap.size wr _ _ ra t s[k] ra aa a.size ?_;intro g A x H c B p z))
       go_roundw
       case rel=>exact⟨k+1,q++[s[k]],by go_num,aa,na,c,a.trans p,y⟩
       grind [intOf]
      ·replace D:Ei s[k]=false:=by simpa using D
       by_cases r:s[k]=32\/s[k]=9
       ·have E:=Lib.hid D;clear D
        rcases r with r|r
        ·have y:=Lib.hid (kt (Dq _) fa (o:=[s[k]]) (n:=1) (by rw[bp s k fa _ _ j.out l.out];grind) d.out)
         clear d u;have J:((s[k].toNat:Int)==32)=true:=by rw[r];rfl
         clear r
         go_wp2_with(first|(go_at_call 85;refine(Jo _ _ _ _ (by first|exact j.out|exact l.out) _ aa).mono ?_;rintro e x ⟨rfl,rfl⟩)|(go_at_call 214;refine(Ym _ _ E.out _).mono ?_;rintro e x ⟨rfl,rfl⟩)|(at_builtin;refine Mv ra _ _ _ ra 5 Tryz.underlying99 infoByte w.heap.size wr _ _ ra t s[k] ra aa a.size ?_;intro g A x H c B p z))
         go_roundw
         case rel=>exact⟨k+1,q++[s[k]],by go_num,aa,na,c,a.trans p,y⟩
         grind [intOf]
        ·have y:=Lib.hid (kt (Dq _) fa (o:=[s[k]]) (n:=1) (by rw[bp s k fa _ _ j.out l.out];grind) d.out)
         clear d u;have J:((s[k].toNat:Int)==32)=false:=by rw[r];rfl
         have Q:((s[k].toNat:Int)==9)=true:=by rw[r];rfl
         clear r
         go_wp2_with(first|(go_at_call 85;refine(Jo _ _ _ _ (by first|exact j.out|exact l.out) _ aa).mono ?_;rintro e x ⟨rfl,rfl⟩)|(go_at_call 214;refine(Ym _ _ E.out _).mono ?_;rintro e x ⟨rfl,rfl⟩)|(at_builtin;refine Mv ra _ _ _ ra 5 Tryz.underlying99 infoByte w.heap.size wr _ _ ra t s[k] ra aa a.size ?_;intro g A x H c B p z))
         go_roundw
         case rel=>exact⟨k+1,q++[s[k]],by go_num,aa,na,c,a.trans p,y⟩
         grind [intOf]
       ·have F:=fun h=>r (.inl h)
        have I:=fun h=>r (.inr h)
        have y:=Lib.hid (show Ie s.data.toList=none by rw[d.out,aU (len:=s.data.toList.length) fa (by rw[bp s k fa _ _ j.out l.out];grind)];rfl);have J:((s[k].toNat:Int)==32)=false:=by simp[<-Xb]at F⊢;omega
        have Q:((s[k].toNat:Int)==9)=false:=by simp[<-Xb]at I⊢;omega
        have E:=Lib.hid D;clear D d u r F I
        go_wp2_with(first|(go_at_call 85;refine(Jo _ _ _ _ (by first|exact j.out|exact l.out) _ aa).mono ?_;rintro e x ⟨rfl,rfl⟩)|(go_at_call 214;refine(Ym _ _ E.out _).mono ?_;rintro e x ⟨rfl,rfl⟩))
        go_ret2
        rw[y.out];exact⟨rfl,a⟩
    ·have y:=Lib.hid (kt (Dq _) fa (o:=[]) (n:=3) (by rw[bp s k fa _ _ j.out l.out];simp) d.out)
     clear d
     go_wp2_with(go_at_call 85;refine(Jo _ _ _ _ (by first|exact j.out|exact l.out) _ aa).mono ?_;rintro e x ⟨rfl,rfl⟩)
     go_roundw
     case rel=>exact⟨k+3,q,by go_num,aa,aa,t,a,bh⟩
     grind [intOf]
   ·have y:=Lib.hid (kt (Dq _) fa (o:=[10]) (n:=2) (by rw[bp s k fa _ _ j.out l.out];simp) d.out)
    clear d
    go_wp2_with(first|(go_at_call 85;refine(Jo _ _ _ _ (by first|exact j.out|exact l.out) _ aa).mono ?_;rintro e x ⟨rfl,rfl⟩)|(at_builtin;refine Mv ra _ _ _ ra 5 Tryz.underlying99 infoByte w.heap.size wr _ _ ra t 10 ra aa a.size ?_;intro g A x H c B p z))
    go_roundw
    case rel=>exact⟨k+2,q++[10],by go_num,aa,na,c,a.trans p,y⟩
    grind [intOf]
  ·have c:Ie s.data.toList=some q:=by
    rw[d.out,zcj (by rw[K.out];omega)];simp
   have j:=Lib.hid c;clear c;have l:=o0 (P:=Tryz.prog) Tryz.underlying99 Tryz.underlying5 Tryz.underlying9 t;go_wp2
   go_ret2
   rw[j.out];exact⟨rfl,a⟩
end Go.Proofs.YtglaihdcndcmkaaGreatDoor
namespace ya
def VG:List UInt8->Bool|[]=>false|d::_=>d !=10
def piece(c:UInt8)(t:List UInt8):List UInt8:=if Ei c||((c==32||c==9)&&VG t)then[c]else 61::pair c
def GH(c)(t):0<(piece c t).length/\(piece c t).length<=3:=by grind [piece,pair]
def eb:Nat->List UInt8->List UInt8
 |_,[]=>[]
 |line,c::t=>if c=10 then 13::10::eb 0 t
  else if line+(piece c t).length>75 then[61,13,10]++(piece c t++eb (piece c t).length t)else piece c t++eb (line+(piece c t).length) t
def bA{s:List UInt8}{k}(a)(h:Ei s[k]=true\/((s[k]=32\/s[k]=9)/\∃h,s[k+1]≠10)):piece s[k] (s.drop (k+1))=[s[k]]:=by
 grind [piece,List.drop_eq_getElem_cons,VG]
def et{s:List UInt8}{k}(a)(b:Ei s[k]=false)(h:(s[k]≠32/\s[k]≠9)\/s.length<=k+1\/∃h,s[k+1]=10):piece s[k] (s.drop (k+1))=61::pair s[k]:=by
 grind [piece,VG,List.drop_eq_getElem_cons]
end ya
namespace Go.Proofs.YtglaihdcndcmkaaGreatDoor
set_option maxRecDepth 100000 in
def zbe(s)(k:Nat)(w)(hs:s.size<=1000000000)(p):Calls Tryz.prog 131 #[.string s,.int .i64 k] w (Xg (.string ⟨(piece s[k] (s.data.toList.drop (k+1))).toArray⟩) w):=by
 have E:=fun(w:World)(x:UInt8)=>m0 (P:=Tryz.prog) Tryz.underlying99 Tryz.underlying5 Tryz.underlying9 w x
 have z:(pair s[k]).length<=2:=by simp[pair]
 generalize t:Ei s[k]=v;have g:=Lib.hid t;clear t;cases v
 ·by_cases c:s[k]=32\/s[k]=9
  ·have q:∃b,((s[k].toNat:Int)==32)=b/\(b=false->((s[k].toNat:Int)==9)=true):=by
    refine⟨_,rfl,fun h=>?_⟩;rcases c with y|y
    ·simp_all
    ·simp_all
   obtain⟨b,u,n⟩:=q;by_cases r:k+1<s.size
   ·have A:(k:Int)<(s.size:Int) - 1:=aa
    have D:(k:Int)+1<(s.size:Int):=aa
    by_cases a:s[k+1]=10
    ·have i:=Lib.hid (show piece s[k] (s.data.toList.drop (k+1))=_ from et (s:=s.data.toList) p g.out (.inr (.inr ⟨r,a⟩)))
     have B:((s[k+1].toNat:Int)==10)=true:=by rw[a];rfl
     have C:((s[k+1].toNat:Int) !=10)=false:=by rw[a];rfl
     clear a c;cases b
     all_goals (try replace n:=n rfl)
     all_goals
      go_enter Tryz.func131,Tryz.ntmps131
      go_wp2_with(first|(go_at_call 203;refine(Kv _ _ g.out _).mono ?_;rintro e l ⟨rfl,rfl⟩)|(go_at_call 204;refine(Hv _ _).mono ?_;rintro e l ⟨rfl,j⟩))
      go_ret;exact⟨by rw[i.out];exact r1 (vS (by simp[mn];rfl)),(by repeat (first|assumption|exact Below.refl _ _|refine Ex ?_ (by assumption)))⟩
    ·have i:=Lib.hid (show piece s[k] (s.data.toList.drop (k+1))=_ from bA (s:=s.data.toList) p (.inr ⟨c,r,a⟩))
     have B:((s[k+1].toNat:Int)==10)=false:=by simp[<-Xb]at a⊢;omega
     have C:((s[k+1].toNat:Int) !=10)=true:=by simp[<-Xb]at a⊢;omega
     clear a c;cases b
     all_goals (try replace n:=n rfl)
     all_goals
      go_enter Tryz.func131,Tryz.ntmps131
      go_wp2_with(first|(go_at_call 203;refine(Kv _ _ g.out _).mono ?_;rintro e l ⟨rfl,rfl⟩)|(go_at_call 204;refine(Hv _ _).mono ?_;rintro e l ⟨rfl,j⟩))
      go_ret;exact⟨by rw[i.out];rfl,(Below.refl _ _).alloc (Aa _) _⟩
   ·have i:=Lib.hid (show piece s[k] (s.data.toList.drop (k+1))=_ from et (s:=s.data.toList) p g.out (.inr (.inl bh)))
    have A:¬(k:Int)<(s.size:Int) - 1:=aa
    clear c;cases b
    all_goals (try replace n:=n rfl)
    all_goals
     go_enter Tryz.func131,Tryz.ntmps131
     go_wp2_with(first|(go_at_call 203;refine(Kv _ _ g.out _).mono ?_;rintro e l ⟨rfl,rfl⟩)|(go_at_call 204;refine(Hv _ _).mono ?_;rintro e l ⟨rfl,j⟩))
     go_ret;exact⟨by rw[i.out];exact r1 (vS (by simp[mn];rfl)),(by repeat (first|assumption|exact Below.refl _ _|refine Ex ?_ (by assumption)))⟩
  ·have d:=fun h=>c (.inl h)
   have o:=fun h=>c (.inr h)
   have i:=Lib.hid (show piece s[k] (s.data.toList.drop (k+1))=_ from et (s:=s.data.toList) p g.out (.inl ⟨d,o⟩));have u:((s[k].toNat:Int)==32)=false:=by simp[<-Xb]at d⊢;omega
   have n:((s[k].toNat:Int)==9)=false:=by simp[<-Xb]at o⊢;omega
   clear c d o
   go_enter Tryz.func131,Tryz.ntmps131
   go_wp2_with(first|(go_at_call 203;refine(Kv _ _ g.out _).mono ?_;rintro e l ⟨rfl,rfl⟩)|(go_at_call 204;refine(Hv _ _).mono ?_;rintro e l ⟨rfl,j⟩))
   go_ret;exact⟨by rw[i.out];exact r1 (vS (by simp[mn];rfl)),(by repeat (first|assumption|exact Below.refl _ _|refine Ex ?_ (by assumption)))⟩
 ·have i:=Lib.hid (show piece s[k] (s.data.toList.drop (k+1))=_ from bA (s:=s.data.toList) p (.inl g.out))
  by_cases d:s[k]=32
  ·have:=g.out;rw[d]at this;cases this
  ·by_cases o:s[k]=9
   ·have:=g.out;rw[o]at this;cases this
   ·have u:((s[k].toNat:Int)==32)=false:=by simp[<-Xb]at d⊢;omega
    have n:((s[k].toNat:Int)==9)=false:=by simp[<-Xb]at o⊢;omega
    clear d o
    go_enter Tryz.func131,Tryz.ntmps131
    go_wp2_with(first|(go_at_call 203;refine(Kv _ _ g.out _).mono ?_;rintro e l ⟨rfl,rfl⟩)|(go_at_call 204;refine(Hv _ _).mono ?_;rintro e l ⟨rfl,j⟩))
    go_ret;exact⟨by rw[i.out];rfl,(Below.refl _ _).alloc (Aa _) _⟩
end Go.Proofs.YtglaihdcndcmkaaGreatDoor
namespace ya
def crlf:ba:=[13,10]
def Ya:List ba->ba
 |[]=>[]
 |x::L=>x++crlf++Ya L
theorem gO:∀(x r:ba),(∀c∈x,c≠13)->Ig (x++13::10::r)=some x.length
 |[],r,_=>by simp[Ig]
 |c::x,r,h=>by
  rw[Ha,Ig,if_neg (fun a=>h c ea a.1),gO x r fun d b=>h d (by simp[b])];rfl
def PQ(x r:ba)(a)(h:∀c∈x,c≠13):Uf (x++13::10::r) a=(x,a+x.length+2)::if x=[]then[]else Uf r (a+x.length+2):=by
 rw[Oy (gO x r h)];have d:(x++13::10::r).take x.length=x:=ea
 have g:(x++13::10::r).drop (x.length+2)=r:=by rw[List.drop_append];simp
 rw[d,g];by_cases b:x=[]
 ·subst b;rfl
 ·rw[if_neg (fun e=>b (qz e)),if_neg b]
theorem dU:∀(L:List ba)(r:ba)(a)(st st'),(∀x∈L,x≠[]/\∀c∈x,c≠13)->Ud L st=some st'->
 zj (Uf (Ya L++13::10::r) a) st=some (st'.1,st'.2,a+(Ya L).length+2)
 |[],r,a,st,st',_,h=>by
  simp[Ud]at h;subst h;have:=PQ [] r a ea;simp only[Ra]at this;rw[show Ya []++13::10::r=13::10::r from rfl,this];rfl
 |x::L,r,a,st,st',g,h=>by
  obtain⟨d,b⟩:=g x ea;rw[Ud,Ot]at h;obtain⟨s1,i,j⟩:=qb h;have e:Ya (x::L)++13::10::r=x++13::10::(Ya L++13::10::r):=by
   rw[Ya,crlf,vc,vc];rfl
  rw[e,PQ _ _ _ b,if_neg d,zj,if_neg d,i];dsimp only;rw[dU L r _ s1 st' (fun y k=>g y (by simp[k])) j];have:(Ya (x::L)).length=x.length+2+(Ya L).length:=by rw[Ya,crlf];simp only[Ba,ua,Ca]
  rw[this];congr 3;omega
def nI(L:List ba)(r:ba)(F)(h:∀x∈L,x≠[]/\∀c∈x,c≠13)(a:Ud L ([],false)=some (F,false)):
 ih (Ya L++13::10::r)=.ok (F.map fun p=>(p.1,trimB p.2)) ((Ya L).length+2):=by
 unfold ih;rw[dU L r 0 _ _ h a];simp
def zbm:∀c,Ei c=true->c≠61:=Fb
def zas:∀c,∀d∈pair c,d≠61/\d≠95:=Fb
def me:ba->Bool
 |[]=>true
 |c::t=>!(c==61&&t.head?==some 95)&&me t
def lr{c}{t:ba}(h:c≠61):me (c::t)=me t:=by
 have:(c==61)=false:=by simpa using h
 rw[me,this];rfl
theorem kS:∀(a b),me a=true->me b=true->(a.getLast?≠some 61\/b.head?≠some 95)->me (a++b)=true
 |[],b,_,h,_=>h
 |[c],b,g,h,e=>by
  rw[List.singleton_append,me,h,sk];rcases e with e|e
  ·have:(c==61)=false:=by simpa using e
   rw[this];rfl
  ·have:(b.head?==some 95)=false:=by simpa using e
   rw[this,Zh];rfl
 |c::d::a,b,g,h,e=>by
  rw[me,bc]at g;rw[Ha,me,bc];exact⟨g.1,kS (d::a) b g.2 h (by simpa[List.getLast?_cons]using e)⟩
def nS(c)(t r:ba):me (piece c t++r)=me r:=by
 unfold piece;split
 ·rename_i h
  simp only[Sp,bc,beq_iff_eq]at h;refine lr ?_;rcases h with h|⟨h|h,_⟩
  ·exact zbm c h
  ·rw[h];decide
  ·rw[h];decide
 ·have a:=zas c
  have e:pair c=[Qk (c/16),Qk (c % 16)]:=rfl;rw[e]at a⊢;have b:=a (Qk (c/16)) ea;have d:=a (Qk (c % 16)) ea;have g:(some (Qk (c/16))==some (95:UInt8))=false:=by simpa using b.2
  show me (61::Qk (c/16)::Qk (c % 16)::r)=_;rw[me,List.head?_cons,g,lr b.1,lr d.1];rfl
theorem Jz:∀(s:ba)(line),me (eb line s)=true
 |[],line=>rfl
 |c::t,line=>by
  rw[eb];split
  ·rw[lr ha,lr ha];exact Jz t 0
  ·split
   ·show me (61::13::10::(piece c t++eb _ t))=true
    rw[me,lr ha,lr ha,nS,Jz t];rfl
   ·rw[nS];exact Jz t _
theorem lS:∀(x)(i),me x=true->me (x.drop i)=true
 |[],i,_=>by simp[me]
 |c::x,0,h=>h
 |c::x,i+1,h=>by
  rw[me,bc]at h;exact lS x i h.2
def g_{x r w:ba}(j:x≠[])(h:me x=true):([13,10,45,45,61,95]++w).isPrefixOf (x++13::r)=false:=by
 rw[vo];intro i;rw[tl]at i;obtain⟨z,g⟩:=i
 match x,j,h with
 |[a],_,_=>simp at g
 |[a,b],_,_=>simp at g
 |[a,b,c],_,_=>simp at g
 |[a,b,c,d],_,_=>simp at g
 |[a,b,c,d,e],_,_=>simp at g
 |a::b::c::d::e::f::x,_,h=>
  simp at g;obtain⟨rfl,rfl,rfl,rfl,rfl,rfl,_⟩:=g;simp[me]at h
variable {lib:Callee}
def JG:Yj 111 2:=by unfold Yj;kernel_rfl
def bq(lib:Callee)(qp:ba->ba):Prop:=∀s:ba,s.length<=10000->(qp s).length<=100000/\lib 99 [.flat (.string (S s))] [] []=some ([.flat (.string (S (qp s)))],false,[],[])
def nB(lib:Callee)(qp:ba->ba):Prop:=∀s:ba,s.length<=10000->lib 67 [.flat (.string (S s))] [] []=some ([.flat (.string (S (qp s)))],false,[],[])
def o3{enc}(o:Wi lib enc)(p:We lib)(t:sc lib)(e:Sb lib){bx}{r:List (Nat×Nat)}{b:Nat}{u}{l f v:ba}(g:bx[b]?=some (111,bld u b l []))(x:v.length<=10000)(hf:f.length<=10000)(w:Hf f=true)(a:l.length+(Ze enc f v).length<=za)(hr:∀q∈r,q≠(b,1))(fa:∀q∈r,q.1<bx.length):
 da code lib 48 [.ptr b 0,.flat (.string (S f)),.flat (.string (S v))] bx (.cell b 1::cl r)=some ([],false,bx.set b (111,bld true b (l++Ze enc f v) []),.cell b 1::cl r):=by
 have k:=zgm o p t e f v x hf;simp only[w,if_true]at k;have n:=ai (lib:=lib) (r:=r) (m:=Ze enc f v) e g JG a hr fa;have h:=(qg g).1;obtain⟨r',c⟩:∃r',r'=(b,1)::r:=⟨_,rfl⟩;have d:Loc.cell b 1::cl r=cl r':=by rw[c];rfl
 rw[d]at n⊢;have i:∀q∈r',q.1<bx.length:=by
  rw[c];intro q j;rcases wb.1 j with rfl|j
  ·omega
  ·grind
 refine la wY (qa rfl) ?_;simp(maxSteps:=999999) (disch:=first|assumption|omega) only[go_sem,simprocAttr,au,k,n]
theorem CR(G:Sb lib){bx}{r}{b}(L){u}{l}(H:bx[b]?=some (111,bld u b l []))(R:L.length<=1000000)(j:l.length+(Ya L).length<=za)(hr:∀q∈r,q≠(b,1))(fa:∀q∈r,q.1<bx.length)(O:1<=L.length):
 da code lib 49 [.ptr b 0,.ia L.length (wa L)] bx (.cell b 1::cl r)=some ([],false,bx.set b (111,bld true b (l++Ya L) []),.cell b 1::cl r):=by
 have a:=(qg H).1;obtain⟨r',o⟩:∃r',r'=(b,1)::r:=⟨_,rfl⟩;have e:Loc.cell b 1::cl r=cl r':=by rw[o];rfl
 have I:∀q∈r',q.1<bx.length:=by
  rw[o];intro q i;rcases wb.1 i with rfl|i
  ·omega
  ·grind
 have g:∀(t:List ba)(k:Nat)(u:Bool)(x:ba)(n:Nat),k+t.length=L.length->L.drop k=t->x.length+(Ya t).length<=za->t.length<n->
  ∃c,(1<=t.length->c=true)/\(t=[]->c=u)/\Ac (ma (da code lib) ja DB) [0,6,7,8] bx.length n ⟨[(0,.ptr b 0),(6,.ia L.length (wa L)),(7,.flat (.int .i64 (L.length:Nat))),(8,.flat (.int .i64 (k:Nat)))],cl r',[],bx.set b (111,bld u b x [])⟩=some (.exit 0,⟨[],cl r',[],bx.set b (111,bld c b (x++Ya t) [])⟩):=by
  intro t
  induction t with
  |nil=>
   intro k u x n B v M J;obtain⟨m,rfl⟩:∃m,n=m+1:=⟨n - 1,aa⟩;have i:k=L.length:=by simp only[Ca]at B;omega
   subst i;refine⟨u,ea,fun _=>rfl,?_⟩;rw[ec];simp only[Ya,Sg];exact Kb IS @Ec
  |cons y t P=>
   intro k u x n B v M J;simp only[ua]at B J;obtain⟨m,rfl⟩:∃m,n=m+1:=⟨n - 1,aa⟩;have i:k<L.length:=aa
   have D:(wa L).drop k=.flat (.string (S y))::(wa L).drop (k+1):=by
    have:(wa L).drop k=wa (y::t):=by rw[wa,<-dm,v];rfl
    rw[this];have w:L.drop (k+1)=t:=by
     have:=congrArg (List.drop 1) v;rwa[yd]at this
    show .flat (.string (S y))::wa t=_;rw[wa,wa,<-dm,w]
   have A:L.drop (k+1)=t:=by
    have:=congrArg (List.drop 1) v;rwa[yd]at this
   have C:(Ya (y::t)).length=y.length+2+(Ya t).length:=by simp only[Ya,crlf,Ba,ua,Ca]
   rw[C]at M;have K:∀q,(bx.set b (111,bld u b x [])).set b q=bx.set b q:=fun q=>qo ..
   have N:=ai (lib:=lib) (bx:=bx.set b (111,bld u b x [])) (r:=r) (b:=b) (u:=u) (l:=x) (m:=y) (rest:=[]) G (Tg a) JG aa hr (by rw[Kc];exact fa);have F:=ai (lib:=lib) (bx:=bx.set b (111,bld true b (x++y) [])) (r:=r) (b:=b) (u:=true) (l:=x++y) (m:=[13,10]) (rest:=[]) G (Tg a) JG (by simp only[Ba,ua,Ca];omega) hr (by rw[Kc];exact fa);rw[e,qo]at N F;obtain⟨c,d,Q,z⟩:=P (k+1) true (x++y++crlf) m aa A (by grind [crlf]) aa;have E:x++Ya (y::t)=x++y++crlf++Ya t:=by simp only[Ya,vc]
   rw[E];refine⟨c,fun _=>?_,fun h=>(List.cons_ne_nil _ _ h).elim,?_⟩
   ·grind
   have p:x++(y++[13,10])=x++y++crlf:=by rw[vc];rfl
   rw[ec];simp only[crlf]at z⊢;simp only[Ee,qn,vc]at z;simp only[vc]at F⊢;simp(maxSteps:=999999) (disch:=first|assumption|omega) only[go_sem,simprocAttr,au,IS,pc,D,N,F,z,cd]
 obtain⟨c,w,_,d⟩:=g L 0 u l ja aa rfl j zm;rw[w O]at d;rw[Kp H]at d;simp only[n0]at d;rw[e];refine la xY (qa rfl) ?_;simp(maxSteps:=999999) (disch:=first|assumption|omega) only[go_sem,simprocAttr,au,d,cd]
end ya
section
namespace ya
variable {lib:Callee}
def M1{d}{a b}:Va d (a++b)=Va d a++Va d b:=by unfold Va;rw[List.filter_append]
def uv:ba:=[45,45,61,95,110,117,110,99,105,111]
def fj:ba:=[67,111,110,116,101,110,116,45,84,121,112,101,58,32,116,101,120,116,47]
def ej:ba:=[59,32,99,104,97,114,115,101,116,61,117,116,102,45,56]
def gj:ba:=[67,111,110,116,101,110,116,45,84,114,97,110,115,102,101,114,45,69,110,99,111,100,105,110,103,58,32,113,117,111,116,101,100,45,112,114,105,110,116,97,98,108,101]
def Ap:ba:=[77,73,77,69,45,86,101,114,115,105,111,110,58,32,49,46,48]
def Cp:ba:=[67,111,110,116,101,110,116,45,84,121,112,101,58,32,109,117,108,116,105,112,97,114,116,47,97,108,116,101,114,110,97,116,105,118,101,59,32,98,111,117,110,100,97,114,121,61,34,61,95,110,117,110,99,105,111,34]
def Fq:ba:=[45,45,61,95,110,117,110,99,105,111,45,45]
def Nc:ba:=[112,108,97,105,110]
def Uc:ba:=[104,116,109,108]
def Gf:ba:=[70,114,111,109]
def jg:ba:=[84,111]
def Qg:ba:=[83,117,98,106,101,99,116]
def Wh(qp:ba->ba)(kind s:ba):List ba:=[uv,fj++kind++ej,gj,[],qp s]
def rh(enc qp:ba->ba)(m:kc):ba:=Ze enc Gf m.fr++Ze enc jg m.to++Ze enc Qg m.su++Ya [Ap,Cp,[]]++Ya (Wh qp Nc m.te)++Ya (Wh qp Uc m.ht)++Ya [Fq]
def YR:Hf Gf=true:=Fb
def aS:Hf jg=true:=Fb
def ZR:Hf Qg=true:=Fb
def Js{enc}(a:Wi lib enc)(f v)(hf:f.length<=10000)(b:v.length<=10000):(Ze enc f v).length<=200000002:=by
 have:=Gy (Ad enc v) 0 (f++[58],f.length+1) ⟨by simp only[Ba,ua,Ca];omega,Hg⟩ (aJ a v b);unfold Ze;simp only[Ba,ua,Ca];omega
def pT{qp}(a:bq lib qp)(kind s)(b:kind.length<=100)(hs:s.length<=10000):(Ya (Wh qp kind s)).length<=100300:=by
 have:=(a s hs).1;simp only[Wh,Ya,crlf,uv,fj,ej,gj,Ba,ua,Ca];omega
def zaE{qp}(o:Sb lib)(p:bq lib qp){bx}{r}{b}{u}{l kind s:ba}(k:bx[b]?=some (111,bld u b l []))(v:kind.length<=100)(hs:s.length<=10000)(c:l.length+(Ya (Wh qp kind s)).length<=za)(hr:∀q∈r,q≠(b,1))(fa:∀q∈r,q.1<bx.length):
 da code lib 50 [.ptr b 0,.flat (.string (S kind)),.flat (.string (S s))] bx (.cell b 1::cl r)=some ([],false,bx.set b (111,bld true b (l++Ya (Wh qp kind s)) []),.cell b 1::cl r):=by
 have d:da code lib 99 [.flat (.string (S s))] [] []=some ([.flat (.string (S (qp s)))],false,[],[]):=Ef ha ca (p s hs).2;have g:=CR (lib:=lib) o (r:=r) (Wh qp kind s) k (by simp[Wh]) c hr fa (by simp[Wh]);have a:=(qg k).1;obtain⟨z,t⟩:∃z,Ya (Wh qp kind s)=z:=⟨_,rfl⟩;rw[t]at g⊢;simp only[Wh,wa,gc,Ve,ua,Ca,ld,Nat.reduceAdd,uv,fj,ej,gj,Ha,Ra]at g;obtain⟨r',e⟩:∃r',r'=(b,1)::r:=⟨_,rfl⟩;have i:Loc.cell b 1::cl r=cl r':=by rw[e];rfl
 rw[i]at g⊢;have n:∀q∈r',q.1<bx.length:=by
  rw[e];intro q d;rcases wb.1 d with rfl|d
  ·exact a
  ·exact fa q d
 have j:(⟨#[]⟩:ByteArray)=S []:=rfl;have h:za=4294967296:=rfl;refine la yY (qa rfl) ?_;simp(maxSteps:=999999) (disch:=first|assumption|omega) only[go_sem,simprocAttr,au,j,d,g,h,Ba,M1]end ya
end
namespace ya
def Xo:ba:=[67,111,110,116,101,110,116,45,84,121,112,101]
def nD:ba:=[67,111,110,116,101,110,116,45,84,114,97,110,115,102,101,114,45,69,110,99,111,100,105,110,103]
def il:ba:=[113,117,111,116,101,100,45,112,114,105,110,116,97,98,108,101]
def ko(kind:ba):ba:=[116,101,120,116,47]++kind
def xw(kind:ba):ba:=[116,101,120,116,47]++kind++[59,32,99,104,97,114,115,101,116,61,117,116,102,45,56]
def Wk:ba:=[109,117,108,116,105,112,97,114,116,47,97,108,116,101,114,110,97,116,105,118,101]
def Qn:ba:=[109,117,108,116,105,112,97,114,116,47,97,108,116,101,114,110,97,116,105,118,101,59,32,98,111,117,110,100,97,114,121,61,34,61,95,110,117,110,99,105,111,34]
def Zg:ba:=[61,95,110,117,110,99,105,111]
def li(kind:ba):List kf:=[(Xo,xw kind),(nD,il)]
def Pm(a b c:ba):List kf:=[(Gf,a),(jg,b),(Qg,c),([77,73,77,69,45,86,101,114,115,105,111,110],[49,46,48]),(Xo,Qn)]
def Zs(mark:ba):ba:=[45,45]++mark++[13,10]
def Yr(mark:ba):ba:=[13,10,45,45]++mark++[13,10]
def ns(mark:ba):ba:=[13,10,45,45]++mark++[45,45,13,10]
def kc.Jm(m:kc):Prop:=m.fr.length<=250/\m.to.length<=250/\m.su.length<=250/\m.te.length<=250/\m.ht.length<=250
end ya
section
set_option synthInstance.maxSize 4000
namespace ya
def fV(p)(s:ByteArray)(k)(h):(s.data.toList.take (k+1)).all p=((s.data.toList.take k).all p&&p s[k]):=by
 have a:=h;rw[oo a,Mw];simp;rfl
def BJ(p)(s:ByteArray)(k)(h:k<s.size)(a:p s[k]=false):s.data.toList.all p=false:=by
 rw[List.all_eq_false]
 exact⟨s[k],by have:s.data.toList[k]'h=s[k]:=rfl
               grind,by simp[a]⟩
def CJ(p)(s:ByteArray):(s.data.toList.take s.size).all p=s.data.toList.all p:=by
 rw[uk ea]
end ya
namespace Go.Proofs.YtglaihdcndcmkaaGreatDoor
def zcL(s:ByteArray)(w:World)(hs:s.size<=maxLen):Calls Tryz.prog 136 #[.string s] w (ag (.bool (s.data.toList.all Ki)) w):=by
 unfold maxLen at hs;obtain⟨V,j⟩:∃V,s.data.toList.all Ki=V:=⟨_,rfl⟩;rw[j];have l:=Lib.hid j;clear j
 go_enter Tryz.func136,Tryz.ntmps136
 go_wp2
 go_loop [3,4,7] (fun _ _ i=>∃k:Nat,k<=s.size/\i=.int .i64 k/\Hid ((s.data.toList.take k).all Ki=true)) (fun _ _ i=>s.size - (intOf i).toNat)
 case atStart=>exact⟨0,Cb _,rfl,Lib.hid rfl⟩
 case round=>
  obtain⟨k,o,rfl,a⟩:=hrel;by_cases fa:k<s.size
  ·have e:=fV Ki s k fa
   have b:=BJ Ki s k fa;rw[l.out]at b;generalize n:s[k]=c at*;have h:=Lib.hid e;have g:=Lib.hid b;clear e b;go_wp2
   all_goals (try (go_ret;exact⟨r1 (vb (g.out (by(clear n h g a);(go_light;revert c;decide+kernel))).symm),rfl⟩))
   all_goals
    have d:Ki c=true:=by(clear n h g a);(go_light;revert c;decide+kernel)
    go_round
    case rel=>exact⟨k+1,aa,by go_num,Lib.hid (by rw[h.out,a.out,d];rfl)⟩
    case measure=>simp[intOf];omega
  ·obtain rfl:k=s.size:=aa
   have b:=a.out;rw[CJ,l.out]at b;subst b;go_wp2;go_ret;exact⟨rfl,rfl⟩
def L9(s)(w)(hs:s.size<=maxLen):Calls Tryz.prog 137 #[.string s] w (ag (.bool (ji s.data.toList)) w):=by
 unfold maxLen at hs;obtain⟨V,l⟩:∃V,ji s.data.toList=V:=⟨_,rfl⟩;rw[l];have b:s.data.toList.all Tm=false->V=false:=by intro h;rw[<-l,ji,h,Zh]
 have e:s.data.toList.all Tm=true->V=(!s.data.toList.isEmpty&&decide (s.data.toList.length<=32)):=by intro h;rw[<-l,ji,h,sk]
 have r:=Lib.hid b;have q:=Lib.hid e;clear l b e
 go_enter Tryz.func137,Tryz.ntmps137
 go_wp2
 go_loop [3,4,7] (fun _ _ i=>∃k:Nat,k<=s.size/\i=.int .i64 k/\Hid ((s.data.toList.take k).all Tm=true)) (fun _ _ i=>s.size - (intOf i).toNat)
 case atStart=>grind
 case round=>
  obtain⟨k,t,rfl,a⟩:=hrel;by_cases fa:k<s.size
  ·have j:=fV Tm s k fa
   have d:=fun h=>r.out (BJ Tm s k fa h)
   generalize p:s[k]=c at*;have o:=Lib.hid j;have n:=Lib.hid d;clear j d;go_wp2
   all_goals (try (go_ret;exact⟨r1 (vb (n.out (by(clear p o n a);(go_light;revert c;decide+kernel))).symm),rfl⟩))
   all_goals
    have g:Tm c=true:=by(clear p o n a);(go_light;revert c;decide+kernel)
    go_round
    case rel=>exact⟨k+1,aa,by go_num,Lib.hid (by rw[o.out,a.out,g];rfl)⟩
    case measure=>simp[intOf];omega
  ·obtain rfl:k=s.size:=aa
   have d:=a.out;rw[CJ]at d;have g:=q.out d;have j:=Lib.hid g;clear d g;go_wp2
   all_goals go_ret
   all_goals refine⟨r1 (vb ?_),rfl⟩
   all_goals (rw[j.out,<-ByteArray.toList_eq])
   ·rename_i h _;rw[h];rfl
   ·rw[ByteArray.toList_eq,show s.data.toList.length=s.size from rfl]
    congr 1;rw[decide_eq_decide];omega
end Go.Proofs.YtglaihdcndcmkaaGreatDoor
end
namespace ya
def gm(g:Nat)(l:List UInt8)(w:World):Prop:=g<w.heap.size/\∀(j:Nat)(c:UInt8),l[j]?=some c->w.cell? ⟨g,j,none⟩=some (.int .u8 c.toNat)/\w.frozen? ⟨g,j,none⟩=false
def yX{P}(w)(g dst e)(s)(hs:P.underlying g=some .string)(o:P.underlying dst=some (.slice e))(p:P.underlying e=some (.int .u8)):
 ∃a l,(convert g dst (.string s)).run P w=.ok (.slice (some ⟨w.heap.size,0,none⟩) s.size a) l/\s.size<=a/\gm w.heap.size s.data.toList l/\Below w.heap.size w l:=by
 obtain⟨a,b⟩:∃a,grownCap w s.size 0 e=a:=⟨_,rfl⟩;have h:s.size<=a:=by rw[<-b];exact grownCap_ge _ _ _ _
 refine⟨a,_,by rw[run_bytes_of_string w g dst e s hs o p,b],h,⟨ea,fun j c n=>?_⟩,?_⟩
 ·have i:j<s.size:=(qg n).1
  have d:(w.drew.alloc (.cells (bytesRow s a) e ((bytesRow s a).size,(bytesRow s a).size+1))).heap[w.heap.size]?=some (.cells (bytesRow s a) e ((bytesRow s a).size,(bytesRow s a).size+1)):=heap_alloc_new w.drew _;have k:(bytesRow s a).size=a:=by
   unfold bytesRow;rw[Array.size_append,Array.size_map,Array.size_replicate,show s.data.size=s.size from rfl];omega
  refine⟨?_,?_⟩
  ·rw[cell_of_row _ _ _ _ _ _ d]
   unfold bytesRow;rw[Array.getElem?_append_left (by rw[Array.size_map];exact i),Array.getElem?_map];have:s.data[j]?=some c:=by rw[<-YA];exact n
   rw[this];rfl
  ·unfold World.frozen?
   simp only[d];rw[k];simp;omega
 ·exact(Xr w 1).alloc (Aa _) _
def gm.kept{g}{l}{w w'}(h:gm g l w)(k:Below w.heap.size w w'):gm g l w':=
 ⟨mh h.1 k.size,fun j c a=>⟨(k.cell (p:=⟨g,j,none⟩) h.1).trans (h.2 j c a).1,(k.frozen (p:=⟨g,j,none⟩) h.1).trans (h.2 j c a).2⟩⟩
theorem gm.put{g}{l}{w}(h:gm g l w)(k)(e:k<l.length)(d):gm g (l.set k d) (w.setCell ⟨g,k,none⟩ (.int .u8 d.toNat)):=by
 have o:=(h.2 k _ (qe e)).1;refine⟨by have:=h.1;simpa using this,fun j c b=>?_⟩;by_cases a:j=k
 ·subst a
  rw[Tg e]at b;cases b;exact⟨World.cell?_setCell_same _ _ _ o,by rw[World.frozen?_setCell];exact(h.2 _ _ (qe e)).2⟩
 ·rw[WA aa]at b
  obtain⟨i,n⟩:=h.2 j c b;exact⟨by rw[World.cell?_setCell_other _ _ _ _ (by simp[Yf a])];exact i,by rw[World.frozen?_setCell];exact n⟩
def gm.back{P}{a dst e}(hs:P.underlying a=some (.slice e))(d:P.underlying e=some (.int .u8))(c:P.underlying dst=some .string){g}{l}{w}(h:gm g l w)(b):
 (convert a dst (.slice (some ⟨g,0,none⟩) l.length b)).run P w=.ok (.string ⟨l.toArray⟩) w:=
 run_convert_bytes_back w a dst e ⟨g,0,none⟩ b l hs d c fun j i=>by
  have:(⟨g,0,none⟩:Addr).add j=⟨g,j,none⟩:=by unfold Addr.add;split<;>simp_all
  rw[this];exact(h.2 j _ (qe i)).1
end ya
section
set_option synthInstance.maxSize 4000
namespace Go.Proofs.YtglaihdcndcmkaaGreatDoor
def E3(s:List UInt8)(k)(h):ie (s.take (k+1))++s.drop (k+1)=(ie (s.take k)++s.drop k).set k (Fy s[k]):=by
 have e:(ie (s.take k)).length=k:=by simp[ie];omega
 rw[oo h,Dt _ _ aa,e,Nat.sub_self,Pd h,Gw];unfold ie;rw[Zf,vc];rfl
def GP(s)(w:World)(hs:s.size<=1000000):Calls Tryz.prog 79 #[.string s] w (Xg (.string ⟨(ie s.data.toList).toArray⟩) w):=by
 have o:s.data.toList.length=s.size:=rfl;have S:=Lib.hid o;clear o;obtain⟨F,R,e,O,q,b⟩:=yX (P:=Tryz.prog) w 9 99 5 s Tryz.underlying9 Tryz.underlying99 Tryz.underlying5;obtain⟨B,G⟩:∃B,w.heap.size=B:=⟨_,rfl⟩;rw[G]at e q b;have J:=Lib.hid G;clear G;have D:=Lib.hid q;clear q;have H:Below w.heap.size w R:=by rw[J.out];exact b
 go_enter Tryz.func79,Tryz.ntmps79
 go_wp2
 go_loopw [4,5,10] (fun _ _ i wr=>∃(k:Nat)(l:List UInt8),k<=s.size/\i=.int .i64 k/\l.length=s.size/\gm B l wr/\Below B w wr/\Hid (l=ie (s.data.toList.take k)++s.data.toList.drop k))
  (fun _ _ i _=>s.size - (intOf i).toNat)
 case atStart=>exact⟨0,s.data.toList,Cb _,rfl,rfl,D.out,b,Lib.hid rfl⟩
 case round=>
  obtain⟨k,l,T,rfl,t,z,p,A⟩:=hrel;by_cases fa:k<s.size
  ·have n:=E3 s.data.toList k fa
   rw[<-A.out]at n;have g:l[k]?=some s[k]:=by
    rw[A.out,Pf (by grind [ie])];simp[ie];rw[show min k s.size=k by omega];simp;exact Ht fa
   have r:k<l.length:=aa
   have x:s.data.toList[k]'fa=s[k]:=rfl;rw[x]at n;clear x;have v:l[k]'r=s[k]:=(qg g).2;generalize N:s[k]=c at*;obtain⟨d,u⟩:∃d,Fy c=d:=⟨_,rfl⟩;rw[u]at n;obtain⟨Ub,I⟩:=z.2 k c g;have L:=Lib.hid n;have E:=Lib.hid t;have K:=Lib.hid v;clear n g t v;by_cases a:65<=c/\c<=90
   ·have M:(65:Int)<=c.toNat:=by have:=eB.1 a.1;exact Rp.2 this
    have Q:(c.toNat:Int)<=90:=by have:=eB.1 a.2;exact Rp.2 this
    have y:bits .or .u8 (c.toNat:Int) 32=d.toNat:=by rw[<-u];clear u N L E A z p Ub I K;revert c;decide+kernel
    have j:=z.put k r d;have C:=Lib.hid j;clear u a j;go_wp2;go_roundw
    case rel=>exact⟨k+1,l.set k d,aa,by go_num,by grind [Hid.out],C.out,p.setCell (Aa _) _,Lib.hid L.out.symm⟩
    grind [intOf]
   ·have M:¬((65:Int)<=c.toNat/\(c.toNat:Int)<=90):=by
     intro h;apply a;exact⟨eB.2 (Rp.1 h.1),eB.2 (Rp.1 h.2)⟩
    have y:d=c:=by rw[<-u,Fy];rw[if_neg];simpa using a
    have j:l.set k d=l:=by
     rw[y,<-K.out];exact List.set_getElem_self r
    have C:=Lib.hid j;subst y;clear u a j;by_cases Q:(65:Int)<=d.toNat
    all_goals (try have y:(90:Int)<d.toNat:=by omega)
    all_goals clear M
    all_goals clear N e
    all_goals
     go_wp2
     grind [Hid.out,intOf]
  ·obtain rfl:k=s.size:=aa
   have a:l=ie s.data.toList:=by rw[A.out,uk ea,Ej ea,Sg]
   have g:=Lib.hid a;clear a;have j:=z.back (P:=Tryz.prog) Tryz.underlying99 Tryz.underlying5 Tryz.underlying9 F;rw[t]at j;go_wp2;go_ret;exact⟨r1 (by rw[g.out];rfl),by rw[J.out];exact p⟩
def wP(l):(ie l).length=l.length:=by simp[ie]
def HP(s)(l)(h:ie s.data.toList=l)(w:World)(hs:s.size<=1000000):Calls Tryz.prog 79 #[.string s] w (Xg (.string ⟨l.toArray⟩) w):=h▸GP s w hs
def rW(s t)(w)(hs:s.size<=1000000)(ht:t.size<=1000000):Calls Tryz.prog 140 #[.string s,.string t] w (Xg (.bool (ie s.data.toList==ie t.data.toList)) w):=by
 have d:=wP s.data.toList;have g:=wP t.data.toList;obtain⟨x,l⟩:∃x,ie s.data.toList=x:=⟨_,rfl⟩;obtain⟨y,n⟩:∃y,ie t.data.toList=y:=⟨_,rfl⟩;rw[l]at d⊢;rw[n]at g⊢;have q:=Lib.hid l;have r:=Lib.hid n;clear l n;by_cases a:s.size=t.size
 ·obtain⟨b,i⟩:∃b,(x==y)=b:=⟨_,rfl⟩
  rw[i];have c:((⟨x.toArray⟩:ByteArray).toList==(⟨y.toArray⟩:ByteArray).toList)=b:=by rw[ByteArray.toList_eq,ByteArray.toList_eq];exact i
  have k:((s.size:Int)==(t.size:Int))=true:=by rw[a];simp
  clear a d g;have o:=Lib.hid i;have p:=Lib.hid c;clear i c
  go_enter Tryz.func140,Tryz.ntmps140
  go_wp2_with(go_at_call 79;first|((with_reducible refine(HP s x q.out _ hs).mono ?_);rintro e u ⟨rfl,j⟩)|((with_reducible refine(HP t y r.out _ ht).mono ?_);rintro e v ⟨rfl,c⟩))
  go_ret;exact⟨r1 (vb o.out),Ex j c⟩
 ·have hf:(x==y)=false:=by
   rw[beq_eq_false_iff_ne];intro h;have:=congrArg List.length h;rw[d,g]at this;exact a this
  rw[hf];have k:((s.size:Int)==(t.size:Int))=false:=by rw[beq_eq_false_iff_ne];omega
  clear a d g hf
  go_enter Tryz.func140,Tryz.ntmps140
  go_wp2;go_ret;exact⟨rfl,Below.refl _ _⟩
end Go.Proofs.YtglaihdcndcmkaaGreatDoor
namespace ya
theorem dropWhile_nil(p):∀l:List UInt8,l.dropWhile p=[] ↔ l.all p=true
 |[]=>by simp
 |c::l=>by
  rw[fB,zk,bc];cases h:p c
  ·simp
  ·simpa using dropWhile_nil p l
theorem ze7(c)(l):pk (c::l)=if l.all nc&&nc c then[]else c::pk l:=by
 unfold pk;rw[List.reverse_cons,List.dropWhile_append];have b:(l.reverse.dropWhile nc).isEmpty=l.all nc:=by
  rw[Ir,List.isEmpty_iff,dropWhile_nil,List.all_reverse]
 rw[b];cases h:l.all nc
 ·simp
 ·have a:l.reverse.dropWhile nc=[]:=(dropWhile_nil _ _).2 na
  rw[a];cases d:nc c<;>simp[d]
def zfd(l):(pk l).dropWhile nc=pk (l.dropWhile nc):=by
 induction l<;>grind [ze7,List.dropWhile_cons,dropWhile_nil,pk]
def fK(c):([32,9]:List UInt8).contains c=nc c:=by
 grind [nc]
def zfc(l):Go.Lib.trimS l [32,9]=trimB l:=by
 unfold Go.Lib.trimS Go.Lib.trimLeftS Go.Lib.trimRightS trimB;simp only[fK];exact zfd l
def zfb(l):Go.Lib.trimLeftS l [32,9]=l.dropWhile nc:=by
 unfold Go.Lib.trimLeftS;simp only[fK]
end ya
namespace Go.Proofs.YtglaihdcndcmkaaGreatDoor
def zfe(s)(w:World)(hs:s.size<=1000000000):Calls Tryz.prog 138 #[.string s] w (Xg (.string ⟨(trimB s.data.toList).toArray⟩) w):=by
 have h:=Any.strings_Trim_laid Tryz.H8 ca s ⟨#[32,9]⟩ w aa ha (ascii_of_all ha);rw[show(ByteArray.mk #[32,9]).data.toList=[32,9]from rfl,zfc]at h;have H:=Lib.hid h;clear h
 go_enter Tryz.func138,Tryz.ntmps138
 go_wp2_with(go_at_call 206;refine H.out.mono ?_;rintro e b ⟨rfl,a⟩)
 go_ret;exact⟨rfl,a⟩
end Go.Proofs.YtglaihdcndcmkaaGreatDoor
end
namespace ya
section
variable {F:Fence} {n:Nat} {P:Program} {b:Frame} {a:Act} {k:List Item} {cs:List Frame} {w:World} {Q:Exit→Act→World→Prop}
def TU{c}:step P (lone (b.atR a (.code (.scope c)::k)) cs w)=.next (lone (b.atR a (.code c::.inScope c::k)) cs w):=
 step_lone_go (by simp[Go.stepG,Go.stepG.exec,Frame.atR])
def zen{c}:step P (lone (b.atR a (.inScope c::k)) cs w)=.next (lone (b.atR a k) cs w):=
 step_lone_go (by simp[Go.stepG,Go.stepG.exec,Frame.atR])
theorem bJ{c rest}(l)(J)(hf:findLabel c l=some rest)
 (B:∀l a w,¬Q (.goto l) a w)
 (first:c.wpIn F n P (Exit.jump l J Q) a w) (t:∀a w,J a w->rest.wpIn F n P Q a w):(Code.scope c).wpIn F n P Q a w:=by
 intro b k cs r v hr;have x:(lone (b.atR a (.code (.scope c)::k)) cs w).fenced P F:=fenced_calm v hr rfl;have A:gotoIn l (.inScope c::k)=some (.code rest::.inScope c::k):=by simp[gotoIn,hf]
 have out:∀(m:Machine)(e:Exit)(g:Act)(h:World),Q e g h->ArrivesIn (Machine.fenced P F) P m b (.inScope c::k) cs e g h->ArrivesIn (Machine.fenced P F) P m b k cs e g h:=by
  intro m e g h i d;cases e with
  |normal=>exact StepsIn.trans d (.one (fenced_calm v hr rfl) zen)
  |exit id=>exact⟨fun k' j=>d.1 k' (by simp[exitTo,j]),fun o j=>d.2 o (by simp[exitTo,j])⟩
  |goto l'=>exact(B _ _ _ i).elim
  |ret=>exact d
  |panic j=>exact d
  |outgrown=>exact d
 obtain⟨e,g,h,q,d⟩:=first b (.inScope c::k) cs r v hr
 by_cases y:∃l',e=.goto l'
 ·obtain⟨l',rfl⟩:=y
  obtain⟨rfl,z⟩:=q;obtain⟨p,o,u,j,i⟩:=t g h z b (.inScope c::k) cs r v hr;exact⟨p,o,u,j,.of_steps (.head x TU (d.1 _ A)) (out _ _ _ _ j i)⟩
 ·have i:Q e g h:=by cases e<;>first|exact q|exact(y ⟨_,rfl⟩).elim
  exact⟨e,g,h,i,.of_steps (.one x TU) (out _ _ _ _ i d)⟩
end
def rz{w w'}(h:Below w.heap.size w w'):KeepsOthers w w':=by
 refine⟨h.size,fun k o a b=>?_⟩;exact(h.block k (Kh.1 a).1).trans a
def pv{e b:Nat}{w w'}(hs:w.heap.size<=w'.heap.size)(h:Lib.OthersKept e (some b) w w')(l:∃o,w.heap[b]?=some o/\o.isCells=true):KeepsOthers w w':=by
 refine⟨hs,fun k o j i=>?_⟩;refine h k o j ?_ ?_
 ·intro g
  obtain⟨n,d,a⟩:=l;cases g;rw[j]at d;cases d;rw[i]at a;cases a
 ·intro c d a
  subst a;cases i
def sn(b:Nat)(W a:World):Prop:=a.heap[b]?=W.heap[b]?
def EG{b}{A B C}(h:sn b A B)(k:sn b B C):sn b A C:=Eq.trans k h
def CG{b}{w:World}(c:b<w.heap.size)(W)(l)(o a)(d:w.heap.size<=l)(h:W.heap[l]?=some o)(_:o.isCells=false)(_:o.isWalk=false):sn b W (W.putObj l a):=
 World.putObj_heap_other aa
def Co{β}{B}{J}(h:AbidesFrom B J){s:β}{W a}(b:J s W)(k:Below W.heap.size W a):J s a:=
 h s W a none b ⟨k.os,k.tape,k.output,k.size,fun i c _=>k.block i c⟩ (fun r e=>by cases e)
def DG{b}{W a}(c:b<W.heap.size)(k:Below W.heap.size W a):sn b W a:=k.block b c
abbrev Ge:={p:ByteArray×Nat//p.1.size<=10000/\p.2<=20000}
def Ge.pair(p:Ge):List UInt8×Nat:=(p.1.1.data.toList,p.1.2)
def Dk(b c:Nat)(W a:World):Prop:=sn b W a/\sn c W a
def pz{b c}{A B C}(h:Dk b c A B)(k:Dk b c B C):Dk b c A C:=⟨EG h.1 k.1,EG h.2 k.2⟩
def j8{b c}{w:World}(i:b<w.heap.size)(j:c<w.heap.size)(W)(l)(o a)(g:w.heap.size<=l)(h:W.heap[l]?=some o)(d:o.isCells=false)(e:o.isWalk=false):Dk b c W (W.putObj l a):=
 ⟨CG i W l o a g h d e,CG j W l o a g h d e⟩
theorem mR{b c}{W a}(d:b<W.heap.size)(e:c<W.heap.size)(k:Below W.heap.size W a):Dk b c W a:=⟨DG d k,DG e k⟩
def zf(W:World):Prop:=∃m,W.cell? ⟨0,0,none⟩=some (.int .i64 m)
def zf.kept{W a}(h:zf W)(k:sn 0 W a):zf a:=by
 obtain⟨m,b⟩:=h;exact⟨m,by unfold World.cell? at b⊢;rw[k];exact b⟩
theorem zf.lt{W}(h:zf W):0<W.heap.size:=by
 obtain⟨m,a⟩:=h;exact Et W _ a
def zf.below{W a}(h:zf W)(k:Below W.heap.size W a):zf a:=h.kept (DG h.lt k)
def zf.aK{B}{W a}(h:zf W)(b:0<B)(k:Below B W a):zf a:=h.kept (k.block _ b)
def jJ(s:ByteArray)(k d:Nat)(w:World)(e:Ending)(w':World):Prop:=∃a b:ByteArray,e=.returned (.tuple #[.string a,.string b,.bool true])/\a.size=k/\b.size+(k+d)=s.size/\Hid (a.data.toList=s.data.toList.take k)/\Hid (b.data.toList=s.data.toList.drop (k+d))/\Below w.heap.size w w'
def iJ(s:ByteArray)(w:World)(e:Ending)(w':World):Prop:=e=.returned (.tuple #[.string s,.string ⟨#[]⟩,.bool false])/\Below w.heap.size w w'
end ya
namespace Go.Proofs.YtglaihdcndcmkaaGreatDoor
def G0(s)(w)(a:zf w)(hs:s.size<=1000000)(b:Ig s.data.toList=none):Calls Tryz.prog 39 #[.string s,.string ⟨#[13,10]⟩] w (iJ s w):=by
 obtain⟨m,a⟩:=a;refine(Tryz.strings_Cut s ⟨#[13,10]⟩ m w aa a).mono ?_;rintro e w' ⟨rfl,n,rfl⟩;refine⟨?_,Xr w n⟩;rw[show(ByteArray.mk #[13,10]).data.toList=[13,10]from rfl,oO,b]
def H0(s)(w)(a:zf w)(hs:s.size<=1000000)(k:Nat)(c:Ig s.data.toList=some k):Calls Tryz.prog 39 #[.string s,.string ⟨#[13,10]⟩] w (jJ s k 2 w):=by
 obtain⟨m,a⟩:=a;refine(Tryz.strings_Cut s ⟨#[13,10]⟩ m w aa a).mono ?_;rintro e w' ⟨rfl,n,rfl⟩;have b:=js c;rw[show s.data.toList.length=s.size from rfl]at b;refine⟨⟨(s.data.toList.take k).toArray⟩,⟨(s.data.toList.drop (k+2)).toArray⟩,?_,?_,?_,Lib.hid rfl,Lib.hid rfl,Xr w n⟩
 ·grind [oO]
 ·rw[Qm,Se,show s.data.toList.length=s.size from rfl];omega
 ·rw[Qm,fc,show s.data.toList.length=s.size from rfl];omega
def D0(c)(s)(w:World)(a:zf w)(hs:s.size<=1000000)(b:th c s.data.toList=none):Calls Tryz.prog 39 #[.string s,.string ⟨#[c]⟩] w (iJ s w):=by
 obtain⟨m,a⟩:=a;refine(Tryz.strings_Cut s ⟨#[c]⟩ m w aa a).mono ?_;rintro e w' ⟨rfl,n,rfl⟩;refine⟨?_,Xr w n⟩;rw[show(ByteArray.mk #[c]).data.toList=[c]from rfl,pD,b]
def qD(c)(s)(w:World)(a:zf w)(hs:s.size<=1000000)(k:Nat)(d:th c s.data.toList=some k):Calls Tryz.prog 39 #[.string s,.string ⟨#[c]⟩] w (jJ s k 1 w):=by
 obtain⟨m,a⟩:=a;refine(Tryz.strings_Cut s ⟨#[c]⟩ m w aa a).mono ?_;rintro e w' ⟨rfl,n,rfl⟩;have b:=OC d;rw[show s.data.toList.length=s.size from rfl]at b;refine⟨⟨(s.data.toList.take k).toArray⟩,⟨(s.data.toList.drop (k+1)).toArray⟩,?_,?_,?_,Lib.hid rfl,Lib.hid rfl,Xr w n⟩
 ·grind [pD]
 ·rw[Qm,Se,show s.data.toList.length=s.size from rfl];omega
 ·rw[Qm,fc,show s.data.toList.length=s.size from rfl];omega
attribute [local go_sem] Oper.semAt_some
set_option maxRecDepth 100000 in
theorem Z8(n:Nat)(hnZ:1<=n)(s)(hs:s.size<=10000)(A:Nat)(w)(u:Boxed w A 9 (.string s))(D:zf w):
 SeqStopsK Fence.wide n Tryz.prog 205 #[.pointer (some ⟨A,0,none⟩)] (fun p:Ge=>#[.string p.1.1,.int .i64 p.1.2]) (Dk A 0)
  (fun xs=>xs.map Ge.pair=Uf s.data.toList 0) (fun xs=>∃r,xs.map Ge.pair++r=Uf s.data.toList 0) (s.size+1) w:=fun l J d W R Q c hYZ Z=>by
 have i:Boxed W A 9 (.string s):=(R.block _ u.lt).trans u;have O:=D.below R;have hc0:=i.cell;have X:=Lib.hid i;clear i;refine callsIn_of_wp Tryz.func205 rfl trivial ?_ rfl;simp only[Tryz.ntmps205,Nw,ua,Ca,Nat.reduceAdd,Nat.reduceSub,Ow,Pw,Qw,Rw,Ra,Ha]
 gi_wp2
 gi_loopw [3,4,5,6,7] (fun v _ _ _ _ wr=>∃(k:Nat)(pre:List Ge),v=.int .i64 k/\k<=s.size/\pre.length<=k/\Hid (pre.map Ge.pair++Uf (s.data.toList.drop k) k=Uf s.data.toList 0)/\Hid (J pre wr)/\Hid (Boxed wr A 9 (.string s))/\Hid (zf wr))
  (fun v _ _ _ _ _=>s.size+1 - (intOf v).toNat)
 case atStart=>exact⟨0,[],rfl,Cb _,Aa _,Lib.hid rfl,Lib.hid Z,X,Lib.hid O⟩
 case round=>
  obtain⟨k,pre,rfl,hkZ,hpl,q,t,g,hmx⟩:=hrel;replace t:=t.out;replace g:=g.out;have hc2:=g.cell;have M:=g.lt;have z:(s.extract k s.size).data.toList=s.data.toList.drop k:=by rw[Lib.extract_data,uk ea]
  have hsz:(s.extract k s.size).size=s.size - k:=by rw[dB];omega
  rcases F:Ig (s.data.toList.drop k)with _|j
  ·have G:=Lib.hid (show Ig (s.extract k s.size).data.toList=none by grind)
   have c:=Lib.hid (show pre.map Ge.pair=Uf s.data.toList 0 by grind [Hid.out,Uu]);clear F z
   gi_wp2_with (refine⟨trivial,?_⟩;gi_at_call 39;refine(callsIn_wide.2 (G0 _ _ hmx.out aa G.out)).mono ?_;rintro e V ⟨rfl,d⟩)
   refine bodyPost_ret (results_none rfl _ _ _) rfl ?_;exact⟨⟨_,rfl⟩,.inl ⟨pre,c.out,Co Q t d⟩⟩
  ·have fa:=js F
   rw[fc,show s.data.toList.length=s.size from rfl]at fa;have G:=Lib.hid (show Ig (s.extract k s.size).data.toList=some j by grind);have hit:=Oy (a:=k) F;rw[yd]at hit;have y:=Lib.hid hit;have I:=Lib.hid z;clear F z hit
   gi_wp2_with (refine⟨trivial,?_⟩;gi_at_call 39;refine(callsIn_wide.2 (H0 _ _ hmx.out aa j G.out)).mono ?_;rintro e V ⟨a,b,rfl,B,hbs,L,_,d⟩;have K:=Co Q t d;have x:=(d.block _ M).trans g;have E:=hmx.out.below d;have hc1:=Boxed.cell x;have c:=Lib.hid B;have ha1:a.size+2<=s.size - k:=aa;clear B;obtain⟨fn,tmps,assign,body,U,hRZ⟩:=hYZ pre ⟨(a,k+(a.size+2)),by constructor<;>dsimp only<;>omega⟩ V K aa;dsimp only at U;rw[show((k+(a.size+2):Nat):Int)=(k:Int)+((a.size:Int)+2) by omega]at U)
   have o:Ge.pair ⟨(a,k+(a.size+2)),by constructor<;>dsimp only<;>omega⟩=((s.data.toList.drop k).take j,k+j+2):=by
    unfold Ge.pair;dsimp only;rw[L.out,I.out,c.out,tk]
   have H:=Lib.hid o;clear o;refine hRZ.mono ?_;rintro e Y (⟨rfl,hJ3,C⟩|⟨rfl,hx3⟩)
   ·have S:Boxed Y A 9 (.string s):=Eq.trans C.1 x
    have T:=E.kept C.2;rcases Nat.eq_zero_or_pos j with N|N
    ·have hae:a.toList=[]:=by
      rw[Lib.toList_data];exact qz (c.out.trans N)
     have P:=Lib.hid (show(pre++[(⟨(a,k+(a.size+2)),by constructor<;>dsimp only<;>omega⟩:Ge)]).map Ge.pair=Uf s.data.toList 0 by
      rw[Zf,Eg,H.out,<-q.out,y.out,if_pos N])
     gi_wp2
     refine bodyPost_ret (results_none rfl _ _ _) rfl ?_
     grind [Hid.out]
    ·have e1:a.toList=[] ↔ False:=by
      rw[Lib.toList_data];exact iff_of_false (fun h=>by have:=c.out;have h2Z:a.size=0:=congrArg List.length h;omega) id
     have e2:a.toList.isEmpty=false:=by
      rw[Lib.toList_data];cases h:a.data.toList with
      |nil=>have:=c.out;have h2Z:a.size=0:=congrArg List.length h;omega
      |cons _ _=>rfl
     have P:=Lib.hid (show(pre++[(⟨(a,k+(a.size+2)),by constructor<;>dsimp only<;>omega⟩:Ge)]).map Ge.pair++Uf (s.data.toList.drop (k+(a.size+2))) (k+(a.size+2))=Uf s.data.toList 0 by
      rw[Zf,Eg,H.out,<-q.out,y.out,if_neg aa,c.out,vc];rfl)
     gi_wp2
     grind [Lib.hid,intOf]
   ·have P:=Lib.hid (show(pre++[(⟨(a,k+(a.size+2)),by constructor<;>dsimp only<;>omega⟩:Ge)]).map Ge.pair++(if j=0 then[]else Uf (s.data.toList.drop (k+(j+2))) (k+j+2))=Uf s.data.toList 0 by
     rw[Zf,Eg,H.out,<-q.out,y.out,vc];rfl)
    gi_wp2
    refine bodyPost_ret (results_none rfl _ _ _) rfl ?_
    grind [Hid.out]
end Go.Proofs.YtglaihdcndcmkaaGreatDoor
namespace ya
def Zd(l:List kf):List Value:=l.flatMap fun p=>[.string ⟨p.1.toArray⟩,.string ⟨p.2.toArray⟩]
theorem Mu(l):(Zd l).length=l.length* 2:=by
 induction l<;>grind [Zd]
theorem aE(l)(p):Zd (l++[p])=Zd l++[.string ⟨p.1.toArray⟩,.string ⟨p.2.toArray⟩]:=by simp[Zd]
def vp(pre:List Ge):List (List UInt8):=pre.map fun x=>x.1.1.data.toList
def Zb(pre:List Ge):List kf×Bool:=(Ud (vp pre) ([],false)).getD ([],false)
def Ck(pre:List Ge):Prop:=Ud (vp pre) ([],false)=some (Zb pre)/\∀x∈pre,x.1.1.data.toList≠[]
def s4:Ck []:=⟨rfl,ea⟩
def dQ{pre}{x}{st}(h:Ck pre)(b:x.1.1.data.toList≠[])(hs:ze (Zb pre) x.1.1.data.toList=some st):Ck (pre++[x])/\Zb (pre++[x])=st:=by
 have e:Ud (vp (pre++[x])) ([],false)=some st:=by
  unfold vp;rw[Zf,Eg,AR];show(Ud (vp pre) ([],false)).bind _=_;rw[h.1];exact hs
 refine⟨⟨by grind [Zb],?_⟩,by grind [Zb]⟩;intro y a;rcases Ue.1 a with a|a
 ·exact h.2 y a
 grind
def ZH{pre}(h:Ck pre)(r):zj (pre.map Ge.pair++r) ([],false)=zj r (Zb pre):=by
 refine cU _ _ _ _ ?_ ?_
 ·intro x a
  obtain⟨y,b,rfl⟩:=si.1 a;exact h.2 y b
 ·rw[List.map_map];exact h.1
def WU{st}{l}(h:l.all Ki=false):ze st l=none:=by grind [ze]
def zeo{st}{l}(a:(l.head?.map nc).getD false=true)(h:st.1=[]):ze st l=none:=by
 grind [ze]
def UU{st}{l}{F}{q}(hs:l.all Ki=true)(a:(l.head?.map nc).getD false=true)(h:st.1=F++[q]):
 ze st l=some (F++[(q.1,q.2++l)],st.2||decide (998<l.length)):=by
 grind [ze]
def zeq{st}{l}(a:(l.head?.map nc).getD false=false)(h:th 58 l=none):ze st l=none:=by
 grind [ze]
def zer{st}{l}{k}(a:(l.head?.map nc).getD false=false)(h:th 58 l=some k)(b:ji (l.take k)=false):ze st l=none:=by
 grind [ze]
def VU{st}{l}{k}(hs:l.all Ki=true)(a:(l.head?.map nc).getD false=false)(h:th 58 l=some k)(b:ji (l.take k)=true):
 ze st l=some (st.1++[(l.take k,l.drop (k+1))],st.2||decide (998<l.length)):=by
 grind [ze]
def zep{st st'}{l}(h:ze st l=some st'):st'.1.length<=st.1.length+1:=by
 grind [ze]
theorem DR:∀(a)(st st'),Ud a st=some st'->st'.1.length<=st.1.length+a.length
 |[],st,st',h=>by grind [Ud]
 |l::a,st,st',h=>by
  rw[Ud,Ot]at h;obtain⟨s1,b,c⟩:=qb h;have:=zep b;have:=DR a s1 st' c
  grind
def zes{st st'}{l}{C}(h:ze st l=some st')(a:∀f∈st.1,f.2.length<=C):∀f∈st'.1,f.2.length<=C+l.length:=by
 unfold ze at h;split at h
 ·cases h
 ·split at h<;>grind [List.dropLast_sublist]
theorem ER:∀(b)(st st')(C M),Ud b st=some st'->(∀f∈st.1,f.2.length<=C)->(∀l∈b,l.length<=M)->∀f∈st'.1,f.2.length<=C+M* b.length
 |[],st,st',C,M,h,c,_=>by grind [Ud]
 |l::b,st,st',C,M,h,c,d=>by
  rw[Ud,Ot]at h;obtain⟨s1,e,g⟩:=qb h;have a:=zes e c;have j:=d l ea;have:=ER b s1 st' (C+M) M g (fun f hf=>by grind) (fun x i=>d x (by simp[i]))
  grind [Nat.mul_succ]
def eQ{pre}(h:Ck pre):∀f∈(Zb pre).1,f.2.length<=10000* pre.length:=by
 have:=ER _ _ _ 0 10000 h.1 ea (by
  intro l a;unfold vp at a;obtain⟨x,_,rfl⟩:=si.1 a;exact x.2.1)
 grind [vp]
def jE{pre}(h:Ck pre):(Zb pre).1.length<=pre.length:=by
 have:=DR _ _ _ h.1
 grind [vp]
def y4(p:ByteArray)(h):(p.data.toList.head?.map nc).getD false=nc p[0]:=by
 rw[List.head?_eq_getElem?,qe (show 0<p.data.toList.length from h)];rfl
def ZW:∀c,nc c=true->((c.toNat:Int)==32)=true\/((c.toNat:Int)==32)=false/\((c.toNat:Int)==9)=true:=Fb
def YW:∀c,nc c=false->((c.toNat:Int)==32)=false/\((c.toNat:Int)==9)=false:=Fb
theorem Pv{W}{B t e base size n:Nat}{u v}{xs}(h:Boxed W B t u)(a:t≠e)(hr:W.ownsRow base e size v n xs)(b):(W.setCell ⟨B,0,none⟩ b).ownsRow base e size v n xs:=
 hr.kept (grownBy_setCell' W B b) (.inr (h.not_row a hr).symm)
def nR{b c B}{W}(a:b≠B)(d:c≠B)(u)(o):Dk b c W (W.setCell ⟨B,o,none⟩ u):=
 ⟨Below.heap_setCell _ _ _ _ aa,Below.heap_setCell _ _ _ _ aa⟩
def aA{w w'}{B e size n:Nat}{v}{xs}(h:w.ownsRow B e size v n xs)(k:Below w.heap.size w w'):w'.ownsRow B e size v n xs:=
 World.ownsRow.kept (row:=none) h ⟨k.os,k.tape,k.output,k.size,fun i a _=>k.block i a⟩ na
def cell_two_new(w:World)(x y)(t):∀(j) u,[x,y][j]?=some u->(w.alloc (.cells #[x,y] t)).cell? ((⟨w.heap.size,0,none⟩:Addr).add j)=some u:=by
 intro j u a
 match j,a with
 |0,a=>simp at a;subst a;simp[Addr.add]
 |1,a=>simp at a;subst a;simp[Addr.add]
theorem VH{w:World}{B}{e size:Nat}{v}{n}{xs}(h:w.ownsRow B e size v n xs):(v=.slice none 0 0/\n=0)\/∃g a,v=.slice (some ⟨g,0,none⟩) n a/\B<=g/\g<w.heap.size/\n<=a:=by
 rcases h.2 with c|⟨g,a,b,rfl,d,j,i,_⟩<;>grind
end ya
namespace Go.Proofs.YtglaihdcndcmkaaGreatDoor
def vA(s)(b)(h:s.data.toList.all Ki=b)(w)(hs:s.size<=maxLen):Calls Tryz.prog 136 #[.string s] w (ag (.bool b) w):=h▸zcL s w hs
def TG(s)(b)(h:ji s.data.toList=b)(w)(hs:s.size<=maxLen):Calls Tryz.prog 137 #[.string s] w (ag (.bool b) w):=h▸L9 s w hs
attribute [local go_sem] Oper.semAt_some
def Y8(s)(w):Calls Tryz.prog 135 #[.string s] w fun e w'=>e=.returned (.func (.func 205) #[] #[.pointer (some ⟨w.heap.size,0,none⟩)])/\w'=w.alloc (.cells #[.string s] 9):=by
 go_enter Tryz.func135,Tryz.ntmps135
 go_wp2;go_ret;simp
def zdF:Split->World->Ending->World->Prop
 | .form,w,e,w'=>e=.returned (.tuple #[.slice none 0 0,.int .i64 0,.int .i64 7])/\Below w.heap.size w w'
 | .long,w,e,w'=>e=.returned (.tuple #[.slice none 0 0,.int .i64 0,.int .i64 6])/\Below w.heap.size w w'
 | .ok l b,w,e,w'=>∃v,e=.returned (.tuple #[v,.int .i64 b,.int .i64 0])/\w'.ownsRow w.heap.size 60 2 v l.length (Zd l)/\Below w.heap.size w w'
def Zw(n0:Nat)(w:World)(s:ByteArray)(pre:List Ge)(W:World):Prop:=
 (((∃v,Boxed W n0 49 v/\W.ownsRow n0 60 2 v (Zb pre).1.length (Zd (Zb pre).1)/\True)/\Boxed W (n0+1) 3 (.int .i64 0)/\Boxed W (n0+1+1) 24 (.int .i64 (if(Zb pre).2 then 6 else 0))/\Boxed W (n0+1+1+1) 9 (.string s))/\Ck pre)/\Below n0 w W
def Out(n0:Nat)(w:World)(c:Code)(pre:List Ge)(W:World):Prop:=
 (((Boxed W n0 49 (.slice none 0 0)/\Boxed W (n0+1) 3 (.int .i64 0)/\Boxed W (n0+1+1) 24 (.int .i64 7))/\(c=.ret/\∃a x,pre=a++[x]/\Ck a/\x.1.1.data.toList≠[]/\ze (Zb a) x.1.1.data.toList=none))/\Below n0 w W)\/
 (((∃v,Boxed W n0 49 v/\W.ownsRow n0 60 2 v (Zb pre.dropLast).1.length (Zd (Zb pre.dropLast).1)/\True)/\Boxed W (n0+1) 3 (.int .i64 ((pre.getLast?.map fun x=>x.1.2).getD 0:Nat))/\Boxed W (n0+1+1) 24 (.int .i64 (if(Zb pre.dropLast).2 then 6 else 0)))/\(c=.exit 0/\∃a x,pre=a++[x]/\Ck a/\x.1.1.data.toList=[]))/\Below n0 w W
def OwnFrom.or{β}{B}{I J:β->World->Prop}(h:OwnFrom B I)(k:OwnFrom B J):OwnFrom B (fun s W=>I s W\/J s W):=fun s W b row hs c hr=>hs.elim (fun a=>.inl (h s W b row a c hr)) (fun a=>.inr (k s W b row a c hr))
def D9(n0)(w)(s)(B)(b:n0<=w.heap.size)(a:n0<=B):OwnFrom B (Zw n0 w s):=
 OwnFrom.and (OwnFrom.and (OwnFrom.and (Own.from (holdsRow_own n0 n0 49 60 2 (fun pre:List Ge=>(Zb pre).1.length) (fun pre=>Zd (Zb pre).1) (fun _ _=>True)) _) (OwnFrom.and (Own.from (boxed_own _ _ _) _) (OwnFrom.and (Own.from (boxed_own _ _ _) _) (Own.from (boxed_own _ _ _) _)))) (ownFrom_pure _ _)) (ownFrom_below b a)
def zaf(n0)(w)(c)(B)(b:n0<=w.heap.size)(a:n0<=B):OwnFrom B (Out n0 w c):=
 OwnFrom.or (OwnFrom.and (OwnFrom.and (OwnFrom.and (Own.from (boxed_own _ _ _) _) (OwnFrom.and (Own.from (boxed_own _ _ _) _) (Own.from (boxed_own _ _ _) _))) (ownFrom_pure _ _)) (ownFrom_below b a))
  (OwnFrom.and (OwnFrom.and (OwnFrom.and (Own.from (holdsRow_own n0 n0 49 60 2 (fun pre:List Ge=>(Zb pre.dropLast).1.length) (fun pre=>Zd (Zb pre.dropLast).1) (fun _ _=>True)) _) (OwnFrom.and (Own.from (boxed_own _ _ _) _) (Own.from (boxed_own _ _ _) _))) (ownFrom_pure _ _)) (ownFrom_below b a))
end Go.Proofs.YtglaihdcndcmkaaGreatDoor
namespace ya
theorem dr:∀(L M:List ba),Ya (L++M)=Ya L++Ya M
 |[],M=>rfl
 |x::L,M=>by rw[Ha,Ya,Ya,dr L M,vc,vc,vc]
def BR(x:ba):Ya [x]=x++[13,10]:=by simp[Ya,crlf]
def ml(q:List ba×ba)(x:ba):List ba×ba:=if ak x q.2.length then(q.1++[q.2],32::x)else(q.1,q.2++32::x)
def zei(q:List ba×ba)(x:ba):Pg (Ya q.1++q.2,q.2.length) x=(Ya (ml q x).1++(ml q x).2,(ml q x).2.length):=by
 unfold Pg jk fl ml;dsimp only;split
 ·rw[dr,BR]
  simp only[vc,ua,ld,Nat.add_comm]
 ·simp only[vc,Ba,ua,Prod.mk.injEq,true_and]
  omega
theorem vP:∀(a:List ba)(q:List ba×ba),a.foldl Pg (Ya q.1++q.2,q.2.length)=(Ya (a.foldl ml q).1++(a.foldl ml q).2,(a.foldl ml q).2.length)
 |[],q=>rfl
 |x::a,q=>by rw[Cg,zei,vP a (ml q x),Cg]
def Is(enc:ba->ba)(f v:ba):List ba×ba:=(Ad enc v).foldl ml ([],f++[58])
def Zq(enc:ba->ba)(f v:ba):List ba:=(Is enc f v).1++[(Is enc f v).2]
def sz(enc:ba->ba)(f v:ba):Ze enc f v=Ya (Zq enc f v):=by
 unfold Ze Zq;have h:=vP (Ad enc v) ([],f++[58]);simp only[Ya,Ra,Ba,ua,Ca,ld]at h;rw[dr,BR,<-vc,h];rfl
def zg(c:UInt8):Bool:=decide (32<=c.toNat)&&decide (c.toNat<=126)
def zcz:∀c:UInt8,zg c=true->Ki c=true:=Fb
def zcy:∀c:UInt8,zg c=true->c≠13:=Fb
def Fp(x:ba):Prop:=x.length<=76/\x.all zg=true
def HS{x:ba}(h:Fp x):x.all Ki=true:=by
 rw[Bg];intro c a;exact zcz c (Bg.1 h.2 c a)
structure xl (f:ba) (F:List kf) (q:List ba × ba) (r:ba):Prop where
 one:∀ x∈q.1,Fp x∧x≠[]
 two:Fp q.2
 TA:(q.1=[]∧q.2=f++58::r)∨∃ v y,Ud q.1 (F,false)=some (F++[(f,v)],false)∧q.2=32::y∧r=v++32::y
def be(a:List ba):ba:=a.flatMap (32::·)
def rt(w:ba)(a:List ba):be (w::a)=32::(w++be a):=by simp[be]
def I9:∀c:UInt8,Tm c=true->c≠58:=Fb
def J9:∀c:UInt8,Tm c=true->nc c=false:=Fb
theorem PC:∀(f r:ba),f.all Tm=true->th 58 (f++58::r)=some f.length
 |[],r,_=>by simp[th]
 |c::f,r,h=>by
  rw[zk,bc]at h;rw[Ha,th,if_neg (I9 c h.1),PC f r h.2];rfl
def UD{f r:ba}{F:List kf}(hf:ji f=true)(e:Fp (f++58::r)):ze (F,false) (f++58::r)=some (F++[(f,r)],false):=by
 have b:=hf;unfold ji at hf;simp only[bc]at hf;obtain⟨⟨d,_⟩,a⟩:=hf;have ht:(f++58::r).take f.length=f:=ea
 have i:(f++58::r).drop (f.length+1)=r:=by rw[List.drop_append];simp
 have g:((f++58::r).head?.map nc).getD false=false:=by
  cases f with
  |nil=>simp at d
  |cons c f=>rw[zk,bc]at a;exact J9 c a.1
 have h:=VU (st:=(F,false)) (HS e) g (PC f r a) (by rw[ht];exact b);rw[h,ht,i];have:decide (998<(f++58::r).length)=false:=decide_eq_false (by have:=e.1;omega);rw[this];rfl
def E9{f r v:ba}{F:List kf}(a:Fp (32::r)):ze (F++[(f,v)],false) (32::r)=some (F++[(f,v++32::r)],false):=by
 have h:=UU (st:=(F++[(f,v)],false)) (F:=F) (q:=(f,v)) (HS a) rfl rfl;rw[h];have:decide (998<(32::r).length)=false:=decide_eq_false (by have:=a.1;omega);rw[this];rfl
def xl.done{f r:ba}{F:List kf}{q:List ba×ba}(hf:ji f=true)(h:xl f F q r):Ud (q.1++[q.2]) (F,false)=some (F++[(f,r)],false):=by
 have b:=h.two;rw[AR];rcases h.TA with⟨c,a⟩|⟨v,y,c,a,rfl⟩
 ·rw[a]at b
  rw[c,a];exact UD hf b
 ·rw[a]at b
  rw[a,c];exact E9 b
def xl.step{f r:ba}{F:List kf}{q:List ba×ba}(hf:ji f=true)(h:xl f F q r){x:ba}(j:x.length<=75)(i:x.all zg=true):xl f F (ml q x) (r++32::x):=by
 have g:=h.done hf;have e:(32::x:ba).all zg=true:=by rw[zk,i];rfl
 have d:q.2≠[]:=by
  rcases h.TA with⟨_,a⟩|⟨_,_,_,a,_⟩
  ·rw[a];simp
  ·rw[a];simp
 unfold ml ak;by_cases b:76<=x.length+q.2.length
 ·rw[if_pos (decide_eq_true b)]
  refine⟨fun y c=>?_,⟨by simp only[ua];omega,e⟩,.inr ⟨r,x,g,rfl,rfl⟩⟩;rcases Ue.1 c with c|c
  ·exact h.one y c
  ·rw[so.1 c];exact⟨h.two,d⟩
 ·rw[if_neg (by simpa using b)]
  refine⟨h.one,⟨by simp only[Ba,ua];omega,by rw[Mw,h.two.2,e];rfl⟩,?_⟩;rcases h.TA with⟨c,a⟩|⟨v,y,c,a,rfl⟩
  ·exact .inl ⟨c,by dsimp only;rw[a];simp⟩
  ·exact .inr ⟨v,y++32::x,c,by dsimp only;rw[a];simp,ea⟩
theorem xl.fold{f:ba}{F:List kf}(hf:ji f=true):∀(a:List ba)(q:List ba×ba)(r:ba),xl f F q r->(∀x∈a,x.length<=75/\x.all zg=true)->xl f F (a.foldl ml q) (r++be a)
 |[],q,r,h,_=>by
  have e:r++be []=r:=by simp[be]
  rw[e];exact h
 |x::a,q,r,h,b=>by
  have e:r++be (x::a)=(r++32::x)++be a:=by rw[rt];simp
  rw[Cg,e];exact xl.fold hf a _ _ (h.step hf (b x ea).1 (b x ea).2) fun y c=>b y (by simp[c])
def FG{enc:ba->ba}{f v:ba}(F:List kf)(hf:ji f=true)(hs:f.all zg=true)(d:∀x∈Ad enc v,x.length<=75/\x.all zg=true):
 (∀x∈Zq enc f v,Fp x/\x≠[])/\Ud (Zq enc f v) (F,false)=some (F++[(f,be (Ad enc v))],false):=by
 have e:f.length<=32:=by
  have h:=hf;unfold ji at h;simp only[bc,decide_eq_true_eq]at h;exact h.1.2
 have c:xl f F ([],f++[58]) []:=⟨ea,⟨by simp only[Ba,ua,Ca];omega,by rw[Mw,hs];rfl⟩,.inl ⟨rfl,rfl⟩⟩;have h:=xl.fold hf (Ad enc v) _ _ c d;refine⟨fun x a=>?_,h.done hf⟩;rcases Ue.1 a with a|a
 ·exact h.one x a
 ·rw[so.1 a]
  refine⟨h.two,?_⟩;rcases h.TA with⟨_,b⟩|⟨_,_,_,b,_⟩
  ·show(Is enc f v).2≠[];unfold Is;rw[b];simp
  ·show(Is enc f v).2≠[];unfold Is;rw[b];simp
open Go.Sort
section
variable {P:Program} {ops:Array Oper} {md:Region.Mode} {C:World→Prop}
def cu(P:Program)(md:Region.Mode)(ops:Array Oper)(C:World->Prop)(n:Nat)(L:Array Bool->Act->Prop):Nat->Array Bool->Act->Prop
 |0,b,a=>L b a
 |f+1,b,a=>
  Region.ready md ops b≠[]/\∀i∈Region.ready md ops b,i<n/\qOp P ops C i (cu P md ops C n L f (b.setIfInBounds i true)) a
theorem FJ{n g}{L}{Q'}(e:∀b a w,C w->L b a->wpAny P md ops Q' g b a w):
 ∀(f)(b)(a)(w),C w->cu P md ops C n L f b a->wpAny P md ops Q' (f+g) b a w
 |0,b,a,w,c,h=>by rw[ld];exact e _ _ _ c h
 |f+1,b,a,w,c,h=>by
  rw[show f+1+g=(f+g)+1 by omega];exact⟨fun k=>absurd k h.1,fun i l=>wpOp_of_qOp c (fun a' w' d j=>FJ e f _ a' w' d j) (h.2 i l).2⟩
theorem AW{n i}{A}{v}{L}(K:ops[i]?=some A)(u:∀(j:Nat)(o) cs b,ops[j]?=some o->o.op≠.select cs b)
 (hs:Region.sinkB md ops n=true) (Q:Region.chainB md ops n=true) (R:n<ops.size) (D:i<n)
 (w:∀c a,L c a->∀j∈Region.ready md ops c,n<=j):
 ∀(f)(c)(a),HeadInv md ops n c->
  (∀j z,ops[j]?=some z->j≠i->c.getD j true=false->(∀e∈z.after,Region.binds md e=true->e.on≠i)->A.apart ops z=true)->
  i∈Region.ready md ops c->YieldsIn P ops C A v a->
  cu P md ops C n L f (c.setIfInBounds i true) (a.put A.dst v)->cu P md ops C n L (f+1) c a:=by
 intro f
 induction f with
 |zero=>
  intro c a r _ hr I H;have g:=(mem_ready.1 hr).1;refine⟨fun h=>(by rw[h]at hr;cases hr),fun j x=>?_⟩;have q:j<n:=by
   rcases Mh j n with h|h
   ·exact h
   ·exact absurd x (tail_waits hs Q R r _ i rfl D g j h)
  refine⟨q,?_⟩;by_cases d:j=i
  ·subst d;exact I.qOp K H
  ·have:=w _ _ H j (ready_mono x d)
   omega
 |succ f W=>
  intro c a r l hr I H;have g:=(mem_ready.1 hr).1;refine⟨fun h=>(by rw[h]at hr;cases hr),fun j x=>?_⟩;have q:j<n:=by
   rcases Mh j n with h|h
   ·exact h
   ·exact absurd x (tail_waits hs Q R r _ i rfl D g j h)
  refine⟨q,?_⟩;by_cases d:j=i
  ·subst d;exact I.qOp K H
  ·have G:=(H.2 j (ready_mono x d)).2
   obtain⟨t,z,y,B⟩:=mem_ready.1 x;have F:∀e∈z.after,Region.binds md e=true->e.on≠i:=fun e U T J=>by
    have G:=B e U T;rw[J,getD_both g]at G;cases G
   have S:=qOp_put y (l j z y d t F) (fun cs b=>u i A cs b K) (fun cs b=>u j z cs b y) I G
   have p:∀k ok,ops[k]?=some ok->k≠i->(c.setIfInBounds j true).getD k true=false->
    (∀e∈ok.after,Region.binds md e=true->e.on≠i)->A.apart ops ok=true:=fun k ok V M g N=>by
    refine l k ok V M ?_ N;by_cases E:j=k
    ·subst E;exact t
    ·rw[getD_set_ne true E]at g;exact g
   refine qOp_mono (fun a' O=>W (c.setIfInBounds j true) a' (r.set x q) p (ready_mono hr (Yf d)) O.1 ?_) S;rw[Array.setIfInBounds_comm _ _ d];exact O.2
theorem EJ{n g}{u}(d:Region.noSelect ops=true)(hs:Region.sinkB md ops n=true)(y:Region.chainB md ops n=true)(A:n<ops.size):
 ∀(l)(k)(b)(a),(∀j,j<l.length->l[j]?=ops[k+j]?)->k+l.length=n->HeadInv md ops n b->
 Region.lexHead md ops g l.length k b=true->wpQuiet P ops C u l a->
 cu P md ops C n (fun c a'=>Region.seqB md ops g n c=true/\u a') l.length b a
 |[],k,b,a,_,t,_,r,h=>by
  have:k=n:=by simpa using t
  subst this;exact⟨by simpa[Region.lexHead]using r,h⟩
 |o::l,k,b,a,z,t,p,r,h=>by
  have q:ops[k]?=some o:=by simpa using(z 0 ea).symm
  simp only[ua,Region.lexHead,bc]at r;obtain⟨⟨hr,hf⟩,w⟩:=r;have e:k<n:=by simp only[ua]at t;omega
  have i:k∈Region.ready md ops b:=by simpa using hr
  have x:qOp P ops C k (wpQuiet P ops C u l) a:=by unfold qOp;simp only[q];exact h
  obtain⟨v,E,B⟩:=yieldsIn_of_qOp q x
  exact AW q (Region.noSelect_spec d) hs y A e (fun c a' D=>seqB_ready D.1) l.length b a p (Region.free_spec q hf) i E
   (EJ d hs y A l (k+1) _ _ (fun j F=>by have:=z (j+1) Ma;simpa[tk,Nat.add_comm 1 j]using this) (by simp only[ua]at t;omega) (p.set i e) w B)
def zb4{id}{Q}{a}{w}{l:List Oper}(n)(z:P.follows .mixedOrders=true)(q:Region.lexTailB .any l.toArray n=true)
 (x:C {w with drawn:=w.drawn+1})
 (h:wpQuiet P l.toArray C (fun a'=>∀w',C w'->wpList P l.toArray Q (l.drop n) a' w') (l.take n) a):(Code.region id l.toArray true).wp P Q a w:=by
 simp only[Region.lexTailB,bc,decide_eq_true_eq]at q;obtain⟨⟨⟨⟨i,v⟩,hs⟩,y⟩,e⟩:=q;have A:n<l.length:=by simpa using v
 have b:(l.take n).length=n:=Ma
 have d:(l.drop n).length=l.toArray.size - n:=ea
 have k:HeadInv .any l.toArray n (Array.replicate l.toArray.size false):=
  ⟨ea,fun j B _ o=>(by rw[getD_replicate_false]at o;cases o),fun t _ ht=>getD_in (by simpa using ht) (getD_replicate_false _ _)⟩
 have H:=EJ (md:=.any) (g:=l.toArray.size - n) i hs y v (l.take n) 0 _ a (fun j u=>by
  have o:j<n:=by rw[b]at u;exact u
  simp[o]) (by simpa using b) k (by rw[b];exact e) h
 refine wp_region_any z ?_;have:=FJ (Q':=Q) (g:=l.toArray.size - n) (fun c a' w' p r=>by
  have:=wpAny_of_seq (md:=.any) (Q':=Q) (l.drop n) n c a' w' (fun j=>by simp[kg]) (by rw[d];exact r.1) (r.2 w' p);rwa[d]at this) _ _ _ _ x H
 rw[b,show n+(l.toArray.size - n)=l.toArray.size by omega]at this;exact this
theorem zb5{id}{Q}{a}{w}{l:List Oper}(n)(g:P.follows .mixedOrders=true)(e:Region.lexTailB .any l.toArray n=true)
 (h:wpQuiet P l.toArray (fun w'=>∃p:Regrown,w'=grow (redrawn w p.d) p.os) (fun a'=>∀w',Below w.heap.size w w'->wpList P l.toArray Q (l.drop n) a' w') (l.take n) a):(Code.region id l.toArray true).wp P Q a w:=
 zb4 (C:=fun w'=>∃p:Regrown,w'=grow (redrawn w p.d) p.os) n g e ⟨⟨w.drawn+1,#[]⟩,by rw[grow_empty];rfl⟩ (by
  have mono:∀(l':List Oper)(a:Act),wpQuiet P l.toArray (fun w'=>∃p:Regrown,w'=grow (redrawn w p.d) p.os) (fun a'=>∀w',Below w.heap.size w w'->wpList P l.toArray Q (l.drop n) a' w') l' a->
   wpQuiet P l.toArray (fun w'=>∃p:Regrown,w'=grow (redrawn w p.d) p.os) (fun a'=>∀w',(∃p:Regrown,w'=grow (redrawn w p.d) p.os)->wpList P l.toArray Q (l.drop n) a' w') l' a:=by
   intro l'
   induction l' with
   |nil=>intro a h w' ⟨p,b⟩;exact h w' (b▸below_regrown w p.d p.os)
   |cons o l' c=>
    intro a h;unfold wpQuiet at h⊢;split
    ·rename_i b;rw[if_pos b]at h;exact Oper.quiet_mono (fun a' d=>c a' d) h
    ·rename_i b;rw[if_neg b]at h;exact c _ h
  exact mono _ _ h)
end
end ya
namespace Go.Proofs.YtglaihdcndcmkaaGreatDoor
def vE(s:ByteArray):Qi s.data.toList=(s.toList==[98,114]||(s.toList==[104,114]||s.toList==[105,109,103])):=by
 grind [Cx,Qi]
def yw(s)(b)(h:Qi s.data.toList=b)(w):Calls Tryz.prog 182 #[.string s] w fun e w'=>e=.returned (.bool b)/\w'=w:=by
 subst h;rw[vE]
 go_enter Tryz.func182,Tryz.ntmps182
 go_wp2
 all_goals (go_ret;refine⟨?_,rfl⟩;simp[*,Bool.or_assoc])
def kW(w:World)(g o:Nat)(t:Tok):Prop:=∃a3 n3 c3,w.cell? ⟨g,o,none⟩=some (.int .u8 t.kind.toNat)/\w.cell? ⟨g,o+1,none⟩=some (.string (S t.name))/\w.cell? ⟨g,o+2,none⟩=some (.string (S t.text))/\w.cell? ⟨g,o+3,none⟩=some (.slice a3 n3 c3)/\w.cell? ⟨g,o+4,none⟩=some (.int .i64 (t.fr:Nat))/\w.cell? ⟨g,o+5,none⟩=some (.int .i64 (t.to:Nat))
def qJ(w:World)(a:Option Addr)(L:List Tok):Prop:=L=[]\/∃g o,a=some ⟨g,o,none⟩/\g<w.heap.size/\∀k t,L[k]?=some t->kW w g (o+k* 6) t
def Np(l:List ba):List Value:=l.map fun x=>.string (S x)
def wE:(Tryz.prog.info? 9).map (fun i=>(i.zero,i.size,i.bytes))=some (some (.string ⟨#[]⟩),1,16):=ca
def Kl(L:List Tok)(q:List ba×Nat):Option (List ba):=Mb (Xk L) none (L.length - q.2+1) q
theorem nr{L}{op a}{k}{t}(b:L[k]?=some t)(h:nj t op=some a):Kl L (op,k)=Kl L (a,k+1):=by
 grind [Kl,ef,Xk]
theorem Mz{L}{op}{k}{t}(a:L[k]?=some t)(h:nj t op=none):Kl L (op,k)=none:=by
 unfold Kl;dsimp only;rw[ad (show Xk L (op,k)=.inr none by grind [Xk])]
def i_{L}{op}:Kl L (op,L.length)=some op:=by
 have a:L[L.length]?=none:=Qf (Aa _);unfold Kl;dsimp only;rw[ad (show Xk L (op,L.length)=.inr (some op) by grind [Xk])]
def zam{w:World}{base}{e}{g a n}{op}(v:op.length=n+1)(h:w.ownsRow base e 1 (.slice (some ⟨g,0,none⟩) (n+1) a) (n+1) (Np op)):w.ownsRow base e 1 (.slice (some ⟨g,0,none⟩) n a) n (Np (op.take n)):=by
 obtain⟨u,l⟩:=h;rcases l with⟨k,_⟩|⟨t,j,c,r,o,p,q,b,d,i⟩
 ·cases k
 ·cases r
  refine⟨by grind [Np],.inr ⟨g,a,c,rfl,o,p,aa,b,d,?_⟩⟩
  grind [Np,List.map_take]
def zal{w w'}{base}{e}{size}{v}{n}{xs}(h:w.ownsRow base e size v n xs)(k:Below w.heap.size w w'):w'.ownsRow base e size v n xs:=
 World.ownsRow.kept (row:=none) h ⟨k.os,k.tape,k.output,k.size,fun i a _=>k.block i a⟩ na
theorem UG{t}{op}(h:t.kind.toNat=111)(a:Qi t.name=false):nj t op=if 32<op.length+1 then none else some (op++[t.name]):=by grind [nj]
theorem Cz{t}{op}(h:t.kind.toNat=99):nj t op=if op.getLast?=some t.name then some op.dropLast else none:=by grind [nj]
def Dz{t}{op}(h:¬(t.kind.toNat=111/\Qi t.name=false))(a:¬t.kind.toNat=99):nj t op=some op:=by grind [nj]
set_option maxRecDepth 100000 in
def S9(L)(a)(cap)(w)(hr:qJ w a L)(hLZ:L.length<=1000000000)(b)(hbZ:Tn L=b):Calls Tryz.prog 162 #[.slice a L.length cap] w fun e w'=>e=.returned (.bool b)/\Below w.heap.size w w':=by
 have Z:decide (Kl L ([],0)=some [])=b:=hbZ;have HRZ:=Lib.hid hr;have HBZ:=Lib.hid Z;clear hr hbZ Z
 go_enter Tryz.func162,Tryz.ntmps162
 go_wp2
 go_loopw [3,9] (fun v i wr=>∃(k:Nat)(op:List ba),i=.int .i64 k/\k<=L.length/\op.length<=32/\wr.ownsRow w.heap.size 9 1 v op.length (Np op)/\Below w.heap.size w wr/\Hid (Kl L ([],0)=Kl L (op,k)))
  (fun _ i _=>L.length - (intOf i).toNat)
 case atStart=>exact⟨0,[],rfl,Cb _,ea,cB _ _ _ _,Below.refl _ _,Lib.hid rfl⟩
 case round=>
  obtain⟨k,op,rfl,hkZ,X,z,c,D⟩:=hrel;by_cases fa:k<L.length
  ·obtain⟨g,o,rfl,Q,G⟩:=HRZ.out.resolve_left na
   have hcZ:=qe fa;obtain⟨t,ht⟩:∃t,L[k]=t:=⟨_,rfl⟩;rw[ht]at hcZ;obtain⟨a3,n3,cp3,c0Z,c1,c2,c3,c4,c5⟩:=G k t hcZ;have q0Z:=(c.cell (p:=⟨g,o+k* 6,none⟩) Q).trans c0Z;have q1Z:=(c.cell (p:=⟨g,o+k* 6+1,none⟩) Q).trans c1;have q2Z:=(c.cell (p:=⟨g,o+k* 6+2,none⟩) Q).trans c2;have q3Z:=(c.cell (p:=⟨g,o+k* 6+3,none⟩) Q).trans c3;have q4Z:=(c.cell (p:=⟨g,o+k* 6+4,none⟩) Q).trans c4;have q5Z:=(c.cell (p:=⟨g,o+k* 6+5,none⟩) Q).trans c5;have hgwr:=mh Q c.size;have q:=c.size;have U:=Lib.hid hcZ;have HRW:=Lib.hid G;clear c0Z c1 c2 c3 c4 c5 G hcZ ht;have c6Z:Tryz.prog.cellsOf 190=6:=ca
   obtain⟨n,hnZ⟩:∃n,t.kind.toNat=n:=⟨_,rfl⟩;rw[hnZ]at q0Z;have J:=Lib.hid hnZ;clear hnZ;have r:=Lib.hid z;obtain⟨voZ,hvo⟩:∃voZ,Qi t.name=voZ:=⟨_,rfl⟩;have P:=Lib.hid hvo;clear hvo;rcases z.2 with⟨rfl,I⟩|⟨gsZ,fb,cur,rfl,hgs,F,hnc,hcm,hcsz,htk⟩
   ·have A:=qz I
    subst A;clear z;by_cases R:n=111
    ·subst R
     cases voZ with
     |true=>
      go_wp2_with(go_at_call 182;refine(yw _ _ P.out _).mono ?_;rintro e w2Z ⟨rfl,rfl⟩)
      all_goals
       go_roundw
       case rel=>exact⟨k+1,[],by go_num,fa,ea,r.out.alloc _,c.alloc q _,Lib.hid (D.out.trans (nr U.out (Dz (by rw[P.out];simp) (by rw[J.out];decide))))⟩
       case measure=>simp[intOf];omega
     |false=>
      go_wp2_with(first|(go_at_call 182;refine(yw _ _ P.out _).mono ?_;rintro e w2Z ⟨rfl,rfl⟩)|(at_builtin;refine Gi ra _ _ _ ra 9 _ 1 16 Tryz.underlying29 wE ra aa w.heap.size _ _ _ _ ra (r.out.alloc _) [.string (S t.name)] ra (by simp[Value.oneCell']) (by show Value.slice (some ⟨wr.heap.size+1,0,none⟩) 1 1=_;simp) ea ea Ma ?_;intro ggZ K w8Z hgg j y u M;have O:=Lib.hid j;have E:=Lib.hid u;clear j u y))
      all_goals
       refine⟨⟨k+1,[t.name],by go_num,fa,ea,O.out,(c.alloc q _).trans (E.out.mono aa),?_⟩,by grind [intOf]⟩
       grind [nr,Hid.out,UG]
    ·by_cases Y:n=99
     ·subst Y
      have N:=Lib.hid (show false=b by grind [Hid.out,Mz,Cz]);go_wp2
      (refine wp_region_quiet_below ca ca ?_;(repeat (first|go_big_quiet_skip|(go_big_quiet_want;go_big_quiet_op;first|go_big_quiet_on|(apply Exists.intro;refine⟨fun _=>?_,?_⟩;(· (fail));go_big_quiet_on))));refine wpQuiet_nil ?_;intro _ C;obtain⟨⟨dq,osq⟩,l⟩:=C;subst l)
      go_wp2
      all_goals (go_ret;exact⟨congrArg (fun x=>Ending.returned (Value.bool x)) N.out,(c.alloc q _).trans ((below_regrown _ _ _).mono Ma)⟩)
     ·have e1:((n:Int)==111)=false:=Ma
      have e9Z:((n:Int)==99)=false:=Ma
      go_wp2
      all_goals
       first
        |exact⟨⟨k+1,[],by go_num,fa,ea,r.out.alloc _,c.alloc q _,Lib.hid (D.out.trans (nr U.out (Dz (fun h=>R (J.out.symm.trans h.1)) (fun h=>Y (J.out.symm.trans h)))))⟩,by grind [intOf]⟩
        |skip
   ·have hfz:op.length=0\/∃m x,op.length=m+1/\op[m]?=some x/\op.getLast?=some x/\op.dropLast=op.take m:=by
     cases hoZ:op.length with
     |zero=>omega
     |succ m=>obtain⟨x,R,h2Z,B,_⟩:=rR hoZ;grind
    have HFZ:=Lib.hid hfz;clear z hfz;by_cases R:n=111
    ·subst R
     cases voZ with
     |true=>
      go_wp2_with(go_at_call 182;refine(yw _ _ P.out _).mono ?_;rintro e w2Z ⟨rfl,rfl⟩)
      all_goals
       go_roundw
       case rel=>exact⟨k+1,op,by go_num,fa,X,r.out.alloc _,c.alloc q _,Lib.hid (D.out.trans (nr U.out (Dz (by rw[P.out];simp) (by rw[J.out];decide))))⟩
       case measure=>simp[intOf];omega
     |false=>
      by_cases H:op.length+1<=32
      ·have B:¬(32:Int)<(op.length:Int)+1:=aa
       go_wp2_with(first|(go_at_call 182;refine(yw _ _ P.out _).mono ?_;rintro e w2Z ⟨rfl,rfl⟩)|(at_builtin;refine Gi ra _ _ _ ra 9 _ 1 16 Tryz.underlying29 wE ra aa w.heap.size _ _ _ _ ra (r.out.alloc _) [.string (S t.name)] ra (by simp[Value.oneCell']) (by show Value.slice (some ⟨wr.heap.size+1,0,none⟩) 1 1=_;simp) aa aa Ma ?_;intro ggZ K w8Z hgg j y u M;have O:=Lib.hid j;have E:=Lib.hid u;clear j u y))
       all_goals
        refine⟨⟨k+1,op++[t.name],by go_num,fa,Ma,?_,(c.alloc q _).trans (E.out.mono aa),?_⟩,by first|(simp[intOf];done)|(simp[intOf];omega)⟩
        ·grind [Hid.out,Np]
        grind [nr,Hid.out,UG]
      ·have B:(32:Int)<(op.length:Int)+1:=aa
       have N:=Lib.hid (show false=b by grind [Hid.out,Mz,UG])
       go_wp2_with(first|(go_at_call 182;refine(yw _ _ P.out _).mono ?_;rintro e w2Z ⟨rfl,rfl⟩)|(at_builtin;refine Gi ra _ _ _ ra 9 _ 1 16 Tryz.underlying29 wE ra aa w.heap.size _ _ _ _ ra (r.out.alloc _) [.string (S t.name)] ra (by simp[Value.oneCell']) (by show Value.slice (some ⟨wr.heap.size+1,0,none⟩) 1 1=_;simp) aa aa Ma ?_;intro ggZ K w8Z hgg j y u M;have O:=Lib.hid j;have E:=Lib.hid u;clear j u y))
       all_goals (go_ret;exact⟨congrArg (fun x=>Ending.returned (Value.bool x)) N.out,(c.alloc q _).trans (E.out.mono aa)⟩)
    ·by_cases Y:n=99
     ·subst Y
      rcases HFZ.out with hzZ|⟨m,x,T,hx1,hx2,hx3⟩
      ·have A:=qz hzZ
       subst A;have N:=Lib.hid (show false=b by grind [Hid.out,Mz,Cz]);simp only[Ca];go_wp2
       (refine wp_region_quiet_below ca ca ?_;(repeat (first|go_big_quiet_skip|(go_big_quiet_want;go_big_quiet_op;first|go_big_quiet_on|(apply Exists.intro;refine⟨fun _=>?_,?_⟩;(· (fail));go_big_quiet_on))));refine wpQuiet_nil ?_;intro _ C;obtain⟨⟨dq,osq⟩,l⟩:=C;subst l)
       go_wp2
       all_goals (go_ret;exact⟨congrArg (fun x=>Ending.returned (Value.bool x)) N.out,(c.alloc q _).trans ((below_regrown _ _ _).mono Ma)⟩)
      ·have B:wr.ownsRow w.heap.size 9 1 (.slice (some ⟨gsZ,0,none⟩) (m+1) fb) (m+1) (Np op):=T▸r.out
       have V:=Lib.hid B;have hcx:wr.cell? ⟨gsZ,m,none⟩=some (.string (S x)):=(B.cellAt m aa).trans (by grind [Np]);have hgsl:=(Kh.1 F).1;have hm32:m<=31:=aa
       have hwr:IntKind.i64.wrap (m:Int)=(m:Int):=by rw[IntKind.wrap_i64];omega
       have hix1:(m:Int)<(m:Int)+1:=aa
       have hix2:(m:Int)<((m+1:Nat):Int):=aa
       have hix3:m<m+1:=aa
       have hix0:(0:Int)<=(m:Int):=aa
       have c1:Tryz.prog.cellsOf 9=1:=ca
       have I:¬((m:Int)<0):=aa
       have hd0:decide ((m:Int)<0)=false:=ea
       have hcx5:=fun o=>(((Below.refl wr.heap.size wr).alloc (Aa _) o).cell (p:=⟨gsZ,m,none⟩) hgsl).trans hcx
       have hcx6:=fun o d os=>cell_regrown (hcx5 o) d os
       have hty:(wr.alloc (.cells #[.int .u8 99,.string (S t.name),.string (S t.text),.slice a3 n3 cp3,.int .i64 (t.fr:Nat),.int .i64 (t.to:Nat)] 190)).cell? ⟨wr.heap.size,1,none⟩=some (.string (S t.name)):=ea
       have hty2:=fun d os=>cell_regrown hty d os
       have W:=Lib.hid hx2;have HX3:=Lib.hid hx3;have HMZ:=Lib.hid T;rw[T];rw[T]at hnc;clear B hx1 hx2 hx3 F htk;by_cases hxZ:x=t.name
       ·have H:nj t op=some (op.take m):=by rw[Cz J.out,W.out,hxZ,if_pos rfl,HX3.out]
        have HCP:=Lib.hid H;clear H;subst hxZ;clear T;go_wp2
        (refine wp_region_quiet_below ca ca ?_;(repeat (first|go_big_quiet_skip|(go_big_quiet_want;go_big_quiet_op;first|go_big_quiet_on|(apply Exists.intro;refine⟨fun _=>?_,?_⟩;(· (fail));go_big_quiet_on))));refine wpQuiet_nil ?_;intro _ C;obtain⟨⟨dq,osq⟩,l⟩:=C;subst l)
        go_wp2
        all_goals
         refine⟨⟨k+1,op.take m,by go_num,fa,na,?_,(c.alloc q _).trans ((below_regrown _ _ _).mono Ma),Lib.hid (D.out.trans (nr U.out HCP.out))⟩,by grind [intOf]⟩;have hlZ:(op.take m).length=m:=by rw[Se,HMZ.out];omega
         rw[hlZ];exact zal ((zam HMZ.out V.out).alloc _) (below_regrown _ _ _)
       ·have H:nj t op=none:=by rw[Cz J.out,W.out,if_neg (fun h=>hxZ na)]
        have N:=Lib.hid (show false=b by grind [Hid.out,Mz]);clear H T;have hne:((S x).toList==(S t.name).toList)=false:=by
         rw[Cx,Cx];exact beq_false_of_ne hxZ
        go_wp2
        (refine wp_region_quiet_below ca ca ?_;(repeat (first|go_big_quiet_skip|(go_big_quiet_want;go_big_quiet_op;first|go_big_quiet_on|(apply Exists.intro;refine⟨fun _=>?_,?_⟩;(· (fail));go_big_quiet_on))));refine wpQuiet_nil ?_;intro _ C;obtain⟨⟨dq,osq⟩,l⟩:=C;subst l)
        go_wp2
        all_goals (go_ret;exact⟨congrArg (fun x=>Ending.returned (Value.bool x)) N.out,(c.alloc q _).trans ((below_regrown _ _ _).mono Ma)⟩)
     ·have e1:((n:Int)==111)=false:=Ma
      have e9Z:((n:Int)==99)=false:=Ma
      go_wp2
      all_goals
       exact⟨⟨k+1,op,by go_num,fa,X,r.out.alloc _,c.alloc q _,Lib.hid (D.out.trans (nr U.out (Dz (fun h=>R (J.out.symm.trans h.1)) (fun h=>Y (J.out.symm.trans h)))))⟩,by grind [intOf]⟩
  ·obtain rfl:k=L.length:=aa
   have j:Kl L ([],0)=some op:=by rw[D.out,i_]
   have l:b=decide (op=[]):=by rw[<-HBZ.out,j];simp
   rcases z.2 with⟨rfl,I⟩|⟨gsZ,fb,cur,rfl,hgs,F,hnc,hcm,hcsz,htk⟩
   ·have A:=qz I
    subst A;have q:=Lib.hid (show true=b by grind);clear l j;go_wp2
    all_goals (go_ret;exact⟨congrArg (fun x=>Ending.returned (Value.bool x)) q.out,c⟩)
   ·have h2Z:((op.length:Int)==0)=b:=by
     rw[l];by_cases A:op=[]
     ·grind
     ·simp[A]
    have q:=Lib.hid h2Z;clear h2Z l j;go_wp2
    all_goals (go_ret;exact⟨congrArg (fun x=>Ending.returned (Value.bool x)) q.out,c⟩)
end Go.Proofs.YtglaihdcndcmkaaGreatDoor
namespace ya
def mW{a b}(h:hb a=hb b):a=b:=by
 obtain⟨c,d,a3,a4⟩:=a;obtain⟨e,g,i,j⟩:=b;simp only[hb,Dr,PV.flat.injEq,Value.string.injEq,Value.int.injEq,true_and,and_true,cx,Er]at h;obtain⟨rfl,rfl,rfl,rfl⟩:=h;rfl
theorem sJ:∀{l l'},tc l=tc l'->l=l'
 |[],[],_=>rfl
 |[],b::l',h=>by have:=congrArg List.length h;rw[bg,bg]at this;simp at this
 |a::l,[],h=>by have:=congrArg List.length h;rw[bg,bg]at this;simp at this
 |a::l,b::l',h=>by
  have c:=h;obtain⟨d,e⟩:=List.append_inj c rfl;rw[mW d,sJ e]
def zeW{a b}(h:xa a=xa b):a=b:=by
 obtain⟨e,g,a3,a4,a5,i⟩:=a;obtain⟨j,k,l,n,o,p⟩:=b;simp only[xa,Dr,PV.flat.injEq,PV.ia.injEq,Value.string.injEq,Value.int.injEq,true_and,and_true,cx,Er]at h;obtain⟨c,rfl,rfl,⟨_,d⟩,rfl,rfl⟩:=h;rw[Xb.1 c,sJ d]
theorem kV:∀{l l'},uc l=uc l'->l=l'
 |[],[],_=>rfl
 |[],b::l',h=>by have:=congrArg List.length h;rw[Wf,Wf]at this;simp at this
 |a::l,[],h=>by have:=congrArg List.length h;rw[Wf,Wf]at this;simp at this
 |a::l,b::l',h=>by
  have c:=h;obtain⟨d,e⟩:=List.append_inj c rfl;rw[zeW d,kV e]
open Classical in
noncomputable def yv:Callee:=fun f args bx oc=>if h:f=162/\bx=[]/\oc=[]/\∃L:List Tok,L.length<=1000000000/\args=[.ia L.length (uc L)]then some ([.flat (.bool (Tn (choose h.2.2.2)))],false,[],[])else none
def N9(L)(d:L.length<=1000000000):yv 162 [.ia L.length (uc L)] [] []=some ([.flat (.bool (Tn L))],false,[],[]):=by
 unfold yv;have h:162=162/\([]:Oa)=[]/\([]:List Loc)=[]/\∃a:List Tok,a.length<=1000000000/\[PV.ia L.length (uc L)]=[.ia a.length (uc a)]:=⟨rfl,rfl,rfl,L,d,rfl⟩;rw[dif_pos h];have c:=(Pt h.2.2.2).2;obtain⟨a,b⟩:∃a,Classical.choose h.2.2.2=a:=⟨_,rfl⟩;rw[b]at c;rw[b];simp only[Dr,PV.ia.injEq,and_true]at c;rw[<-kV c.2]
def O9{Γ}:xc Tryz.prog Γ yv:=by
 intro f args bx oc V os bx' oc' i;unfold yv at i;split at i
 case isFalse=>cases i
 rename_i h;cases i;have F:=Pt h.2.2.2;obtain⟨L,B⟩:∃L,Classical.choose h.2.2.2=L:=⟨_,rfl⟩;rw[B]at F;rw[B];obtain⟨rfl,rfl,rfl,_⟩:=h;obtain⟨c,rfl⟩:=F;intro w Fr β vs J;refine enters_of ca ha ?_;have E:=J.args;simp only[ta]at E;obtain⟨v,r,rfl,K,rfl⟩:=E;simp only[Rd]at K;obtain⟨a,l,rfl,G,d⟩:=K;have Q:qJ w a L:=by
  rcases d with⟨W,O⟩|⟨g,o,us,rfl,C,D,X⟩
  ·exact .inl (qz O)
  ·by_cases I:L=[]
   ·exact .inl I
   ·refine .inr ⟨g,o,rfl,?_,fun k t ht=>?_⟩
    ·obtain⟨t,b,rfl⟩:=List.exists_cons_of_ne_nil I
     obtain⟨v0,n,_⟩:=D.get 0 _ ra;exact Et w _ (C 0 v0 n).2
    ·have b:∀j p,(xa t)[j]?=some p->∃v,w.cell? ⟨g,o+k* 6+j,none⟩=some v/\Rd w Fr β p v:=fun j p H=>by
      have T:=EI ht;have:(uc L)[k* 6+j]?=some p:=by
       rw[<-kg,T,ql (qg H).1,H]
      obtain⟨v,n,P⟩:=D.get _ _ this;exact⟨v,by rw[tk];exact(C _ v n).2,P⟩
     obtain⟨v0,M,q⟩:=b 0 _ rfl;obtain⟨Y,c1,u⟩:=b 1 _ rfl;obtain⟨Z,c2,x⟩:=b 2 _ rfl;obtain⟨v3,c3,y⟩:=b 3 _ rfl;obtain⟨v4,c4,z⟩:=b 4 _ rfl;obtain⟨v5,c5,A⟩:=b 5 _ rfl;simp only[Rd]at q u x y z A;obtain⟨rfl,_⟩:=q;obtain⟨rfl,_⟩:=u;obtain⟨rfl,_⟩:=x;obtain⟨a3,N,rfl,_⟩:=y;obtain⟨rfl,_⟩:=z;obtain⟨rfl,_⟩:=A;exact⟨_,_,_,M,c1,c2,c3,c4,c5⟩
 refine(S9 L a l w Q c _ rfl).mono ?_;rintro e w' ⟨rfl,S⟩;obtain⟨R,U⟩:=J.rel.grow S (Fr':=Fr) fun _ _=>rfl
 exact⟨_,Fr,β,rfl,by simp[ed,Rd,Bc],R,U,(fun L h=>by cases h),fun h=>by cases h⟩
end ya
section
set_option synthInstance.maxSize 4000
namespace ya
def zbS:Option (List UInt8)->Go.Value
 |none=>.tuple #[.string ⟨#[]⟩,.int .i64 7]
 |some l=>.tuple #[.string ⟨l.toArray⟩,.int .i64 0]
attribute [simp] zbS
end ya
namespace Go.Proofs.YtglaihdcndcmkaaGreatDoor
end Go.Proofs.YtglaihdcndcmkaaGreatDoor
end
section
set_option synthInstance.maxSize 4000
namespace ya
def hV(s:List UInt8)(k)(h):s.take (k+1)=s.take k++[s[k]]:=by
 rw[oo h]
end ya
namespace Go.Proofs.YtglaihdcndcmkaaGreatDoor
end Go.Proofs.YtglaihdcndcmkaaGreatDoor
end
namespace ya
theorem SO{s:List UInt8}{k line}(a)(h:s[k]=10):eb line (s.drop k)=[13,10]++eb 0 (s.drop (k+1)):=by
 rw[Pd a,eb,if_pos h];rfl
def UO{s:List UInt8}{k line}(a)(h:s[k]≠10){p}(c:piece s[k] (s.drop (k+1))=p)(b:line+p.length>75):eb line (s.drop k)=[61,13,10]++p++eb p.length (s.drop (k+1)):=by
 rw[Pd a,eb,if_neg h,c,if_pos b];simp
def TO{s:List UInt8}{k line}(a)(h:s[k]≠10){p}(c:piece s[k] (s.drop (k+1))=p)(b:¬line+p.length>75):eb line (s.drop k)=p++eb (line+p.length) (s.drop (k+1)):=by
 rw[Pd a,eb,if_neg h,c,if_neg b]
end ya
namespace Go.Proofs.YtglaihdcndcmkaaGreatDoor
def rT(s)(k:Nat)(p)(w)(hs:s.size<=1000000000)(a)(h:piece s[k] (s.data.toList.drop (k+1))=p):Calls Tryz.prog 131 #[.string s,.int .i64 k] w (Xg (.string ⟨p.toArray⟩) w):=h▸zbe s k w hs a
set_option maxRecDepth 100000 in
def V1(s)(w)(hs:s.size<=1000000):Calls Tryz.prog 67 #[.string s] w (Xg (.string ⟨(eb 0 s.data.toList).toArray⟩) w):=by
 go_enter Tryz.func67,Tryz.ntmps67
 go_wp2
 go_loopw [3,4,5,6] (fun v l i _ wr=>∃(k line:Nat)(b:List UInt8),k<=s.size/\line<=75/\i=.int .i64 k/\l=.int .i64 line/\v=.string ⟨b.toArray⟩/\b.length<=6* k/\Below w.heap.size w wr/\Hid (eb 0 s.data.toList=b++eb line (s.data.toList.drop k)))
  (fun _ _ i _ _=>s.size - (intOf i).toNat)
 case atStart=>exact⟨0,0,[],Cb _,aa,rfl,rfl,rfl,ea,Below.refl _ _,Lib.hid ea⟩
 case round=>
  obtain⟨k,line,b,B,o,rfl,rfl,rfl,t,c,a⟩:=hrel;by_cases fa:k<s.size
  ·by_cases d:s[k]=10
   ·have h:=Lib.hid (a.out.trans (congrArg (b++·) (SO (s:=s.data.toList) (line:=line) fa d)))
    have y:((s[k].toNat:Int)==10)=true:=by rw[d];rfl
    clear d a;go_wp2;go_roundw
    case rel=>exact⟨k+1,0,b++[13,10],aa,aa,by go_num,rfl,vS (by simp[mn]),Ma,c,Lib.hid (by rw[h.out];simp)⟩
    case measure=>simp[intOf];omega
   ·have y:((s[k].toNat:Int)==10)=false:=by simp[<-Xb]at d⊢;omega
    have j:=GH s[k] (s.data.toList.drop (k+1));generalize r:piece s[k] (s.data.toList.drop (k+1))=p at j;obtain⟨u,x⟩:=j;have n:=Lib.hid r;clear r;by_cases q:line+p.length>75
    ·have h:=Lib.hid (a.out.trans (congrArg (b++·) (UO (s:=s.data.toList) (line:=line) fa d n.out q)))
     clear d a;have z:(75:Int)<(line:Int)+(p.length:Int):=aa
     go_wp2_with(go_at_call 131;refine(rT _ _ _ _ aa fa n.out).mono ?_;rintro e A ⟨rfl,g⟩)
     go_roundw
     case rel=>exact⟨k+1,p.length,b++([61,13,10]++p),aa,aa,by go_num,ea,vS (by simp[mn]),Ma,c.trans (g.mono c.size),Lib.hid (by rw[h.out];simp)⟩
     case measure=>simp[intOf];omega
    ·have h:=Lib.hid (a.out.trans (congrArg (b++·) (TO (s:=s.data.toList) (line:=line) fa d n.out q)))
     clear d a;have z:¬(75:Int)<(line:Int)+(p.length:Int):=aa
     go_wp2_with(go_at_call 131;refine(rT _ _ _ _ aa fa n.out).mono ?_;rintro e A ⟨rfl,g⟩)
     go_roundw
     case rel=>exact⟨k+1,line+p.length,b++p,aa,aa,by go_num,ea,vS (by simp[mn]),Ma,c.trans (g.mono c.size),Lib.hid (by rw[h.out];simp)⟩
     case measure=>simp[intOf];omega
  ·obtain rfl:k=s.size:=aa
   go_wp2;go_ret;exact⟨r1 (vs (by rw[a.out,show s.data.toList.drop s.size=[]from Ej (Aa _)];simp[eb])),c⟩
end Go.Proofs.YtglaihdcndcmkaaGreatDoor
namespace ya
def Dh(s:List UInt8)(k:Nat):List UInt8:=match s[k]? with|none=>[]|some c=>if c=10 then[]else piece c (s.drop (k+1))
abbrev ph:={p:ByteArray//p.size<=3}
def ph.bytes(p:ph):List UInt8:=p.1.data.toList
end ya
namespace Go.Proofs.YtglaihdcndcmkaaGreatDoor
attribute [local go_sem] Oper.semAt_some
set_option maxRecDepth 100000 in
def zbh(n:Nat)(hnZ:1<=n)(s)(hs:s.size<=1000000)(P:Nat)(w)(L:Boxed w P 9 (.string s)):
 SeqStopsK Fence.wide n Tryz.prog 233 #[.pointer (some ⟨P,0,none⟩)] (fun p:ph=>#[.string p.1]) (sn P)
  (fun xs=>xs.map ph.bytes=(List.range s.size).map (Dh s.data.toList)) (fun _=>True) s.size w:=fun l J c W hWZ N a O Z=>by
 have D:Boxed W P 9 (.string s):=(hWZ.block _ L.lt).trans L;have hc0:=D.cell;have V:=Lib.hid D;clear D;refine callsIn_of_wp Tryz.func233 rfl trivial ?_ rfl;simp only[Tryz.ntmps233,Nw,ua,Ca,Nat.reduceAdd,Nat.reduceSub,Ow,Pw,Qw,Rw,Ra,Ha]
 gi_wp2
 gi_loopw [8] (fun v wr=>∃(k:Nat)(pre:List ph),v=.int .i64 k/\k<=s.size/\Hid (pre.map ph.bytes=(List.range k).map (Dh s.data.toList))/\Hid (J pre wr)/\Hid (Boxed wr P 9 (.string s)))
  (fun v _=>s.size - (intOf v).toNat)
 case atStart=>exact⟨0,[],rfl,Cb _,Lib.hid rfl,Lib.hid Z,V⟩
 case round=>
  obtain⟨k,pre,rfl,hkZ,d,u,r⟩:=hrel;replace u:=u.out;replace r:=r.out;have hc2:=r.cell;have A:=r.lt;have T:pre.length=k:=by have:=congrArg List.length d.out;simpa using this
  by_cases fa:k<s.size
  ·have hpl:(pair s[k]).length<=2:=by simp[pair]
   have F:s.data.toList[k]?=some s[k]:=by rw[qe (show k<s.data.toList.length from fa)];rfl
   by_cases G:s[k]=10
   ·have B:=Lib.hid (show Dh s.data.toList k=[] by grind [Dh])
    have q0Z:((s[k].toNat:Int)==10)=true:=by rw[G];rfl
    clear F G
    gi_wp2_with (first|(refine⟨trivial,?_⟩;gi_at_call 234;refine(callsIn_wide.2 (dt _ _)).mono ?_;rintro e I ⟨rfl,c⟩;have g:=Co N u c;have a:=(c.block _ A).trans r;have E:=Boxed.cell a;obtain⟨fn,tmps,assign,body,H,C⟩:=O pre ⟨⟨#[]⟩,ha⟩ I g aa;dsimp only at H)|(refine⟨trivial,?_⟩;gi_at_call 214;refine(callsIn_wide.2 (Ym _ _ K.out _)).mono ?_;rintro e S ⟨rfl,rfl⟩))
    refine C.mono ?_;rintro e Q (⟨rfl,i,j⟩|⟨rfl,o⟩)
    ·gi_wp2
     go_roundw
     case rel=>exact⟨k+1,pre++[⟨⟨#[]⟩,ha⟩],by go_num,aa,Lib.hid (by rw[Zf,d.out,Kr,Zf,Eg,Eg,B.out];rfl),Lib.hid i,Lib.hid (Eq.trans j a)⟩
     grind [intOf]
    ·gi_wp2
     refine bodyPost_ret (results_none rfl _ _ _) rfl ?_;exact⟨⟨_,rfl⟩,.inr ⟨_,trivial,o⟩⟩
   ·have t:Dh s.data.toList k=piece s[k] (s.data.toList.drop (k+1)):=by unfold Dh;rw[F];simp[G]
    have q0Z:((s[k].toNat:Int)==10)=false:=by simp[<-Xb]at G⊢;omega
    clear F G;generalize U:Ei s[k]=X;have K:=Lib.hid U;clear U;cases X
    ·by_cases y:s[k]=32\/s[k]=9
     ·have q:∃b,((s[k].toNat:Int)==32)=b/\(b=false->((s[k].toNat:Int)==9)=true):=by
       refine⟨_,rfl,fun h=>?_⟩;rcases y with Y|Y
       ·simp_all
       ·simp_all
      obtain⟨b,q1Z,M⟩:=q;by_cases R:k+1<s.size
      ·have i2Z:(k:Int)+1<(s.size:Int):=aa
       by_cases x:s[k+1]=10
       ·have B:=Lib.hid (t.trans (et (s:=s.data.toList) fa K.out (.inr (.inr ⟨R,x⟩))))
        have q3Z:((s[k+1].toNat:Int)==10)=true:=by rw[x];rfl
        have q4Z:((s[k+1].toNat:Int) !=10)=false:=by rw[x];rfl
        clear x y t;cases b
        all_goals (try replace M:=M rfl)
        all_goals
         gi_wp2_with (first|(refine⟨trivial,?_⟩;gi_at_call 234;refine(callsIn_wide.2 (dt _ _)).mono ?_;rintro e I ⟨rfl,c⟩;have g:=Co N u c;have a:=(c.block _ A).trans r;have E:=Boxed.cell a;obtain⟨fn,tmps,assign,body,H,C⟩:=O pre ⟨⟨#[61]⟩++⟨(pair s[k]).toArray⟩,by simp[Tp,Qm,pair]⟩ I g aa;dsimp only at H)|(refine⟨trivial,?_⟩;gi_at_call 214;refine(callsIn_wide.2 (Ym _ _ K.out _)).mono ?_;rintro e S ⟨rfl,rfl⟩))
         refine C.mono ?_;rintro e Q (⟨rfl,i,j⟩|⟨rfl,o⟩)
         ·gi_wp2
          go_roundw
          case rel=>exact⟨k+1,pre++[⟨⟨#[61]⟩++⟨(pair s[k]).toArray⟩,by simp[Tp,Qm,pair]⟩],by go_num,aa,Lib.hid (by rw[Zf,d.out,Kr,Zf,Eg,Eg,B.out];exact congrArg (fun z=>List.map (Dh s.data.toList) (List.range k)++[z]) ((mn).trans rfl)),Lib.hid i,Lib.hid (Eq.trans j a)⟩
          case measure=>simp[intOf];omega
         ·gi_wp2
          refine bodyPost_ret (results_none rfl _ _ _) rfl ?_;exact⟨⟨_,rfl⟩,.inr ⟨_,trivial,o⟩⟩
       ·have B:=Lib.hid (t.trans (bA (s:=s.data.toList) fa (.inr ⟨y,R,x⟩)))
        have q3Z:((s[k+1].toNat:Int)==10)=false:=by simp[<-Xb]at x⊢;omega
        have q4Z:((s[k+1].toNat:Int) !=10)=true:=by simp[<-Xb]at x⊢;omega
        clear x y t;cases b
        all_goals (try replace M:=M rfl)
        all_goals
         gi_wp2_with (first|(refine⟨trivial,?_⟩;gi_at_call 234;refine(callsIn_wide.2 (dt _ _)).mono ?_;rintro e I ⟨rfl,c⟩;have g:=Co N u c;have a:=(c.block _ A).trans r;have E:=Boxed.cell a;obtain⟨fn,tmps,assign,body,H,C⟩:=O pre ⟨s.extract k (k+1),by simp[dB];omega⟩ I g aa;dsimp only at H)|(refine⟨trivial,?_⟩;gi_at_call 214;refine(callsIn_wide.2 (Ym _ _ K.out _)).mono ?_;rintro e S ⟨rfl,rfl⟩))
         refine C.mono ?_;rintro e Q (⟨rfl,i,j⟩|⟨rfl,o⟩)
         ·gi_wp2
          go_roundw
          case rel=>exact⟨k+1,pre++[⟨s.extract k (k+1),na⟩],by go_num,aa,Lib.hid (by rw[Zf,d.out,Kr,Zf,Eg,Eg,B.out];exact congrArg (fun z=>List.map (Dh s.data.toList) (List.range k)++[z]) ((ext1 s k fa).trans rfl)),Lib.hid i,Lib.hid (Eq.trans j a)⟩
          case measure=>simp[intOf];omega
         ·gi_wp2
          refine bodyPost_ret (results_none rfl _ _ _) rfl ?_;exact⟨⟨_,rfl⟩,.inr ⟨_,trivial,o⟩⟩
      ·have B:=Lib.hid (t.trans (et (s:=s.data.toList) fa K.out (.inr (.inl bh))))
       have x:¬(k:Int)+1<(s.size:Int):=aa
       clear y t;cases b
       all_goals (try replace M:=M rfl)
       all_goals
        gi_wp2_with (first|(refine⟨trivial,?_⟩;gi_at_call 234;refine(callsIn_wide.2 (dt _ _)).mono ?_;rintro e I ⟨rfl,c⟩;have g:=Co N u c;have a:=(c.block _ A).trans r;have E:=Boxed.cell a;obtain⟨fn,tmps,assign,body,H,C⟩:=O pre ⟨⟨#[61]⟩++⟨(pair s[k]).toArray⟩,by simp[Tp,Qm,pair]⟩ I g aa;dsimp only at H)|(refine⟨trivial,?_⟩;gi_at_call 214;refine(callsIn_wide.2 (Ym _ _ K.out _)).mono ?_;rintro e S ⟨rfl,rfl⟩))
        refine C.mono ?_;rintro e Q (⟨rfl,i,j⟩|⟨rfl,o⟩)
        ·gi_wp2
         go_roundw
         case rel=>exact⟨k+1,pre++[⟨⟨#[61]⟩++⟨(pair s[k]).toArray⟩,by simp[Tp,Qm,pair]⟩],by go_num,aa,Lib.hid (by rw[Zf,d.out,Kr,Zf,Eg,Eg,B.out];exact congrArg (fun z=>List.map (Dh s.data.toList) (List.range k)++[z]) ((mn).trans rfl)),Lib.hid i,Lib.hid (Eq.trans j a)⟩
         case measure=>simp[intOf];omega
        ·gi_wp2
         refine bodyPost_ret (results_none rfl _ _ _) rfl ?_;exact⟨⟨_,rfl⟩,.inr ⟨_,trivial,o⟩⟩
     ·have x:¬s[k]=32:=fun h=>y (.inl h)
      have R:¬s[k]=9:=fun h=>y (.inr h)
      have B:=Lib.hid (t.trans (et (s:=s.data.toList) fa K.out (.inl ⟨x,R⟩)));have q1Z:((s[k].toNat:Int)==32)=false:=by simp[<-Xb]at x⊢;omega
      have M:((s[k].toNat:Int)==9)=false:=by simp[<-Xb]at R⊢;omega
      clear y x R t
      gi_wp2_with (first|(refine⟨trivial,?_⟩;gi_at_call 234;refine(callsIn_wide.2 (dt _ _)).mono ?_;rintro e I ⟨rfl,c⟩;have g:=Co N u c;have a:=(c.block _ A).trans r;have E:=Boxed.cell a;obtain⟨fn,tmps,assign,body,H,C⟩:=O pre ⟨⟨#[61]⟩++⟨(pair s[k]).toArray⟩,by simp[Tp,Qm,pair]⟩ I g aa;dsimp only at H)|(refine⟨trivial,?_⟩;gi_at_call 214;refine(callsIn_wide.2 (Ym _ _ K.out _)).mono ?_;rintro e S ⟨rfl,rfl⟩))
      refine C.mono ?_;rintro e Q (⟨rfl,i,j⟩|⟨rfl,o⟩)
      ·gi_wp2
       go_roundw
       case rel=>exact⟨k+1,pre++[⟨⟨#[61]⟩++⟨(pair s[k]).toArray⟩,by simp[Tp,Qm,pair]⟩],by go_num,aa,Lib.hid (by rw[Zf,d.out,Kr,Zf,Eg,Eg,B.out];exact congrArg (fun z=>List.map (Dh s.data.toList) (List.range k)++[z]) ((mn).trans rfl)),Lib.hid i,Lib.hid (Eq.trans j a)⟩
       grind [intOf]
      ·gi_wp2
       refine bodyPost_ret (results_none rfl _ _ _) rfl ?_;exact⟨⟨_,rfl⟩,.inr ⟨_,trivial,o⟩⟩
    ·have B:=Lib.hid (t.trans (bA (s:=s.data.toList) fa (.inl K.out)))
     clear t
     gi_wp2_with (first|(refine⟨trivial,?_⟩;gi_at_call 234;refine(callsIn_wide.2 (dt _ _)).mono ?_;rintro e I ⟨rfl,c⟩;have g:=Co N u c;have a:=(c.block _ A).trans r;have E:=Boxed.cell a;obtain⟨fn,tmps,assign,body,H,C⟩:=O pre ⟨s.extract k (k+1),by simp[dB];omega⟩ I g aa;dsimp only at H)|(refine⟨trivial,?_⟩;gi_at_call 214;refine(callsIn_wide.2 (Ym _ _ K.out _)).mono ?_;rintro e S ⟨rfl,rfl⟩))
     refine C.mono ?_;rintro e Q (⟨rfl,i,j⟩|⟨rfl,o⟩)
     ·gi_wp2
      go_roundw
      case rel=>exact⟨k+1,pre++[⟨s.extract k (k+1),na⟩],by go_num,aa,Lib.hid (by rw[Zf,d.out,Kr,Zf,Eg,Eg,B.out];exact congrArg (fun z=>List.map (Dh s.data.toList) (List.range k)++[z]) ((ext1 s k fa).trans rfl)),Lib.hid i,Lib.hid (Eq.trans j a)⟩
      case measure=>simp[intOf];omega
     ·gi_wp2
      refine bodyPost_ret (results_none rfl _ _ _) rfl ?_;exact⟨⟨_,rfl⟩,.inr ⟨_,trivial,o⟩⟩
  ·obtain rfl:k=s.size:=aa
   gi_wp2
   go_end0
   exact⟨⟨_,rfl⟩,.inl ⟨pre,d.out,u⟩⟩
end Go.Proofs.YtglaihdcndcmkaaGreatDoor
namespace ya
def yi(st:Nat×List UInt8)(p:List UInt8):Nat×List UInt8:=
 if p=[]then(0,st.2++[13,10])else if p.length<=75 - st.1 then(st.1+p.length,st.2++p)else(p.length,st.2++[61,13,10]++p)
def uh(ps:List (List UInt8)):Nat×List UInt8:=ps.foldl yi (0,[])
def bP(ps)(p):uh (ps++[p])=yi (uh ps) p:=by simp[uh]
def s2{st}{p}{n}(a:p.length<=3)(h:st.1<=75/\st.2.length<=6* n):(yi st p).1<=75/\(yi st p).2.length<=6* (n+1):=by
 grind [yi]
def F3(ps:List ph):∀(st)(n),(st.1<=75/\st.2.length<=6* n)->((ps.map ph.bytes).foldl yi st).1<=75/\((ps.map ph.bytes).foldl yi st).2.length<=6* (n+ps.length):=by
 induction ps with
 |nil=>simp
 |cons x l a=>
  intro st n h;have:=a (yi st x.bytes) (n+1) (s2 x.2 h)
  grind
def p2(ps:List ph):(uh (ps.map ph.bytes)).1<=75/\(uh (ps.map ph.bytes)).2.length<=6* ps.length:=by
 have:=F3 ps (0,[]) 0 ea
 grind [uh]
theorem q2(s):∀k,k<=s.length->eb 0 s=(uh ((List.range k).map (Dh s))).2++eb (uh ((List.range k).map (Dh s))).1 (s.drop k)/\(uh ((List.range k).map (Dh s))).1<=75:=by
 intro k
 induction k with
 |zero=>grind [uh]
 |succ k h=>
  intro i;obtain⟨c,e⟩:=h aa;rw[Kr,Zf,Eg,bP];generalize uh ((List.range k).map (Dh s))=st at c e;have fa:k<s.length:=aa
  unfold Dh;rw[qe fa];simp only;by_cases a:s[k]=10
  ·grind [yi,SO]
  ·rw[if_neg a]
   have g:=GH s[k] (s.drop (k+1));generalize b:piece s[k] (s.drop (k+1))=p at g;unfold yi;rw[if_neg na];by_cases d:p.length<=75 - st.1
   ·rw[if_pos d,c,TO fa a b aa];grind
   ·rw[if_neg d,c,UO fa a b aa];grind
def o2(s):(uh ((List.range s.length).map (Dh s))).2=eb 0 s:=by
 grind [q2,eb]
end ya
namespace Go.Proofs.YtglaihdcndcmkaaGreatDoor
attribute [local go_sem] Oper.semAt_some
def Bd.own{β}(B b)(f:β->List UInt8):Own (fun(s:β) W=>Bd B b (f s) W):=by
 intro s W u row h q hr;have r:∀p,Lib.BuilderAtF 101 5 B b p (Lib.byteCells (f s)) W->Lib.BuilderAtF 101 5 B b p (Lib.byteCells (f s)) u:=by
  rintro p ⟨w,v,j,a,l⟩;have t:∀g o,W.heap[g]?=some o->o.isCells=true->some g≠row:=by
   intro g o k n e;obtain⟨y,i,d⟩:=hr g e.symm;rw[k]at i;cases i;rw[n]at d;cases d
  refine⟨w,v,(q.block b (Kh.1 j).1 (t b _ j rfl)).trans j,a.kept q ?_,l⟩;rcases x:v.ownBlock with _|g
  ·simp
  ·obtain⟨c,i,d⟩:=Lib.ownsRowF_kind a g x
   exact .inr (t g _ d rfl)
 rcases h with h|h
 ·exact .inl (r _ h)
 ·exact .inr (r _ h)
def Bd.set{B b k}{l}{w}{t}{v:Value}(n:Value)(h:Bd B b l w)(c:Boxed w k t v)(d:k≠b)(ht:t≠5):Bd B b l (w.setCell ⟨k,0,none⟩ n):=by
 have j:∀p,Lib.BuilderAtF 101 5 B b p (Lib.byteCells l) w->Lib.BuilderAtF 101 5 B b p (Lib.byteCells l) (w.setCell ⟨k,0,none⟩ n):=by
  rintro p ⟨o,v,q,a,g⟩;exact⟨o,v,(Below.heap_setCell _ _ _ _ (fun e=>d e.symm)).trans q,a.kept (row:=some k) ⟨rfl,rfl,rfl,ea,fun i _ r=>Below.heap_setCell _ _ _ _ (fun e=>r (by simp[e]))⟩ (.inr (Lib.ownBlock_neF a c ht)),g⟩
 rcases h with h|h
 ·exact .inl (j _ h)
 ·exact .inr (j _ h)
def wn{e b k:Nat}{t}{v}{w w'}(h:Lib.OthersKept e (some b) w w')(d:Boxed w k t v)(a:k≠b)(ht:t≠e):Boxed w' k t v:=
 h k _ d (fun e=>a na) (fun c g e=>by grind)
theorem Bd.isCells{B b}{l}{w}(h:Bd B b l w):∃o,w.heap[b]?=some o/\o.isCells=true:=by
 rcases h with⟨_,v,a,_⟩|⟨_,v,a,_⟩<;>exact⟨_,a,rfl⟩
def zbf(s)(w):Calls Tryz.prog 165 #[.string s] w fun e w'=>e=.returned (.func (.func 233) #[] #[.pointer (some ⟨w.heap.size,0,none⟩)])/\w'=w.alloc (.cells #[.string s] 9):=by
 go_enter Tryz.func165,Tryz.ntmps165
 go_wp2;go_ret;simp
set_option maxRecDepth 100000 in
def U1(s)(w)(hs:s.size<=1000000):Calls Tryz.prog 99 #[.string s] w (Xg (.string ⟨(eb 0 s.data.toList).toArray⟩) w):=by
 refine(callsIn_wide (n:=3)).1 ?_;refine callsIn_of_wp_marks Tryz.func99 rfl trivial ?_ rfl;simp only[Tryz.ntmps99,Nw,ua,Ca,Nat.reduceAdd,Nat.reduceSub,Ow,Pw,Qw,Rw,Ra,Ha]
 gi_wp2_with (refine⟨trivial,?_⟩;gi_at_call 165;refine(callsIn_wide.2 (zbf _ _)).mono ?_;rintro e w' ⟨rfl,rfl⟩)
 have hB0:Below w.heap.size w (((w.alloc (.cells #[.pointer none,.slice none 0 0] 101)).alloc (.cells #[.int .i64 0] 3)).alloc (.cells #[.string s] 9)):=(((Below.refl _ w).alloc (Aa _) _).alloc ea _).alloc Ma _;have U:Bd w.heap.size w.heap.size [] (((w.alloc (.cells #[.pointer none,.slice none 0 0] 101)).alloc (.cells #[.int .i64 0] 3)).alloc (.cells #[.string s] 9)):=((Bd.fresh w).alloc _).alloc _;have hl0:Boxed (((w.alloc (.cells #[.pointer none,.slice none 0 0] 101)).alloc (.cells #[.int .i64 0] 3)).alloc (.cells #[.string s] 9)) (w.heap.size+1) 3 (.int .i64 0):=by
  have:=Boxed.new (w.alloc (.cells #[.pointer none,.slice none 0 0] 101)) 3 (.int .i64 0);rw[ln]at this;exact this.alloc _
 have X:Boxed (((w.alloc (.cells #[.pointer none,.slice none 0 0] 101)).alloc (.cells #[.int .i64 0] 3)).alloc (.cells #[.string s] 9)) (w.heap.size+1+1) 9 (.string s):=by
  have:=Boxed.new ((w.alloc (.cells #[.pointer none,.slice none 0 0] 101)).alloc (.cells #[.int .i64 0] 3)) 9 (.string s);rw[ln,ln]at this;exact this
 refine wpIn_rangeFunc_ownF rfl aa (gf:=233) (lb:=#[.pointer (some ⟨w.heap.size+1+1,0,none⟩)]) rfl trivial (enters_of Tryz.func233 ca rfl)
  (zbh _ aa s hs (w.heap.size+1+1) _ X) EG (CG ea) (Below.refl _ _) (fun _=>rfl)
  (fun pre W=>(Bd w.heap.size w.heap.size (uh (pre.map ph.bytes)).2 W/\Boxed W (w.heap.size+1) 3 (.int .i64 (uh (pre.map ph.bytes)).1)/\Boxed W (w.heap.size+1+1) 9 (.string s))/\Below w.heap.size w W)
  (fun _ _ _=>False)
  (OwnFrom.and (OwnFrom.and (Own.from (Bd.own _ _ _) _) (OwnFrom.and (Own.from (boxed_own _ _ _) _) (Own.from (boxed_own _ _ _) _))) (ownFrom_below (Aa _) Ma))
  (fun _ _ _ _ _ hs _ _=>hs)
  ⟨⟨U,hl0,X⟩,hB0⟩
  (fun x=>{tmps:=#[.string s,undef,.string ⟨#[]⟩,.pointer (some ⟨w.heap.size,0,none⟩),.pointer (some ⟨w.heap.size+1,0,none⟩),.string x.1,.string s,
    .func (.func 233) #[] #[.pointer (some ⟨w.heap.size+1+1,0,none⟩)],.string x.1,undef,undef,undef,undef,undef,undef,undef,undef,undef,undef,undef,undef,undef,undef,undef,undef],defers:=[]}) ?assign ?body ?done ?stop
 case assign=>
  intro l x W K hKZ
  gi_wp2
  exact hKZ
 case body=>
  rintro l pre x W ⟨⟨j,k,A⟩,T⟩ hlen;have I:=p2 pre;have hcZ:=k.cell;have hf:=k.frozen;have P:uh ((pre++[x]).map ph.bytes)=yi (uh (pre.map ph.bytes)) x.bytes:=by rw[Zf,Eg,bP]
  generalize Z:uh (pre.map ph.bytes)=st at j k I hcZ P;obtain⟨line,out⟩:=st;obtain⟨hb1,C⟩:=I;dsimp only at j k hb1 C hcZ;have B:=Lib.hid k;have o:=Lib.hid A;have q:=Lib.hid P;clear k A P Z;obtain⟨p,hpZ⟩:=x;simp only[ph.bytes]at q;have E:=j.isCells;have O:=Lib.hid E;clear E;have y:p.data.toList.length=p.size:=rfl;have HLZ:=Lib.hid y;clear y;dsimp only;by_cases heZ:p.data.toList=[]
  ·obtain rfl:p=⟨#[]⟩:=by cases p<;>grind
   clear heZ
   gi_wp2
   refine bJ 0 (fun _ _=>False) rfl (fun l a w h=>h.2.elim) ?_ (fun _ _ h=>h.elim)
   gi_wp2_with (first|(refine⟨trivial,?_⟩;gi_at_call 45;refine(CallsIn.inRound l (callsIn_wide.2 (eu _ _ _ _ _ j (by show out.length+2<=_;omega)))).mono ?_;rintro e w2Z ⟨rfl,i,g,c⟩;have b:=wn c B.out ea ha;have L:=Boxed.cell b;have M:=Boxed.frozen b;have d:=Lib.hid b;clear b))
   exact⟨(pv g.size c O.out).trans (KeepsOthers.setCell _ _ _),(Below.heap_setCell _ _ _ _ ea).trans ((wn c o.out aa ha).trans o.out.symm),⟨by rw[q.out];exact i.set _ d.out aa ha,by rw[q.out];exact d.out.set _,(Below.heap_setCell _ _ _ _ ea).trans (wn c o.out aa ha)⟩,(T.trans g).setCell (p:=⟨w.heap.size+1,0,none⟩) ea _⟩
  ·have HEZ:=Lib.hid heZ;clear heZ
   have e1:p.toList=[] ↔ False:=by rw[Lib.toList_data];exact iff_of_false HEZ.out id
   have e2:p.toList.isEmpty=false:=by
    rw[Lib.toList_data];cases h:p.data.toList with
    |nil=>grind [Hid.out]
    |cons _ _=>rfl
   by_cases hfit:p.size<=75 - line
   ·have i1Z:(p.size:Int)<=75 - (line:Int):=aa
    gi_wp2
    refine bJ 0 (fun _ _=>False) rfl (fun l a w h=>h.2.elim) ?_ (fun _ _ h=>h.elim)
    gi_wp2
    refine wpIn_label ?_
    gi_wp2_with (first|(refine⟨trivial,?_⟩;gi_at_call 45;refine(CallsIn.inRound l (callsIn_wide.2 (eu _ _ _ _ _ j aa))).mono ?_;rintro e w2Z ⟨rfl,i,g,c⟩;have b:=wn c B.out ea ha;have L:=Boxed.cell b;have M:=Boxed.frozen b;have d:=Lib.hid b;clear b))
    have R:yi (line,out) p.data.toList=(line+p.size,out++p.data.toList):=by
     unfold yi;rw[if_neg HEZ.out,if_pos (by rw[HLZ.out];omega),HLZ.out]
    have F:=wn c o.out aa ha;exact⟨(pv g.size c O.out).trans (KeepsOthers.setCell _ _ _),(Below.heap_setCell _ _ _ _ ea).trans (F.trans o.out.symm),⟨by rw[q.out,R];exact i.set _ d.out ea ha,by rw[q.out,R];exact d.out.set _,(Below.heap_setCell _ _ _ _ ea).trans F⟩,(T.trans g).setCell (p:=⟨w.heap.size+1,0,none⟩) ea _⟩
   ·have i1Z:decide ((p.size:Int)<=75 - (line:Int))=false:=Ma
    have R:yi (line,out) p.data.toList=(p.size,out++[61,13,10]++p.data.toList):=by
     unfold yi;rw[if_neg HEZ.out,if_neg (by grind [Hid.out]),HLZ.out]
    have S:=Lib.hid R;clear R
    gi_wp2
    refine bJ 0 (fun a' Q=>a'={tmps:=#[.string s,undef,.string ⟨#[]⟩,.pointer (some ⟨w.heap.size,0,none⟩),.pointer (some ⟨w.heap.size+1,0,none⟩),.string p,.string s,
     .func (.func 233) #[] #[.pointer (some ⟨w.heap.size+1+1,0,none⟩)],.string p,.string p,.bool false,undef,.string p,.int .i64 p.size,.int .i64 line,.int .i64 (75 - line),.bool false,undef,undef,undef,undef,undef,undef,.tuple #[.int .i64 3,.nilIface],undef],defers:=[]}/\
     Bd w.heap.size w.heap.size (out++[61,13,10]) Q/\Boxed Q (w.heap.size+1) 3 (.int .i64 0)/\Boxed Q (w.heap.size+1+1) 9 (.string s)/\KeepsOthers W Q/\Below w.heap.size w Q) rfl (fun l a w h=>h.2.elim) ?_ ?_
    ·gi_wp2
     refine wpIn_label ?_
     gi_wp2_with (first|(refine⟨trivial,?_⟩;gi_at_call 45;refine(CallsIn.inRound l (callsIn_wide.2 (eu _ _ _ _ _ j (by show out.length+3<=_;omega)))).mono ?_;rintro e w2Z ⟨rfl,i,g,c⟩;have b:=wn c B.out ea ha;have L:=Boxed.cell b;have M:=Boxed.frozen b;have d:=Lib.hid b;clear b))
     have F:=wn c o.out aa ha;refine wpIn_goto ?_;exact⟨rfl,rfl,i.set _ d.out ea ha,d.out.set _,(Below.heap_setCell _ _ _ _ ea).trans F,(pv g.size c O.out).trans (KeepsOthers.setCell _ _ _),(T.trans g).setCell (p:=⟨w.heap.size+1,0,none⟩) ea _⟩
    ·rintro a' Q ⟨rfl,H,r,N,hk3,hB3⟩
     clear hcZ hf;have hc3:=r.cell;have hf3:=r.frozen;have HX3:=Lib.hid r;have HS3:=Lib.hid N;clear r N;have i2Z:(p.size:Int)<=75:=aa
     gi_wp2_with (first|(refine⟨trivial,?_⟩;gi_at_call 45;refine(CallsIn.inRound l (callsIn_wide.2 (eu _ _ _ _ _ H Ma))).mono ?_;rintro e w4Z ⟨rfl,V,J,v⟩;have u:=wn v HX3.out ea ha;have hcw4:=Boxed.cell u;have hfw4:=Boxed.frozen u;have G:=Lib.hid u;clear u))
     have Y:=wn v HS3.out aa ha;exact⟨hk3.trans ((pv J.size v H.isCells).trans (KeepsOthers.setCell _ _ _)),(Below.heap_setCell _ _ _ _ ea).trans (Y.trans o.out.symm),⟨by rw[q.out,S.out];exact V.set _ G.out ea ha,by rw[q.out,S.out];exact G.out.set _,(Below.heap_setCell _ _ _ _ ea).trans Y⟩,(hB3.trans J).setCell (p:=⟨w.heap.size+1,0,none⟩) ea _⟩
 case done=>
  rintro D ys W q r ⟨⟨j,k,A⟩,T⟩ hKZ;have g:=Lib.hid hKZ;clear hKZ;have B:=Lib.hid k;have o:=Lib.hid A;clear k A
  gi_wp2_with (first|(refine⟨trivial,?_⟩;gi_at_call 46;refine(callsIn_wide.2 (BC _ _ _ _ j)).mono ?_;rintro e w2Z ⟨rfl,i,C,d⟩))
  have E:=j.isCells;have b:=(pv C.size d E).same D _ g.out rfl;refine⟨ea,.inl ⟨_,_,rfl,run_takeDeferred b,?_⟩⟩;have c:(⟨(uh ((List.range s.size).map (Dh s.data.toList))).2.toArray⟩:ByteArray)=⟨(eb 0 s.data.toList).toArray⟩:=by rw[show s.size=s.data.toList.length from rfl,o2]
  exact⟨_,results_tmp (t:=2) rfl _ _ _,congrArg (fun z=>Ending.returned (.string z)) c,(T.trans C).trans (belowK_b (w:=w) (Aa _) _ D _ _ (by simp at q;omega) b rfl rfl)⟩
 simp
def sj(k:FuncId)(g:List Value->Option Value):FuncId->List Value->Option Value:=fun f vs=>if f=k then g vs else none
def Xs{Γ}{k}{g}(b:k≠kb)(h:zo Tryz.prog Γ k g):xc Tryz.prog Γ (Mk (sj k g)):=B3 (fun f vs v a=>by
 unfold sj at a;split at a
 ·rename_i e;rw[e];exact b
 ·cases a) (fun f vs v a=>by
 have e:f=k:=by
  unfold sj at a;split at a
  ·assumption
  ·cases a
 subst e;have:sj f g f=g:=by funext vs;unfold sj;rw[if_pos rfl]
 rw[this];exact h)
def BH{k}{g}{args}{vs}{v}(a:jp args=some vs)(b:g vs=some v):Mk (sj k g) k args [] []=some ([.flat v],false,[],[]):=by
 unfold Mk sj;dsimp only;rw[a,Ja,if_pos rfl,b];rfl
def kB(w:World):Prop:=(∃m,w.cell? ⟨0,0,none⟩=some (.int .i64 m))/\om w
def Ak:lf where
 D g:=g=0\/g=3
 G:=kB
 lt w h g hg:=by
  rcases hg with rfl|rfl
  ·obtain⟨m,a⟩:=h.1;exact Et w _ a
  ·exact h.2.lt
 Ye w w' h hk:=by
  obtain⟨⟨m,a⟩,ht⟩:=h;refine⟨⟨m,?_⟩,fun i b=>?_⟩
  ·unfold World.cell? at a⊢;rw[hk _ (.inl rfl)];exact a
  ·have:=ht i b;unfold World.cell? at this⊢;rw[hk _ (.inr rfl)];exact this
def uA:List Value->Option Value
 |[.string s,.int .u8 c]=>if s.size<=1000000000 then some (.int .i64 (Lib.lastIndexByte s c))else none
 |_=>none
def sA:List Value->Option Value
 |[.string s,.string p]=>if s.size<=1000000000 then some (.bool (Lib.contains s.data.toList p.data.toList))else none
 |_=>none
def Aj(e:ba->ba):List Value->Option Value
 |[.string s]=>if s.size<=1000000 then some (.string (S (e s.data.toList)))else none
 |_=>none
def hU{w}:Below w.heap.size w w:=Below.refl _ _
def O2:zo Tryz.prog Ak 157 uA:=⟨ca,fun vs v h=>by
 unfold uA at h;split at h
 ·split at h
  ·rename_i hs
   cases h;exact⟨rfl,fun w _=>(Tryz.strings_LastIndexByte _ _ aa w).mono (by rintro e w' ⟨rfl,rfl⟩;exact⟨rfl,hU⟩)⟩
  ·cases h
 ·cases h⟩
def N2:zo Tryz.prog Ak 158 sA:=⟨ca,fun vs v h=>by
 unfold sA at h;split at h
 ·split at h
  ·rename_i hs
   cases h;refine⟨rfl,fun w a=>?_⟩;obtain⟨⟨m,b⟩,_⟩:=a;exact(Tryz.strings_Contains _ _ m w aa b).mono (by rintro e w' ⟨rfl,rfl⟩;exact⟨rfl,hU⟩)
  ·cases h
 ·cases h⟩
def M2:zo Tryz.prog Ak 232 (Aj Na):=⟨ca,fun vs v h=>by
 unfold Aj at h;split at h
 ·split at h
  ·rename_i hs
   cases h;exact⟨rfl,fun w a=>(W1 _ w a.2 hs).mono (by rintro e w' ⟨rfl,b⟩;exact⟨rfl,b⟩)⟩
  ·cases h
 ·cases h⟩
def P2:zo Tryz.prog Ak 99 (Aj (eb 0)):=⟨ca,fun vs v h=>by
 unfold Aj at h;split at h
 ·split at h
  ·rename_i hs
   cases h;exact⟨rfl,fun w b=>(U1 _ w hs).mono (by rintro e w' ⟨rfl,a⟩;exact⟨rfl,a⟩)⟩
  ·cases h
 ·cases h⟩
theorem FD(n):∀l,l.length<=n->(Na l).length=(l.length+2)/3* 4:=by
 induction n with
 |zero=>intro l h
        have:l=[]:=qz aa;subst this;simp[Na]
 |succ n d=>
  intro l h
  match l,h with
  |[],_=>simp[Na]
  |[a],_=>simp[Na,LH]
  |[a,b],_=>simp[Na,LH]
  |a::b::c::l,h=>rw[Na,Ba,LH,d l (by simp at h;omega)];simp;omega
theorem ms:∀(s)(line),(eb line s).length<=6* s.length
 |[],_=>by simp[eb]
 |c::t,line=>by
  have a:=(GH c t).2;unfold eb;split
  ·have:=ms t 0;simp only[ua];omega
  ·split
   ·have:=ms t (piece c t).length
    simp only[Ba,ua,Ca];omega
   ·have:=ms t (line+(piece c t).length)
    simp only[Ba,ua];omega
theorem pJ{s}:(S s).data.toList=s:=by simp[S]
end Go.Proofs.YtglaihdcndcmkaaGreatDoor
namespace ya
def okW(x:ba):Prop:=x.length<=75/\x.all zg=true
def fy(c:UInt8)(s:ba):∃p ps,db c s=p::ps:=by
 cases s with
 |nil=>exact⟨_,_,rfl⟩
 |cons x l=>
  unfold db;split
  ·exact⟨_,_,rfl⟩
  ·split<;>exact⟨_,_,rfl⟩
theorem aQ(s:ba):∀(l:ba)(k long n:Nat),long<=60->Kg s k long l=some n->∃p ps,db 32 l=p::ps/\long+p.length<=60/\p.all zg=true/\∀w∈ps,w.length<=60/\w.all zg=true
 |[],k,long,n,d,h=>⟨[],[],rfl,by simpa using d,rfl,ea⟩
 |c::t,k,long,n,d,h=>by
  rw[Kg]at h;split at h
  ·cases h
  ·rename_i hs
   simp only[Sp,decide_eq_true_eq,not_or,bn,bc]at hs;obtain⟨⟨q,r,u,v⟩,x⟩:=hs;obtain⟨p,ps,e,g,i,j⟩:=aQ s t (k+1) (Bh c long) n aa h;have o:zg c=true:=by unfold zg;rw[decide_eq_true (by omega:32<=c.toNat),decide_eq_true (by omega:c.toNat<=126)];rfl
   unfold Bh at g;by_cases b:c.toNat=32
   ·have a:c=32:=Xb.1 b
    rw[if_pos b]at g;refine⟨[],p::ps,by rw[db,if_pos a,e],by simpa using d,rfl,fun w hw=>?_⟩;rcases wb.1 hw with rfl|hw
    ·exact⟨aa,i⟩
    ·exact j w hw
   ·have a:c≠32:=fun e=>b (by rw[e];rfl)
    rw[if_neg b]at g;refine⟨c::p,ps,by rw[db,if_neg a,e],by simp only[ua];omega,by rw[zk,o,i];rfl,j⟩
def ny(n:Nat)(h:n<64):zg (lc n)=true:=by
 have:∀n:Fin 64,zg (lc n.1)=true:=Fb
 exact this ⟨n,h⟩
def MH(l:List UInt8):(ae l).all zg=true:=by
 have a:=ny (num l 3/262144 % 64) (Nat.mod_lt _ ha);have b:=ny (num l 3/4096 % 64) (Nat.mod_lt _ ha);have c:=ny (num l 3/64 % 64) (Nat.mod_lt _ ha);have d:=ny (num l 3 % 64) (Nat.mod_lt _ ha);have e:zg 61=true:=ha
 unfold ae;simp only[zk,List.all_nil,a,b,od,sk];split<;>split<;>simp[c,d,e]
theorem QO:∀l:List UInt8,(Na l).all zg=true
 |[]=>rfl
 |[a]=>MH _
 |[a,b]=>MH _
 |a::b::c::l=>by rw[Na,Mw,MH,QO l];rfl
def cO{g:ba}(h:g.length<=45):okW (Gc Na g):=by
 have a:=FD _ g (Aa _);refine⟨by simp only[Gc,Kd,Ba,ua,Ca,a];omega,?_⟩;simp only[Gc,Mw,QO,sk];decide
def tK(n:Nat):(Ka n).length<=4:=by
 unfold Ka we;rw[jn]
 repeat' split
 all_goals simp
theorem Iy:∀(l:List Nat)(b:ba),b.length<=45->∀x∈Lg Na b l,okW x
 |[],b,h,x,a=>by simp[Lg]at a;subst a;exact cO h
 |r::l,b,h,x,a=>by
  have c:=tK r;rw[Lg]at a;split at a
  ·rcases wb.1 a with rfl|a
   ·exact cO h
   ·exact Iy l _ aa x a
  ·exact Iy l _ (by rw[Ba];omega) x a
def Sw(s:ba):∀x∈Ad Na s,okW x:=by
 intro x a;unfold Ad at a;split at a
 ·simp at a
 ·split at a
  ·rename_i c b
   unfold Fi at b;rw[decide_eq_false c,Ug]at b;cases d:Kg s 0 0 s with
   |none=>rw[d]at b;simp at b
   |some n=>
    obtain⟨p,ps,e,i,h,g⟩:=aQ s s 0 0 n aa d;rw[e]at a;rcases wb.1 a with rfl|a
    ·exact⟨aa,h⟩
    ·exact⟨by have:=(g x a).1;omega,(g x a).2⟩
  ·exact Iy _ _ ea x a
def Re(l:List ba):Nat:=(l.map fun x=>x.length+3).sum
theorem FP:∀(a:List ba)(q:ba×Nat),(a.foldl Pg q).1.length<=q.1.length+Re a
 |[],q=>by simp[Re]
 |x::a,q=>by
  rw[Cg];have h:=FP a (Pg q x);have b:(Pg q x).1.length<=q.1.length+(x.length+3):=by
   unfold Pg jk;dsimp only;split<;>simp only[Ba,ua,Ca]<;>omega
  have e:Re (x::a)=x.length+3+Re a:=by simp[Re]
  omega
theorem mO(c:UInt8):∀s:ba,Re (db c s)<=4* s.length+3
 |[]=>by simp[db,Re]
 |x::l=>by
  have a:=mO c l;obtain⟨p,ps,e⟩:=fy c l;rw[e]at a;have e2:Re (p::ps)=p.length+3+Re ps:=by simp[Re]
  unfold db;split
  ·have e3:Re ([]::db c l)=3+Re (p::ps):=by rw[e];simp[Re]
   rw[e3];simp only[ua];omega
  ·rw[e]
   have e3:Re ((x::p)::ps)=p.length+1+3+Re ps:=by simp[Re]
   dsimp only;rw[e3];simp only[ua];omega
theorem nE:∀(l:List Nat)(a:ba),42* (Lg Na a l).length<=42+a.length+4* l.length
 |[],a=>by simp[Lg]
 |r::l,a=>by
  have b:=tK r;rw[Lg];split
  ·have:=nE l (Ka r)
   simp only[ua];omega
  ·have:=nE l (a++Ka r)
   rw[Ba]at this;simp only[ua];omega
theorem aV{n:Nat}:∀l:List ba,(∀x∈l,x.length<=n)->Re l<=(n+3)* l.length
 |[],_=>by simp[Re]
 |x::l,h=>by
  have b:=aV l fun y a=>h y (by simp[a])
  have c:=h x ea;have e2:Re (x::l)=x.length+3+Re l:=by simp[Re]
  rw[e2,ua,Nat.mul_add];omega
def UV(s:ba)(hs:s.length<=250):Re (Ad Na s)<=1950:=by
 unfold Ad;split
 ·simp[Re]
 ·split
  ·have:=mO 32 s;omega
  ·have a:=nE (Gd s) []
   have c:(Gd s).length<=s.length:=by unfold Gd;rw[jn];exact bI _ s (Aa _)
   have d:=aV (n:=75) (Lg Na [] (Gd s)) fun x b=>(Iy _ _ ea x b).1
   simp only[Ca]at a;omega
def GG(f s:ba)(hs:s.length<=250)(hf:f.length<=32):(Ze Na f s).length<=1985:=by
 have a:=FP (Ad Na s) (f++[58],f.length+1);have b:=UV s hs;unfold Ze;simp only[Ba,ua,Ca]at a⊢;omega
variable {lib:Callee}
def KG(A B:List ba)(st:List kf×Bool):Ud (A++B) st=(Ud A st).bind (Ud B):=by
 unfold Ud;rw[List.foldlM_append];rfl
def Ps:ba:=[77,73,77,69,45,86,101,114,115,105,111,110]
def Pk(m:kc):List ba:=Zq Na Gf m.fr++(Zq Na jg m.to++(Zq Na Qg m.su++[Ap,Cp]))
def Pe(kind s:ba):ba:=Ya [fj++kind++ej,gj]++13::10::eb 0 s
def cj(m:kc):ba:=Zs Zg++(Pe Nc m.te++(Yr Zg++(Pe Uc m.ht++ns Zg)))
def Hx(m:kc):rh Na (eb 0) m=Ya (Pk m)++13::10::cj m:=by
 unfold rh Pk cj Pe;rw[sz,sz,sz,dr,dr,dr];simp[Wh,Ya,crlf,Zs,Yr,ns,uv,Zg,Fq,vc]
def vf(v:ba):ba:=be (Ad Na v)
def Qc(v:ba):ba:=trimB (vf v)
def A4(m:kc):(∀x∈Pk m,Fp x/\x≠[])/\Ud (Pk m) ([],false)=some ([(Gf,vf m.fr),(jg,vf m.to),(Qg,vf m.su),(Ps,[32,49,46,48]),(Xo,32::Qn)],false):=by
 obtain⟨b,c⟩:=FG (enc:=Na) (v:=m.fr) (f:=Gf) [] ha ha fun x a=>Sw m.fr x a
 obtain⟨d,e⟩:=FG (enc:=Na) (v:=m.to) (f:=jg) [(Gf,vf m.fr)] ha ha fun x a=>Sw m.to x a
 obtain⟨c1,c2⟩:=FG (enc:=Na) (v:=m.su) (f:=Qg) [(Gf,vf m.fr),(jg,vf m.to)] ha ha fun x a=>Sw m.su x a
 refine⟨fun x a=>?_,?_⟩
 ·unfold Pk at a
  rcases Ue.1 a with a|a
  ·exact b x a
  rcases Ue.1 a with a|a
  ·exact d x a
  rcases Ue.1 a with a|a
  ·exact c1 x a
  rcases wb.1 a with rfl|a
  ·exact⟨⟨ha,ha⟩,ha⟩
  ·rw[so.1 a];exact⟨⟨ha,ha⟩,ha⟩
 ·unfold Pk
  rw[KG,c,Ja,KG];show(Ud _ ([(Gf,vf m.fr)],false)).bind _=_;rw[e,Ja,KG];show(Ud _ ([(Gf,vf m.fr),(jg,vf m.to)],false)).bind _=_;rw[c2,Ja];have g:=UD (f:=Ps) (r:=[32,49,46,48]) (F:=[(Gf,vf m.fr),(jg,vf m.to),(Qg,vf m.su)]) ha ⟨ha,ha⟩;have h:=UD (f:=Xo) (r:=32::Qn) (F:=[(Gf,vf m.fr),(jg,vf m.to),(Qg,vf m.su),(Ps,[32,49,46,48])]) ha ⟨ha,ha⟩;rw[Ud,Ot];show(ze ([(Gf,vf m.fr),(jg,vf m.to),(Qg,vf m.su)],false) (Ps++58::[32,49,46,48])).bind _=_;rw[g];show(List.foldlM ze ([(Gf,vf m.fr),(jg,vf m.to),(Qg,vf m.su),(Ps,[32,49,46,48])],false) [Xo++58::(32::Qn)])=_;rw[Ot,h];rfl
def w_{x:ba}(h:Fp x):∀c∈x,c≠13:=fun c a=>zcy c (Bg.1 h.2 c a)
def zdI(m:kc):ih (rh Na (eb 0) m)=.ok (Pm (Qc m.fr) (Qc m.to) (Qc m.su)) ((Ya (Pk m)).length+2):=by
 obtain⟨a,c⟩:=A4 m;rw[Hx,nI (Pk m) (cj m) _ (fun x b=>⟨(a x b).2,w_ (a x b).1⟩) c];have e1:trimB [32,49,46,48]=[49,46,48]:=Fb
 have e2:trimB (32::Qn)=Qn:=Fb
 simp only[gc,Ve,e1,e2,Pm,Ps,Qc]
def zdJ(s:ba):ih (Pe Nc s)=.ok (li Nc) ((Ya [fj++Nc++ej,gj]).length+2):=
 nI [fj++Nc++ej,gj] (eb 0 s) [(Xo,32::xw Nc),(nD,32::il)] Fb Fb
def zdH(s:ba):ih (Pe Uc s)=.ok (li Uc) ((Ya [fj++Uc++ej,gj]).length+2):=
 nI [fj++Uc++ej,gj] (eb 0 s) [(Xo,32::xw Uc),(nD,32::il)] Fb Fb
def ED(a:ba)(r:ba):(a++13::10::r).drop (a.length+2)=r:=by
 rw[List.drop_append];simp
def mS{kind s:ba}(a:kind=Nc\/kind=Uc):me (Pe kind s)=true:=by
 unfold Pe;have h:(Ya [fj++kind++ej,gj]++[13,10])++eb 0 s=Ya [fj++kind++ej,gj]++13::10::eb 0 s:=ea
 rw[<-h];refine kS _ _ ?_ (Jz s 0) (.inl ?_)
 ·rcases a with rfl|rfl<;>decide+kernel
 ·rcases a with rfl|rfl<;>decide+kernel
def DH{kind s:ba}(a:kind=Nc\/kind=Uc)(hs:s.length<=250):(Pe kind s).length<=1600:=by
 have:=ms s 0;have h:(Ya [fj++kind++ej,gj]).length<=90:=by rcases a with rfl|rfl<;>decide+kernel
 unfold Pe;simp only[Ba,ua];omega
def nK(m:kc)(l:m.Jm):(rh Na (eb 0) m).length<=10000:=by
 obtain⟨g,h,i,j,k⟩:=l;have a:=GG Gf m.fr g ha;have b:=GG jg m.to h ha;have c:=GG Qg m.su i ha;have d:=DH (kind:=Nc) (.inl rfl) j;have e:=DH (kind:=Uc) (.inr rfl) k;rw[Hx];rw[sz]at a b c;have q:(Ya [Ap,Cp]).length<=100:=Fb
 have n:(Zs Zg).length=12:=ha
 have o:(Yr Zg).length=14:=ha
 have p:(ns Zg).length=16:=ha
 unfold Pk cj;simp only[dr,Ba,ua,n,o,p]at*;omega
theorem sO:∀(w:ba)(t:ba),(32:UInt8)∉w->db 32 (w++32::t)=w::db 32 t
 |[],t,_=>by rw[Ra,db,if_pos rfl]
 |c::w,t,h=>by
  simp only[wb,not_or]at h;rw[Ha,db,if_neg (fun e=>h.1 e.symm),sO w t h.2]
theorem rO:∀(w:ba),(32:UInt8)∉w->db 32 w=[w]
 |[],_=>rfl
 |c::w,h=>by
  simp only[wb,not_or]at h;rw[db,if_neg (fun e=>h.1 e.symm),rO w h.2]
theorem sD:∀(a:List ba)(w:ba),(∀x∈w::a,(32:UInt8)∉x)->db 32 (w++be a)=w::a
 |[],w,h=>by
  have:be []=[]:=rfl;rw[this,Sg];exact rO w (h w ea)
 |x::a,w,h=>by
  rw[rt,sO w _ (h w ea),sD a x fun y b=>h y (by simp at b⊢;exact Or.inr b)]
def P1{w t:ba}(b:w≠[])(a:∀c∈w,nc c=false):(32::(w++t)).dropWhile nc=w++t:=by
 cases w with
 |nil=>exact absurd rfl b
 |cons c w=>
  have:=a c ea;rw[fB,if_pos ha,Ha,fB,if_neg (by rw[this];decide)]
def ze8{s w:ba}(e:w≠[])(b:∀c∈w,nc c=false):pk (s++w)=s++w:=by
 unfold pk;rw[List.reverse_append];have hr:w.reverse≠[]:=by simpa using e
 cases a:w.reverse with
 |nil=>exact absurd a hr
 |cons c r=>
  have d:c∈w:=by rw[<-List.mem_reverse,a];simp
  rw[Ha,fB,if_neg (by rw[b c d];decide),<-Ha,<-a,<-List.reverse_append,List.reverse_reverse]
theorem tV:∀(a:List ba)(w s:ba),(∀x∈w::a,x≠[]/\∀c∈x,nc c=false)->pk (s++(w++be a))=s++(w++be a)
 |[],w,s,h=>by
  have:be []=[]:=rfl;rw[this,Sg];exact ze8 (h w ea).1 (h w ea).2
 |x::a,w,s,h=>by
  rw[rt];have e:s++(w++32::(x++be a))=(s++w++[32])++(x++be a):=ea
  rw[e];exact tV a x _ fun y b=>h y (by simp at b⊢;exact Or.inr b)
def vV(w:ba)(a:List ba)(h:∀x∈w::a,x≠[]/\∀c∈x,nc c=false):trimB (be (w::a))=w++be a:=by
 unfold trimB;rw[rt,P1 (h w ea).1 (h w ea).2];have:=tV a w [] h;simpa using this
def rS{w:ba}(h:∀c∈w,nc c=false):(32:UInt8)∉w:=fun a=>by have:=h 32 a;simp[nc]at this
theorem MT(dec:ba->ba×Bool):∀(a:List ba)(s:ba),(∀x∈a,x≠[]/\dec x=(x,false))->(a.foldl (ig dec) (s,true,false)).1=s++be a
 |[],s,_=>by simp[be]
 |w::a,s,h=>by
  have b:=h w ea;rw[Cg,rt];have:ig dec (s,true,false) w=(s++32::w,true,false):=by
   unfold ig;rw[if_neg b.1,b.2];simp
  rw[this,MT dec a _ fun x c=>h x (by simp[c])];simp
theorem KT(dec:ba->ba×Bool):∀(a:List (ba×ba))(s:ba),(∀x∈a,x.1≠[]/\dec x.1=(x.2,true))->((a.map (·.1)).foldl (ig dec) (s,true,true)).1=s++a.flatMap (·.2)
 |[],s,_=>by simp
 |w::d,s,h=>by
  have b:=h w ea;rw[gc,Cg];have:ig dec (s,true,true) w.1=(s++w.2,true,true):=by
   unfold ig;rw[if_neg b.1,b.2];simp
  rw[this,KT dec d _ fun x c=>h x (by simp[c])];simp
def zbQ(dec:ba->ba×Bool)(w:ba)(b:List ba)(h:∀x∈w::b,x≠[]/\(∀c∈x,nc c=false)/\dec x=(x,false)):xj dec (32::trimB (be (w::b)))=w++be b:=by
 unfold xj;rw[vV w b fun x a=>⟨(h x a).1,(h x a).2.1⟩,db,if_pos rfl,sD b w fun x a=>rS (h x a).2.1,Cg,Cg];have d:=h w ea;have:ig dec (ig dec ([],false,false) []) w=(w,true,false):=by
  unfold ig;rw[if_pos rfl,if_neg d.1,d.2.2];simp
 rw[this,MT dec b _ fun x a=>⟨(h x (by simp[a])).1,(h x (by simp[a])).2.2⟩]
def zbO(dec:ba->ba×Bool)(g:ba×ba)(a:List (ba×ba))(h:∀x∈g::a,x.1≠[]/\(∀c∈x.1,nc c=false)/\dec x.1=(x.2,true)):xj dec (32::trimB (be ((g::a).map (·.1))))=g.2++a.flatMap (·.2):=by
 unfold xj;have d:∀x∈g.1::a.map (·.1),x≠[]/\∀c∈x,nc c=false:=fun x b=>by
  rw[<-gc]at b;obtain⟨y,i,rfl⟩:=si.1 b;exact⟨(h y i).1,(h y i).2.1⟩
 rw[gc,vV g.1 (a.map (·.1)) d,db,if_pos rfl,sD (a.map (·.1)) g.1 fun x b=>rS (d x b).2,Cg,Cg];have e:=h g ea;have:ig dec (ig dec ([],false,false) []) g.1=(g.2,true,true):=by
  unfold ig;rw[if_pos rfl,if_neg e.1,e.2.2];simp
 rw[this,KT dec a _ fun x b=>⟨(h x (by simp[b])).1,(h x (by simp[b])).2.2⟩]
def zbP(dec:ba->ba×Bool):xj dec (32::trimB (be []))=[]:=by simp[xj,be,trimB,pk,db,ig]
end ya
