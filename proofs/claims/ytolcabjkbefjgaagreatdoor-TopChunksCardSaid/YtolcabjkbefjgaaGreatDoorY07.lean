/- DERIVED: THE SHELF's CONTRACTS AT THIS DUMP, IN PLAIN WORDS (tools/lay-plain.mjs out of 'TryzShelf.lean', which tools/lay-shelf.mjs wrote): THE SAME DECLARATIONS UNDER THE SAME NAMES: 'import', 'namespace', 'open', 'def', 'theorem' AND NOTHING ELSE: no command of the shelf's: FOR A HAND-IN. Each laying: the table of numbers ('.._ren') and one theorem, a field a fact of the dump's own or the kernel's comparison; each contract: ONE APPLICATION. The contracts of the code's inner words for texts: which blanks are cut off, and which characters are blanks. The contracts of the code's words: characters told one by one, a range of characters, what stands between bytes. What the rows' lists of variables give, at the layers above bases; arguments opened. -/
import Derived.Test.YtolcabjkbefjgaaGreatDoorY03
import Derived.Deep.DeepWitnessRowRef
import Derived.Lay
import Derived.PinnedBridge
import Derived.Test.YtolcabjkbefjgaaGreatDoorCards
import Derived.Test.YtolcabjkbefjgaaGreatDoorTie
import Derived.Lib.SmallJoins
import Derived.Deep.RegionHeld3
import Derived.Sort.Walk13
import Derived.Sort.LotD6
import Derived.Sort.LotD7
import Derived.Sort.AssemblyPlain
import Derived.Sort.EveryDepth
import Derived.Deep.Light
import Derived.Sort.Walk7
import Derived.Sort.Walk11
import Derived.Shelf.SortM.WalkA6In
import Derived.Sort.WalkC4
import Derived.Test.YtolcabjkbefjgaaGreatDoorY05
import Derived.Test.YtolcabjkbefjgaaGreatDoorY06
set_option linter.unusedSimpArgs false
set_option linter.unusedVariables false
set_option maxRecDepth 20000
set_option maxHeartbeats 4000000
section
namespace Go.Proofs
open Go.Shelf
def Tryz.lays160_ren : Go.Shelf.Ren:=⟨fun | 160 => 147 | 232 => 190 | 231 => 189 | 227 => 191 | 234 => 193 | 233 => 192 | 236 => 195 | 235 => 194 | 228 => 218 | 271 => 219 | 151 => 201 | 197 => 212 | 120 => 228 | 152 => 221 | 260 => 225 | 137 => 229 | 119 => 230 | 224 => 216 | 225 => 215 | 217 => 214 | 266 => 226 | n => n,fun | 9 => 9 | 4 => 4 | 3 => 3 | 5 => 5 | 117 => 316 | 116 => 315 | 0 => 0 | 124 => 319 | 21 => 21 | 105 => 336 | 46 => 219 | 119 => 331 | 139 => 334 | 138 => 333 | n => n,fun | 3 => 2 | 4 => 3 | n => n⟩
theorem Tryz.lays160 : Go.Proofs.Lays.n160 Tryz.prog Tryz.lays160_ren:={
 mixed:=by kernel_rfl
 f119:=Tryz.func230.trans (congrArg some (by kernel_rfl))
 f120:=Tryz.func228.trans (congrArg some (by kernel_rfl))
 f137:=Tryz.func229.trans (congrArg some (by kernel_rfl))
 f151:=Tryz.func201.trans (congrArg some (by kernel_rfl))
 f152:=Tryz.func221.trans (congrArg some (by kernel_rfl))
 f160:=Tryz.func147.trans (congrArg some (by kernel_rfl))
 f197:=Tryz.func212.trans (congrArg some (by kernel_rfl))
 f217:=Tryz.func214.trans (congrArg some (by kernel_rfl))
 f224:=Tryz.func216.trans (congrArg some (by kernel_rfl))
 f225:=Tryz.func215.trans (congrArg some (by kernel_rfl))
 f227:=Tryz.func191.trans (congrArg some (by kernel_rfl))
 f228:=Tryz.func218.trans (congrArg some (by kernel_rfl))
 f231:=Tryz.func189.trans (congrArg some (by kernel_rfl))
 f232:=Tryz.func190.trans (congrArg some (by kernel_rfl))
 f233:=Tryz.func192.trans (congrArg some (by kernel_rfl))
 f234:=Tryz.func193.trans (congrArg some (by kernel_rfl))
 f235:=Tryz.func194.trans (congrArg some (by kernel_rfl))
 f236:=Tryz.func195.trans (congrArg some (by kernel_rfl))
 f260:=Tryz.func225.trans (congrArg some (by kernel_rfl))
 f266:=Tryz.func226.trans (congrArg some (by kernel_rfl))
 f271:=Tryz.func219.trans (congrArg some (by kernel_rfl))
 t0:=Tryz.underlying0
 a0:=Tryz.isAgg0
 z0:=Tryz.sizeOf0
 v0:=Tryz.zeroValue0
 t3:=Tryz.underlying3
 a3:=Tryz.isAgg3
 z3:=Tryz.sizeOf3
 v3:=Tryz.zeroValue3
 t4:=Tryz.underlying4
 a4:=Tryz.isAgg4
 z4:=Tryz.sizeOf4
 v4:=Tryz.zeroValue4
 t5:=Tryz.underlying5
 a5:=Tryz.isAgg5
 z5:=Tryz.sizeOf5
 v5:=Tryz.zeroValue5
 t9:=Tryz.underlying9
 a9:=Tryz.isAgg9
 z9:=Tryz.sizeOf9
 v9:=Tryz.zeroValue9
 t21:=Tryz.underlying21
 a21:=Tryz.isAgg21
 z21:=Tryz.sizeOf21
 v21:=Tryz.zeroValue21
 t46:=Tryz.underlying219
 a46:=Tryz.isAgg219
 z46:=Tryz.sizeOf219
 v46:=Tryz.zeroValue219
 t105:=Tryz.underlying336
 a105:=Tryz.isAgg336
 z105:=Tryz.sizeOf336
 v105:=Tryz.zeroValue336
 t116:=Tryz.underlying315
 a116:=Tryz.isAgg315
 z116:=Tryz.sizeOf315
 t117:=Tryz.underlying316
 a117:=Tryz.isAgg316
 z117:=Tryz.sizeOf316
 v117:=Tryz.zeroValue316
 t119:=Tryz.underlying331
 a119:=Tryz.isAgg331
 z119:=Tryz.sizeOf331
 t124:=Tryz.underlying319
 a124:=Tryz.isAgg319
 z124:=Tryz.sizeOf319
 v124:=Tryz.zeroValue319
 t138:=Tryz.underlying333
 a138:=Tryz.isAgg333
 z138:=Tryz.sizeOf333
 v138:=Tryz.zeroValue333
 t139:=Tryz.underlying334
 a139:=Tryz.isAgg334
 z139:=Tryz.sizeOf334
 v139:=Tryz.zeroValue334
 g3:=by kernel_rfl
 g4:=by kernel_rfl }
def Tryz.lays119_ren : Go.Shelf.Ren:=⟨fun | 119 => 230 | n => n,fun | 21 => 21 | 4 => 4 | n => n,fun | n => n⟩
theorem Tryz.lays119 : Go.Proofs.Lays.n119 Tryz.prog Tryz.lays119_ren:={
 mixed:=by kernel_rfl
 f119:=Tryz.func230.trans (congrArg some (by kernel_rfl))
 t4:=Tryz.underlying4
 a4:=Tryz.isAgg4
 z4:=Tryz.sizeOf4
 v4:=Tryz.zeroValue4
 t21:=Tryz.underlying21
 a21:=Tryz.isAgg21
 z21:=Tryz.sizeOf21
 v21:=Tryz.zeroValue21 }
theorem Tryz.utf8_ValidRune (r : Int) (w : World) :
  Calls Tryz.prog 230 #[.int .i32 r] w fun e w' => e = .returned (.bool (Lib.validRune r)) /\ w' = w:=Any.utf8_ValidRune Tryz.lays119 r w
def Tryz.lays106_ren : Go.Shelf.Ren:=⟨fun | 106 => 138 | 213 => 179 | 265 => 209 | n => n,fun | 9 => 9 | 3 => 3 | n => n,fun | n => n⟩
theorem Tryz.lays106 : Go.Proofs.Lays.n106 Tryz.prog Tryz.lays106_ren:={
 mixed:=by kernel_rfl
 f106:=Tryz.func138.trans (congrArg some (by kernel_rfl))
 f213:=Tryz.func179.trans (congrArg some (by kernel_rfl))
 f265:=Tryz.func209.trans (congrArg some (by kernel_rfl))
 t3:=Tryz.underlying3
 a3:=Tryz.isAgg3
 z3:=Tryz.sizeOf3
 v3:=Tryz.zeroValue3
 t9:=Tryz.underlying9
 a9:=Tryz.isAgg9
 z9:=Tryz.sizeOf9
 v9:=Tryz.zeroValue9 }
open Go.RowKit in
theorem Tryz.strings_Compare (a b : ByteArray) (w : World) :
  Calls Tryz.prog 138 #[.string a,.string b] w fun e w' => e = .returned (.int .i64 (Lib.compareBytes a.data.toList b.data.toList)) /\ w' = w:=Any.strings_Compare Tryz.lays106 a b w
def Tryz.lays137_ren : Go.Shelf.Ren:=⟨fun | 137 => 229 | 217 => 214 | 266 => 226 | n => n,fun | 9 => 9 | 5 => 5 | 3 => 3 | n => n,fun | n => n⟩
theorem Tryz.lays137 : Go.Proofs.Lays.n137 Tryz.prog Tryz.lays137_ren:={
 mixed:=by kernel_rfl
 f137:=Tryz.func229.trans (congrArg some (by kernel_rfl))
 f217:=Tryz.func214.trans (congrArg some (by kernel_rfl))
 f266:=Tryz.func226.trans (congrArg some (by kernel_rfl))
 t3:=Tryz.underlying3
 a3:=Tryz.isAgg3
 z3:=Tryz.sizeOf3
 v3:=Tryz.zeroValue3
 t5:=Tryz.underlying5
 a5:=Tryz.isAgg5
 z5:=Tryz.sizeOf5
 v5:=Tryz.zeroValue5
 t9:=Tryz.underlying9
 a9:=Tryz.isAgg9
 z9:=Tryz.sizeOf9
 v9:=Tryz.zeroValue9 }
open Go.RowKit in
theorem Tryz.strings_IndexByte (s : ByteArray) (c : Int) (w : World) :
  Calls Tryz.prog 229 #[.string s,.int .u8 c] w fun e w' => e = .returned (.int .i64 (Lib.indexByte s.data.toList c.toNat.toUInt8)) /\ w' = w:=Any.strings_IndexByte Tryz.lays137 s c w
def Tryz.lays103_ren : Go.Shelf.Ren:=⟨fun | 103 => 104 | 210 => 148 | 206 => 170 | n => n,fun | 9 => 9 | 4 => 4 | 24 => 144 | 3 => 3 | n => n,fun | n => n⟩
theorem Tryz.lays103 : Go.Proofs.Lays.n103 Tryz.prog Tryz.lays103_ren:={
 mixed:=by kernel_rfl
 f103:=Tryz.func104.trans (congrArg some (by kernel_rfl))
 f206:=Tryz.func170.trans (congrArg some (by kernel_rfl))
 f210:=Tryz.func148.trans (congrArg some (by kernel_rfl))
 t3:=Tryz.underlying3
 a3:=Tryz.isAgg3
 z3:=Tryz.sizeOf3
 v3:=Tryz.zeroValue3
 t4:=Tryz.underlying4
 a4:=Tryz.isAgg4
 z4:=Tryz.sizeOf4
 v4:=Tryz.zeroValue4
 t9:=Tryz.underlying9
 a9:=Tryz.isAgg9
 z9:=Tryz.sizeOf9
 v9:=Tryz.zeroValue9
 t24:=Tryz.underlying144
 a24:=Tryz.isAgg144
 z24:=Tryz.sizeOf144
 v24:=Tryz.zeroValue144 }
open Go.RowKit in
theorem Tryz.strings_CutPrefix (s p : ByteArray) (w : World) :
  Calls Tryz.prog 104 #[.string s,.string p] w fun e w' => e = .returned (.tuple #[.string ⟨(Lib.trimPrefix s.data.toList p.data.toList).toArray⟩,.bool (Lib.hasPrefix s.data.toList p.data.toList)]) /\ w' = w:=Any.strings_CutPrefix Tryz.lays103 s p w
def Tryz.lays104_ren : Go.Shelf.Ren:=⟨fun | 104 => 105 | 211 => 149 | 207 => 196 | n => n,fun | 9 => 9 | 4 => 4 | 24 => 144 | 3 => 3 | n => n,fun | n => n⟩
theorem Tryz.lays104 : Go.Proofs.Lays.n104 Tryz.prog Tryz.lays104_ren:={
 mixed:=by kernel_rfl
 f104:=Tryz.func105.trans (congrArg some (by kernel_rfl))
 f207:=Tryz.func196.trans (congrArg some (by kernel_rfl))
 f211:=Tryz.func149.trans (congrArg some (by kernel_rfl))
 t3:=Tryz.underlying3
 a3:=Tryz.isAgg3
 z3:=Tryz.sizeOf3
 v3:=Tryz.zeroValue3
 t4:=Tryz.underlying4
 a4:=Tryz.isAgg4
 z4:=Tryz.sizeOf4
 v4:=Tryz.zeroValue4
 t9:=Tryz.underlying9
 a9:=Tryz.isAgg9
 z9:=Tryz.sizeOf9
 v9:=Tryz.zeroValue9
 t24:=Tryz.underlying144
 a24:=Tryz.isAgg144
 z24:=Tryz.sizeOf144
 v24:=Tryz.zeroValue144 }
open Go.RowKit in
theorem Tryz.strings_CutSuffix (s p : ByteArray) (w : World) (hs : s.size <= 9223372036854775807) :
  Calls Tryz.prog 105 #[.string s,.string p] w fun e w' => e = .returned (.tuple #[.string ⟨(Lib.trimSuffix s.data.toList p.data.toList).toArray⟩,.bool (Lib.hasSuffix s.data.toList p.data.toList)]) /\ w' = w:=Any.strings_CutSuffix Tryz.lays104 s p w hs
def Tryz.lays122_ren : Go.Shelf.Ren:=⟨fun | 122 => 136 | 215 => 178 | n => n,fun | 3 => 3 | 4 => 4 | n => n,fun | n => n⟩
theorem Tryz.lays122 : Go.Proofs.Lays.n122 Tryz.prog Tryz.lays122_ren:={
 mixed:=by kernel_rfl
 f122:=Tryz.func136.trans (congrArg some (by kernel_rfl))
 f215:=Tryz.func178.trans (congrArg some (by kernel_rfl))
 t3:=Tryz.underlying3
 a3:=Tryz.isAgg3
 z3:=Tryz.sizeOf3
 v3:=Tryz.zeroValue3
 t4:=Tryz.underlying4
 a4:=Tryz.isAgg4
 z4:=Tryz.sizeOf4
 v4:=Tryz.zeroValue4 }
open Go.RowKit in
theorem Tryz.cmp_Compare_int (x y : Int) (w : World) :
  Calls Tryz.prog 136 #[.int .i64 x,.int .i64 y] w fun e w' => e = .returned (.int .i64 (Lib.compareInt x y)) /\ w' = w:=Any.cmp_Compare_int Tryz.lays122 x y w
def Tryz.lays195_ren : Go.Shelf.Ren:=⟨fun | 195 => 176 | n => n,fun | 9 => 9 | 3 => 3 | 0 => 0 | 4 => 4 | n => n,fun | n => n⟩
theorem Tryz.lays195 : Go.Proofs.Lays.n195 Tryz.prog Tryz.lays195_ren:={
 mixed:=by kernel_rfl
 f195:=Tryz.func176.trans (congrArg some (by kernel_rfl))
 t0:=Tryz.underlying0
 a0:=Tryz.isAgg0
 z0:=Tryz.sizeOf0
 v0:=Tryz.zeroValue0
 t3:=Tryz.underlying3
 a3:=Tryz.isAgg3
 z3:=Tryz.sizeOf3
 v3:=Tryz.zeroValue3
 t4:=Tryz.underlying4
 a4:=Tryz.isAgg4
 z4:=Tryz.sizeOf4
 v4:=Tryz.zeroValue4
 t9:=Tryz.underlying9
 a9:=Tryz.isAgg9
 z9:=Tryz.sizeOf9
 v9:=Tryz.zeroValue9 }
open Go.RowKit in
theorem Tryz.utf8_RuneCountInString (s : ByteArray) (w : World) (hs : s.size < 9223372036854775807) :
  Calls Tryz.prog 176 #[.string s] w fun e w' => e = .returned (.int .i64 (Lib.runeCount s)) /\ ∃ pos,w' = w.iter s pos:=Any.utf8_RuneCountInString Tryz.lays195 s w hs
def Tryz.lays145_ren : Go.Shelf.Ren:=⟨fun | 145 => 102 | 220 => 146 | 219 => 188 | 217 => 214 | 225 => 215 | 224 => 216 | 267 => 217 | 266 => 226 | 314 => 227 | n => n,fun | 9 => 9 | 4 => 4 | 59 => 226 | 3 => 3 | 5 => 5 | 46 => 219 | 146 => 350 | 51 => 284 | n => n,fun | 1 => 4 | n => n⟩
theorem Tryz.lays145 : Go.Proofs.Lays.n145 Tryz.prog Tryz.lays145_ren:={
 mixed:=by kernel_rfl
 f145:=Tryz.func102.trans (congrArg some (by kernel_rfl))
 f217:=Tryz.func214.trans (congrArg some (by kernel_rfl))
 f219:=Tryz.func188.trans (congrArg some (by kernel_rfl))
 f220:=Tryz.func146.trans (congrArg some (by kernel_rfl))
 f224:=Tryz.func216.trans (congrArg some (by kernel_rfl))
 f225:=Tryz.func215.trans (congrArg some (by kernel_rfl))
 f266:=Tryz.func226.trans (congrArg some (by kernel_rfl))
 f267:=Tryz.func217.trans (congrArg some (by kernel_rfl))
 f314:=Tryz.func227.trans (congrArg some (by kernel_rfl))
 t3:=Tryz.underlying3
 a3:=Tryz.isAgg3
 z3:=Tryz.sizeOf3
 v3:=Tryz.zeroValue3
 t4:=Tryz.underlying4
 a4:=Tryz.isAgg4
 z4:=Tryz.sizeOf4
 v4:=Tryz.zeroValue4
 t5:=Tryz.underlying5
 a5:=Tryz.isAgg5
 z5:=Tryz.sizeOf5
 v5:=Tryz.zeroValue5
 t9:=Tryz.underlying9
 a9:=Tryz.isAgg9
 z9:=Tryz.sizeOf9
 v9:=Tryz.zeroValue9
 t46:=Tryz.underlying219
 a46:=Tryz.isAgg219
 z46:=Tryz.sizeOf219
 v46:=Tryz.zeroValue219
 t51:=Tryz.underlying284
 a51:=Tryz.isAgg284
 z51:=Tryz.sizeOf284
 v51:=Tryz.zeroValue284
 t59:=Tryz.underlying226
 a59:=Tryz.isAgg226
 z59:=Tryz.sizeOf226
 v59:=Tryz.zeroValue226
 t146:=Tryz.underlying350
 a146:=Tryz.isAgg350
 z146:=Tryz.sizeOf350
 v146:=Tryz.zeroValue350
 g1:=by kernel_rfl }
open Go.RowKit Go.Lib in
theorem Tryz.strings_Cut (s sep : ByteArray) (m : Int) (w : World) (hs : s.size < 4294967281) (hm : w.cell? ⟨4,0,none⟩ = some (.int .i64 m)) :
  Calls Tryz.prog 102 #[.string s,.string sep] w fun e w' => e = .returned (.tuple #[.string ⟨(Lib.cut s.data.toList sep.data.toList).1.toArray⟩,.string ⟨(Lib.cut s.data.toList sep.data.toList).2.1.toArray⟩,.bool (Lib.cut s.data.toList sep.data.toList).2.2]) /\ ∃ n,w' = w.drewN n:=Any.strings_Cut Tryz.lays145 s sep m w hs hm
def Tryz.laysGw17_ren : Go.Shelf.Ren:=⟨fun | 17 => 151 | 15 => 198 | 20 => 220 | n => n,fun | 9 => 9 | 23 => 156 | 4 => 4 | 3 => 3 | 0 => 0 | 21 => 21 | n => n,fun | n => n⟩
theorem Tryz.laysGw17 : Go.Proofs.LaysGw.n17 Tryz.prog Tryz.laysGw17_ren:={
 mixed:=by kernel_rfl
 f15:=Tryz.func198.trans (congrArg some (by kernel_rfl))
 f17:=Tryz.func151.trans (congrArg some (by kernel_rfl))
 f20:=Tryz.func220.trans (congrArg some (by kernel_rfl))
 t0:=Tryz.underlying0
 a0:=Tryz.isAgg0
 z0:=Tryz.sizeOf0
 v0:=Tryz.zeroValue0
 i0:=by kernel_rfl
 t3:=Tryz.underlying3
 a3:=Tryz.isAgg3
 z3:=Tryz.sizeOf3
 v3:=Tryz.zeroValue3
 i3:=by kernel_rfl
 t4:=Tryz.underlying4
 a4:=Tryz.isAgg4
 z4:=Tryz.sizeOf4
 v4:=Tryz.zeroValue4
 i4:=by kernel_rfl
 t9:=Tryz.underlying9
 a9:=Tryz.isAgg9
 z9:=Tryz.sizeOf9
 v9:=Tryz.zeroValue9
 i9:=by kernel_rfl
 t21:=Tryz.underlying21
 a21:=Tryz.isAgg21
 z21:=Tryz.sizeOf21
 v21:=Tryz.zeroValue21
 i21:=by kernel_rfl
 t23:=Tryz.underlying156
 a23:=Tryz.isAgg156
 z23:=Tryz.sizeOf156
 v23:=Tryz.zeroValue156
 i23:=by kernel_rfl }
def Tryz.lays99_ren : Go.Shelf.Ren:=⟨fun | 99 => 123 | 206 => 170 | n => n,fun | 9 => 9 | 4 => 4 | 3 => 3 | n => n,fun | n => n⟩
theorem Tryz.lays99 : Go.Proofs.Lays.n99 Tryz.prog Tryz.lays99_ren:={
 mixed:=by kernel_rfl
 f99:=Tryz.func123.trans (congrArg some (by kernel_rfl))
 f206:=Tryz.func170.trans (congrArg some (by kernel_rfl))
 t3:=Tryz.underlying3
 a3:=Tryz.isAgg3
 z3:=Tryz.sizeOf3
 v3:=Tryz.zeroValue3
 t4:=Tryz.underlying4
 a4:=Tryz.isAgg4
 z4:=Tryz.sizeOf4
 v4:=Tryz.zeroValue4
 t9:=Tryz.underlying9
 a9:=Tryz.isAgg9
 z9:=Tryz.sizeOf9
 v9:=Tryz.zeroValue9 }
open Go.RowKit Go.Lib in
theorem Tryz.strings_HasPrefix (s p : ByteArray) (w : World) :
  Calls Tryz.prog 123 #[.string s,.string p] w fun e w' => e = .returned (.bool (Lib.hasPrefix s.data.toList p.data.toList)) /\ w' = w:=Any.strings_HasPrefix Tryz.lays99 s p w
def Tryz.lays146_ren : Go.Shelf.Ren:=⟨fun | 146 => 100 | 221 => 145 | 268 => 185 | 138 => 186 | 143 => 187 | 195 => 176 | 197 => 212 | 218 => 213 | 219 => 188 | 260 => 225 | 217 => 214 | 225 => 215 | 224 => 216 | 267 => 217 | 266 => 226 | 314 => 227 | n => n,fun | 9 => 9 | 31 => 28 | 3 => 3 | 4 => 4 | 0 => 0 | 105 => 336 | 21 => 21 | 5 => 5 | 46 => 219 | 119 => 331 | 139 => 334 | 138 => 333 | 146 => 350 | 51 => 284 | n => n,fun | 1 => 4 | 3 => 2 | 4 => 3 | n => n⟩
theorem Tryz.lays146 : Go.Proofs.Lays.n146 Tryz.prog Tryz.lays146_ren:={
 mixed:=by kernel_rfl
 f138:=Tryz.func186.trans (congrArg some (by kernel_rfl))
 f143:=Tryz.func187.trans (congrArg some (by kernel_rfl))
 f146:=Tryz.func100.trans (congrArg some (by kernel_rfl))
 f195:=Tryz.func176.trans (congrArg some (by kernel_rfl))
 f197:=Tryz.func212.trans (congrArg some (by kernel_rfl))
 f217:=Tryz.func214.trans (congrArg some (by kernel_rfl))
 f218:=Tryz.func213.trans (congrArg some (by kernel_rfl))
 f219:=Tryz.func188.trans (congrArg some (by kernel_rfl))
 f221:=Tryz.func145.trans (congrArg some (by kernel_rfl))
 f224:=Tryz.func216.trans (congrArg some (by kernel_rfl))
 f225:=Tryz.func215.trans (congrArg some (by kernel_rfl))
 f260:=Tryz.func225.trans (congrArg some (by kernel_rfl))
 f266:=Tryz.func226.trans (congrArg some (by kernel_rfl))
 f267:=Tryz.func217.trans (congrArg some (by kernel_rfl))
 f268:=Tryz.func185.trans (congrArg some (by kernel_rfl))
 f314:=Tryz.func227.trans (congrArg some (by kernel_rfl))
 t0:=Tryz.underlying0
 a0:=Tryz.isAgg0
 z0:=Tryz.sizeOf0
 v0:=Tryz.zeroValue0
 t3:=Tryz.underlying3
 a3:=Tryz.isAgg3
 z3:=Tryz.sizeOf3
 v3:=Tryz.zeroValue3
 t4:=Tryz.underlying4
 a4:=Tryz.isAgg4
 z4:=Tryz.sizeOf4
 v4:=Tryz.zeroValue4
 t5:=Tryz.underlying5
 a5:=Tryz.isAgg5
 z5:=Tryz.sizeOf5
 v5:=Tryz.zeroValue5
 t9:=Tryz.underlying9
 a9:=Tryz.isAgg9
 z9:=Tryz.sizeOf9
 v9:=Tryz.zeroValue9
 t21:=Tryz.underlying21
 a21:=Tryz.isAgg21
 z21:=Tryz.sizeOf21
 v21:=Tryz.zeroValue21
 t31:=Tryz.underlying28
 a31:=Tryz.isAgg28
 z31:=Tryz.sizeOf28
 v31:=Tryz.zeroValue28
 t46:=Tryz.underlying219
 a46:=Tryz.isAgg219
 z46:=Tryz.sizeOf219
 v46:=Tryz.zeroValue219
 t51:=Tryz.underlying284
 a51:=Tryz.isAgg284
 z51:=Tryz.sizeOf284
 v51:=Tryz.zeroValue284
 t105:=Tryz.underlying336
 a105:=Tryz.isAgg336
 z105:=Tryz.sizeOf336
 v105:=Tryz.zeroValue336
 t119:=Tryz.underlying331
 a119:=Tryz.isAgg331
 z119:=Tryz.sizeOf331
 t138:=Tryz.underlying333
 a138:=Tryz.isAgg333
 z138:=Tryz.sizeOf333
 v138:=Tryz.zeroValue333
 t139:=Tryz.underlying334
 a139:=Tryz.isAgg334
 z139:=Tryz.sizeOf334
 v139:=Tryz.zeroValue334
 t146:=Tryz.underlying350
 a146:=Tryz.isAgg350
 z146:=Tryz.sizeOf350
 v146:=Tryz.zeroValue350
 g1:=by kernel_rfl
 g3:=by kernel_rfl
 g4:=by kernel_rfl }
open Go.RowKit Go.Lib in
theorem Tryz.strings_Split (s sep : ByteArray) (m : Int) (w : World) (hs : s.size < 4294967281) (hm : w.cell? ⟨4,0,none⟩ = some (.int .i64 m)) (h1 : 1 <= sep.size) :
  Calls Tryz.prog 100 #[.string s,.string sep] w fun e w' =>
   e = .returned (.slice (some ⟨w.heap.size,0,none⟩) (Lib.countB s sep + 1) (Lib.countB s sep + 1)) /\ w' = w.alloc (.cells ((Lib.splitB sep 0 (Lib.countB s sep) s).map Value.string).toArray 9):=Any.strings_Split Tryz.lays146 (by kernel_rfl) s sep m w hs hm h1
def Tryz.laysM146_ren : Go.Shelf.Ren:=⟨fun | 146 => 100 | 221 => 145 | 268 => 185 | 138 => 186 | 143 => 187 | 195 => 176 | 197 => 212 | 218 => 213 | 219 => 188 | 260 => 225 | 217 => 214 | 225 => 215 | 224 => 216 | 267 => 217 | 266 => 226 | 314 => 227 | n => n,fun | 9 => 9 | 31 => 28 | 3 => 3 | 4 => 4 | 0 => 0 | 105 => 336 | 21 => 21 | 5 => 5 | 46 => 219 | 119 => 331 | 139 => 334 | 138 => 333 | 146 => 350 | 51 => 284 | n => n,fun | 1 => 4 | 3 => 2 | 4 => 3 | n => n⟩
theorem Tryz.laysM146 : Go.Proofs.LaysM.n146 Tryz.prog Tryz.laysM146_ren:={
 mixed:=by kernel_rfl
 f138:=Tryz.func186.trans (congrArg some (by kernel_rfl))
 f143:=Tryz.func187.trans (congrArg some (by kernel_rfl))
 f146:=Tryz.func100.trans (congrArg some (by kernel_rfl))
 f195:=Tryz.func176.trans (congrArg some (by kernel_rfl))
 f197:=Tryz.func212.trans (congrArg some (by kernel_rfl))
 f217:=Tryz.func214.trans (congrArg some (by kernel_rfl))
 f218:=Tryz.func213.trans (congrArg some (by kernel_rfl))
 f219:=Tryz.func188.trans (congrArg some (by kernel_rfl))
 f221:=Tryz.func145.trans (congrArg some (by kernel_rfl))
 f224:=Tryz.func216.trans (congrArg some (by kernel_rfl))
 f225:=Tryz.func215.trans (congrArg some (by kernel_rfl))
 f260:=Tryz.func225.trans (congrArg some (by kernel_rfl))
 f266:=Tryz.func226.trans (congrArg some (by kernel_rfl))
 f267:=Tryz.func217.trans (congrArg some (by kernel_rfl))
 f268:=Tryz.func185.trans (congrArg some (by kernel_rfl))
 f314:=Tryz.func227.trans (congrArg some (by kernel_rfl))
 t0:=Tryz.underlying0
 a0:=Tryz.isAgg0
 z0:=Tryz.sizeOf0
 v0:=Tryz.zeroValue0
 t3:=Tryz.underlying3
 a3:=Tryz.isAgg3
 z3:=Tryz.sizeOf3
 v3:=Tryz.zeroValue3
 t4:=Tryz.underlying4
 a4:=Tryz.isAgg4
 z4:=Tryz.sizeOf4
 v4:=Tryz.zeroValue4
 t5:=Tryz.underlying5
 a5:=Tryz.isAgg5
 z5:=Tryz.sizeOf5
 v5:=Tryz.zeroValue5
 t9:=Tryz.underlying9
 a9:=Tryz.isAgg9
 z9:=Tryz.sizeOf9
 v9:=Tryz.zeroValue9
 t21:=Tryz.underlying21
 a21:=Tryz.isAgg21
 z21:=Tryz.sizeOf21
 v21:=Tryz.zeroValue21
 t31:=Tryz.underlying28
 a31:=Tryz.isAgg28
 z31:=Tryz.sizeOf28
 v31:=Tryz.zeroValue28
 t46:=Tryz.underlying219
 a46:=Tryz.isAgg219
 z46:=Tryz.sizeOf219
 v46:=Tryz.zeroValue219
 t51:=Tryz.underlying284
 a51:=Tryz.isAgg284
 z51:=Tryz.sizeOf284
 v51:=Tryz.zeroValue284
 t105:=Tryz.underlying336
 a105:=Tryz.isAgg336
 z105:=Tryz.sizeOf336
 v105:=Tryz.zeroValue336
 t119:=Tryz.underlying331
 a119:=Tryz.isAgg331
 z119:=Tryz.sizeOf331
 t138:=Tryz.underlying333
 a138:=Tryz.isAgg333
 z138:=Tryz.sizeOf333
 v138:=Tryz.zeroValue333
 t139:=Tryz.underlying334
 a139:=Tryz.isAgg334
 z139:=Tryz.sizeOf334
 v139:=Tryz.zeroValue334
 t146:=Tryz.underlying350
 a146:=Tryz.isAgg350
 z146:=Tryz.sizeOf350
 v146:=Tryz.zeroValue350
 g1:=by kernel_rfl
 g3:=by kernel_rfl
 g4:=by kernel_rfl
 i0:=by kernel_rfl
 i3:=by kernel_rfl
 i4:=by kernel_rfl
 i5:=by kernel_rfl
 i9:=by kernel_rfl
 i21:=by kernel_rfl
 i31:=by kernel_rfl
 i46:=by kernel_rfl
 i51:=by kernel_rfl
 i105:=by kernel_rfl
 i138:=by kernel_rfl
 i139:=by kernel_rfl
 i146:=by kernel_rfl
 m1:=by kernel_rfl
 s1_3:=fun w h => Go.Proofs.cell_of_shapedOpen_int (zero:=#[.int .i64 0]) (t:=3) h (of_decide_eq_true (by kernel_rfl)) (by kernel_rfl) rfl (by kernel_rfl) (by kernel_rfl) Tryz.underlying3
 m3:=by kernel_rfl
 m4:=by kernel_rfl }
def Tryz.lays151_ren : Go.Shelf.Ren:=⟨fun | 151 => 201 | 152 => 221 | 137 => 229 | 119 => 230 | 224 => 216 | 225 => 215 | 217 => 214 | 266 => 226 | n => n,fun | 9 => 9 | 21 => 21 | 4 => 4 | 3 => 3 | 5 => 5 | 0 => 0 | 46 => 219 | n => n,fun | n => n⟩
theorem Tryz.lays151 : Go.Proofs.Lays.n151 Tryz.prog Tryz.lays151_ren:={
 mixed:=by kernel_rfl
 f119:=Tryz.func230.trans (congrArg some (by kernel_rfl))
 f137:=Tryz.func229.trans (congrArg some (by kernel_rfl))
 f151:=Tryz.func201.trans (congrArg some (by kernel_rfl))
 f152:=Tryz.func221.trans (congrArg some (by kernel_rfl))
 f217:=Tryz.func214.trans (congrArg some (by kernel_rfl))
 f224:=Tryz.func216.trans (congrArg some (by kernel_rfl))
 f225:=Tryz.func215.trans (congrArg some (by kernel_rfl))
 f266:=Tryz.func226.trans (congrArg some (by kernel_rfl))
 t0:=Tryz.underlying0
 a0:=Tryz.isAgg0
 z0:=Tryz.sizeOf0
 v0:=Tryz.zeroValue0
 t3:=Tryz.underlying3
 a3:=Tryz.isAgg3
 z3:=Tryz.sizeOf3
 v3:=Tryz.zeroValue3
 t4:=Tryz.underlying4
 a4:=Tryz.isAgg4
 z4:=Tryz.sizeOf4
 v4:=Tryz.zeroValue4
 t5:=Tryz.underlying5
 a5:=Tryz.isAgg5
 z5:=Tryz.sizeOf5
 v5:=Tryz.zeroValue5
 t9:=Tryz.underlying9
 a9:=Tryz.isAgg9
 z9:=Tryz.sizeOf9
 v9:=Tryz.zeroValue9
 t21:=Tryz.underlying21
 a21:=Tryz.isAgg21
 z21:=Tryz.sizeOf21
 v21:=Tryz.zeroValue21
 t46:=Tryz.underlying219
 a46:=Tryz.isAgg219
 z46:=Tryz.sizeOf219
 v46:=Tryz.zeroValue219 }
open Go.RowKit Go.Lib in
theorem Tryz.strings_ContainsRune_ascii (s : ByteArray) (r : Int) (w : World) (h0 : 0 <= r) (h1 : r < 128) :
  Calls Tryz.prog 201 #[.string s,.int .i32 r] w fun e w' => e = .returned (.bool (decide (0 <= Lib.indexByte s.data.toList r.toNat.toUInt8))) /\ w' = w:=Any.strings_ContainsRune_ascii Tryz.lays151 s r w h0 h1
def Tryz.lays229_ren : Go.Shelf.Ren:=⟨fun | 229 => 199 | n => n,fun | 9 => 9 | 40 => 156 | 31 => 28 | 152 => 342 | 3 => 3 | 0 => 0 | 4 => 4 | 21 => 21 | 154 => 344 | n => n,fun | n => n⟩
theorem Tryz.lays229 : Go.Proofs.Lays.n229 Tryz.prog Tryz.lays229_ren:={
 mixed:=by kernel_rfl
 f229:=Tryz.func199.trans (congrArg some (by kernel_rfl))
 t0:=Tryz.underlying0
 a0:=Tryz.isAgg0
 z0:=Tryz.sizeOf0
 v0:=Tryz.zeroValue0
 t3:=Tryz.underlying3
 a3:=Tryz.isAgg3
 z3:=Tryz.sizeOf3
 v3:=Tryz.zeroValue3
 t4:=Tryz.underlying4
 a4:=Tryz.isAgg4
 z4:=Tryz.sizeOf4
 v4:=Tryz.zeroValue4
 t9:=Tryz.underlying9
 a9:=Tryz.isAgg9
 z9:=Tryz.sizeOf9
 v9:=Tryz.zeroValue9
 t21:=Tryz.underlying21
 a21:=Tryz.isAgg21
 z21:=Tryz.sizeOf21
 v21:=Tryz.zeroValue21
 t31:=Tryz.underlying28
 a31:=Tryz.isAgg28
 z31:=Tryz.sizeOf28
 v31:=Tryz.zeroValue28
 t40:=Tryz.underlying156
 a40:=Tryz.isAgg156
 z40:=Tryz.sizeOf156
 v40:=Tryz.zeroValue156
 t152:=Tryz.underlying342
 a152:=Tryz.isAgg342
 z152:=Tryz.sizeOf342
 v152:=Tryz.zeroValue342
 t154:=Tryz.underlying344
 a154:=Tryz.isAgg344
 z154:=Tryz.sizeOf344
 v154:=Tryz.zeroValue344 }
open Go.RowKit Go.Lib in
theorem Tryz.strings_ContainsFunc_grows (g : Nat) (lb : Array Value) (eg : ∀ args w,(callFunc g args).run Tryz.prog w = .ok (.enter g args) w) (p : Nat -> Bool) (s : ByteArray) (w : World) (hp : PredGrows Tryz.prog g lb p w) :
  Calls Tryz.prog 151 #[.string s,.func (.func g) #[] lb] w fun e w' => e = .returned (.bool (decide (0 <= Lib.idxFunc p true s))) /\ Below w.heap.size w w':=Any.strings_ContainsFunc_grows Tryz.laysGw17 g lb eg p s w hp
open Go.RowKit Go.Lib in
theorem Tryz.strings_FieldsFunc_grows (g : Nat) (lb : Array Value) (eg : ∀ args w,(callFunc g args).run Tryz.prog w = .ok (.enter g args) w) (p : Nat -> Bool) (s : ByteArray) (w : World) (hs : s.size <= 4294967296) (hp : PredGrows Tryz.prog g lb p w) :
  Calls Tryz.prog 199 #[.string s,.func (.func g) #[] lb] w fun e w' => ∃ A,e = .returned (.slice (some ⟨A,0,none⟩) (Lib.goFieldsP p s).length (Lib.goFieldsP p s).length) /\ w.heap.size <= A /\
   w'.ownsRow w.heap.size 9 1 (.slice (some ⟨A,0,none⟩) (Lib.goFieldsP p s).length (Lib.goFieldsP p s).length) (Lib.goFieldsP p s).length ((Lib.goFieldsP p s).map Value.string) /\ Below w.heap.size w w':=Any.strings_FieldsFunc_grows Tryz.lays229 g lb eg p s w hs hp (by kernel_rfl) (by kernel_rfl)
end Go.Proofs
end
namespace Go.Proofs.YtolcabjkbefjgaaGreatDoor
section
open Go.RowKit
theorem bare_any (s : ByteArray) (w : World) (hs : s.size <= 9223372036854775807) :
  Calls Tryz.prog 103 #[.string s] w fun e w' => e = .returned (.string (mk8 (bareL (bs s)))) /\ Below w.heap.size w w':=by
 have HT:=Any.strings_Trim_laid Tryz.lays160 (by kernel_rfl) s ⟨#[9,13,32]⟩ w hs (by decide) (ascii_of_all (by decide));go_enter Tryz.func103,Tryz.ntmps103;go_wp2_with fail;refine HT.mono ?_;rintro e w' ⟨rfl,hb⟩;go_wp2;go_returns;refine ⟨?_,hb⟩;show Ending.returned (.string (mk8 (Lib.trimS (bs s) [9,13,32]))) = _;rw [zn6]
theorem zfr {P : Program} {f : FuncId} {args : Array Value} {w : World} {n k : Nat} {v : Value}
  (h : Calls P f args (w.drewN (k + n)) fun e w' => e = .returned v /\ w' = w.drewN (k + n)) : Calls P f args (w.drewN (k + n)) fun e w'' => e = .returned v /\ ∃ m,w'' = w.drewN (k + m) :=
 h.mono fun _ _ ⟨he,hm⟩ => ⟨he,n,hm⟩
abbrev bl3 : ByteArray:=⟨#[9,13,32]⟩
theorem idx_small : ∀ n < 128,(decide (0 <= Lib.indexByte [9,13,32] (Int.toNat (n : Nat)).toUInt8)) = zdi n:=by decide
theorem idx_big (l : List UInt8) (c : UInt8) (hl : ∀ b ∈ l,b.toNat < 128) (hc : 128 <= c.toNat) : Lib.indexByte l c = -1:=by
 induction l with
 | nil => rfl
 | cons b t ih =>
  have hne : ¬ (b == c) = true:=by
   intro h;have h1 : b = c:=beq_iff_eq.1 h;have h2:=hl b (by simp);rw [h1] at h2;omega
  unfold Lib.indexByte;rw [if_neg hne,ih (fun x hx => hl x (List.mem_cons_of_mem _ hx))];rfl
theorem small_any (x : Nat) (w : World) (hx : x < 128) :
  Calls Tryz.prog 201 #[.string bl3,.int .i32 x] w fun e w' => e = .returned (.bool (zdi x)) /\ Below w.heap.size w w':=by
 refine (Tryz.strings_ContainsRune_ascii bl3 x w (by omega) (by omega)).mono ?_;rintro e w' ⟨rfl,rfl⟩;refine ⟨zam ?_,Below.refl _ _⟩;exact idx_small x hx
theorem bad_any (x : Int) (w : World) (hx : 128 <= x) (hn : x ≠ 65533) (hv : Lib.validRune x = false) :
  Calls Tryz.prog 221 #[.string bl3,.int .i32 x] w fun e w' => e = .returned (.int .i64 (-1)) /\ Below w.heap.size w w':=by
 have h0 : (0 : Int) <= x:=(by omega);have hv2 : (!Lib.validRune x) = true:=(by rw [hv]; rfl);have he : (x == 65533) = false:=beq_eq_false_iff_ne.2 hn;go_enter Tryz.func221,Tryz.ntmps221;go_wp2_with (go_at_call 230; refine (Tryz.utf8_ValidRune _ _).mono ?_; rintro e w' ⟨rfl,rfl⟩)
 go_returns;exact ⟨rfl,Below.refl _ _⟩
theorem odd_any (w : World) :
  Calls Tryz.prog 221 #[.string bl3,.int .i32 65533] w fun e w' => e = .returned (.int .i64 (-1)) /\ Below w.heap.size w w':=by
 have hasc : ∀ (k : Nat) (hp : k < bl3.size),(bl3[k]'hp).toNat < 128:=(by decide);obtain ⟨s,hs⟩ : ∃ s,s = bl3:=⟨_,rfl⟩;rw [<- hs] at hasc ⊢;clear hs;go_enter Tryz.func221,Tryz.ntmps221;go_wp2
 go_loopw [4] (fun n wr => ∃ (k : Nat),wr = w.iter s k /\ k <= s.size) (fun _ wr => s.size - wr.iterPos w.heap.size)
 case atStart => exact ⟨0,rfl,Nat.zero_le _⟩
 case round =>
  obtain ⟨k,rfl,hk⟩:=hrel
  by_cases hp : k < s.size
  ·have hnx : ∀ ty,(Instr.next (.pointer (some ⟨w.heap.size,0,none⟩)) true ty).run Tryz.prog (w.iter s k) = _:=fun ty => run_next_any w s k ty hp;have ha:=hasc k hp;have hdec : Utf8.decode s k = ((s[k]'hp).toNat,1):=decode_ascii s k hp ha;rw [hdec] at hnx;obtain ⟨b,hb⟩ : ∃ b : Nat,b = (s[k]'hp).toNat:=⟨_,rfl⟩;rw [<- hb] at hnx ha;have hne : ((b : Int) == 65533) = false:=beq_eq_false_iff_ne.2 (by omega);clear hdec hb;go_wp2;go_roundw
   case rel => exact ⟨k + 1,rfl,by omega⟩
   case measure => simp; omega
  ·have hnx : ∀ ty,(Instr.next (.pointer (some ⟨w.heap.size,0,none⟩)) true ty).run Tryz.prog (w.iter s k) = _:=fun ty => run_next_end w s k ty hp;go_wp2;go_returns;exact ⟨rfl,(Below.refl w.heap.size w).alloc (Nat.le_refl _) _⟩
theorem znt {n : Nat} (hn : n < 256) {l : List UInt8} (hl : ∀ b ∈ l,b.toNat < 128) (hc : 128 <= n) : Lib.indexByte l ((n : Int).toNat.toUInt8) = -1:=by
 refine idx_big l _ hl ?_;show 128 <= (UInt8.ofNat n).toNat;simp;omega
theorem good_any (x : Int) (w : World) (hx : 128 <= x) (hn : x ≠ 65533) (hv : Lib.validRune x = true) :
  Calls Tryz.prog 221 #[.string bl3,.int .i32 x] w fun e w' => e = .returned (.int .i64 (-1)) /\ Below w.heap.size w w':=by
 have h0 : (0 : Int) <= x:=(by omega);have hv2 : (!Lib.validRune x) = false:=(by rw [hv]; rfl);have he : (x == 65533) = false:=beq_eq_false_iff_ne.2 hn;have hu : Utf8.valid x = true:=(by rw [validRune_eq]; exact hv);obtain ⟨hz2,hz4,hlast⟩:=encode_facts x hu hx;obtain ⟨rs,hrs⟩ : ∃ rs,rs = Utf8.encode x:=⟨_,rfl⟩
 have hconv : ∀ w,(convert 21 9 (.int .i32 x)).run Tryz.prog w = .ok (.string rs) w:=fun w => by
  rw [hrs]; exact run_convert_int_string w _ _ _ _ (by rw [Tryz.underlying21]; rfl) Tryz.underlying9
 rw [<- hrs] at hz2 hz4 hlast;clear hu hrs
 have hcase : (∃ a c,rs = ⟨#[a,c]⟩ /\ 128 <= c.toNat) \/ (∃ a b c,rs = ⟨#[a,b,c]⟩ /\ 128 <= c.toNat) \/ (∃ a b d c,rs = ⟨#[a,b,d,c]⟩ /\ 128 <= c.toNat):=by
  clear hconv;obtain ⟨⟨l⟩⟩:=rs;match l,hz2,hz4,hlast with
  | [],h,_,_ => exact absurd h (by decide)
  | [a],h,_,_ => exact absurd h (show ¬ 2 <= 1 by decide)
  | [a,c],_,_,h => exact .inl ⟨a,c,rfl,h (show 1 < 2 by decide)⟩
  | [a,b,c],_,_,h => exact .inr (.inl ⟨a,b,c,rfl,h (show 2 < 3 by decide)⟩)
  | [a,b,d,c],_,_,h => exact .inr (.inr ⟨a,b,d,c,rfl,h (show 3 < 4 by decide)⟩)
  | a :: b :: d :: c :: e :: t,_,h,_ => exact absurd (show t.length + 5 <= 4 from h) (by omega)
 clear hz2 hz4 hlast hv;rcases hcase with ⟨a,c,rfl,hc⟩ | ⟨a,b,c,rfl,hc⟩ | ⟨a,b,d,c,rfl,hc⟩
 ·have i1 : ∀ w,(Instr.index 9 (.string ⟨#[a,c]⟩) (.int .i64 1)).run Tryz.prog w = .ok (.int .u8 c.toNat) w:=fun w => by kernel_rfl
  have i2 : ∀ w,(Instr.index 9 (.string bl3) (.int .i64 1)).run Tryz.prog w = .ok (.int .u8 13) w:=fun w => by kernel_rfl
  have s2 : ∀ w,(Instr.slice 9 (.string bl3) (some (.int .i64 (IntKind.i64.wrap 2))) none none).run Tryz.prog w = .ok (.string ⟨#[32]⟩) w:=fun w => by kernel_rfl
  have hne : ((13 : Int) != (c.toNat : Int)) = true:=by simp; omega
  have HF : ∀ W,Calls Tryz.prog 229 #[.string (bl3.extract 2 3),.int .u8 c.toNat] W fun e w' => e = .returned (.int .i64 (-1)) /\ w' = W:=fun W => by
   have:=Tryz.strings_IndexByte (bl3.extract 2 3) c.toNat W;rw [show (bl3.extract 2 3).data.toList = [32] from by decide,znt (UInt8.toNat_lt c) (by decide) hc] at this;exact this
  clear hc;go_enter Tryz.func221,Tryz.ntmps221;go_wp2_with (go_at_call 230; refine (Tryz.utf8_ValidRune _ _).mono ?_; rintro e w1 ⟨rfl,rfl⟩)
  go_step3
  go_wp2
  go_loopw [9] (fun i wr => i = .int .i64 1 /\ wr = w1) (fun _ _ => 0)
  case atStart => exact ⟨rfl,rfl⟩
  case round =>
   obtain ⟨rfl,rfl⟩:=hrel;go_wp2;go_step3
   go_wp2;go_quiet (fail)
   go_wp2;go_quiet ((go_at_call 229; exact zfr (HF _)))
   go_wp2;rw [Exit.noGoto_ret];go_wp2;try rw [Exit.noGoto_ret]
   go_ret
   exact ⟨rfl,zbn _ _ _⟩
 ·have i1 : ∀ w,(Instr.index 9 (.string ⟨#[a,b,c]⟩) (.int .i64 2)).run Tryz.prog w = .ok (.int .u8 c.toNat) w:=fun w => by kernel_rfl
  have i2 : ∀ w,(Instr.index 9 (.string bl3) (.int .i64 2)).run Tryz.prog w = .ok (.int .u8 32) w:=fun w => by kernel_rfl
  have s2 : ∀ w,(Instr.slice 9 (.string bl3) (some (.int .i64 (IntKind.i64.wrap 3))) none none).run Tryz.prog w = .ok (.string ⟨#[]⟩) w:=fun w => by kernel_rfl
  have hne : ((32 : Int) != (c.toNat : Int)) = true:=by simp; omega
  have HF : ∀ W,Calls Tryz.prog 229 #[.string (ByteArray.empty),.int .u8 c.toNat] W fun e w' => e = .returned (.int .i64 (-1)) /\ w' = W:=fun W => by
   have:=Tryz.strings_IndexByte (ByteArray.empty) c.toNat W;rw [show (ByteArray.empty).data.toList = [] from by decide,znt (UInt8.toNat_lt c) (by decide) hc] at this;exact this
  clear hc;go_enter Tryz.func221,Tryz.ntmps221;go_wp2_with (go_at_call 230; refine (Tryz.utf8_ValidRune _ _).mono ?_; rintro e w1 ⟨rfl,rfl⟩)
  go_step3
  go_wp2
  go_loopw [9] (fun i wr => i = .int .i64 2 /\ wr = w1) (fun _ _ => 0)
  case atStart => exact ⟨rfl,rfl⟩
  case round =>
   obtain ⟨rfl,rfl⟩:=hrel;go_wp2;go_step3
   go_wp2;go_quiet (fail)
   go_wp2;go_quiet ((go_at_call 229; exact zfr (HF _)))
   go_wp2;rw [Exit.noGoto_ret];go_wp2;try rw [Exit.noGoto_ret]
   go_ret
   exact ⟨rfl,zbn _ _ _⟩
 ·clear hc;go_enter Tryz.func221,Tryz.ntmps221;go_wp2_with (go_at_call 230; refine (Tryz.utf8_ValidRune _ _).mono ?_; rintro e w1 ⟨rfl,rfl⟩)
  go_step3
  go_wp2
  go_loopw [9] (fun i wr => i = .int .i64 3 /\ wr = w1) (fun _ _ => 0)
  case atStart => exact ⟨rfl,rfl⟩
  case round =>
   obtain ⟨rfl,rfl⟩:=hrel;go_wp2;rw [Exit.noGoto_ret];go_ret
   exact ⟨rfl,Below.refl _ _⟩
theorem far_any (x : Int) (w : World) (hx : 128 <= x) : Calls Tryz.prog 221 #[.string bl3,.int .i32 x] w fun e w' => e = .returned (.int .i64 (-1)) /\ Below w.heap.size w w':=by
 by_cases hn : x = 65533
 ·rw [hn]; exact odd_any w
 ·by_cases hv : Lib.validRune x = true
  ·exact good_any x w hx hn hv
  ·exact bad_any x w hx hn (by simpa using hv)
theorem contains_any (x : Nat) (w : World) :
  Calls Tryz.prog 201 #[.string bl3,.int .i32 x] w fun e w' => e = .returned (.bool (zdi x)) /\ Below w.heap.size w w':=by
 by_cases hx : x < 128
 ·exact small_any x w hx
 ·have HB:=hz0q (zhz (x:=x) (by omega));have hx' : (128 : Int) <= (x : Int):=(by omega);clear hx;go_enter Tryz.func201,Tryz.ntmps201;go_wp2_with fail;refine (far_any _ _ hx').mono ?_;rintro e w' ⟨rfl,hb⟩;go_wp2;go_returns;exact ⟨zam HB.out.symm,hb⟩
theorem isblank_any (w : World) : Go.Proofs.PredGrows Tryz.prog 200 #[] zdi w:=by
 intro W x _ _;show Calls Tryz.prog 200 #[.int .i32 x] W _;go_enter Tryz.func200,Tryz.ntmps200;go_wp2_with fail;refine (contains_any _ _).mono ?_;rintro e w' ⟨rfl,hb⟩;go_wp2;go_returns;exact ⟨rfl,hb⟩
theorem ffields_any (s : ByteArray) (w : World) (hs : s.size <= 4294967296) :
  Calls Tryz.prog 199 #[.string s,.func (.func 200) #[] #[]] w (zh7 w (zfn (bs s))):=by
 refine (Tryz.strings_FieldsFunc_grows 200 #[] (enters_of Tryz.func200 (by kernel_rfl) rfl) zdi s w hs (isblank_any w)).mono ?_;rintro e w' ⟨A,rfl,_,hown,hb⟩;rw [fields_words] at hown ⊢;simp only [List.length_map] at hown ⊢;refine ⟨_,_,rfl,?_,hb⟩;rw [List.map_map] at hown;exact hown
end
section
open Go.RowKit
def Env (w : World) : Prop:=∃ m,w.cell? ⟨4,0,none⟩ = some (.int .i64 m) /\ 4 < w.heap.size
theorem Env.below {w w' : World} (h : Env w) (hb : Below w.heap.size w w') : Env w':=by
 obtain ⟨m,hm,hl⟩:=h;exact ⟨m,by rw [hb.cell hl]; exact hm,by have:=hb.size; omega⟩
theorem zax {w : World} {B B' : Nat} {e : TypeId} {v : Value} {n : Nat} {xs : List Value} (h : w.ownsRow B e 1 v n xs) (hb : B' <= B) : w.ownsRow B' e 1 v n xs:=by
 obtain ⟨h1,h2⟩:=h;refine ⟨h1,?_⟩;rcases h2 with h2 | ⟨g,cap,cur,h2,h3,h4⟩
 ·exact .inl h2
 ·exact .inr ⟨g,cap,cur,h2,by omega,h4⟩
theorem words_part (s : ByteArray) : ∀ (k : Nat) (l : List UInt8),(zfn (bs s))[k]? = some l -> l.length <= s.size:=by
 intro k l h;have:=(ziy (bs s) []).2 l (List.mem_of_getElem? h);rw [zi] at this;simpa using this
theorem zf3 {α : Type} {l : List α} {k : Nat} {x : α} (h : l[k]? = some x) : l.drop k = x :: l.drop (k + 1):=by
 obtain ⟨hk,hx⟩:=List.getElem?_eq_some_iff.1 h;rw [List.drop_eq_getElem_cons hk,hx]
theorem hexM (l : List UInt8) (w : World) (hs : (mk8 l).size <= 1073741824) :
  Calls Tryz.prog 106 #[.string (mk8 l)] w fun e w' => e = .returned (.tuple #[.int .i32 (hexS l).1,.int .i64 (hexS l).2]) /\ Below w.heap.size w w':=hex_any (mk8 l) w (by omega)
theorem bareM (l : List UInt8) (w : World) (hs : (mk8 l).size <= 1073741824) :
  Calls Tryz.prog 103 #[.string (mk8 l)] w fun e w' => e = .returned (.string (mk8 (bareL l))) /\ Below w.heap.size w w':=bare_any (mk8 l) w (by omega)
theorem runes04_any (s : ByteArray) (w : World) (hs : s.size <= 1073741824) :
  Calls Tryz.prog 153 #[.string s] w (zbo w (zc6 (bs s))):=by
 have hwl:=(ziy (bs s) []).1;rw [zi] at hwl;have hwp:=words_part s;obtain ⟨ws,hws⟩ : ∃ ws,ws = zfn (bs s):=⟨_,rfl⟩;have HF:=ffields_any s w (by omega);have hS : zc6 (bs s) = zbi [] ws:=(by rw [hws]; rfl);have hwl2 : ws.length <= s.size + 1:=(by rw [hws]; exact hwl);rw [<- hws] at HF hwp;rw [hS];clear hwl hws hS;go_enter Tryz.func153,Tryz.ntmps153;go_wp2_with fail;refine HF.mono ?_;rintro e w1 hF1;obtain ⟨A,c,rfl,hr,hb1⟩:=hF1.rd;clear hF1 HF;go_wp2
 go_loopw [4,12] (fun v i wr => ∃ (k : Nat) (os : List Int) (A' : Option Addr) (c' : Nat),k <= ws.length /\ i = .int .i64 k /\ os.length <= k /\ Hid (zbi [] ws = zbi os (ws.drop k)) /\ v = .slice A' os.length c' /\ wr.ownsRow w1.heap.size 21 1 (.slice A' os.length c') os.length (Rs os) /\ Below w1.heap.size w1 wr) (fun _ i _ => ws.length - (intOf i).toNat)
 case atStart => exact ⟨0,[],none,0,Nat.zero_le _,rfl,Nat.zero_le _,rfl,rfl,World.ownsRow_nil _ _ _ _,Below.refl _ _⟩
 case round =>
  obtain ⟨k,os,A',c',hk,rfl,hol,HR,rfl,hown,hb⟩:=hrel;have hz:=hb.size
  by_cases hin : k < ws.length
  ·have hi : (k : Int) < (ws.length : Int):=(by omega);obtain ⟨l,hl⟩ : ∃ l,ws[k]? = some l:=⟨_,List.getElem?_eq_getElem hin⟩;have hll:=hwp k l hl;have hd:=zf3 hl;obtain ⟨b,off,rfl,hbl,hcx⟩:=(hr.below hb).at_ (by omega);have hc0:=hcx k _ (znd hl);clear hcx;have hll2 : (mk8 l).size <= 1073741824:=by rw [z6]; omega
   by_cases hg : (hexS l).2 = 0
   ·have HR2 : Hid (zbi [] ws = zbi (os ++ [(hexS l).1]) (ws.drop (k + 1))):=(by show _ = _; rw [HR.out,hd,zgn hg]);have hgb : ((hexS l).2 != 0) = false:=(by simp [hg]);clear hg hd;go_wp2_with fail;refine (hexM _ _ (by omega)).mono ?_;rintro e w2 ⟨rfl,hb2⟩;have hown2:=zas hown hb2;have hb3:=zb hb hb2;have hz2:=hb2.size;go_wp2_with (at_builtin; refine zak zal _ rfl _ _ rfl w1.heap.size rfl (hown2.alloc _) rfl (Rd.new1 _ _ _) (za7 rfl) (by omega) (by omega) (by simp; omega) ?_)
    intro A2 c2 w3 hown3 hg3 hat3;have hb4:=ze4 (hb3.alloc (by omega) _) (by simp; omega) (hown2.alloc _) hg3;go_wp2;go_roundw
    case rel => exact ⟨k + 1,os ++ [(hexS l).1],A2,c2,by omega,by go_num,by simp; omega,HR2,by simp,by simpa using hown3,hb4⟩
    case measure => simp [intOf]; omega
   ·have hres : zbi [] ws = ([],(hexS l).2):=(by rw [HR.out,hd,zhr hg]);have hgb : ((hexS l).2 != 0) = true:=(by simp [hg]);have HRES:=hz0q hres;clear hg hd hres;go_wp2_with fail;refine (hexM _ _ (by omega)).mono ?_;rintro e w2 ⟨rfl,hb2⟩;go_wp2;go_returns;rw [HRES.out];exact ⟨none,0,rfl,World.ownsRow_nil _ _ _ _,zb hb1 (zb hb hb2)⟩
  ·have hi : (ws.length : Int) <= (k : Int):=(by omega);have hres : zbi [] ws = (os,0):=(by rw [HR.out,List.drop_of_length_le (by omega)]; rfl);have HRES:=hz0q hres;clear hres;go_wp2;go_returns;rw [HRES.out];exact ⟨A',c',rfl,zax hown hb1.size,zb hb1 hb⟩
def za3 (a b : List UInt8) : Int × Int × Int :=
 if (hexS a).2 ≠ 0 then (0,0,(hexS a).2) else if (hexS b).2 ≠ 0 then (0,0,(hexS b).2) else if (hexS b).1 < (hexS a).1 then (0,0,11) else ((hexS a).1,(hexS b).1,0)
def zbe (l : List UInt8) : Int × Int × Int :=
 if (Lib.cut l [46,46]).2.2 = true then za3 (bareL (Lib.cut l [46,46]).1) (bareL (Lib.cut l [46,46]).2.1) else za3 l l
theorem ze8 {a b c a' b' c' : Int} (h1 : a = a') (h2 : b = b') (h3 : c = c') : Ending.returned (.tuple #[.int .i32 a,.int .i32 b,.int .i64 c]) = .returned (.tuple #[.int .i32 a',.int .i32 b',.int .i64 c']):=by rw [h1,h2,h3]
theorem zl6 (l sep : List UInt8) : (Lib.cut l sep).1.length <= l.length /\ (Lib.cut l sep).2.1.length <= l.length:=by
 unfold Lib.cut;split
 ·simp only [List.length_take,List.length_drop]; omega
 ·simp
theorem cut_miss {l sep : List UInt8} (h : (Lib.cut l sep).2.2 = false) : (Lib.cut l sep).1 = l:=by
 unfold Lib.cut at h ⊢;split at h
 ·simp at h
 ·rename_i hh; rw [if_neg hh]
theorem zkw (s sep : ByteArray) (w : World) (hE : Env w) (hs : s.size < 4294967281) :
  Calls Tryz.prog 102 #[.string s,.string sep] w fun e w' => e = .returned (.tuple #[.string (mk8 (Lib.cut (bs s) (bs sep)).1),.string (mk8 (Lib.cut (bs s) (bs sep)).2.1),.bool (Lib.cut (bs s) (bs sep)).2.2]) /\ Below w.heap.size w w':=by
 obtain ⟨m,hm,_⟩:=hE;refine (Tryz.strings_Cut s sep m w hs hm).mono ?_;rintro e w' ⟨rfl,n,rfl⟩;exact ⟨rfl,zbn _ _ _⟩
theorem range_any (s : ByteArray) (w : World) (hE : Env w) (hs : s.size <= 1073741824) :
  Calls Tryz.prog 60 #[.string s] w fun e w' => e = .returned (.tuple #[.int .i32 (zbe (bs s)).1,.int .i32 (zbe (bs s)).2.1,.int .i64 (zbe (bs s)).2.2]) /\ Below w.heap.size w w':=by
 have HC:=zkw s ⟨#[46,46]⟩ w hE (by omega);have hl:=zl6 (bs s) [46,46];have hmiss:=cut_miss (l:=bs s) (sep:=[46,46]);have hx : ∃ x,x = Lib.cut (bs s) [46,46]:=⟨_,rfl⟩;obtain ⟨⟨a,b,is⟩,hx⟩:=hx;have hR : zbe (bs s) = if is = true then za3 (bareL a) (bareL b) else za3 (bs s) (bs s):=(by unfold zbe; rw [<- hx]);rw [show bs ⟨#[46,46]⟩ = [46,46] from rfl,<- hx] at HC;rw [<- hx] at hl hmiss;rw [hR,zi] at *;simp only [] at hl hmiss HC;clear hx hR;obtain ⟨hla,hlb⟩:=hl;have hsa : (mk8 a).size <= 1073741824:=(by rw [z6]; omega);have hsb : (mk8 b).size <= 1073741824:=by rw [z6]; omega
 cases is with
 | true =>
  rw [if_pos rfl];clear hmiss;have hsa2 : (mk8 (bareL a)).size <= 1073741824:=(by have:=zcm a; rw [z6]; omega);have hsb2 : (mk8 (bareL b)).size <= 1073741824:=by have:=zcm b; rw [z6]; omega
  by_cases h1 : (hexS (bareL a)).2 = 0
  ·by_cases h2 : (hexS (bareL b)).2 = 0
   ·have g1 : ((hexS (bareL a)).2 != 0) = false:=(by simp [h1]);have g2 : ((hexS (bareL b)).2 != 0) = false:=by simp [h2]
    by_cases h3 : (hexS (bareL b)).1 < (hexS (bareL a)).1
    ·have hr : za3 (bareL a) (bareL b) = (0,0,11):=(by unfold za3; rw [if_neg (by simp [h1]),if_neg (by simp [h2]),if_pos h3]);have HR:=hz0q hr;clear hr h1 h2;go_enter Tryz.func60,Tryz.ntmps60;go_wp2_with fail;refine HC.mono ?_;rintro e w1 ⟨rfl,hb1⟩;go_wp2_with fail;refine (bareM _ _ (by omega)).mono ?_;rintro e w2 ⟨rfl,hb2⟩;have hb2':=zb hb1 hb2;go_wp2_with fail;refine (bareM _ _ (by omega)).mono ?_;rintro e w3 ⟨rfl,hb3⟩;have hb3':=zb hb2' hb3;go_wp2_with fail;refine (hexM _ _ (by omega)).mono ?_;rintro e w4 ⟨rfl,hb4⟩;have hb4':=zb hb3' hb4;go_wp2_with fail;refine (hexM _ _ (by omega)).mono ?_;rintro e w5 ⟨rfl,hb5⟩;have hb5':=zb hb4' hb5;go_wp2;go_returns;exact ⟨ze8 (by rw [HR.out]) (by rw [HR.out]) (by rw [HR.out]),hb5'⟩
    ·have hr : za3 (bareL a) (bareL b) = ((hexS (bareL a)).1,(hexS (bareL b)).1,0):=(by unfold za3; rw [if_neg (by simp [h1]),if_neg (by simp [h2]),if_neg h3]);have HR:=hz0q hr;have g3 : (hexS (bareL a)).1 <= (hexS (bareL b)).1:=(by omega);clear hr h1 h2 h3;go_enter Tryz.func60,Tryz.ntmps60;go_wp2_with fail;refine HC.mono ?_;rintro e w1 ⟨rfl,hb1⟩;go_wp2_with fail;refine (bareM _ _ (by omega)).mono ?_;rintro e w2 ⟨rfl,hb2⟩;have hb2':=zb hb1 hb2;go_wp2_with fail;refine (bareM _ _ (by omega)).mono ?_;rintro e w3 ⟨rfl,hb3⟩;have hb3':=zb hb2' hb3;go_wp2_with fail;refine (hexM _ _ (by omega)).mono ?_;rintro e w4 ⟨rfl,hb4⟩;have hb4':=zb hb3' hb4;go_wp2_with fail;refine (hexM _ _ (by omega)).mono ?_;rintro e w5 ⟨rfl,hb5⟩;have hb5':=zb hb4' hb5;go_wp2;go_returns;exact ⟨ze8 (by rw [HR.out]) (by rw [HR.out]) (by rw [HR.out]),hb5'⟩
   ·have hr : za3 (bareL a) (bareL b) = (0,0,(hexS (bareL b)).2):=(by unfold za3; rw [if_neg (by simp [h1]),if_pos h2]);have HR:=hz0q hr;have g1 : ((hexS (bareL a)).2 != 0) = false:=(by simp [h1]);have g2 : ((hexS (bareL b)).2 != 0) = true:=(by simp [h2]);clear hr h1 h2;go_enter Tryz.func60,Tryz.ntmps60;go_wp2_with fail;refine HC.mono ?_;rintro e w1 ⟨rfl,hb1⟩;go_wp2_with fail;refine (bareM _ _ (by omega)).mono ?_;rintro e w2 ⟨rfl,hb2⟩;have hb2':=zb hb1 hb2;go_wp2_with fail;refine (bareM _ _ (by omega)).mono ?_;rintro e w3 ⟨rfl,hb3⟩;have hb3':=zb hb2' hb3;go_wp2_with fail;refine (hexM _ _ (by omega)).mono ?_;rintro e w4 ⟨rfl,hb4⟩;have hb4':=zb hb3' hb4;go_wp2_with fail;refine (hexM _ _ (by omega)).mono ?_;rintro e w5 ⟨rfl,hb5⟩;have hb5':=zb hb4' hb5;go_wp2;go_returns;exact ⟨ze8 (by rw [HR.out]) (by rw [HR.out]) (by rw [HR.out]),hb5'⟩
  ·have hr : za3 (bareL a) (bareL b) = (0,0,(hexS (bareL a)).2):=(by unfold za3; rw [if_pos h1]);have HR:=hz0q hr;have g1 : ((hexS (bareL a)).2 != 0) = true:=(by simp [h1]);clear hr h1;go_enter Tryz.func60,Tryz.ntmps60;go_wp2_with fail;refine HC.mono ?_;rintro e w1 ⟨rfl,hb1⟩;go_wp2_with fail;refine (bareM _ _ (by omega)).mono ?_;rintro e w2 ⟨rfl,hb2⟩;have hb2':=zb hb1 hb2;go_wp2_with fail;refine (bareM _ _ (by omega)).mono ?_;rintro e w3 ⟨rfl,hb3⟩;have hb3':=zb hb2' hb3;go_wp2_with fail;refine (hexM _ _ (by omega)).mono ?_;rintro e w4 ⟨rfl,hb4⟩;have hb4':=zb hb3' hb4;go_wp2;go_returns;exact ⟨ze8 (by rw [HR.out]) (by rw [HR.out]) (by rw [HR.out]),hb4'⟩
 | false =>
  rw [if_neg (by simp),<- hmiss rfl];clear hmiss
  by_cases h1 : (hexS a).2 = 0
  ·have hr : za3 a a = ((hexS a).1,(hexS a).1,0):=(by unfold za3; rw [if_neg (by simp [h1]),if_neg (by simp [h1]),if_neg (by omega)]);have HR:=hz0q hr;have g1 : ((hexS a).2 != 0) = false:=(by simp [h1]);clear hr h1;go_enter Tryz.func60,Tryz.ntmps60;go_wp2_with fail;refine HC.mono ?_;rintro e w1 ⟨rfl,hb1⟩;go_wp2_with fail;refine (hexM _ _ (by omega)).mono ?_;rintro e w4 ⟨rfl,hb4⟩;have hb4':=zb hb1 hb4;go_wp2_with fail;refine (hexM _ _ (by omega)).mono ?_;rintro e w5 ⟨rfl,hb5⟩;have hb5':=zb hb4' hb5;go_wp2;go_returns;exact ⟨ze8 (by rw [HR.out]) (by rw [HR.out]) (by rw [HR.out]),hb5'⟩
  ·have hr : za3 a a = (0,0,(hexS a).2):=(by unfold za3; rw [if_pos h1]);have HR:=hz0q hr;have g1 : ((hexS a).2 != 0) = true:=(by simp [h1]);clear hr h1;go_enter Tryz.func60,Tryz.ntmps60;go_wp2_with fail;refine HC.mono ?_;rintro e w1 ⟨rfl,hb1⟩;go_wp2_with fail;refine (hexM _ _ (by omega)).mono ?_;rintro e w4 ⟨rfl,hb4⟩;have hb4':=zb hb1 hb4;go_wp2;go_returns;exact ⟨ze8 (by rw [HR.out]) (by rw [HR.out]) (by rw [HR.out]),hb4'⟩
end
section
open Go.ChangeShapes Go.WideShapes Go.ChangeAt Go.RowKit
theorem own_ : ownKnob Tryz.prog.godebug = none:=by kernel_rfl
theorem laidOut_ : laidOutB Tryz.prog = true:=by kernel_rfl
theorem env_of {W : World} (h : W.ShapedOpen Tryz.prog) : Env W:=by
 obtain ⟨m,hm⟩:=Tryz.laysM146.s1_3 W h;exact ⟨m,hm,World.block_lt_of_cell? W _ hm⟩
theorem kinds_g : Tryz.prog.globalNamed "inkhorn/hangul.kinds" = some 1:=by kernel_rfl
theorem kinds_t : (Tryz.prog.globals[1]?).map (·.type) = some 292:=by kernel_rfl
theorem kinds_c3 : Tryz.prog.cellsOf 292 = 6:=by kernel_rfl
theorem zlu : Tryz.prog.cellsOf 291 = 2:=by kernel_rfl
theorem kinds_c0 : Tryz.prog.cellsOf 21 = 1:=by kernel_rfl
theorem zda {w : World} {fuel : Nat} {cs : List Value} {x : DataW Unit × List MemPlace} {a b : Int}
  (h : DataW.trod (fun _ => ()) Tryz.prog w 0 (fun _ => true) false fuel 291 cs = some x) (hx : x.1 = .agg [.lit (.int .i32 a),.lit (.int .i32 b)]) : cs = [.int .i32 a,.int .i32 b]:=by
 obtain ⟨y0,y1,n,rfl,hl,h0,h1⟩:=trod_struct2 Tryz.underlying291 h;rw [zlu] at hl;match cs,hl with
 | [c0,c1],_ =>
  obtain ⟨n0,e0,r0,_⟩:=DataW.trod_int Tryz.underlying21 (show DataW.trod _ _ _ _ _ _ n 21 (([c0,c1].drop 0).take (Tryz.prog.cellsOf 21)) = some y0 from h0);obtain ⟨n1,e1,r1,_⟩:=DataW.trod_int Tryz.underlying21 (show DataW.trod _ _ _ _ _ _ n 21 (([c0,c1].drop 1).take (Tryz.prog.cellsOf 21)) = some y1 from h1);rw [kinds_c0] at e0 e1;simp at e0 e1;subst e0 e1 r0 r1;simp at hx;rw [hx.1,hx.2]
theorem kinds_of_laid {W : World} {rest : List (String × DataW Unit)} (h : laidMet Tryz.prog (("inkhorn/hangul.kinds",Rows.laid_inkhorn_hangul_kinds) :: rest) W) : Kinds W:=by
 obtain ⟨ps,⟨g,t,cs,fuel,p,q,hg,ht,hvar,hd,_,_⟩,_⟩:=h;obtain rfl:=Option.some.inj (kinds_g.symm.trans hg);obtain rfl:=Option.some.inj (kinds_t.symm.trans ht);obtain ⟨l⟩:=cs;obtain ⟨xs,m,_,hx,hl,hlen,hi⟩:=DataW.trod_array Tryz.underlying292 hd;rw [kinds_c3] at hl;simp only [zlu] at hi;match xs,hlen with
 | [x0,x1,x2],_ =>
  have i0:=hi 0 (by omega);have i1:=hi 1 (by omega);have i2:=hi 2 (by omega);match l,hl with
  | [a,b,c,d,e,f],_ =>
   simp at i0 i1 i2;simp only [Prod.mk.injEq,Rows.laid_inkhorn_hangul_kinds,DataW.agg.injEq,List.map_cons,List.map_nil,List.cons.injEq,and_true] at hx;obtain ⟨⟨h0,h1,h2⟩,_⟩:=hx;have j0:=zda i0 h0.symm;have j1:=zda i1 h1.symm;have j2:=zda i2 h2.symm;simp at j0 j1 j2;obtain ⟨rfl,rfl⟩:=j0;obtain ⟨rfl,rfl⟩:=j1;obtain ⟨rfl,rfl⟩:=j2;exact ⟨World.var?_cell hg hvar 0,World.var?_cell hg hvar 1,World.var?_cell hg hvar 2,World.var?_cell hg hvar 3,World.var?_cell hg hvar 4,World.var?_cell hg hvar 5⟩
end
end Go.Proofs.YtolcabjkbefjgaaGreatDoor
