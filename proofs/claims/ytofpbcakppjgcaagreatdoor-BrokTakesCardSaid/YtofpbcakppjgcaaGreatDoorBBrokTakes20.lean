/- brokTakes_holds: all that the theorem needs, in a few texts (bundle.py; made of the texts that NOTES.md names). -/
import Derived.Shelf.LaysM
import Derived.Shelf.Slices.Cells
import Derived.Shelf.Slices.CompactS
import Derived.Shelf.Slices.In.SortNone
import Derived.Shelf.Small.Bits
import Derived.Shelf.Small.Strs
import Derived.Shelf.Sort.Plain
import Derived.Shelf.Strconv.Itoa0
import Derived.Shelf.Strings.Count
import Derived.Shelf.Strings.Explode
import Derived.Shelf.Strings.RuneCount
import Derived.Shelf.Strings.Search1
import Derived.Shelf.Strings.Search2
import Derived.Shelf.Strings.Search3
import Derived.Shelf.Strings.Shaped
import Derived.Shelf.Strings.Split
import Derived.Shelf.Strings.SplitShaped
import Derived.Shelf.Unicode.Decode
import Derived.Shelf.Unicode.DecodeAny
import Derived.Shelf.Unicode.DecodeSlow
import Derived.Shelf.Utf8.RuneCount
import Derived.Test.YtofpbcakppjgcaaGreatDoorProg
section
namespace Go.Proofs
open Go.Shelf
def Tryz.lays213_ren:Go.Shelf.Ren:=⟨fun | 213=>129 | 265=>203 | n=>n,fun | 9=>9 | 3=>3 | n=>n,fun | n=>n⟩
def Tryz.lays106_ren:Go.Shelf.Ren:=⟨fun | 106=>60 | 213=>129 | 265=>203 | n=>n,fun | 9=>9 | 3=>3 | n=>n,fun | n=>n⟩
theorem Tryz.lays106:Go.Proofs.Lays.n106 Tryz.prog Tryz.lays106_ren:={
  mixed:=by kernel_rfl
  f106:=Tryz.func60.trans (congrArg some (by kernel_rfl))
  f213:=Tryz.func129.trans (congrArg some (by kernel_rfl))
  f265:=Tryz.func203.trans (congrArg some (by kernel_rfl))
  t3:=Tryz.underlying3
  a3:=Tryz.isAgg3
  z3:=Tryz.sizeOf3
  v3:=Tryz.zeroValue3
  t9:=Tryz.underlying9
  a9:=Tryz.isAgg9
  z9:=Tryz.sizeOf9
  v9:=Tryz.zeroValue9 }
open Go.RowKit in
theorem Tryz.strings_Compare (a b:ByteArray) (w:World) :
    Calls Tryz.prog 60 #[.string a,.string b] w fun e w'=>e=.returned (.int .i64 (Lib.compareBytes a.data.toList b.data.toList))∧w'=w:=Any.strings_Compare Tryz.lays106 a b w
def Tryz.lays221_ren:Go.Shelf.Ren:=⟨fun | 221=>289 | 268=>290 | 138=>291 | 143=>292 | 195=>293 | 197=>294 | 218=>295 | 219=>296 | 260=>297 | 217=>298 | 225=>299 | 224=>300 | 267=>301 | 266=>302 | 314=>303 | n=>n,fun | 9=>9 | 3=>3 | 31=>27 | 4=>4 | 0=>0 | 105=>315 | 21=>21 | 5=>5 | 46=>41 | 119=>318 | 139=>321 | 138=>320 | 146=>322 | 51=>246 | n=>n,fun | 1=>0 | 3=>1 | 4=>2 | n=>n⟩
def Tryz.lays146_ren:Go.Shelf.Ren:=⟨fun | 146=>285 | 221=>289 | 268=>290 | 138=>291 | 143=>292 | 195=>293 | 197=>294 | 218=>295 | 219=>296 | 260=>297 | 217=>298 | 225=>299 | 224=>300 | 267=>301 | 266=>302 | 314=>303 | n=>n,fun | 9=>9 | 31=>27 | 3=>3 | 4=>4 | 0=>0 | 105=>315 | 21=>21 | 5=>5 | 46=>41 | 119=>318 | 139=>321 | 138=>320 | 146=>322 | 51=>246 | n=>n,fun | 1=>0 | 3=>1 | 4=>2 | n=>n⟩
theorem Tryz.lays146:Go.Proofs.Lays.n146 Tryz.prog Tryz.lays146_ren:={
  mixed:=by kernel_rfl
  f138:=Tryz.func291.trans (congrArg some (by kernel_rfl))
  f143:=Tryz.func292.trans (congrArg some (by kernel_rfl))
  f146:=Tryz.func285.trans (congrArg some (by kernel_rfl))
  f195:=Tryz.func293.trans (congrArg some (by kernel_rfl))
  f197:=Tryz.func294.trans (congrArg some (by kernel_rfl))
  f217:=Tryz.func298.trans (congrArg some (by kernel_rfl))
  f218:=Tryz.func295.trans (congrArg some (by kernel_rfl))
  f219:=Tryz.func296.trans (congrArg some (by kernel_rfl))
  f221:=Tryz.func289.trans (congrArg some (by kernel_rfl))
  f224:=Tryz.func300.trans (congrArg some (by kernel_rfl))
  f225:=Tryz.func299.trans (congrArg some (by kernel_rfl))
  f260:=Tryz.func297.trans (congrArg some (by kernel_rfl))
  f266:=Tryz.func302.trans (congrArg some (by kernel_rfl))
  f267:=Tryz.func301.trans (congrArg some (by kernel_rfl))
  f268:=Tryz.func290.trans (congrArg some (by kernel_rfl))
  f314:=Tryz.func303.trans (congrArg some (by kernel_rfl))
  t0:=Tryz.underlying0
  a0:=Tryz.isAgg0
  z0:=Tryz.sizeOf0
  v0:=Tryz.zeroValue0
  t3:=Tryz.underlying3
  a3:=Tryz.isAgg3
  z3:=Tryz.sizeOf3
  v3:=Tryz.zeroValue3
  t4:=Tryz.underlying4
  a4:=Tryz.isAgg4
  z4:=Tryz.sizeOf4
  v4:=Tryz.zeroValue4
  t5:=Tryz.underlying5
  a5:=Tryz.isAgg5
  z5:=Tryz.sizeOf5
  v5:=Tryz.zeroValue5
  t9:=Tryz.underlying9
  a9:=Tryz.isAgg9
  z9:=Tryz.sizeOf9
  v9:=Tryz.zeroValue9
  t21:=Tryz.underlying21
  a21:=Tryz.isAgg21
  z21:=Tryz.sizeOf21
  v21:=Tryz.zeroValue21
  t31:=Tryz.underlying27
  a31:=Tryz.isAgg27
  z31:=Tryz.sizeOf27
  v31:=Tryz.zeroValue27
  t46:=Tryz.underlying41
  a46:=Tryz.isAgg41
  z46:=Tryz.sizeOf41
  v46:=Tryz.zeroValue41
  t51:=Tryz.underlying246
  a51:=Tryz.isAgg246
  z51:=Tryz.sizeOf246
  v51:=Tryz.zeroValue246
  t105:=Tryz.underlying315
  a105:=Tryz.isAgg315
  z105:=Tryz.sizeOf315
  v105:=Tryz.zeroValue315
  t119:=Tryz.underlying318
  a119:=Tryz.isAgg318
  z119:=Tryz.sizeOf318
  t138:=Tryz.underlying320
  a138:=Tryz.isAgg320
  z138:=Tryz.sizeOf320
  v138:=Tryz.zeroValue320
  t139:=Tryz.underlying321
  a139:=Tryz.isAgg321
  z139:=Tryz.sizeOf321
  v139:=Tryz.zeroValue321
  t146:=Tryz.underlying322
  a146:=Tryz.isAgg322
  z146:=Tryz.sizeOf322
  v146:=Tryz.zeroValue322
  g1:=by kernel_rfl
  g3:=by kernel_rfl
  g4:=by kernel_rfl }
open Go.RowKit Go.Lib in
theorem Tryz.strings_Split (s sep:ByteArray) (m:Int) (w:World) (hs:s.size<4294967281) (hm:w.cell? ⟨0,0,none⟩=some (.int .i64 m)) (h1:1≤sep.size) :
    Calls Tryz.prog 285 #[.string s,.string sep] w fun e w' =>
      e=.returned (.slice (some ⟨w.heap.size,0,none⟩) (Lib.countB s sep+1) (Lib.countB s sep+1))∧w'=w.alloc (.cells ((Lib.splitB sep 0 (Lib.countB s sep) s).map Value.string).toArray 9):=Any.strings_Split Tryz.lays146 (by kernel_rfl) s sep m w hs hm h1
end Go.Proofs
end
