/-
  DERIVED: THE SHELF's CONTRACTS AT THIS DUMP, IN PLAIN WORDS (tools/lay-plain.mjs out of 'TryzShelf.lean', which tools/lay-shelf.mjs wrote): THE SAME DECLARATIONS UNDER THE SAME NAMES: 'import', 'namespace', 'open', 'def', 'theorem' AND NOTHING ELSE: no command of the shelf's: FOR A HAND-IN. Each laying: the table of numbers ('.._ren') and one theorem, a field a fact of the dump's own or the kernel's comparison; each contract: ONE APPLICATION.
-/
import Derived.Shelf.Strings.Search3
import Derived.Shelf.Strings.Fields
import Derived.Test.YtbajjfdkkffamaaGreatDoorProg
namespace Go.Proofs
open Go.Shelf
def Tryz.lays144_ren : Go.Shelf.Ren := ⟨fun | 144 => 157 | 143 => 204 | 219 => 228 | 217 => 259 | 225 => 260 | 224 => 261 | 267 => 262 | 266 => 311 | 314 => 312 | n => n, fun | 9 => 9 | 4 => 4 | 3 => 3 | 5 => 5 | 46 => 380 | 146 => 417 | 51 => 365 | n => n, fun | 1 => 1 | n => n⟩
theorem Tryz.lays144 : Go.Proofs.Lays.n144 Tryz.prog Tryz.lays144_ren := {
  mixed := by kernel_rfl
  f143 := Tryz.func204.trans (congrArg some (by kernel_rfl))
  f144 := Tryz.func157.trans (congrArg some (by kernel_rfl))
  f217 := Tryz.func259.trans (congrArg some (by kernel_rfl))
  f219 := Tryz.func228.trans (congrArg some (by kernel_rfl))
  f224 := Tryz.func261.trans (congrArg some (by kernel_rfl))
  f225 := Tryz.func260.trans (congrArg some (by kernel_rfl))
  f266 := Tryz.func311.trans (congrArg some (by kernel_rfl))
  f267 := Tryz.func262.trans (congrArg some (by kernel_rfl))
  f314 := Tryz.func312.trans (congrArg some (by kernel_rfl))
  t3 := Tryz.underlying3
  a3 := Tryz.isAgg3
  z3 := Tryz.sizeOf3
  v3 := Tryz.zeroValue3
  t4 := Tryz.underlying4
  a4 := Tryz.isAgg4
  z4 := Tryz.sizeOf4
  v4 := Tryz.zeroValue4
  t5 := Tryz.underlying5
  a5 := Tryz.isAgg5
  z5 := Tryz.sizeOf5
  v5 := Tryz.zeroValue5
  t9 := Tryz.underlying9
  a9 := Tryz.isAgg9
  z9 := Tryz.sizeOf9
  v9 := Tryz.zeroValue9
  t46 := Tryz.underlying380
  a46 := Tryz.isAgg380
  z46 := Tryz.sizeOf380
  v46 := Tryz.zeroValue380
  t51 := Tryz.underlying365
  a51 := Tryz.isAgg365
  z51 := Tryz.sizeOf365
  v51 := Tryz.zeroValue365
  t146 := Tryz.underlying417
  a146 := Tryz.isAgg417
  z146 := Tryz.sizeOf417
  v146 := Tryz.zeroValue417
  g1 := by kernel_rfl }
open Go.RowKit Go.Lib in
/-- strings.Contains: "Contains reports whether substr is within s.": IT RETURNS 'Lib.contains s substr'; the world is as it was. (LAID: no walk: one application.) -/
theorem Tryz.strings_Contains (s sub : ByteArray) (m : Int) (w : World) (hs : s.size < 4294967281) (hm : w.cell? ⟨1, 0, none⟩ = some (.int .i64 m)) :
    Calls Tryz.prog 157 #[.string s, .string sub] w fun e w' => e = .returned (.bool (Lib.contains s.data.toList sub.data.toList)) ∧ w' = w := Any.strings_Contains Tryz.lays144 s sub m w hs hm
def Tryz.lays157_ren : Go.Shelf.Ren := ⟨fun | 157 => 154 | 229 => 202 | 199 => 203 | 261 => 227 | 311 => 257 | 312 => 258 | n => n, fun | 9 => 9 | 31 => 189 | 3 => 3 | 5 => 5 | 4 => 4 | 119 => 328 | 0 => 0 | 40 => 330 | 152 => 362 | 21 => 21 | 154 => 364 | 51 => 365 | 141 => 367 | 196 => 393 | 193 => 390 | 198 => 396 | 49 => 394 | 194 => 391 | 201 => 399 | 226 => 425 | 46 => 380 | 227 => 426 | n => n, fun | 0 => 0 | 6 => 2 | n => n⟩
theorem Tryz.lays157 : Go.Proofs.Lays.n157 Tryz.prog Tryz.lays157_ren := {
  mixed := by kernel_rfl
  f157 := Tryz.func154.trans (congrArg some (by kernel_rfl))
  f199 := Tryz.func203.trans (congrArg some (by kernel_rfl))
  f229 := Tryz.func202.trans (congrArg some (by kernel_rfl))
  f261 := Tryz.func227.trans (congrArg some (by kernel_rfl))
  f311 := Tryz.func257.trans (congrArg some (by kernel_rfl))
  f312 := Tryz.func258.trans (congrArg some (by kernel_rfl))
  t0 := Tryz.underlying0
  a0 := Tryz.isAgg0
  z0 := Tryz.sizeOf0
  v0 := Tryz.zeroValue0
  t3 := Tryz.underlying3
  a3 := Tryz.isAgg3
  z3 := Tryz.sizeOf3
  v3 := Tryz.zeroValue3
  t4 := Tryz.underlying4
  a4 := Tryz.isAgg4
  z4 := Tryz.sizeOf4
  v4 := Tryz.zeroValue4
  t5 := Tryz.underlying5
  a5 := Tryz.isAgg5
  z5 := Tryz.sizeOf5
  v5 := Tryz.zeroValue5
  t9 := Tryz.underlying9
  a9 := Tryz.isAgg9
  z9 := Tryz.sizeOf9
  v9 := Tryz.zeroValue9
  t21 := Tryz.underlying21
  a21 := Tryz.isAgg21
  z21 := Tryz.sizeOf21
  v21 := Tryz.zeroValue21
  t31 := Tryz.underlying189
  a31 := Tryz.isAgg189
  z31 := Tryz.sizeOf189
  v31 := Tryz.zeroValue189
  t40 := Tryz.underlying330
  a40 := Tryz.isAgg330
  z40 := Tryz.sizeOf330
  v40 := Tryz.zeroValue330
  t46 := Tryz.underlying380
  a46 := Tryz.isAgg380
  z46 := Tryz.sizeOf380
  v46 := Tryz.zeroValue380
  t49 := Tryz.underlying394
  a49 := Tryz.isAgg394
  z49 := Tryz.sizeOf394
  v49 := Tryz.zeroValue394
  t51 := Tryz.underlying365
  a51 := Tryz.isAgg365
  z51 := Tryz.sizeOf365
  v51 := Tryz.zeroValue365
  t119 := Tryz.underlying328
  a119 := Tryz.isAgg328
  z119 := Tryz.sizeOf328
  t141 := Tryz.underlying367
  a141 := Tryz.isAgg367
  z141 := Tryz.sizeOf367
  v141 := Tryz.zeroValue367
  t152 := Tryz.underlying362
  a152 := Tryz.isAgg362
  z152 := Tryz.sizeOf362
  v152 := Tryz.zeroValue362
  t154 := Tryz.underlying364
  a154 := Tryz.isAgg364
  z154 := Tryz.sizeOf364
  v154 := Tryz.zeroValue364
  t193 := Tryz.underlying390
  a193 := Tryz.isAgg390
  z193 := Tryz.sizeOf390
  v193 := Tryz.zeroValue390
  t194 := Tryz.underlying391
  a194 := Tryz.isAgg391
  z194 := Tryz.sizeOf391
  v194 := Tryz.zeroValue391
  t196 := Tryz.underlying393
  a196 := Tryz.isAgg393
  z196 := Tryz.sizeOf393
  v196 := Tryz.zeroValue393
  t198 := Tryz.underlying396
  a198 := Tryz.isAgg396
  z198 := Tryz.sizeOf396
  v198 := Tryz.zeroValue396
  t201 := Tryz.underlying399
  a201 := Tryz.isAgg399
  z201 := Tryz.sizeOf399
  v201 := Tryz.zeroValue399
  t226 := Tryz.underlying425
  a226 := Tryz.isAgg425
  z226 := Tryz.sizeOf425
  v226 := Tryz.zeroValue425
  t227 := Tryz.underlying426
  a227 := Tryz.isAgg426
  z227 := Tryz.sizeOf426
  v227 := Tryz.zeroValue426
  g0 := by kernel_rfl
  g6 := by kernel_rfl }
open Go.RowKit Go.Lib in
theorem Tryz.strings_Fields (s : ByteArray) (w : World) (hs : s.size < 4294967281) (hascii : ∀ (j : Nat) b, s.data.toList[j]? = some b → b.toNat < 128) (hT : ∀ c : Nat, c < 256 → w.cell? ⟨0, c, none⟩ = some (.int .u8 (if Lib.isSp (UInt8.ofNat c) then 1 else 0))) :
    Calls Tryz.prog 154 #[.string s] w fun e w' =>
      e = .returned (.slice (some ⟨w.heap.size, 0, none⟩) (Lib.fields s.data.toList).length (Lib.fields s.data.toList).length) ∧ w' = w.alloc (.cells ((Lib.fields s.data.toList).map fun l => Value.string ⟨l.toArray⟩).toArray 9) := Any.strings_Fields_core Tryz.lays157 (by kernel_rfl) s w hs hascii hT
end Go.Proofs
