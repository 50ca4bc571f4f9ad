/-
  DERIVED: THE SHELF's CONTRACTS AT THIS DUMP, IN PLAIN WORDS (tools/lay-plain.mjs out of 'YtabhcjpjoknihaaTShelfF.lean', which tools/lay-shelf.mjs wrote): THE SAME DECLARATIONS UNDER THE SAME NAMES: 'import', 'namespace', 'open', 'def', 'theorem' AND NOTHING ELSE: no command of the shelf's: FOR A HAND-IN. Each laying: the table of numbers ('.._ren') and one theorem, a field a fact of the dump's own or the kernel's comparison; each contract: ONE APPLICATION.
-/
import Derived.Shelf.SlSortCmp.NoneTotal
import Derived.Shelf.SlGeneric
import Derived.Ground.SlsfProg
import Derived.Test.YtabhcjpjoknihaaProg
namespace Go.Proofs
open Go.Shelf
def Try.laysSrt_ren : Go.Shelf.Ren := ⟨fun | 6 => 135 | 15 => 164 | 14 => 187 | 28 => 209 | 29 => 210 | 20 => 227 | 21 => 228 | 22 => 229 | 23 => 230 | 24 => 231 | 25 => 232 | 26 => 233 | 27 => 234 | 46 => 247 | 47 => 238 | 48 => 239 | 49 => 248 | 50 => 249 | 57 => 253 | n => n, fun | 22 => 35 | 24 => 3 | 25 => 43 | 3 => 3 | 39 => 166 | 0 => 0 | 53 => 195 | 55 => 197 | 4 => 4 | 46 => 206 | 45 => 205 | 50 => 201 | 5 => 5 | 9 => 9 | 66 => 224 | 70 => 228 | 76 => 234 | 77 => 235 | n => n, fun | n => n⟩
theorem Try.laysSrt : Go.Proofs.SlLaysF.n6 Try.prog Try.laysSrt_ren := {
  mixed := by kernel_rfl
  f6 := ⟨Try.f135.name, by decide, Try.func135.trans (congrArg some (by kernel_rfl))⟩
  f14 := ⟨Try.f187.name, by decide, Try.func187.trans (congrArg some (by kernel_rfl))⟩
  f15 := Try.func164.trans (congrArg some (by kernel_rfl))
  f20 := ⟨Try.f227.name, by decide, Try.func227.trans (congrArg some (by kernel_rfl))⟩
  f21 := ⟨Try.f228.name, by decide, Try.func228.trans (congrArg some (by kernel_rfl))⟩
  f22 := ⟨Try.f229.name, by decide, Try.func229.trans (congrArg some (by kernel_rfl))⟩
  f23 := ⟨Try.f230.name, by decide, Try.func230.trans (congrArg some (by kernel_rfl))⟩
  f24 := ⟨Try.f231.name, by decide, Try.func231.trans (congrArg some (by kernel_rfl))⟩
  f25 := ⟨Try.f232.name, by decide, Try.func232.trans (congrArg some (by kernel_rfl))⟩
  f26 := ⟨Try.f233.name, by decide, Try.func233.trans (congrArg some (by kernel_rfl))⟩
  f27 := ⟨Try.f234.name, by decide, Try.func234.trans (congrArg some (by kernel_rfl))⟩
  f28 := Try.func209.trans (congrArg some (by kernel_rfl))
  f29 := Try.func210.trans (congrArg some (by kernel_rfl))
  f46 := ⟨Try.f247.name, by decide, Try.func247.trans (congrArg some (by kernel_rfl))⟩
  f47 := Try.func238.trans (congrArg some (by kernel_rfl))
  f48 := Try.func239.trans (congrArg some (by kernel_rfl))
  f49 := ⟨Try.f248.name, by decide, Try.func248.trans (congrArg some (by kernel_rfl))⟩
  f50 := ⟨Try.f249.name, by decide, Try.func249.trans (congrArg some (by kernel_rfl))⟩
  f57 := ⟨Try.f253.name, by decide, Try.func253.trans (congrArg some (by kernel_rfl))⟩
  t0 := Try.underlying0
  a0 := Try.isAgg0
  z0 := Try.sizeOf0
  v0 := Try.zeroValue0
  t3 := Try.underlying3
  a3 := Try.isAgg3
  z3 := Try.sizeOf3
  v3 := Try.zeroValue3
  t4 := Try.underlying4
  a4 := Try.isAgg4
  z4 := Try.sizeOf4
  v4 := Try.zeroValue4
  t5 := Try.underlying5
  a5 := Try.isAgg5
  z5 := Try.sizeOf5
  v5 := Try.zeroValue5
  t9 := Try.underlying9
  a9 := Try.isAgg9
  z9 := Try.sizeOf9
  v9 := Try.zeroValue9
  t22 := Try.underlying35
  a22 := Try.isAgg35
  z22 := Try.sizeOf35
  v22 := Try.zeroValue35
  a24 := Try.isAgg3
  z24 := Try.sizeOf3
  t25 := Try.underlying43
  a25 := Try.isAgg43
  z25 := Try.sizeOf43
  v25 := Try.zeroValue43
  t39 := Try.underlying166
  a39 := Try.isAgg166
  z39 := Try.sizeOf166
  v39 := Try.zeroValue166
  t45 := Try.underlying205
  a45 := Try.isAgg205
  z45 := Try.sizeOf205
  v45 := Try.zeroValue205
  t46 := Try.underlying206
  a46 := Try.isAgg206
  z46 := Try.sizeOf206
  v46 := Try.zeroValue206
  t50 := Try.underlying201
  a50 := Try.isAgg201
  z50 := Try.sizeOf201
  v50 := Try.zeroValue201
  t53 := Try.underlying195
  a53 := Try.isAgg195
  z53 := Try.sizeOf195
  v53 := Try.zeroValue195
  t55 := Try.underlying197
  a55 := Try.isAgg197
  z55 := Try.sizeOf197
  v55 := Try.zeroValue197
  t66 := Try.underlying224
  a66 := Try.isAgg224
  z66 := Try.sizeOf224
  v66 := Try.zeroValue224
  t70 := Try.underlying228
  a70 := Try.isAgg228
  z70 := Try.sizeOf228
  v70 := Try.zeroValue228
  t76 := Try.underlying234
  a76 := Try.isAgg234
  z76 := Try.sizeOf234
  v76 := Try.zeroValue234
  t77 := Try.underlying235
  a77 := Try.isAgg235
  z77 := Try.sizeOf235
  v77 := Try.zeroValue235 }
end Go.Proofs
