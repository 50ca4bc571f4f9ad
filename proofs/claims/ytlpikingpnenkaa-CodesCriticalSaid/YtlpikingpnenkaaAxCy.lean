/-
 A closure that has itself with it: its own cell, seen k deep. Conditions: none.
-/
import Derived.Test.YtlpikingpnenkaaAxN
set_option linter.unusedSimpArgs false
set_option linter.unusedVariables false
namespace Go.AX
open Go
/-- The cell of a closure that has this cell with it, behind what else it has ('caps'), k deep. -/
def cycA (f : Nat) (caps : List AVal) : Nat → AVal
 | 0 => .junk
 | k + 1 => .immp [.func f (caps ++ [cycA f caps k])]
theorem ArgOk.cycRefl {H : List (Option Blk)} (f : Nat) (caps : List AVal) : ∀ k, ArgOk H (cycA f caps k) (cycA f caps k)
 | 0 => .junk _
 | k + 1 => .atom _ rfl
end Go.AX
