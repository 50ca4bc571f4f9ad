/-
 A loop of so many rounds, one by one; a call that may give back what was handed in, in a state without blocks of its own. Conditions: none.
-/
import Derived.Test.YtlpikingpnenkaaAxOp
set_option linter.unusedSimpArgs false
set_option linter.unusedVariables false
namespace Go.AX
open Go Go.RowKit
section
variable {P : Program} {T : Tab} {w0 : World}
theorem atom_any {F : Fz} {φ φ' : Phi} {x : AVal} {v : Value} (hx : atomB x = true) (hr : RepV F φ x v) : RepV F φ' x v := by
 have key : RepV F φ0 x v := by
  cases x <;> simp only [atomB, Bool.false_eq_true] at hx
  case ints => cases hr with | ints _ _ _ hr => cases hr with | imm _ _ A n c u h1 h2 h3 h4 h5 h6 h7 => exact .ints _ _ _ (RepV.imm (φ := φ0) _ _ A n c u h1 h2 h3 h4 h5 h6 h7)
  case fn => cases hr with | fn _ _ _ _ hr => cases hr with | imm _ _ A n c u h1 h2 h3 h4 h5 h6 h7 => exact .fn _ _ _ _ (RepV.imm (φ := φ0) _ _ A n c u h1 h2 h3 h4 h5 h6 h7)
  case intp => cases hr with | intp _ _ _ hr => cases hr with | immp _ ad u h1 h2 => exact .intp _ _ _ (RepV.immp (φ := φ0) _ ad u h1 h2)
  case imm => cases hr with | imm _ _ A n c u h1 h2 h3 h4 h5 h6 h7 => exact RepV.imm (φ := φ0) _ _ A n c u h1 h2 h3 h4 h5 h6 h7
  case immp => cases hr with | immp _ ad u h1 h2 => exact RepV.immp (φ := φ0) _ ad u h1 h2
  all_goals (cases hr; constructor <;> assumption)
 exact key.le (FLe.refl F) (PLe0 φ')
end
end Go.AX
namespace Go.AX
open Go
end Go.AX
