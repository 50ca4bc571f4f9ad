/-
  What slices.DeleteFunc leaves of a list. Conditions: none.
-/
import Derived.Test.YtabhcjpjoknihaaAxN
set_option linter.unusedSimpArgs false
set_option linter.unusedVariables false
namespace Go.AX
open Go Go.RowKit

def pB (f : Int → Option Bool) (x : Int) : Bool := (f x).getD false
/-- What DeleteFunc leaves. -/
def delL (f : Int → Option Bool) (xs : List Int) : List Int := xs.filter fun x => !pB f x
/-- There is something, and the predicate has an answer at all of it. -/
def DefL (f : Int → Option Bool) (xs : List Int) : Prop := xs ≠ [] ∧ ∀ x, x ∈ 0 :: xs → ∃ r, f x = some r
noncomputable instance (f : Int → Option Bool) (xs : List Int) : Decidable (DefL f xs) := Classical.propDecidable _
end Go.AX
