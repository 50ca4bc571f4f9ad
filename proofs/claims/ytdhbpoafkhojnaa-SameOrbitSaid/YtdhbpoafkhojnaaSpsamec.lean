/-
  Functions of the program as plain functions: same_renamed. By a program of mine (shal.py). Conditions: none.
-/
import Derived.Test.YtdhbpoafkhojnaaAxN
import Derived.Test.YtdhbpoafkhojnaaAxP
import Derived.Test.YtdhbpoafkhojnaaSpsame
set_option linter.unusedVariables false
set_option linter.unusedSimpArgs false
namespace Go.SH
open Go Go.AX

noncomputable def same_renamed (m_0 : Int) (m_1 : List Int) (p : List Int) : Option (List Int) :=
  (loopM (ρ := List Int) (fun ((out0, v) : List Int × Int) =>
  if v < (m_1.length : Int) then
  chk ((0 ≤ v ∧ v < m_1.length)) <|
  (same_moved p (m_1.getD v.toNat 0)).bind fun y =>
  chk (((out0 ++ [y]).length ≤ 8796093022208)) <|
  some (.inl (out0 ++ [y], v + 1))
 else
  some (.inr out0)) ([], 0)).bind fun (out01 : List Int) =>
  chk ((out01.length < 4611686018427387904)) <|
  some (sortL out01)

end Go.SH
