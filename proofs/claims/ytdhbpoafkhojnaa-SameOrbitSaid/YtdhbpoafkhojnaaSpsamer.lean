/-
  Functions of the program as plain functions: same_order, same_Rename. By a program of mine (shal.py). Conditions: none.
-/
import Derived.Test.YtdhbpoafkhojnaaAxN
import Derived.Test.YtdhbpoafkhojnaaSpaxioms
import Derived.Test.YtdhbpoafkhojnaaSpsamec
import Derived.Test.YtdhbpoafkhojnaaSpslices
set_option linter.unusedVariables false
set_option linter.unusedSimpArgs false
namespace Go.SH
open Go Go.AX

noncomputable def same_order (p : List Int) (n : Int) : Option (Bool) :=
  if (p.length : Int) ≠ n then
  some false
 else
  (loopM (ρ := Unit ⊕ Bool) (fun (v : Int) =>
  if v < (p.length : Int) then
  chk ((0 ≤ v ∧ v < p.length)) <|
  chk (((¬ ((p.getD v.toNat 0 < 0 ∨ n ≤ p.getD v.toNat 0))) → (0 ≤ v ∧ v ≤ p.length))) <|
  (if ¬ ((p.getD v.toNat 0 < 0 ∨ n ≤ p.getD v.toNat 0)) then slices_Contains_int_int (p.take v.toNat) (p.getD v.toNat 0) else some false).bind fun y =>
  if ((p.getD v.toNat 0 < 0 ∨ n ≤ p.getD v.toNat 0) ∨ y = true) then
  some (.inr (.inr false))
 else
  some (.inl (v + 1))
 else
  some (.inr (.inl ()))) 0).bind fun z => match z with
  | .inl _ => (some true)
  | .inr rr => some rr

noncomputable def same_Rename (m_0 : Int) (m_1 : List Int) (p : List Int) : Option (Int × List Int × Int) :=
  (axioms_Check m_0 m_1).bind fun y =>
  if y ≠ 0 then
  some (0, [], y)
 else
  (same_order p m_0).bind fun y1 =>
  if ¬ (y1 = true) then
  some (0, [], 1)
 else
  (same_renamed m_0 m_1 p).bind fun y2 =>
  some (m_0, y2, 0)

end Go.SH
