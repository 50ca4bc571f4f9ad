/-
  Functions of the program as plain functions: kinds_CheckMatrix. By a program of mine (shal.py). Conditions: none.
-/
import Derived.Test.YtdhbpoafkhojnaaAxN
set_option linter.unusedVariables false
set_option linter.unusedSimpArgs false
namespace Go.SH
open Go Go.AX

noncomputable def kinds_CheckMatrix (x_0 : Int) (x_1 : Int) (x_2 : List (List Int)) : Option (Int) :=
  if ((((((x_0 ≠ 2 ∧ x_0 ≠ 3) ∧ x_0 ≠ 5) ∧ x_0 ≠ 7) ∨ x_1 < 0) ∨ 8 < x_1) ∨ 6 < (x_2.length : Int)) then
  some 1
 else
  (loopM (ρ := Unit ⊕ Int) (fun (v : Int) =>
  if v < (x_2.length : Int) then
  chk ((0 ≤ v ∧ v < x_2.length)) <|
  if ((x_2.getD v.toNat []).length : Int) ≠ x_1 then
  some (.inr (.inr 1))
 else
  (loopM (ρ := Unit ⊕ Int) (fun (v1 : Int) =>
  if v1 < ((x_2.getD v.toNat []).length : Int) then
  chk ((0 ≤ v1 ∧ v1 < (x_2.getD v.toNat []).length)) <|
  if ((x_2.getD v.toNat []).getD v1.toNat 0 < 0 ∨ x_0 ≤ (x_2.getD v.toNat []).getD v1.toNat 0) then
  some (.inr (.inr 1))
 else
  some (.inl (v1 + 1))
 else
  some (.inr (.inl ()))) 0).bind fun z => match z with
  | .inl _ => (some (.inl (v + 1)))
  | .inr rr => some (.inr (.inr rr))
 else
  some (.inr (.inl ()))) 0).bind fun z => match z with
  | .inl _ => (some 0)
  | .inr rr => some rr

end Go.SH
