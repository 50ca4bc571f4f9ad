/-
  Functions of the program as plain functions: rotalaw_Same_int, rotalaw_SameMatroid, rotalaw_Rows_int. By a program of mine (shal.py). Conditions: none.
-/
import Derived.Test.YtdhbpoafkhojnaaAxN
set_option linter.unusedVariables false
set_option linter.unusedSimpArgs false
namespace Go.SH
open Go Go.AX

noncomputable def rotalaw_Same_int (a : List Int) (b : List Int) : Option (Bool) :=
  if (a.length : Int) ≠ (b.length : Int) then
  some false
 else
  (loopM (ρ := Unit ⊕ Bool) (fun (v : Int) =>
  if v < (a.length : Int) then
  chk ((0 ≤ v ∧ v < a.length) ∧ (0 ≤ v ∧ v < b.length)) <|
  if a.getD v.toNat 0 ≠ b.getD v.toNat 0 then
  some (.inr (.inr false))
 else
  some (.inl (v + 1))
 else
  some (.inr (.inl ()))) 0).bind fun z => match z with
  | .inl _ => (some true)
  | .inr rr => some rr

noncomputable def rotalaw_SameMatroid (a_0 : Int) (a_1 : List Int) (b_0 : Int) (b_1 : List Int) : Option (Bool) :=
  (if a_0 = b_0 then rotalaw_Same_int a_1 b_1 else some false).bind fun y =>
  some (decide ((a_0 = b_0 ∧ y = true)))

noncomputable def rotalaw_Rows_int (a : List (List Int)) (b : List (List Int)) : Option (Bool) :=
  if (a.length : Int) ≠ (b.length : Int) then
  some false
 else
  (loopM (ρ := Unit ⊕ Bool) (fun (v : Int) =>
  if v < (a.length : Int) then
  chk ((0 ≤ v ∧ v < a.length) ∧ (0 ≤ v ∧ v < b.length)) <|
  (rotalaw_Same_int (a.getD v.toNat []) (b.getD v.toNat [])).bind fun y =>
  if ¬ (y = true) then
  some (.inr (.inr false))
 else
  some (.inl (v + 1))
 else
  some (.inr (.inl ()))) 0).bind fun z => match z with
  | .inl _ => (some true)
  | .inr rr => some rr

end Go.SH
