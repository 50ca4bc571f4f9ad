/-
  Functions of the program as plain functions: slices_isNaN_int, slices_BinarySearch_int_int, slices_Index_int_int, slices_Contains_int_int. By a program of mine (shal.py). Conditions: none.
-/
import Derived.Test.YtdhbpoafkhojnaaAxN
import Derived.Test.YtdhbpoafkhojnaaSpcmp
set_option linter.unusedVariables false
set_option linter.unusedSimpArgs false
namespace Go.SH
open Go Go.AX

noncomputable def slices_isNaN_int (x : Int) : Option (Bool) :=
  some (decide (x ≠ x))

noncomputable def slices_BinarySearch_int_int (x : List Int) (target : Int) : Option (Int × Bool) :=
  (loopM (ρ := Int) (fun ((i, j) : Int × Int) =>
  if i < j then
  chk ((-9223372036854775808 ≤ (i + j : Int) ∧ (i + j : Int) ≤ 9223372036854775807) ∧ (0 ≤ (i + j : Int) ∧ (i + j : Int) ≤ 18446744073709551615) ∧ (-9223372036854775808 ≤ ((i + j) / 2 ^ 1 : Int) ∧ ((i + j) / 2 ^ 1 : Int) ≤ 9223372036854775807)) <|
  chk ((0 ≤ (i + j) / 2 ^ 1 ∧ (i + j) / 2 ^ 1 < x.length)) <|
  (cmp_Less_int (x.getD ((i + j) / 2 ^ 1).toNat 0) target).bind fun y =>
  if y = true then
  chk ((-9223372036854775808 ≤ (((i + j) / 2 ^ 1) + 1 : Int) ∧ (((i + j) / 2 ^ 1) + 1 : Int) ≤ 9223372036854775807)) <|
  some (.inl (((i + j) / 2 ^ 1) + 1, j))
 else
  some (.inl (i, (i + j) / 2 ^ 1))
 else
  some (.inr i)) (0, (x.length : Int))).bind fun (i1 : Int) =>
  chk (((i1 < (x.length : Int)) → (0 ≤ i1 ∧ i1 < x.length)) ∧ (((i1 < (x.length : Int)) ∧ ¬ (x.getD i1.toNat 0 = target)) → (0 ≤ i1 ∧ i1 < x.length))) <|
  (if ((i1 < (x.length : Int)) ∧ ¬ (x.getD i1.toNat 0 = target)) then slices_isNaN_int (x.getD i1.toNat 0) else some false).bind fun y1 =>
  (if (((i1 < (x.length : Int)) ∧ ¬ (x.getD i1.toNat 0 = target)) ∧ y1 = true) then slices_isNaN_int target else some false).bind fun y2 =>
  some (i1, decide ((i1 < (x.length : Int) ∧ (x.getD i1.toNat 0 = target ∨ (y1 = true ∧ y2 = true)))))

noncomputable def slices_Index_int_int (s : List Int) (v : Int) : Option (Int) :=
  (loopM (ρ := Unit ⊕ Int) (fun (v1 : Int) =>
  if v1 < (s.length : Int) then
  chk ((0 ≤ v1 ∧ v1 < s.length)) <|
  if v = s.getD v1.toNat 0 then
  some (.inr (.inr v1))
 else
  some (.inl (v1 + 1))
 else
  some (.inr (.inl ()))) 0).bind fun z => match z with
  | .inl _ => (some (-1))
  | .inr rr => some rr

noncomputable def slices_Contains_int_int (s : List Int) (v : Int) : Option (Bool) :=
  (slices_Index_int_int s v).bind fun y =>
  some (decide (0 ≤ y))

end Go.SH
