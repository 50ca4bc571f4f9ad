/-
  Functions of the program as plain functions: convex_has, convex_Check, convex_right, convex_hull, convex_Hull, convex_Extreme. By a program of mine (shal.py). Conditions: none.
-/
import Derived.Test.YthmmjfjlnadojaaAxN
import Derived.Test.YthmmjfjlnadojaaSpsets
import Derived.Test.YthmmjfjlnadojaaSpslices
set_option linter.unusedVariables false
set_option linter.unusedSimpArgs false
namespace Go.SH
open Go Go.AX

noncomputable def convex_has (l : List Int) (s : Int) : Option (Bool) :=
  (slices_BinarySearch_int_int l s).bind fun y =>
  some y.2

noncomputable def convex_Check (n : Int) (a1 : List Int) : Option (Int) :=
  (sets_Family n a1).bind fun y =>
  if y ≠ 0 then
  some y
 else
  chk (((¬ ((a1.length : Int) = 0)) → 0 < a1.length) ∧ ((¬ (((a1.length : Int) = 0 ∨ a1.getD 0 0 ≠ 0))) → (-9223372036854775808 ≤ ((a1.length : Int) - 1 : Int) ∧ ((a1.length : Int) - 1 : Int) ≤ 9223372036854775807)) ∧ ((¬ (((a1.length : Int) = 0 ∨ a1.getD 0 0 ≠ 0))) → (0 ≤ (a1.length : Int) - 1 ∧ (a1.length : Int) - 1 < a1.length)) ∧ ((¬ (((a1.length : Int) = 0 ∨ a1.getD 0 0 ≠ 0))) → (0 ≤ n ∧ n ≤ 62)) ∧ ((¬ (((a1.length : Int) = 0 ∨ a1.getD 0 0 ≠ 0))) → (-9223372036854775808 ≤ ((2 ^ n.toNat : Int) - 1 : Int) ∧ ((2 ^ n.toNat : Int) - 1 : Int) ≤ 9223372036854775807))) <|
  if (((a1.length : Int) = 0 ∨ a1.getD 0 0 ≠ 0) ∨ a1.getD ((a1.length : Int) - 1).toNat 0 ≠ (2 ^ n.toNat : Int) - 1) then
  some 3
 else
  (loopM (ρ := Unit ⊕ Int) (fun (v : Int) =>
  if v < (a1.length : Int) then
  chk ((0 ≤ v ∧ v < a1.length)) <|
  (loopM (ρ := Bool) (fun ((v1, v2) : Bool × Int) =>
  if v2 ≠ 0 then
  chk (((¬ (v1 = true)) → (-9223372036854775808 ≤ (-v2 : Int) ∧ (-v2 : Int) ≤ 9223372036854775807))) <|
  (if ¬ (v1 = true) then convex_has a1 (iandnot (a1.getD v.toNat 0) (iand v2 (-v2))) else some false).bind fun y1 =>
  chk ((-9223372036854775808 ≤ (v2 - 1 : Int) ∧ (v2 - 1 : Int) ≤ 9223372036854775807)) <|
  some (.inl (decide ((v1 = true ∨ y1 = true)), iand v2 (v2 - 1)))
 else
  some (.inr v1)) (decide (a1.getD v.toNat 0 = 0), a1.getD v.toNat 0)).bind fun (v3 : Bool) =>
  if ¬ (v3 = true) then
  some (.inr (.inr 3))
 else
  (loopM (ρ := Unit ⊕ Int) (fun (v4 : Int) =>
  if v4 < (a1.length : Int) then
  chk ((0 ≤ v4 ∧ v4 < a1.length)) <|
  (convex_has a1 (ior (a1.getD v.toNat 0) (a1.getD v4.toNat 0))).bind fun y2 =>
  if ¬ (y2 = true) then
  some (.inr (.inr 3))
 else
  some (.inl (v4 + 1))
 else
  some (.inr (.inl ()))) 0).bind fun z => match z with
  | .inl _ => (some (.inl (v + 1)))
  | .inr rr => some (.inr (.inr rr))
 else
  some (.inr (.inl ()))) 0).bind fun z => match z with
  | .inl _ => (some 0)
  | .inr rr => some rr

noncomputable def convex_right (n : Int) (l : List Int) (s : Int) : Option (Int) :=
  (convex_Check n l).bind fun y =>
  if y ≠ 0 then
  some y
 else
  (sets_Check n s).bind fun y1 =>
  some y1

noncomputable def convex_hull (n : Int) (l : List Int) (s : Int) : Option (Int) :=
  (loopM (ρ := Int) (fun ((best, v) : Int × Int) =>
  if v < (l.length : Int) then
  chk ((0 ≤ v ∧ v < l.length)) <|
  if iand (l.getD v.toNat 0) s = 0 then
  some (.inl (ior best (l.getD v.toNat 0), v + 1))
 else
  some (.inl (best, v + 1))
 else
  some (.inr best)) (0, 0)).bind fun (best1 : Int) =>
  chk ((0 ≤ n ∧ n ≤ 62) ∧ (-9223372036854775808 ≤ ((2 ^ n.toNat : Int) - 1 : Int) ∧ ((2 ^ n.toNat : Int) - 1 : Int) ≤ 9223372036854775807)) <|
  some (iandnot ((2 ^ n.toNat : Int) - 1) best1)

noncomputable def convex_Hull (n : Int) (l : List Int) (s : Int) : Option (Int × Int) :=
  (convex_right n l s).bind fun y =>
  if y ≠ 0 then
  some (0, y)
 else
  (convex_hull n l s).bind fun y1 =>
  some (y1, 0)

noncomputable def convex_Extreme (n : Int) (l : List Int) (s : Int) : Option (Int × Int) :=
  (convex_right n l s).bind fun y =>
  if y ≠ 0 then
  some (0, y)
 else
  (loopM (ρ := Int) (fun ((out0, t) : Int × Int) =>
  if t ≠ 0 then
  chk ((-9223372036854775808 ≤ (-t : Int) ∧ (-t : Int) ≤ 9223372036854775807)) <|
  (convex_hull n l (iandnot s (iand t (-t)))).bind fun y1 =>
  if iand y1 (iand t (-t)) = 0 then
  chk ((-9223372036854775808 ≤ (t - 1 : Int) ∧ (t - 1 : Int) ≤ 9223372036854775807)) <|
  some (.inl (ior out0 (iand t (-t)), iand t (t - 1)))
 else
  chk ((-9223372036854775808 ≤ (t - 1 : Int) ∧ (t - 1 : Int) ≤ 9223372036854775807)) <|
  some (.inl (out0, iand t (t - 1)))
 else
  some (.inr out0)) (0, s)).bind fun (out01 : Int) =>
  some (out01, 0)

end Go.SH
