/-
  Functions of the program as plain functions: rotakeep_ConvexJamison. By a program of mine (shal.py). Conditions: none.
-/
import Derived.Test.YthmmjfjlnadojaaAxN
import Derived.Test.YthmmjfjlnadojaaSpconvex
import Derived.Test.YthmmjfjlnadojaaSprotaref
import Derived.Test.YthmmjfjlnadojaaSpslices
set_option linter.unusedVariables false
set_option linter.unusedSimpArgs false
namespace Go.SH
open Go Go.AX

noncomputable def rotakeep_ConvexJamison (n : Int) (a1 : List Int) (a2 : Int) : Option (Bool) :=
  (convex_Hull 1 [0, 1] 1).bind fun y =>
  if (y.2 ≠ 0 ∨ y.1 ≠ 1) then
  some false
 else
  (convex_Hull n a1 a2).bind fun y1 =>
  (convex_Extreme n a1 y1.1).bind fun y2 =>
  if y1.2 ≠ 0 then
  some (decide (y1.1 = 0))
 else
  (if ¬ (y2.2 ≠ 0) then rotaref_Within a2 y1.1 else some false).bind fun y3 =>
  (if ¬ ((y2.2 ≠ 0 ∨ ¬ (y3 = true))) then rotaref_Within y2.1 a2 else some false).bind fun y4 =>
  (if ¬ (((y2.2 ≠ 0 ∨ ¬ (y3 = true)) ∨ ¬ (y4 = true))) then rotaref_All n else some 0).bind fun y5 =>
  (if ¬ (((y2.2 ≠ 0 ∨ ¬ (y3 = true)) ∨ ¬ (y4 = true))) then slices_Contains_int_int a1 (iandnot y5 y1.1) else some false).bind fun y6 =>
  if (((y2.2 ≠ 0 ∨ ¬ (y3 = true)) ∨ ¬ (y4 = true)) ∨ ¬ (y6 = true)) then
  some false
 else
  (convex_Hull n a1 y2.1).bind fun y7 =>
  (convex_Hull n a1 y1.1).bind fun y8 =>
  if (((y7.2 ≠ 0 ∨ y8.2 ≠ 0) ∨ y7.1 ≠ y1.1) ∨ y8.1 ≠ y1.1) then
  some false
 else
  (loopM (ρ := Unit ⊕ Bool) (fun (v : Int) =>
  if v < n then
  (loopM (ρ := Unit ⊕ Bool) (fun (v1 : Int) =>
  if v1 < v then
  (rotaref_In y1.1 v).bind fun y9 =>
  (if ¬ (y9 = true) then rotaref_In y1.1 v1 else some false).bind fun y10 =>
  if (y9 = true ∨ y10 = true) then
  some (.inl (v1 + 1))
 else
  chk ((0 ≤ v ∧ v ≤ 62)) <|
  (convex_Hull n a1 (ior y1.1 (2 ^ v.toNat : Int))).bind fun y11 =>
  chk ((0 ≤ v1 ∧ v1 ≤ 62)) <|
  (convex_Hull n a1 (ior y1.1 (2 ^ v1.toNat : Int))).bind fun y12 =>
  (if ¬ ((y11.2 ≠ 0 ∨ y12.2 ≠ 0)) then rotaref_In y11.1 v1 else some false).bind fun y13 =>
  (if ((¬ ((y11.2 ≠ 0 ∨ y12.2 ≠ 0))) ∧ y13 = true) then rotaref_In y12.1 v else some false).bind fun y14 =>
  if ((y11.2 ≠ 0 ∨ y12.2 ≠ 0) ∨ (y13 = true ∧ y14 = true)) then
  some (.inr (.inr false))
 else
  some (.inl (v1 + 1))
 else
  some (.inr (.inl ()))) 0).bind fun z => match z with
  | .inl _ => (some (.inl (v + 1)))
  | .inr rr => some (.inr (.inr rr))
 else
  some (.inr (.inl ()))) 0).bind fun z => match z with
  | .inl _ => (some true)
  | .inr rr => some rr

end Go.SH
