/-
  Functions of the program as plain functions: rotakeep_LinksMenger. By a program of mine (shal.py). Conditions: none.
-/
import Derived.Test.YtlpikingpnenkaaAxN
import Derived.Test.YtlpikingpnenkaaSp
import Derived.Test.YtlpikingpnenkaaSprotaref
set_option linter.unusedVariables false
set_option linter.unusedSimpArgs false
namespace Go.SH
open Go Go.AX

noncomputable def rotakeep_LinksMenger (g_0 : Int) (g_1 : List (Int × Int)) (a1 : Int) (a2 : Int) : Option (Bool) :=
  (links_Most 2 [(0, 1)] 1 2).bind fun y =>
  if (y.2 ≠ 0 ∨ y.1 ≠ 1) then
  some false
 else
  (links_Most g_0 g_1 a1 a2).bind fun y1 =>
  (links_Cut g_0 g_1 a1 a2).bind fun y2 =>
  (links_Ways g_0 g_1 a1 a2).bind fun y3 =>
  if y1.2 ≠ 0 then
  some (decide (((((y1.2 = y2.2 ∧ y2.2 = y3.2) ∧ y1.1 = 0) ∧ y2.1 = 0) ∧ (y3.1.length : Int) = 0)))
 else
  (if ¬ (y2.2 ≠ 0) then rotaref_Size y2.1 else some 0).bind fun y4 =>
  (if ¬ ((y2.2 ≠ 0 ∨ y1.1 ≠ y4)) then rotaref_Paths g_0 g_1 a1 y2.1 else some 0).bind fun y5 =>
  (if ¬ (((y2.2 ≠ 0 ∨ y1.1 ≠ y4) ∨ iand y5 a2 ≠ 0)) then rotaref_Size a1 else some 0).bind fun y6 =>
  if (((y2.2 ≠ 0 ∨ y1.1 ≠ y4) ∨ iand y5 a2 ≠ 0) ∨ ¬ (y3.2 = 0 ↔ y1.1 = y6)) then
  some false
 else
  (rotaref_Elements a1).bind fun y7 =>
  (loopM (ρ := Unit ⊕ Bool) (fun ((v, v1) : Int × Int) =>
  if v1 < (y3.1.length : Int) then
  chk ((0 ≤ v1 ∧ v1 < y3.1.length) ∧ (v1.toNat < y3.1.length)) <|
  chk (((¬ (((y3.1.getD v1.toNat []).length : Int) = 0)) → 0 < (y3.1.getD v1.toNat []).length) ∧ ((¬ (((y3.1.getD v1.toNat []).length : Int) = 0)) → (0 ≤ v1 ∧ v1 < y7.length)) ∧ ((¬ ((((y3.1.getD v1.toNat []).length : Int) = 0 ∨ (y3.1.getD v1.toNat []).getD 0 0 ≠ y7.getD v1.toNat 0))) → (-9223372036854775808 ≤ (((y3.1.getD v1.toNat []).length : Int) - 1 : Int) ∧ (((y3.1.getD v1.toNat []).length : Int) - 1 : Int) ≤ 9223372036854775807)) ∧ ((¬ ((((y3.1.getD v1.toNat []).length : Int) = 0 ∨ (y3.1.getD v1.toNat []).getD 0 0 ≠ y7.getD v1.toNat 0))) → (0 ≤ ((y3.1.getD v1.toNat []).length : Int) - 1 ∧ ((y3.1.getD v1.toNat []).length : Int) - 1 < (y3.1.getD v1.toNat []).length))) <|
  (if ¬ ((((y3.1.getD v1.toNat []).length : Int) = 0 ∨ (y3.1.getD v1.toNat []).getD 0 0 ≠ y7.getD v1.toNat 0)) then rotaref_In a2 ((y3.1.getD v1.toNat []).getD (((y3.1.getD v1.toNat []).length : Int) - 1).toNat 0) else some false).bind fun y8 =>
  if ((((y3.1.getD v1.toNat []).length : Int) = 0 ∨ (y3.1.getD v1.toNat []).getD 0 0 ≠ y7.getD v1.toNat 0) ∨ ¬ (y8 = true)) then
  some (.inr (.inr false))
 else
  (loopM (ρ := Int ⊕ Bool) (fun ((v2, v3) : Int × Int) =>
  if v3 < ((y3.1.getD v1.toNat []).length : Int) then
  chk ((0 ≤ v3 ∧ v3 < (y3.1.getD v1.toNat []).length)) <|
  (if ¬ (((y3.1.getD v1.toNat []).getD v3.toNat 0 < 0 ∨ g_0 ≤ (y3.1.getD v1.toNat []).getD v3.toNat 0)) then rotaref_In v2 ((y3.1.getD v1.toNat []).getD v3.toNat 0) else some false).bind fun y9 =>
  chk ((((¬ ((((y3.1.getD v1.toNat []).getD v3.toNat 0 < 0 ∨ g_0 ≤ (y3.1.getD v1.toNat []).getD v3.toNat 0) ∨ y9 = true))) ∧ 0 < v3) → (-9223372036854775808 ≤ (v3 - 1 : Int) ∧ (v3 - 1 : Int) ≤ 9223372036854775807)) ∧ (((¬ ((((y3.1.getD v1.toNat []).getD v3.toNat 0 < 0 ∨ g_0 ≤ (y3.1.getD v1.toNat []).getD v3.toNat 0) ∨ y9 = true))) ∧ 0 < v3) → (0 ≤ v3 - 1 ∧ v3 - 1 < (y3.1.getD v1.toNat []).length))) <|
  (if ((¬ ((((y3.1.getD v1.toNat []).getD v3.toNat 0 < 0 ∨ g_0 ≤ (y3.1.getD v1.toNat []).getD v3.toNat 0) ∨ y9 = true))) ∧ 0 < v3) then slices_Contains_api_Edge_api_Edge g_1 ((y3.1.getD v1.toNat []).getD (v3 - 1).toNat 0) ((y3.1.getD v1.toNat []).getD v3.toNat 0) else some false).bind fun y10 =>
  if ((((y3.1.getD v1.toNat []).getD v3.toNat 0 < 0 ∨ g_0 ≤ (y3.1.getD v1.toNat []).getD v3.toNat 0) ∨ y9 = true) ∨ (0 < v3 ∧ ¬ (y10 = true))) then
  some (.inr (.inr false))
 else
  chk ((0 ≤ (y3.1.getD v1.toNat []).getD v3.toNat 0 ∧ (y3.1.getD v1.toNat []).getD v3.toNat 0 ≤ 62)) <|
  some (.inl (ior v2 (2 ^ ((y3.1.getD v1.toNat []).getD v3.toNat 0).toNat : Int), v3 + 1))
 else
  some (.inr (.inl v2))) (v, 0)).bind fun z => match z with
  | .inl v4 => (some (.inl (v4, v1 + 1)))
  | .inr rr => some (.inr (.inr rr))
 else
  some (.inr (.inl ()))) (0, 0)).bind fun z => match z with
  | .inl _ => (some true)
  | .inr rr => some rr

end Go.SH
