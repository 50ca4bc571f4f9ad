/-
  Functions of the program as plain functions: rotakeep_TutteCrapo. By a program of mine (shal.py). Conditions: none.
-/
import Derived.Test.YtabhcjpjoknihaaAxN
import Derived.Test.YtabhcjpjoknihaaSprotakeep
import Derived.Test.YtabhcjpjoknihaaSp
import Derived.Test.YtabhcjpjoknihaaSprotaref
set_option linter.unusedVariables false
set_option linter.unusedSimpArgs false
namespace Go.SH
open Go Go.AX

noncomputable def rotakeep_TutteCrapo (m_0 : Int) (m_1 : List Int) : Option (Bool) :=
  (rotakeep_two).bind fun y =>
  (tutte_Activities y.1 y.2 3).bind fun y1 =>
  if ((y1.2.2 ≠ 0 ∨ y1.1 ≠ 3) ∨ y1.2.1 ≠ 0) then
  some false
 else
  (tutte_Polynomial m_0 m_1).bind fun y2 =>
  if y2.2 ≠ 0 then
  some (decide ((y2.1.length : Int) = 0))
 else
  chk ((0 ≤ (y2.1.length : Int) ∧ (y2.1.length : Int) ≤ 1099511627776)) <|
  (loopM (ρ := List (List Int)) (fun ((v, v1) : List (List Int) × Int) =>
  if v1 < ((y2.1.length : Int).toNat : Int) then
  chk ((0 ≤ v1 ∧ v1 < y2.1.length) ∧ (0 ≤ ((y2.1.getD v1.toNat []).length : Int) ∧ ((y2.1.getD v1.toNat []).length : Int) ≤ 1099511627776) ∧ (0 ≤ v1 ∧ v1 < ((y2.1.length : Int).toNat))) <|
  chk ((v1.toNat = v.length)) <|
  chk ((-9223372036854775808 ≤ (v1 + 1 : Int) ∧ (v1 + 1 : Int) ≤ 9223372036854775807)) <|
  some (.inl (v ++ [List.replicate ((y2.1.getD v1.toNat []).length : Int).toNat 0], v1 + 1))
 else
  some (.inr v)) (([] : List (List Int)), 0)).bind fun (v2 : List (List Int)) =>
  chk ((y2.1.length : Int).toNat = v2.length) <|
  chk ((0 ≤ m_0 ∧ m_0 ≤ 62) ∧ (0 ≤ (2 ^ m_0.toNat : Int) ∧ (2 ^ m_0.toNat : Int) ≤ 1099511627776)) <|
  (loopM (ρ := (List (List Int) × List Int) ⊕ Bool) (fun ((v3, v4, v5) : List (List Int) × List Int × Int) =>
  if v5 < (m_1.length : Int) then
  chk ((0 ≤ v5 ∧ v5 < m_1.length)) <|
  (tutte_Activities m_0 m_1 (m_1.getD v5.toNat 0)).bind fun y3 =>
  (if ¬ (y3.2.2 ≠ 0) then rotaref_Within y3.1 (m_1.getD v5.toNat 0) else some false).bind fun y4 =>
  (if ¬ (((y3.2.2 ≠ 0 ∨ ¬ (y4 = true)) ∨ iand y3.2.1 (m_1.getD v5.toNat 0) ≠ 0)) then rotaref_Size y3.1 else some 0).bind fun y5 =>
  (if ¬ ((((y3.2.2 ≠ 0 ∨ ¬ (y4 = true)) ∨ iand y3.2.1 (m_1.getD v5.toNat 0) ≠ 0) ∨ (v3.length : Int) ≤ y5)) then rotaref_Size y3.2.1 else some 0).bind fun y6 =>
  chk (((¬ ((((y3.2.2 ≠ 0 ∨ ¬ (y4 = true)) ∨ iand y3.2.1 (m_1.getD v5.toNat 0) ≠ 0) ∨ (v3.length : Int) ≤ y5))) → (0 ≤ 0 ∧ 0 < v3.length))) <|
  if ((((y3.2.2 ≠ 0 ∨ ¬ (y4 = true)) ∨ iand y3.2.1 (m_1.getD v5.toNat 0) ≠ 0) ∨ (v3.length : Int) ≤ y5) ∨ ((v3.getD 0 []).length : Int) ≤ y6) then
  some (.inr (.inr false))
 else
  (rotaref_Size y3.1).bind fun y7 =>
  chk ((0 ≤ y7 ∧ y7 < v3.length)) <|
  (rotaref_Size y3.2.1).bind fun y8 =>
  chk ((0 ≤ y8 ∧ y8 < ((v3.getD y7.toNat []).length)) ∧ (-9223372036854775808 ≤ (((v3.getD y7.toNat []).getD y8.toNat 0) + 1 : Int) ∧ (((v3.getD y7.toNat []).getD y8.toNat 0) + 1 : Int) ≤ 9223372036854775807)) <|
  (loopM (ρ := List Int) (fun ((v8, v9) : List Int × Int) =>
  if v9 < (v4.length : Int) then
  (rotaref_Within (iandnot (m_1.getD v5.toNat 0) y3.1) v9).bind fun y9 =>
  (if y9 = true then rotaref_Within v9 (ior (m_1.getD v5.toNat 0) y3.2.1) else some false).bind fun y10 =>
  if (y9 = true ∧ y10 = true) then
  chk ((0 ≤ v9 ∧ v9 < v8.length) ∧ (-9223372036854775808 ≤ ((v8.getD v9.toNat 0) + 1 : Int) ∧ ((v8.getD v9.toNat 0) + 1 : Int) ≤ 9223372036854775807)) <|
  some (.inl (v8.set v9.toNat ((v8.getD v9.toNat 0) + 1), v9 + 1))
 else
  some (.inl (v8, v9 + 1))
 else
  some (.inr v8)) (v4, 0)).bind fun (v10 : List Int) =>
  some (.inl (v3.set y7.toNat ((v3.getD y7.toNat []).set y8.toNat (((v3.getD y7.toNat []).getD y8.toNat 0) + 1)), v10, v5 + 1))
 else
  some (.inr (.inl (v3, v4)))) (v2, List.replicate (2 ^ m_0.toNat : Int).toNat 0, 0)).bind fun z => match z with
  | .inl (v6, v7) => ((rotalaw_Rows_int64 v6 y2.1).bind fun y11 =>
  (if y11 = true then slices_ContainsFunc_int_int v7 (fun x0 => rotakeep_TutteCrapo_1 x0) else some false).bind fun y12 =>
  some (decide ((y11 = true ∧ ¬ (y12 = true)))))
  | .inr rr => some rr

end Go.SH
