/-
  Functions of the program as plain functions: rotakeep_FlatsMobius. By a program of mine (shal.py). Conditions: none.
-/
import Derived.Test.YtdfclknhgpkghaaAxN
import Derived.Test.YtdfclknhgpkghaaSpaxioms
import Derived.Test.YtdfclknhgpkghaaSpflats
import Derived.Test.YtdfclknhgpkghaaSprotakeep
import Derived.Test.YtdfclknhgpkghaaSprotalaw
import Derived.Test.YtdfclknhgpkghaaSprotaref
import Derived.Test.YtdfclknhgpkghaaSpslices
set_option linter.unusedVariables false
set_option linter.unusedSimpArgs false
namespace Go.SH
open Go Go.AX

noncomputable def rotakeep_FlatsMobius (m_0 : Int) (m_1 : List Int) (a1 : Int) : Option (Bool) :=
  (rotakeep_two).bind fun y =>
  (flats_Chains y.1 y.2).bind fun y1 =>
  if (y1.2 ≠ 0 ∨ y1.1 ≠ 4) then
  some false
 else
  (axioms_Flats m_0 m_1).bind fun y2 =>
  (flats_Mobius m_0 m_1).bind fun y3 =>
  if y2.2 ≠ 0 then
  some (decide ((y2.2 = y3.2 ∧ (y3.1.length : Int) = 0)))
 else
  if (y3.2 ≠ 0 ∨ (y3.1.length : Int) ≠ (y2.1.length : Int)) then
  some false
 else
  (loopM (ρ := Unit ⊕ Bool) (fun (v : Int) =>
  if v < (y2.1.length : Int) then
  chk ((0 ≤ v ∧ v < y2.1.length)) <|
  (loopM (ρ := Int) (fun ((v1, v2) : Int × Int) =>
  if v2 < (y2.1.length : Int) then
  chk ((0 ≤ v2 ∧ v2 < y2.1.length)) <|
  (rotaref_Within (y2.1.getD v2.toNat 0) (y2.1.getD v.toNat 0)).bind fun y4 =>
  if y4 = true then
  chk ((0 ≤ v2 ∧ v2 < y3.1.length) ∧ (-9223372036854775808 ≤ (v1 + (y3.1.getD v2.toNat 0) : Int) ∧ (v1 + (y3.1.getD v2.toNat 0) : Int) ≤ 9223372036854775807)) <|
  some (.inl (v1 + (y3.1.getD v2.toNat 0), v2 + 1))
 else
  some (.inl (v1, v2 + 1))
 else
  some (.inr v1)) (0, 0)).bind fun (v3 : Int) =>
  chk ((0 ≤ 0 ∧ 0 < y2.1.length)) <|
  if (¬ (v3 = 1 ↔ y2.1.getD v.toNat 0 = y2.1.getD 0 0) ∨ (v3 ≠ 0 ∧ v3 ≠ 1)) then
  some (.inr (.inr false))
 else
  some (.inl (v + 1))
 else
  some (.inr (.inl ()))) 0).bind fun z => match z with
  | .inl _ => (chk ((0 ≤ (y2.1.length : Int) ∧ (y2.1.length : Int) ≤ 1099511627776)) <|
  (loopM (ρ := List Int) (fun ((v4, v5) : List Int × Int) =>
  if v5 < (y2.1.length : Int) then
  chk ((0 ≤ v5 ∧ v5 < y2.1.length)) <|
  joinM (fun (v7 : List Int) =>
  (loopM (ρ := List Int) (fun ((v8, v9) : List Int × Int) =>
  if v9 < v5 then
  chk ((0 ≤ v9 ∧ v9 < y2.1.length)) <|
  (rotaref_Within (y2.1.getD v9.toNat 0) (y2.1.getD v5.toNat 0)).bind fun y5 =>
  if y5 = true then
  chk ((0 ≤ v5 ∧ v5 < v8.length) ∧ (0 ≤ v9 ∧ v9 < v8.length) ∧ (-9223372036854775808 ≤ ((v8.getD v5.toNat 0) - (v8.getD v9.toNat 0) : Int) ∧ ((v8.getD v5.toNat 0) - (v8.getD v9.toNat 0) : Int) ≤ 9223372036854775807)) <|
  some (.inl (v8.set v5.toNat ((v8.getD v5.toNat 0) - (v8.getD v9.toNat 0)), v9 + 1))
 else
  some (.inl (v8, v9 + 1))
 else
  some (.inr v8)) (v7, 0)).bind fun (v10 : List Int) =>
  some (.inl (v10, v5 + 1))) fun j =>
  if v5 = 0 then
  chk ((0 ≤ 0 ∧ 0 < v4.length)) <|
  j (v4.set 0 1)
 else
  j v4
 else
  some (.inr v4)) (List.replicate (y2.1.length : Int).toNat 0, 0)).bind fun (v6 : List Int) =>
  (rotalaw_Same_int64 v6 y3.1).bind fun y6 =>
  if ¬ (y6 = true) then
  some false
 else
  (flats_Covers m_0 m_1 a1).bind fun y7 =>
  if y7.2 ≠ 0 then
  some (decide ((y7.1.length : Int) = 0))
 else
  (loopM (ρ := Int ⊕ Bool) (fun ((v11, v12) : Int × Int) =>
  if v12 < (y7.1.length : Int) then
  chk ((0 ≤ v12 ∧ v12 < y7.1.length)) <|
  (if ¬ (iand (y7.1.getD v12.toNat 0) v11 ≠ a1) then slices_Contains_int_int y2.1 (y7.1.getD v12.toNat 0) else some false).bind fun y8 =>
  if (iand (y7.1.getD v12.toNat 0) v11 ≠ a1 ∨ ¬ (y8 = true)) then
  some (.inr (.inr false))
 else
  some (.inl (ior v11 (y7.1.getD v12.toNat 0), v12 + 1))
 else
  some (.inr (.inl v11))) (a1, 0)).bind fun z => match z with
  | .inl v13 => ((rotaref_All m_0).bind fun y9 =>
  some (decide (v13 = y9)))
  | .inr rr => some rr)
  | .inr rr => some rr

end Go.SH
