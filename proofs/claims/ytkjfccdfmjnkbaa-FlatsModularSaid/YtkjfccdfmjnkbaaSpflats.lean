/-
  Functions of the program as plain functions: flats_of, flats_Modular, flats_lattice_rank, flats_lattice_mobius, flats_Characteristic. By a program of mine (shal.py). Conditions: none.
-/
import Derived.Test.YtkjfccdfmjnkbaaAxN
import Derived.Test.YtkjfccdfmjnkbaaSpaxioms
import Derived.Test.YtkjfccdfmjnkbaaSpslices
set_option linter.unusedVariables false
set_option linter.unusedSimpArgs false
namespace Go.SH
open Go Go.AX

noncomputable def flats_of (m_0 : Int) (m_1 : List Int) : Option (Int × List Int × List Int × Int) :=
  (axioms_Flats m_0 m_1).bind fun y =>
  if y.2 ≠ 0 then
  some (0, [], [], y.2)
 else
  (axioms_Ranks m_0 m_1).bind fun y1 =>
  some (m_0, y.1, y1.1, 0)

noncomputable def flats_Modular (m_0 : Int) (m_1 : List Int) (f : Int) : Option (Bool × Int) :=
  (flats_of m_0 m_1).bind fun y =>
  if y.2.2.2 ≠ 0 then
  some (false, y.2.2.2)
 else
  (slices_Contains_int_int y.2.1 f).bind fun y1 =>
  if ¬ (y1 = true) then
  some (false, 1)
 else
  (loopM (ρ := Unit ⊕ (Bool × Int)) (fun (v : Int) =>
  if v < (y.2.1.length : Int) then
  chk ((0 ≤ v ∧ v < y.2.1.length)) <|
  chk ((0 ≤ f ∧ f < y.2.2.1.length) ∧ (0 ≤ y.2.1.getD v.toNat 0 ∧ y.2.1.getD v.toNat 0 < y.2.2.1.length) ∧ (-9223372036854775808 ≤ ((y.2.2.1.getD f.toNat 0) + (y.2.2.1.getD (y.2.1.getD v.toNat 0).toNat 0) : Int) ∧ ((y.2.2.1.getD f.toNat 0) + (y.2.2.1.getD (y.2.1.getD v.toNat 0).toNat 0) : Int) ≤ 9223372036854775807) ∧ (0 ≤ ior f (y.2.1.getD v.toNat 0) ∧ ior f (y.2.1.getD v.toNat 0) < y.2.2.1.length) ∧ (0 ≤ iand f (y.2.1.getD v.toNat 0) ∧ iand f (y.2.1.getD v.toNat 0) < y.2.2.1.length) ∧ (-9223372036854775808 ≤ ((y.2.2.1.getD (ior f (y.2.1.getD v.toNat 0)).toNat 0) + (y.2.2.1.getD (iand f (y.2.1.getD v.toNat 0)).toNat 0) : Int) ∧ ((y.2.2.1.getD (ior f (y.2.1.getD v.toNat 0)).toNat 0) + (y.2.2.1.getD (iand f (y.2.1.getD v.toNat 0)).toNat 0) : Int) ≤ 9223372036854775807)) <|
  if (y.2.2.1.getD f.toNat 0) + (y.2.2.1.getD (y.2.1.getD v.toNat 0).toNat 0) ≠ (y.2.2.1.getD (ior f (y.2.1.getD v.toNat 0)).toNat 0) + (y.2.2.1.getD (iand f (y.2.1.getD v.toNat 0)).toNat 0) then
  some (.inr (.inr (false, 0)))
 else
  some (.inl (v + 1))
 else
  some (.inr (.inl ()))) 0).bind fun z => match z with
  | .inl _ => (some (true, 0))
  | .inr rr => some rr

noncomputable def flats_lattice_rank (l_0 : Int) (l_2 : List Int) (l_3 : List Int) : Option (Int) :=
  chk ((-9223372036854775808 ≤ ((l_3.length : Int) - 1 : Int) ∧ ((l_3.length : Int) - 1 : Int) ≤ 9223372036854775807) ∧ (0 ≤ (l_3.length : Int) - 1 ∧ (l_3.length : Int) - 1 < l_3.length)) <|
  some (l_3.getD ((l_3.length : Int) - 1).toNat 0)

noncomputable def flats_lattice_mobius (l_0 : Int) (l_2 : List Int) (l_3 : List Int) : Option (List Int) :=
  chk ((0 ≤ (l_2.length : Int) ∧ (l_2.length : Int) ≤ 1099511627776)) <|
  (loopM (ρ := List Int) (fun ((out0, v) : List Int × Int) =>
  if v < (l_2.length : Int) then
  chk ((0 ≤ v ∧ v < l_2.length)) <|
  if v = 0 then
  chk ((0 ≤ v ∧ v < out0.length)) <|
  some (.inl (out0.set v.toNat 1, v + 1))
 else
  chk ((0 ≤ v ∧ v ≤ l_2.length)) <|
  (loopM (ρ := List Int) (fun ((out02, v1) : List Int × Int) =>
  if v1 < ((l_2.take v.toNat).length : Int) then
  chk ((0 ≤ v1 ∧ v1 < (l_2.take v.toNat).length)) <|
  if iand ((l_2.take v.toNat).getD v1.toNat 0) (l_2.getD v.toNat 0) = (l_2.take v.toNat).getD v1.toNat 0 then
  chk ((0 ≤ v ∧ v < out02.length) ∧ (0 ≤ v1 ∧ v1 < out02.length) ∧ (-9223372036854775808 ≤ ((out02.getD v.toNat 0) - (out02.getD v1.toNat 0) : Int) ∧ ((out02.getD v.toNat 0) - (out02.getD v1.toNat 0) : Int) ≤ 9223372036854775807)) <|
  some (.inl (out02.set v.toNat ((out02.getD v.toNat 0) - (out02.getD v1.toNat 0)), v1 + 1))
 else
  some (.inl (out02, v1 + 1))
 else
  some (.inr out02)) (out0, 0)).bind fun (out03 : List Int) =>
  some (.inl (out03, v + 1))
 else
  some (.inr out0)) (List.replicate (l_2.length : Int).toNat 0, 0)).bind fun (out01 : List Int) =>
  some out01

noncomputable def flats_Characteristic (m_0 : Int) (m_1 : List Int) : Option (List Int × Int) :=
  (flats_of m_0 m_1).bind fun y =>
  if y.2.2.2 ≠ 0 then
  some ([], y.2.2.2)
 else
  (flats_lattice_rank y.1 y.2.1 y.2.2.1).bind fun y1 =>
  chk ((-9223372036854775808 ≤ (y1 + 1 : Int) ∧ (y1 + 1 : Int) ≤ 9223372036854775807) ∧ (0 ≤ y1 + 1 ∧ y1 + 1 ≤ 1099511627776)) <|
  chk ((0 ≤ 0 ∧ 0 < y.2.1.length)) <|
  if y.2.1.getD 0 0 ≠ 0 then
  some (List.replicate (y1 + 1).toNat 0, 0)
 else
  (flats_lattice_mobius y.1 y.2.1 y.2.2.1).bind fun y2 =>
  (loopM (ρ := List Int) (fun ((out0, v) : List Int × Int) =>
  if v < (y2.length : Int) then
  chk ((0 ≤ v ∧ v < y2.length)) <|
  (flats_lattice_rank y.1 y.2.1 y.2.2.1).bind fun y3 =>
  chk ((0 ≤ v ∧ v < y.2.1.length) ∧ (0 ≤ y.2.1.getD v.toNat 0 ∧ y.2.1.getD v.toNat 0 < y.2.2.1.length) ∧ (-9223372036854775808 ≤ (y3 - (y.2.2.1.getD (y.2.1.getD v.toNat 0).toNat 0) : Int) ∧ (y3 - (y.2.2.1.getD (y.2.1.getD v.toNat 0).toNat 0) : Int) ≤ 9223372036854775807) ∧ (0 ≤ y3 - (y.2.2.1.getD (y.2.1.getD v.toNat 0).toNat 0) ∧ y3 - (y.2.2.1.getD (y.2.1.getD v.toNat 0).toNat 0) < out0.length) ∧ (-9223372036854775808 ≤ ((out0.getD (y3 - (y.2.2.1.getD (y.2.1.getD v.toNat 0).toNat 0)).toNat 0) + (y2.getD v.toNat 0) : Int) ∧ ((out0.getD (y3 - (y.2.2.1.getD (y.2.1.getD v.toNat 0).toNat 0)).toNat 0) + (y2.getD v.toNat 0) : Int) ≤ 9223372036854775807)) <|
  some (.inl (out0.set (y3 - (y.2.2.1.getD (y.2.1.getD v.toNat 0).toNat 0)).toNat ((out0.getD (y3 - (y.2.2.1.getD (y.2.1.getD v.toNat 0).toNat 0)).toNat 0) + (y2.getD v.toNat 0)), v + 1))
 else
  some (.inr out0)) (List.replicate (y1 + 1).toNat 0, 0)).bind fun (out01 : List Int) =>
  some (out01, 0)

end Go.SH
