/-
  Functions of the program as plain functions: complex_Check, complex_size, complex_faces_1, complex_faces, complex_count, complex_F, complex_choose, complex_H. By a program of mine (shal.py). Conditions: none.
-/
import Derived.Test.YtkjfccdfmjnkbaaAxN
import Derived.Test.YtkjfccdfmjnkbaaSpbits
import Derived.Test.YtkjfccdfmjnkbaaSpsets
import Derived.Test.YtkjfccdfmjnkbaaSpslices
set_option linter.unusedVariables false
set_option linter.unusedSimpArgs false
namespace Go.SH
open Go Go.AX

noncomputable def complex_Check (n : Int) (l : List Int) : Option (Int) :=
  (sets_Family n l).bind fun y =>
  if y ≠ 0 then
  some y
 else
  if (l.length : Int) = 0 then
  some 1
 else
  (loopM (ρ := Unit ⊕ Int) (fun (v : Int) =>
  if v < (l.length : Int) then
  chk ((0 ≤ v ∧ v < l.length)) <|
  (loopM (ρ := Unit ⊕ Int) (fun (v1 : Int) =>
  if v1 < (l.length : Int) then
  chk ((0 ≤ v1 ∧ v1 < l.length)) <|
  if (l.getD v.toNat 0 ≠ l.getD v1.toNat 0 ∧ iand (l.getD v.toNat 0) (l.getD v1.toNat 0) = l.getD v.toNat 0) then
  some (.inr (.inr 3))
 else
  some (.inl (v1 + 1))
 else
  some (.inr (.inl ()))) 0).bind fun z => match z with
  | .inl _ => (some (.inl (v + 1)))
  | .inr rr => some (.inr (.inr rr))
 else
  some (.inr (.inl ()))) 0).bind fun z => match z with
  | .inl _ => (some 0)
  | .inr rr => some rr

noncomputable def complex_size (s : Int) : Option (Int) :=
  chk ((0 ≤ (s : Int) ∧ (s : Int) ≤ 18446744073709551615)) <|
  (bits_OnesCount s).bind fun y =>
  some y

noncomputable def complex_faces_1 (f : Int) (c0 : Int) : Option (Bool) :=
  some (decide (iand f c0 = c0))

noncomputable def complex_faces (n : Int) (l : List Int) : Option (List Int) :=
  chk ((0 ≤ n ∧ n ≤ 62)) <|
  (loopM (ρ := List Int) (fun ((out0, v) : List Int × Int) =>
  if v < (2 ^ n.toNat : Int) then
  (slices_ContainsFunc_int_int l (fun x0 => complex_faces_1 x0 v)).bind fun y =>
  if y = true then
  chk (((out0 ++ [v]).length ≤ 8796093022208)) <|
  some (.inl (out0 ++ [v], v + 1))
 else
  some (.inl (out0, v + 1))
 else
  some (.inr out0)) ([], 0)).bind fun (out01 : List Int) =>
  some out01

noncomputable def complex_count (n : Int) (l : List Int) : Option (List Int) :=
  (loopM (ρ := Int) (fun ((most, v) : Int × Int) =>
  if v < (l.length : Int) then
  chk ((0 ≤ v ∧ v < l.length)) <|
  (complex_size (l.getD v.toNat 0)).bind fun y =>
  some (.inl (max most y, v + 1))
 else
  some (.inr most)) (0, 0)).bind fun (most1 : Int) =>
  chk ((-9223372036854775808 ≤ (most1 + 1 : Int) ∧ (most1 + 1 : Int) ≤ 9223372036854775807) ∧ (0 ≤ most1 + 1 ∧ most1 + 1 ≤ 1099511627776)) <|
  (complex_faces n l).bind fun y1 =>
  (loopM (ρ := List Int) (fun ((out0, v1) : List Int × Int) =>
  if v1 < (y1.length : Int) then
  chk ((0 ≤ v1 ∧ v1 < y1.length)) <|
  (complex_size (y1.getD v1.toNat 0)).bind fun y2 =>
  chk ((0 ≤ y2 ∧ y2 < out0.length) ∧ (-9223372036854775808 ≤ ((out0.getD y2.toNat 0) + 1 : Int) ∧ ((out0.getD y2.toNat 0) + 1 : Int) ≤ 9223372036854775807)) <|
  some (.inl (out0.set y2.toNat ((out0.getD y2.toNat 0) + 1), v1 + 1))
 else
  some (.inr out0)) (List.replicate (most1 + 1).toNat 0, 0)).bind fun (out01 : List Int) =>
  some out01

noncomputable def complex_F (n : Int) (l : List Int) : Option (List Int × Int) :=
  (complex_Check n l).bind fun y =>
  if y ≠ 0 then
  some ([], y)
 else
  (complex_count n l).bind fun y1 =>
  some (y1, 0)

noncomputable def complex_choose (n : Int) (k : Int) : Option (Int) :=
  (loopM (ρ := Int) (fun ((out0, v) : Int × Int) =>
  if v < k then
  chk ((-9223372036854775808 ≤ (n - v : Int) ∧ (n - v : Int) ≤ 9223372036854775807) ∧ (-9223372036854775808 ≤ (out0 * (n - v) : Int) ∧ (out0 * (n - v) : Int) ≤ 9223372036854775807) ∧ v + 1 ≠ 0 ∧ (-9223372036854775808 ≤ (Int.tdiv (out0 * (n - v)) (v + 1) : Int) ∧ (Int.tdiv (out0 * (n - v)) (v + 1) : Int) ≤ 9223372036854775807)) <|
  some (.inl (Int.tdiv (out0 * (n - v)) (v + 1), v + 1))
 else
  some (.inr out0)) (1, 0)).bind fun (out01 : Int) =>
  some out01

noncomputable def complex_H (n : Int) (a1 : List Int) : Option (List Int × Int) :=
  (complex_F n a1).bind fun y =>
  if y.2 ≠ 0 then
  some ([], y.2)
 else
  chk ((-9223372036854775808 ≤ ((y.1.length : Int) - 1 : Int) ∧ ((y.1.length : Int) - 1 : Int) ≤ 9223372036854775807)) <|
  chk ((-9223372036854775808 ≤ (((y.1.length : Int) - 1) + 1 : Int) ∧ (((y.1.length : Int) - 1) + 1 : Int) ≤ 9223372036854775807) ∧ (0 ≤ ((y.1.length : Int) - 1) + 1 ∧ ((y.1.length : Int) - 1) + 1 ≤ 1099511627776)) <|
  (loopM (ρ := List Int) (fun ((v, v1) : List Int × Int) =>
  if v1 < ((List.replicate (((y.1.length : Int) - 1) + 1).toNat 0).length : Int) then
  (loopM (ρ := List Int) (fun ((v3, v4) : List Int × Int) =>
  if v4 < v1 + 1 then
  chk ((0 ≤ v4 ∧ v4 < y.1.length) ∧ (-9223372036854775808 ≤ (((y.1.length : Int) - 1) - v4 : Int) ∧ (((y.1.length : Int) - 1) - v4 : Int) ≤ 9223372036854775807) ∧ (-9223372036854775808 ≤ (v1 - v4 : Int) ∧ (v1 - v4 : Int) ≤ 9223372036854775807)) <|
  (complex_choose (((y.1.length : Int) - 1) - v4) (v1 - v4)).bind fun y1 =>
  chk ((-9223372036854775808 ≤ ((y.1.getD v4.toNat 0) * y1 : Int) ∧ ((y.1.getD v4.toNat 0) * y1 : Int) ≤ 9223372036854775807)) <|
  chk ((-9223372036854775808 ≤ (v1 - v4 : Int) ∧ (v1 - v4 : Int) ≤ 9223372036854775807)) <|
  if Int.tmod (v1 - v4) 2 = 1 then
  chk ((-9223372036854775808 ≤ (-((y.1.getD v4.toNat 0) * y1) : Int) ∧ (-((y.1.getD v4.toNat 0) * y1) : Int) ≤ 9223372036854775807)) <|
  chk ((0 ≤ v1 ∧ v1 < v3.length) ∧ (-9223372036854775808 ≤ ((v3.getD v1.toNat 0) + (-((y.1.getD v4.toNat 0) * y1)) : Int) ∧ ((v3.getD v1.toNat 0) + (-((y.1.getD v4.toNat 0) * y1)) : Int) ≤ 9223372036854775807)) <|
  some (.inl (v3.set v1.toNat ((v3.getD v1.toNat 0) + (-((y.1.getD v4.toNat 0) * y1))), v4 + 1))
 else
  chk ((0 ≤ v1 ∧ v1 < v3.length) ∧ (-9223372036854775808 ≤ ((v3.getD v1.toNat 0) + ((y.1.getD v4.toNat 0) * y1) : Int) ∧ ((v3.getD v1.toNat 0) + ((y.1.getD v4.toNat 0) * y1) : Int) ≤ 9223372036854775807)) <|
  some (.inl (v3.set v1.toNat ((v3.getD v1.toNat 0) + ((y.1.getD v4.toNat 0) * y1)), v4 + 1))
 else
  some (.inr v3)) (v, 0)).bind fun (v5 : List Int) =>
  some (.inl (v5, v1 + 1))
 else
  some (.inr v)) (List.replicate (((y.1.length : Int) - 1) + 1).toNat 0, 0)).bind fun (v2 : List Int) =>
  some (v2, 0)

end Go.SH
