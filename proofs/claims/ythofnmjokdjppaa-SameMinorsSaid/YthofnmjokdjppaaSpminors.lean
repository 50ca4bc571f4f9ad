/-
  Functions of the program as plain functions: minors_right, minors_size, minors_kept, minors_pressed, minors_made, minors_Delete, minors_Contract, minors_Dual. By a program of mine (shal.py). Conditions: none.
-/
import Derived.Test.YthofnmjokdjppaaAxN
import Derived.Test.YthofnmjokdjppaaAxP
import Derived.Test.YthofnmjokdjppaaSpaxioms
import Derived.Test.YthofnmjokdjppaaSpbits
import Derived.Test.YthofnmjokdjppaaSpsets
set_option linter.unusedVariables false
set_option linter.unusedSimpArgs false
namespace Go.SH
open Go Go.AX

noncomputable def minors_right (m_0 : Int) (m_1 : List Int) (s : Int) : Option (Int) :=
  (axioms_Check m_0 m_1).bind fun y =>
  if y ≠ 0 then
  some y
 else
  (sets_Check m_0 s).bind fun y1 =>
  some y1

noncomputable def minors_size (s : Int) : Option (Int) :=
  chk ((0 ≤ (s : Int) ∧ (s : Int) ≤ 18446744073709551615)) <|
  (bits_OnesCount s).bind fun y =>
  some y

noncomputable def minors_kept (m_0 : Int) (m_1 : List Int) (s : Int) (most : Bool) : Option (List Int) :=
  (loopM (ρ := List Int) (fun ((best, out0, v) : Int × List Int × Int) =>
  if v < (m_1.length : Int) then
  chk ((0 ≤ v ∧ v < m_1.length)) <|
  (minors_size (iand (m_1.getD v.toNat 0) s)).bind fun y =>
  joinM (fun (k : Int) =>
  joinM (fun ((best1, out02) : Int × List Int) =>
  if k = best1 then
  chk (((out02 ++ [m_1.getD v.toNat 0]).length ≤ 8796093022208)) <|
  some (.inl (best1, out02 ++ [m_1.getD v.toNat 0], v + 1))
 else
  some (.inl (best1, out02, v + 1))) fun j1 =>
  if best < k then
  j1 (k, [])
 else
  j1 (best, out0)) fun j =>
  if ¬ (most = true) then
  chk ((-9223372036854775808 ≤ (m_0 - y : Int) ∧ (m_0 - y : Int) ≤ 9223372036854775807)) <|
  j (m_0 - y)
 else
  j y
 else
  some (.inr out0)) ((-1), [], 0)).bind fun (out01 : List Int) =>
  some out01

noncomputable def minors_pressed (n : Int) (s : Int) (gone : Int) : Option (Int) :=
  (loopM (ρ := Int) (fun ((out0, k, v) : Int × Int × Int) =>
  if v < n then
  chk (0 ≤ v) <|
  if iand (gone / 2 ^ v.toNat) 1 = 1 then
  some (.inl (out0, k, v + 1))
 else
  chk (0 ≤ v ∧ (shlOk .i64 (iand (s / 2 ^ v.toNat) 1) k = true)) <|
  chk ((-9223372036854775808 ≤ (k + 1 : Int) ∧ (k + 1 : Int) ≤ 9223372036854775807)) <|
  some (.inl (ior out0 ((iand (s / 2 ^ v.toNat) 1) * (2 ^ k.toNat : Int)), k + 1, v + 1))
 else
  some (.inr out0)) (0, 0, 0)).bind fun (out01 : Int) =>
  some out01

noncomputable def minors_made (n : Int) (l : List Int) : Option (Int × List Int) :=
  chk ((l.length < 4611686018427387904)) <|
  chk (((uniqL (sortL l)).length ≤ 8796093022208)) <|
  some (n, uniqL (sortL l))

noncomputable def minors_Delete (m_0 : Int) (m_1 : List Int) (s : Int) : Option (Int × List Int × Int) :=
  (minors_right m_0 m_1 s).bind fun y =>
  if y ≠ 0 then
  some (0, [], y)
 else
  (minors_kept m_0 m_1 s false).bind fun y1 =>
  (loopM (ρ := List Int) (fun ((l, v) : List Int × Int) =>
  if v < (y1.length : Int) then
  chk ((0 ≤ v ∧ v < y1.length)) <|
  (minors_pressed m_0 (y1.getD v.toNat 0) s).bind fun y2 =>
  chk (((l ++ [y2]).length ≤ 8796093022208)) <|
  some (.inl (l ++ [y2], v + 1))
 else
  some (.inr l)) ([], 0)).bind fun (l1 : List Int) =>
  (minors_size s).bind fun y3 =>
  chk ((-9223372036854775808 ≤ (m_0 - y3 : Int) ∧ (m_0 - y3 : Int) ≤ 9223372036854775807)) <|
  (minors_made (m_0 - y3) l1).bind fun y4 =>
  some (y4.1, y4.2, 0)

noncomputable def minors_Contract (m_0 : Int) (m_1 : List Int) (s : Int) : Option (Int × List Int × Int) :=
  (minors_right m_0 m_1 s).bind fun y =>
  if y ≠ 0 then
  some (0, [], y)
 else
  (minors_kept m_0 m_1 s true).bind fun y1 =>
  (loopM (ρ := List Int) (fun ((l, v) : List Int × Int) =>
  if v < (y1.length : Int) then
  chk ((0 ≤ v ∧ v < y1.length)) <|
  (minors_pressed m_0 (y1.getD v.toNat 0) s).bind fun y2 =>
  chk (((l ++ [y2]).length ≤ 8796093022208)) <|
  some (.inl (l ++ [y2], v + 1))
 else
  some (.inr l)) ([], 0)).bind fun (l1 : List Int) =>
  (minors_size s).bind fun y3 =>
  chk ((-9223372036854775808 ≤ (m_0 - y3 : Int) ∧ (m_0 - y3 : Int) ≤ 9223372036854775807)) <|
  (minors_made (m_0 - y3) l1).bind fun y4 =>
  some (y4.1, y4.2, 0)

noncomputable def minors_Dual (m_0 : Int) (m_1 : List Int) : Option (Int × List Int × Int) :=
  (axioms_Check m_0 m_1).bind fun y =>
  if y ≠ 0 then
  some (0, [], y)
 else
  (loopM (ρ := List Int) (fun ((l, v) : List Int × Int) =>
  if v < (m_1.length : Int) then
  chk ((0 ≤ v ∧ v < m_1.length)) <|
  chk ((0 ≤ m_0 ∧ m_0 ≤ 62) ∧ (-9223372036854775808 ≤ ((2 ^ m_0.toNat : Int) - 1 : Int) ∧ ((2 ^ m_0.toNat : Int) - 1 : Int) ≤ 9223372036854775807) ∧ ((l ++ [iandnot ((2 ^ m_0.toNat : Int) - 1) (m_1.getD v.toNat 0)]).length ≤ 8796093022208)) <|
  some (.inl (l ++ [iandnot ((2 ^ m_0.toNat : Int) - 1) (m_1.getD v.toNat 0)], v + 1))
 else
  some (.inr l)) ([], 0)).bind fun (l1 : List Int) =>
  (minors_made m_0 l1).bind fun y1 =>
  some (y1.1, y1.2, 0)

end Go.SH
