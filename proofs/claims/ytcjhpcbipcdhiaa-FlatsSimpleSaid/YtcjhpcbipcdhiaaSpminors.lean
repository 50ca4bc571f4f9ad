/-
  Functions of the program as plain functions: minors_made, minors_Dual, minors_Components, minors_Classes, minors_right, minors_size, minors_kept, minors_pressed, minors_Delete, minors_Simple, minors_Sum, minors_Contract. By a program of mine (shal.py). Conditions: none.
-/
import Derived.Test.YtcjhpcbipcdhiaaAxN
import Derived.Test.YtcjhpcbipcdhiaaAxP
import Derived.Test.YtcjhpcbipcdhiaaSpaxioms
import Derived.Test.YtcjhpcbipcdhiaaSpbits
import Derived.Test.YtcjhpcbipcdhiaaSpsets
set_option linter.unusedVariables false
set_option linter.unusedSimpArgs false
namespace Go.SH
open Go Go.AX

noncomputable def minors_made (n : Int) (l : List Int) : Option (Int × List Int) :=
  chk ((l.length < 4611686018427387904)) <|
  chk (((uniqL (sortL l)).length ≤ 8796093022208)) <|
  some (n, uniqL (sortL l))

noncomputable def minors_Dual (m_0 : Int) (m_1 : List Int) : Option (Int × List Int × Int) :=
  (axioms_Check m_0 m_1).bind fun y =>
  if y ≠ 0 then
  some (0, [], y)
 else
  (loopM (ρ := List Int) (fun ((l, v) : List Int × Int) =>
  if v < (m_1.length : Int) then
  chk ((0 ≤ v ∧ v < m_1.length)) <|
  chk ((0 ≤ m_0 ∧ m_0 ≤ 62) ∧ (-9223372036854775808 ≤ ((2 ^ m_0.toNat : Int) - 1 : Int) ∧ ((2 ^ m_0.toNat : Int) - 1 : Int) ≤ 9223372036854775807) ∧ ((l ++ [iandnot ((2 ^ m_0.toNat : Int) - 1) (m_1.getD v.toNat 0)]).length ≤ 8796093022208)) <|
  some (.inl (l ++ [iandnot ((2 ^ m_0.toNat : Int) - 1) (m_1.getD v.toNat 0)], v + 1))
 else
  some (.inr l)) ([], 0)).bind fun (l1 : List Int) =>
  (minors_made m_0 l1).bind fun y1 =>
  some (y1.1, y1.2, 0)

noncomputable def minors_Components (m_0 : Int) (m_1 : List Int) : Option (List Int × Int) :=
  (axioms_Circuits m_0 m_1).bind fun y =>
  if y.2 ≠ 0 then
  some ([], y.2)
 else
  (loopM (ρ := List Int) (fun ((out0, v) : List Int × Int) =>
  if v < m_0 then
  chk ((0 ≤ v ∧ v ≤ 62)) <|
  (loopM (ρ := Int) (fun ((s, v1) : Int × Int) =>
  if v1 < m_0 then
  (loopM (ρ := Int) (fun ((s2, v2) : Int × Int) =>
  if v2 < (y.1.length : Int) then
  chk ((0 ≤ v2 ∧ v2 < y.1.length)) <|
  if iand (y.1.getD v2.toNat 0) s2 ≠ 0 then
  some (.inl (ior s2 (y.1.getD v2.toNat 0), v2 + 1))
 else
  some (.inl (s2, v2 + 1))
 else
  some (.inr s2)) (s, 0)).bind fun (s3 : Int) =>
  some (.inl (s3, v1 + 1))
 else
  some (.inr s)) ((2 ^ v.toNat : Int), 0)).bind fun (s1 : Int) =>
  chk (((out0 ++ [s1]).length ≤ 8796093022208)) <|
  some (.inl (out0 ++ [s1], v + 1))
 else
  some (.inr out0)) ([], 0)).bind fun (out01 : List Int) =>
  chk ((out01.length < 4611686018427387904)) <|
  chk (((uniqL (sortL out01)).length ≤ 8796093022208)) <|
  some (uniqL (sortL out01), 0)

noncomputable def minors_Classes (m_0 : Int) (m_1 : List Int) : Option (List Int × Int) :=
  (axioms_Ranks m_0 m_1).bind fun y =>
  if y.2 ≠ 0 then
  some ([], y.2)
 else
  (loopM (ρ := List Int) (fun ((v, v1, v2) : List Int × Int × Int) =>
  if v2 < m_0 then
  chk (0 ≤ v2) <|
  if iand (v1 / 2 ^ v2.toNat) 1 = 1 then
  some (.inl (v, v1, v2 + 1))
 else
  chk ((0 ≤ v2 ∧ v2 ≤ 62)) <|
  (loopM (ρ := Int) (fun ((v4, v5) : Int × Int) =>
  if v5 < m_0 then
  chk ((0 ≤ v5 ∧ v5 ≤ 62) ∧ (0 ≤ (2 ^ v5.toNat : Int) ∧ (2 ^ v5.toNat : Int) < y.1.length) ∧ (0 ≤ v2 ∧ v2 ≤ 62) ∧ (0 ≤ (2 ^ v2.toNat : Int) ∧ (2 ^ v2.toNat : Int) < y.1.length) ∧ ((y.1.getD (2 ^ v5.toNat : Int).toNat 0 = y.1.getD (2 ^ v2.toNat : Int).toNat 0) → (0 ≤ v2 ∧ v2 ≤ 62)) ∧ ((y.1.getD (2 ^ v5.toNat : Int).toNat 0 = y.1.getD (2 ^ v2.toNat : Int).toNat 0) → (0 ≤ v5 ∧ v5 ≤ 62)) ∧ ((y.1.getD (2 ^ v5.toNat : Int).toNat 0 = y.1.getD (2 ^ v2.toNat : Int).toNat 0) → (0 ≤ ior (2 ^ v2.toNat : Int) (2 ^ v5.toNat : Int) ∧ ior (2 ^ v2.toNat : Int) (2 ^ v5.toNat : Int) < y.1.length)) ∧ ((y.1.getD (2 ^ v5.toNat : Int).toNat 0 = y.1.getD (2 ^ v2.toNat : Int).toNat 0) → (0 ≤ (2 ^ v2.toNat : Int) ∧ (2 ^ v2.toNat : Int) < y.1.length))) <|
  if (y.1.getD (2 ^ v5.toNat : Int).toNat 0 = y.1.getD (2 ^ v2.toNat : Int).toNat 0 ∧ y.1.getD (ior (2 ^ v2.toNat : Int) (2 ^ v5.toNat : Int)).toNat 0 = y.1.getD (2 ^ v2.toNat : Int).toNat 0) then
  chk ((0 ≤ v5 ∧ v5 ≤ 62)) <|
  some (.inl (ior v4 (2 ^ v5.toNat : Int), v5 + 1))
 else
  some (.inl (v4, v5 + 1))
 else
  some (.inr v4)) ((2 ^ v2.toNat : Int), v2 + 1)).bind fun (v6 : Int) =>
  chk (((v ++ [v6]).length ≤ 8796093022208)) <|
  some (.inl (v ++ [v6], ior v1 v6, v2 + 1))
 else
  some (.inr v)) ([], 0, 0)).bind fun (v3 : List Int) =>
  chk ((v3.length < 4611686018427387904)) <|
  some (sortL v3, 0)

noncomputable def minors_right (m_0 : Int) (m_1 : List Int) (s : Int) : Option (Int) :=
  (axioms_Check m_0 m_1).bind fun y =>
  if y ≠ 0 then
  some y
 else
  (sets_Check m_0 s).bind fun y1 =>
  some y1

noncomputable def minors_size (s : Int) : Option (Int) :=
  chk ((0 ≤ (s : Int) ∧ (s : Int) ≤ 18446744073709551615)) <|
  (bits_OnesCount s).bind fun y =>
  some y

noncomputable def minors_kept (m_0 : Int) (m_1 : List Int) (s : Int) (most : Bool) : Option (List Int) :=
  (loopM (ρ := List Int) (fun ((best, out0, v) : Int × List Int × Int) =>
  if v < (m_1.length : Int) then
  chk ((0 ≤ v ∧ v < m_1.length)) <|
  (minors_size (iand (m_1.getD v.toNat 0) s)).bind fun y =>
  joinM (fun (k : Int) =>
  joinM (fun ((best1, out02) : Int × List Int) =>
  if k = best1 then
  chk (((out02 ++ [m_1.getD v.toNat 0]).length ≤ 8796093022208)) <|
  some (.inl (best1, out02 ++ [m_1.getD v.toNat 0], v + 1))
 else
  some (.inl (best1, out02, v + 1))) fun j1 =>
  if best < k then
  j1 (k, [])
 else
  j1 (best, out0)) fun j =>
  if ¬ (most = true) then
  chk ((-9223372036854775808 ≤ (m_0 - y : Int) ∧ (m_0 - y : Int) ≤ 9223372036854775807)) <|
  j (m_0 - y)
 else
  j y
 else
  some (.inr out0)) ((-1), [], 0)).bind fun (out01 : List Int) =>
  some out01

noncomputable def minors_pressed (n : Int) (s : Int) (gone : Int) : Option (Int) :=
  (loopM (ρ := Int) (fun ((out0, k, v) : Int × Int × Int) =>
  if v < n then
  chk (0 ≤ v) <|
  if iand (gone / 2 ^ v.toNat) 1 = 1 then
  some (.inl (out0, k, v + 1))
 else
  chk (0 ≤ v ∧ (shlOk .i64 (iand (s / 2 ^ v.toNat) 1) k = true)) <|
  chk ((-9223372036854775808 ≤ (k + 1 : Int) ∧ (k + 1 : Int) ≤ 9223372036854775807)) <|
  some (.inl (ior out0 ((iand (s / 2 ^ v.toNat) 1) * (2 ^ k.toNat : Int)), k + 1, v + 1))
 else
  some (.inr out0)) (0, 0, 0)).bind fun (out01 : Int) =>
  some out01

noncomputable def minors_Delete (m_0 : Int) (m_1 : List Int) (s : Int) : Option (Int × List Int × Int) :=
  (minors_right m_0 m_1 s).bind fun y =>
  if y ≠ 0 then
  some (0, [], y)
 else
  (minors_kept m_0 m_1 s false).bind fun y1 =>
  (loopM (ρ := List Int) (fun ((l, v) : List Int × Int) =>
  if v < (y1.length : Int) then
  chk ((0 ≤ v ∧ v < y1.length)) <|
  (minors_pressed m_0 (y1.getD v.toNat 0) s).bind fun y2 =>
  chk (((l ++ [y2]).length ≤ 8796093022208)) <|
  some (.inl (l ++ [y2], v + 1))
 else
  some (.inr l)) ([], 0)).bind fun (l1 : List Int) =>
  (minors_size s).bind fun y3 =>
  chk ((-9223372036854775808 ≤ (m_0 - y3 : Int) ∧ (m_0 - y3 : Int) ≤ 9223372036854775807)) <|
  (minors_made (m_0 - y3) l1).bind fun y4 =>
  some (y4.1, y4.2, 0)

noncomputable def minors_Simple (m_0 : Int) (m_1 : List Int) : Option (Int × List Int × Int) :=
  (minors_Classes m_0 m_1).bind fun y =>
  if y.2 ≠ 0 then
  some (0, [], y.2)
 else
  (axioms_Ranks m_0 m_1).bind fun y1 =>
  (loopM (ρ := Int) (fun ((gone, v) : Int × Int) =>
  if v < (y.1.length : Int) then
  chk ((0 ≤ v ∧ v < y.1.length)) <|
  chk ((0 ≤ y.1.getD v.toNat 0 ∧ y.1.getD v.toNat 0 < y1.1.length)) <|
  if 0 < y1.1.getD (y.1.getD v.toNat 0).toNat 0 then
  chk ((-9223372036854775808 ≤ (-(y.1.getD v.toNat 0) : Int) ∧ (-(y.1.getD v.toNat 0) : Int) ≤ 9223372036854775807)) <|
  some (.inl (iandnot (ior gone (y.1.getD v.toNat 0)) (iand (y.1.getD v.toNat 0) (-(y.1.getD v.toNat 0))), v + 1))
 else
  some (.inl (ior gone (y.1.getD v.toNat 0), v + 1))
 else
  some (.inr gone)) (0, 0)).bind fun (gone1 : Int) =>
  (minors_Delete m_0 m_1 gone1).bind fun y2 =>
  some (y2.1, y2.2.1, y2.2.2)

noncomputable def minors_Sum (a_0 : Int) (a_1 : List Int) (a1_0 : Int) (a1_1 : List Int) : Option (Int × List Int × Int) :=
  (axioms_Check a_0 a_1).bind fun y =>
  (axioms_Check a1_0 a1_1).bind fun y1 =>
  if y ≠ 0 then
  some (0, [], y)
 else
  if y1 ≠ 0 then
  some (0, [], y1)
 else
  chk ((-9223372036854775808 ≤ (a_0 + a1_0 : Int) ∧ (a_0 + a1_0 : Int) ≤ 9223372036854775807)) <|
  if 8 < a_0 + a1_0 then
  some (0, [], 2)
 else
  (loopM (ρ := List Int) (fun ((v, v1) : List Int × Int) =>
  if v1 < (a_1.length : Int) then
  chk ((0 ≤ v1 ∧ v1 < a_1.length)) <|
  (loopM (ρ := List Int) (fun ((v3, v4) : List Int × Int) =>
  if v4 < (a1_1.length : Int) then
  chk ((0 ≤ v4 ∧ v4 < a1_1.length)) <|
  chk ((shlOk .i64 (a1_1.getD v4.toNat 0) a_0 = true) ∧ ((v3 ++ [ior (a_1.getD v1.toNat 0) ((a1_1.getD v4.toNat 0) * (2 ^ a_0.toNat : Int))]).length ≤ 8796093022208)) <|
  some (.inl (v3 ++ [ior (a_1.getD v1.toNat 0) ((a1_1.getD v4.toNat 0) * (2 ^ a_0.toNat : Int))], v4 + 1))
 else
  some (.inr v3)) (v, 0)).bind fun (v5 : List Int) =>
  some (.inl (v5, v1 + 1))
 else
  some (.inr v)) ([], 0)).bind fun (v2 : List Int) =>
  chk ((-9223372036854775808 ≤ (a_0 + a1_0 : Int) ∧ (a_0 + a1_0 : Int) ≤ 9223372036854775807)) <|
  (minors_made (a_0 + a1_0) v2).bind fun y2 =>
  some (y2.1, y2.2, 0)

noncomputable def minors_Contract (m_0 : Int) (m_1 : List Int) (s : Int) : Option (Int × List Int × Int) :=
  (minors_right m_0 m_1 s).bind fun y =>
  if y ≠ 0 then
  some (0, [], y)
 else
  (minors_kept m_0 m_1 s true).bind fun y1 =>
  (loopM (ρ := List Int) (fun ((l, v) : List Int × Int) =>
  if v < (y1.length : Int) then
  chk ((0 ≤ v ∧ v < y1.length)) <|
  (minors_pressed m_0 (y1.getD v.toNat 0) s).bind fun y2 =>
  chk (((l ++ [y2]).length ≤ 8796093022208)) <|
  some (.inl (l ++ [y2], v + 1))
 else
  some (.inr l)) ([], 0)).bind fun (l1 : List Int) =>
  (minors_size s).bind fun y3 =>
  chk ((-9223372036854775808 ≤ (m_0 - y3 : Int) ∧ (m_0 - y3 : Int) ≤ 9223372036854775807)) <|
  (minors_made (m_0 - y3) l1).bind fun y4 =>
  some (y4.1, y4.2, 0)

end Go.SH
