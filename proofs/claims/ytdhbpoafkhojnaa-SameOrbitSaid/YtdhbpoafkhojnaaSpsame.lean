/-
  Functions of the program as plain functions: same_ranks, same_ones, same_restricted, same_Isomorphic_1, same_moved, same_each_1, same_each, same_Isomorphic, same_Minor. By a program of mine (shal.py). Conditions: none.
-/
import Derived.Test.YtdhbpoafkhojnaaAxN
import Derived.Test.YtdhbpoafkhojnaaSpaxioms
set_option linter.unusedVariables false
set_option linter.unusedSimpArgs false
namespace Go.SH
open Go Go.AX

noncomputable def same_ranks (m_0 : Int) (m_1 : List Int) : Option (List Int) :=
  (axioms_Ranks m_0 m_1).bind fun y =>
  some y.1

noncomputable def same_ones (s : Int) : Option (Int) :=
  (loopM (ρ := Int) (fun ((s1, n) : Int × Int) =>
  if s1 ≠ 0 then
  chk ((-9223372036854775808 ≤ (n + 1 : Int) ∧ (n + 1 : Int) ≤ 9223372036854775807)) <|
  chk ((-9223372036854775808 ≤ (s1 - 1 : Int) ∧ (s1 - 1 : Int) ≤ 9223372036854775807)) <|
  some (.inl (iand s1 (s1 - 1), n + 1))
 else
  some (.inr n)) (s, 0)).bind fun (n1 : Int) =>
  some n1

noncomputable def same_restricted (n : Int) (a1 : List Int) (a2 : Int) (a3 : Int) : Option (Int × List Int) :=
  (loopM (ρ := List Int) (fun ((v, v1) : List Int × Int) =>
  if v1 < n then
  chk (0 ≤ v1) <|
  if iand (a2 / 2 ^ v1.toNat) 1 = 1 then
  chk (((v ++ [v1]).length ≤ 8796093022208)) <|
  some (.inl (v ++ [v1], v1 + 1))
 else
  some (.inl (v, v1 + 1))
 else
  some (.inr v)) ([], 0)).bind fun (v2 : List Int) =>
  chk ((0 ≤ ior a2 a3 ∧ ior a2 a3 < a1.length) ∧ (0 ≤ a3 ∧ a3 < a1.length) ∧ (-9223372036854775808 ≤ ((a1.getD (ior a2 a3).toNat 0) - (a1.getD a3.toNat 0) : Int) ∧ ((a1.getD (ior a2 a3).toNat 0) - (a1.getD a3.toNat 0) : Int) ≤ 9223372036854775807)) <|
  chk ((0 ≤ (v2.length : Int) ∧ (v2.length : Int) ≤ 62)) <|
  (loopM (ρ := List Int) (fun ((v3, v4) : List Int × Int) =>
  if v4 < (2 ^ (v2.length : Int).toNat : Int) then
  (loopM (ρ := Int) (fun ((v6, v7) : Int × Int) =>
  if v7 < (v2.length : Int) then
  chk ((0 ≤ v7 ∧ v7 < v2.length)) <|
  chk (0 ≤ v7 ∧ (shlOk .i64 (iand (v4 / 2 ^ v7.toNat) 1) (v2.getD v7.toNat 0) = true)) <|
  some (.inl (ior v6 ((iand (v4 / 2 ^ v7.toNat) 1) * (2 ^ (v2.getD v7.toNat 0).toNat : Int)), v7 + 1))
 else
  some (.inr v6)) (0, 0)).bind fun (v8 : Int) =>
  (same_ones v4).bind fun y =>
  chk (((y = (a1.getD (ior a2 a3).toNat 0) - (a1.getD a3.toNat 0)) → (0 ≤ ior v8 a3 ∧ ior v8 a3 < a1.length)) ∧ ((y = (a1.getD (ior a2 a3).toNat 0) - (a1.getD a3.toNat 0)) → (0 ≤ a3 ∧ a3 < a1.length)) ∧ ((y = (a1.getD (ior a2 a3).toNat 0) - (a1.getD a3.toNat 0)) → (-9223372036854775808 ≤ ((a1.getD (ior v8 a3).toNat 0) - (a1.getD a3.toNat 0) : Int) ∧ ((a1.getD (ior v8 a3).toNat 0) - (a1.getD a3.toNat 0) : Int) ≤ 9223372036854775807))) <|
  if (y = (a1.getD (ior a2 a3).toNat 0) - (a1.getD a3.toNat 0) ∧ (a1.getD (ior v8 a3).toNat 0) - (a1.getD a3.toNat 0) = (a1.getD (ior a2 a3).toNat 0) - (a1.getD a3.toNat 0)) then
  chk (((v3 ++ [v4]).length ≤ 8796093022208)) <|
  some (.inl (v3 ++ [v4], v4 + 1))
 else
  some (.inl (v3, v4 + 1))
 else
  some (.inr v3)) ([], 0)).bind fun (v5 : List Int) =>
  some ((v2.length : Int), v5)

noncomputable def same_Isomorphic_1 (p : List Int) (q0 : List Int) (q1 : Bool) : Option (Bool × List Int × Bool) :=
  chk ((p.length ≤ 17592186044416)) <|
  some (false, p, true)

noncomputable def same_moved (p : List Int) (s : Int) : Option (Int) :=
  (loopM (ρ := Int) (fun ((out0, v) : Int × Int) =>
  if v < (p.length : Int) then
  chk ((0 ≤ v ∧ v < p.length)) <|
  chk (0 ≤ v ∧ (shlOk .i64 (iand (s / 2 ^ v.toNat) 1) (p.getD v.toNat 0) = true)) <|
  some (.inl (ior out0 ((iand (s / 2 ^ v.toNat) 1) * (2 ^ (p.getD v.toNat 0).toNat : Int)), v + 1))
 else
  some (.inr out0)) (0, 0)).bind fun (out01 : Int) =>
  some out01

noncomputable def same_each_1 : Nat → Int → Int → (List Int) → Int → (List Int) → (List Int) → (List Int) → (List Int) → (List Int) → Bool → Option (Bool × List Int × List Int × Bool)
  | 0, _, _, _, _, _, _, _, _, _, _ => none
  | fuel + 1, used, c1_0, c1_1, c3_0, c3_1, c4, c5, q0, q1, q2 =>
  if (q0.length : Int) = c1_0 then
  (same_Isomorphic_1 q0 q1 q2).bind fun y =>
  some (y.1, q0, y.2.1, y.2.2)
 else
  (loopM (ρ := (List Int × List Int × Bool) ⊕ (Bool × List Int × List Int × Bool)) (fun ((q01, q11, q21, v) : List Int × List Int × Bool × Int) =>
  if v < c3_0 then
  chk (0 ≤ v) <|
  if iand (used / 2 ^ v.toNat) 1 = 1 then
  some (.inl (q01, q11, q21, v + 1))
 else
  chk (((q01 ++ [v]).length ≤ 8796093022208)) <|
  chk ((0 ≤ (q0.length : Int) ∧ (q0.length : Int) ≤ 62)) <|
  (loopM (ρ := Bool) (fun ((v1, v2) : Bool × Int) =>
  chk ((shlOk .i64 2 (q0.length : Int) = true)) <|
  if (v2 < 2 * (2 ^ (q0.length : Int).toNat : Int) ∧ v1 = true) then
  chk ((0 ≤ v2 ∧ v2 < c4.length)) <|
  (same_moved (q01 ++ [v]) v2).bind fun y1 =>
  chk ((0 ≤ y1 ∧ y1 < c5.length)) <|
  chk ((-9223372036854775808 ≤ (v2 + 1 : Int) ∧ (v2 + 1 : Int) ≤ 9223372036854775807)) <|
  some (.inl (decide (c4.getD v2.toNat 0 = c5.getD y1.toNat 0), v2 + 1))
 else
  some (.inr v1)) (true, (2 ^ (q0.length : Int).toNat : Int))).bind fun (v3 : Bool) =>
  chk (((¬ (¬ (v3 = true))) → (0 ≤ v ∧ v ≤ 62))) <|
  if ¬ (¬ (v3 = true)) then
  (same_each_1 fuel (ior used (2 ^ v.toNat : Int)) c1_0 c1_1 c3_0 c3_1 c4 c5 (q01 ++ [v]) q11 q21).bind fun y2 =>
  chk ((0 ≤ (q0.length : Int) ∧ (q0.length : Int) ≤ ((y2.2.1).length))) <|
  if ¬ (y2.1 = true) then
  some (.inr (.inr (false, List.take ((q0.length : Int).toNat) y2.2.1, y2.2.2.1, y2.2.2.2)))
 else
  some (.inl (List.take ((q0.length : Int).toNat) y2.2.1, y2.2.2.1, y2.2.2.2, v + 1))
 else
  chk ((0 ≤ (q0.length : Int) ∧ (q0.length : Int) ≤ ((q01 ++ [v]).length))) <|
  if ¬ (True) then
  some (.inr (.inr (false, List.take ((q0.length : Int).toNat) (q01 ++ [v]), q11, q21)))
 else
  some (.inl (List.take ((q0.length : Int).toNat) (q01 ++ [v]), q11, q21, v + 1))
 else
  some (.inr (.inl (q01, q11, q21)))) (q0, q1, q2, 0)).bind fun z => match z with
  | .inl (q02, q12, q22) => (some (true, q02, q12, q22))
  | .inr rr => some rr

noncomputable def same_each (a_0 : Int) (a_1 : List Int) (b_0 : Int) (b_1 : List Int) (q0 : List Int) (q1 : Bool) : Option (List Int × Bool) :=
  (same_ranks a_0 a_1).bind fun y =>
  (same_ranks b_0 b_1).bind fun y1 =>
  (same_each_1 12 0 a_0 a_1 b_0 b_1 y y1 [] q0 q1).bind fun y2 =>
  some (y2.2.2.1, y2.2.2.2)

noncomputable def same_Isomorphic (a_0 : Int) (a_1 : List Int) (b_0 : Int) (b_1 : List Int) : Option (List Int × Int) :=
  (axioms_Check a_0 a_1).bind fun y =>
  (axioms_Check b_0 b_1).bind fun y1 =>
  if y ≠ 0 then
  some ([], y)
 else
  if y1 ≠ 0 then
  some ([], y1)
 else
  joinM (fun ((out0, found) : List Int × Bool) =>
  if ¬ (found = true) then
  some ([], 5)
 else
  some (out0, 0)) fun j =>
  if (a_0 = b_0 ∧ (a_1.length : Int) = (b_1.length : Int)) then
  (same_each a_0 a_1 b_0 b_1 [] false).bind fun y2 =>
  j (y2.1, y2.2)
 else
  j ([], false)

noncomputable def same_Minor (m_0 : Int) (m_1 : List Int) (a1_0 : Int) (a1_1 : List Int) : Option (Int × Int × Int) :=
  (axioms_Check m_0 m_1).bind fun y =>
  (axioms_Check a1_0 a1_1).bind fun y1 =>
  if y ≠ 0 then
  some (0, 0, y)
 else
  if y1 ≠ 0 then
  some (0, 0, y1)
 else
  (same_ranks m_0 m_1).bind fun y2 =>
  (same_ranks a1_0 a1_1).bind fun y3 =>
  chk ((0 ≤ a1_0 ∧ a1_0 ≤ 62)) <|
  chk ((-9223372036854775808 ≤ ((2 ^ a1_0.toNat : Int) - 1 : Int) ∧ ((2 ^ a1_0.toNat : Int) - 1 : Int) ≤ 9223372036854775807)) <|
  chk ((0 ≤ (2 ^ a1_0.toNat : Int) - 1 ∧ (2 ^ a1_0.toNat : Int) - 1 < y3.length)) <|
  chk ((0 ≤ m_0 ∧ m_0 ≤ 62)) <|
  (loopM (ρ := Unit ⊕ (Int × Int × Int)) (fun (v : Int) =>
  if v < (2 ^ m_0.toNat : Int) then
  chk ((0 ≤ m_0 ∧ m_0 ≤ 62)) <|
  (loopM (ρ := Unit ⊕ (Int × Int × Int)) (fun (v1 : Int) =>
  if v1 < (2 ^ m_0.toNat : Int) then
  chk ((0 ≤ m_0 ∧ m_0 ≤ 62) ∧ (-9223372036854775808 ≤ ((2 ^ m_0.toNat : Int) - 1 : Int) ∧ ((2 ^ m_0.toNat : Int) - 1 : Int) ≤ 9223372036854775807)) <|
  (if ¬ (iand v1 v ≠ 0) then same_ones (iandnot ((2 ^ m_0.toNat : Int) - 1) (ior v v1)) else some 0).bind fun y4 =>
  chk (((¬ ((iand v1 v ≠ 0 ∨ y4 ≠ a1_0))) → (0 ≤ ior (iandnot ((2 ^ m_0.toNat : Int) - 1) (ior v v1)) v1 ∧ ior (iandnot ((2 ^ m_0.toNat : Int) - 1) (ior v v1)) v1 < y2.length)) ∧ ((¬ ((iand v1 v ≠ 0 ∨ y4 ≠ a1_0))) → (0 ≤ v1 ∧ v1 < y2.length)) ∧ ((¬ ((iand v1 v ≠ 0 ∨ y4 ≠ a1_0))) → (-9223372036854775808 ≤ ((y2.getD (ior (iandnot ((2 ^ m_0.toNat : Int) - 1) (ior v v1)) v1).toNat 0) - (y2.getD v1.toNat 0) : Int) ∧ ((y2.getD (ior (iandnot ((2 ^ m_0.toNat : Int) - 1) (ior v v1)) v1).toNat 0) - (y2.getD v1.toNat 0) : Int) ≤ 9223372036854775807))) <|
  if ((iand v1 v ≠ 0 ∨ y4 ≠ a1_0) ∨ (y2.getD (ior (iandnot ((2 ^ m_0.toNat : Int) - 1) (ior v v1)) v1).toNat 0) - (y2.getD v1.toNat 0) ≠ y3.getD ((2 ^ a1_0.toNat : Int) - 1).toNat 0) then
  some (.inl (v1 + 1))
 else
  (same_restricted m_0 y2 (iandnot ((2 ^ m_0.toNat : Int) - 1) (ior v v1)) v1).bind fun y5 =>
  if (y5.2.length : Int) ≠ (a1_1.length : Int) then
  some (.inl (v1 + 1))
 else
  (same_Isomorphic y5.1 y5.2 a1_0 a1_1).bind fun y6 =>
  if y6.2 = 0 then
  some (.inr (.inr (v, v1, 0)))
 else
  some (.inl (v1 + 1))
 else
  some (.inr (.inl ()))) 0).bind fun z => match z with
  | .inl _ => (some (.inl (v + 1)))
  | .inr rr => some (.inr (.inr rr))
 else
  some (.inr (.inl ()))) 0).bind fun z => match z with
  | .inl _ => (some (0, 0, 5))
  | .inr rr => some rr

end Go.SH
