/-
  Functions of the program as plain functions: same_Group_1, same_each_1_v2, same_each_v2, same_Group. By a program of mine (shal.py). Conditions: none.
-/
import Derived.Test.YtdhbpoafkhojnaaAxN
import Derived.Test.YtdhbpoafkhojnaaSpaxioms
import Derived.Test.YtdhbpoafkhojnaaSpsame
set_option linter.unusedVariables false
set_option linter.unusedSimpArgs false
namespace Go.SH
open Go Go.AX

noncomputable def same_Group_1 (a0 : List Int) (q0 : Int) : Option (Bool × Int) :=
  chk ((-9223372036854775808 ≤ (q0 + 1 : Int) ∧ (q0 + 1 : Int) ≤ 9223372036854775807)) <|
  some (true, q0 + 1)

noncomputable def same_each_1_v2 : Nat → Int → Int → (List Int) → Int → (List Int) → (List Int) → (List Int) → (List Int) → Int → Option (Bool × List Int × Int)
  | 0, _, _, _, _, _, _, _, _, _ => none
  | fuel + 1, used, c1_0, c1_1, c3_0, c3_1, c4, c5, q0, q1 =>
  if (q0.length : Int) = c1_0 then
  (same_Group_1 q0 q1).bind fun y =>
  some (y.1, q0, y.2)
 else
  (loopM (ρ := (List Int × Int) ⊕ (Bool × List Int × Int)) (fun ((q01, q11, v) : List Int × Int × Int) =>
  if v < c3_0 then
  chk (0 ≤ v) <|
  if iand (used / 2 ^ v.toNat) 1 = 1 then
  some (.inl (q01, q11, v + 1))
 else
  chk (((q01 ++ [v]).length ≤ 8796093022208)) <|
  chk ((0 ≤ (q0.length : Int) ∧ (q0.length : Int) ≤ 62)) <|
  (loopM (ρ := Bool) (fun ((v1, v2) : Bool × Int) =>
  chk ((shlOk .i64 2 (q0.length : Int) = true)) <|
  if (v2 < 2 * (2 ^ (q0.length : Int).toNat : Int) ∧ v1 = true) then
  chk ((0 ≤ v2 ∧ v2 < c4.length)) <|
  (same_moved (q01 ++ [v]) v2).bind fun y1 =>
  chk ((0 ≤ y1 ∧ y1 < c5.length)) <|
  chk ((-9223372036854775808 ≤ (v2 + 1 : Int) ∧ (v2 + 1 : Int) ≤ 9223372036854775807)) <|
  some (.inl (decide (c4.getD v2.toNat 0 = c5.getD y1.toNat 0), v2 + 1))
 else
  some (.inr v1)) (true, (2 ^ (q0.length : Int).toNat : Int))).bind fun (v3 : Bool) =>
  chk (((¬ (¬ (v3 = true))) → (0 ≤ v ∧ v ≤ 62))) <|
  if ¬ (¬ (v3 = true)) then
  (same_each_1_v2 fuel (ior used (2 ^ v.toNat : Int)) c1_0 c1_1 c3_0 c3_1 c4 c5 (q01 ++ [v]) q11).bind fun y2 =>
  chk ((0 ≤ (q0.length : Int) ∧ (q0.length : Int) ≤ ((y2.2.1).length))) <|
  if ¬ (y2.1 = true) then
  some (.inr (.inr (false, List.take ((q0.length : Int).toNat) y2.2.1, y2.2.2)))
 else
  some (.inl (List.take ((q0.length : Int).toNat) y2.2.1, y2.2.2, v + 1))
 else
  chk ((0 ≤ (q0.length : Int) ∧ (q0.length : Int) ≤ ((q01 ++ [v]).length))) <|
  if ¬ (True) then
  some (.inr (.inr (false, List.take ((q0.length : Int).toNat) (q01 ++ [v]), q11)))
 else
  some (.inl (List.take ((q0.length : Int).toNat) (q01 ++ [v]), q11, v + 1))
 else
  some (.inr (.inl (q01, q11)))) (q0, q1, 0)).bind fun z => match z with
  | .inl (q02, q12) => (some (true, q02, q12))
  | .inr rr => some rr

noncomputable def same_each_v2 (a_0 : Int) (a_1 : List Int) (b_0 : Int) (b_1 : List Int) (q0 : Int) : Option (Int) :=
  (same_ranks a_0 a_1).bind fun y =>
  (same_ranks b_0 b_1).bind fun y1 =>
  (same_each_1_v2 12 0 a_0 a_1 b_0 b_1 y y1 [] q0).bind fun y2 =>
  some y2.2.2

noncomputable def same_Group (m_0 : Int) (m_1 : List Int) : Option (Int × Int) :=
  (axioms_Check m_0 m_1).bind fun y =>
  if y ≠ 0 then
  some (0, y)
 else
  (same_each_v2 m_0 m_1 m_0 m_1 0).bind fun y1 =>
  some (y1, 0)

end Go.SH
