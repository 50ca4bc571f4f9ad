/-
  Functions of the program as plain functions: join_split, join_Cover, join_Dense. By a program of mine (shal.py). Conditions: none.
-/
import Derived.Test.YtkjfccdfmjnkbaaAxN
import Derived.Test.YtkjfccdfmjnkbaaAxOp
import Derived.Test.YtkjfccdfmjnkbaaAxOp
import Derived.Test.YtkjfccdfmjnkbaaSpaxioms
import Derived.Test.YtkjfccdfmjnkbaaSpjoin
set_option linter.unusedVariables false
set_option linter.unusedSimpArgs false
namespace Go.SH
open Go Go.AX

noncomputable def join_split : Nat → (List Int) → Int → Int → Option (Option (List Int))
  | 0, _, _, _ => none
  | fuel + 1, r1, s, k =>
  if s = 0 then
  some (some [])
 else
  if k = 0 then
  some none
 else
  chk ((-9223372036854775808 ≤ (-s : Int) ∧ (-s : Int) ≤ 9223372036854775807)) <|
  (loopM (ρ := Unit ⊕ (Option (List Int))) (fun (t : Int) =>
  if t ≤ s then
  chk (((iandnot t s = 0 ∧ iand t (iand s (-s)) ≠ 0) → (0 ≤ t ∧ t < r1.length))) <|
  (if (iandnot t s = 0 ∧ iand t (iand s (-s)) ≠ 0) then join_size t else some 0).bind fun y =>
  if ((iandnot t s = 0 ∧ iand t (iand s (-s)) ≠ 0) ∧ r1.getD t.toNat 0 = y) then
  chk ((-9223372036854775808 ≤ (k - 1 : Int) ∧ (k - 1 : Int) ≤ 9223372036854775807)) <|
  (join_split fuel r1 (iandnot s t) (k - 1)).bind fun y1 =>
  optM y1
  (chk ((-9223372036854775808 ≤ (t + 1 : Int) ∧ (t + 1 : Int) ≤ 9223372036854775807)) <|
  some (.inl (t + 1)))
  (fun y1 =>
  chk ((([t] ++ y1).length ≤ 8796093022208)) <|
  some (.inr (.inr (some ([t] ++ y1)))))
 else
  chk ((-9223372036854775808 ≤ (t + 1 : Int) ∧ (t + 1 : Int) ≤ 9223372036854775807)) <|
  some (.inl (t + 1))
 else
  some (.inr (.inl ()))) (iand s (-s))).bind fun z => match z with
  | .inl _ => (some none)
  | .inr rr => some rr

noncomputable def join_Cover (m_0 : Int) (m_1 : List Int) : Option (List Int × Int) :=
  (axioms_Check m_0 m_1).bind fun y =>
  if y ≠ 0 then
  some ([], y)
 else
  (join_ranks m_0 m_1).bind fun y1 =>
  (loopM (ρ := Unit ⊕ (List Int × Int)) (fun (v : Int) =>
  if v < m_0 then
  chk ((0 ≤ v ∧ v ≤ 62) ∧ (0 ≤ (2 ^ v.toNat : Int) ∧ (2 ^ v.toNat : Int) < y1.length)) <|
  if y1.getD (2 ^ v.toNat : Int).toNat 0 = 0 then
  some (.inr (.inr ([], 5)))
 else
  some (.inl (v + 1))
 else
  some (.inr (.inl ()))) 0).bind fun z => match z with
  | .inl _ => ((loopM (ρ := List Int × Int) (fun (k : Int) =>
  chk ((0 ≤ m_0 ∧ m_0 ≤ 62) ∧ (-9223372036854775808 ≤ ((2 ^ m_0.toNat : Int) - 1 : Int) ∧ ((2 ^ m_0.toNat : Int) - 1 : Int) ≤ 9223372036854775807)) <|
  (join_split 12 y1 ((2 ^ m_0.toNat : Int) - 1) k).bind fun y2 =>
  optM y2
  (chk ((-9223372036854775808 ≤ (k + 1 : Int) ∧ (k + 1 : Int) ≤ 9223372036854775807)) <|
  some (.inl (k + 1)))
  (fun y2 =>
  some (.inr (y2, 0)))) 0).bind fun (rr : List Int × Int) => some rr)
  | .inr rr => some rr

noncomputable def join_Dense (m_0 : Int) (m_1 : List Int) : Option (Int × Int) :=
  (axioms_Check m_0 m_1).bind fun y =>
  if y ≠ 0 then
  some (0, y)
 else
  (join_ranks m_0 m_1).bind fun y1 =>
  (loopM (ρ := Int ⊕ (Int × Int)) (fun ((best, most, s) : Int × Int × Int) =>
  if s < (y1.length : Int) then
  chk ((0 ≤ s ∧ s < y1.length)) <|
  if y1.getD s.toNat 0 = 0 then
  some (.inr (.inr (0, 5)))
 else
  (join_size s).bind fun y2 =>
  chk ((0 ≤ s ∧ s < y1.length) ∧ (-9223372036854775808 ≤ (y2 + (y1.getD s.toNat 0) : Int) ∧ (y2 + (y1.getD s.toNat 0) : Int) ≤ 9223372036854775807) ∧ (-9223372036854775808 ≤ ((y2 + (y1.getD s.toNat 0)) - 1 : Int) ∧ ((y2 + (y1.getD s.toNat 0)) - 1 : Int) ≤ 9223372036854775807) ∧ y1.getD s.toNat 0 ≠ 0 ∧ (-9223372036854775808 ≤ (Int.tdiv ((y2 + (y1.getD s.toNat 0)) - 1) (y1.getD s.toNat 0) : Int) ∧ (Int.tdiv ((y2 + (y1.getD s.toNat 0)) - 1) (y1.getD s.toNat 0) : Int) ≤ 9223372036854775807)) <|
  if most < Int.tdiv ((y2 + (y1.getD s.toNat 0)) - 1) (y1.getD s.toNat 0) then
  (join_size s).bind fun y3 =>
  chk ((0 ≤ s ∧ s < y1.length) ∧ (-9223372036854775808 ≤ (y3 + (y1.getD s.toNat 0) : Int) ∧ (y3 + (y1.getD s.toNat 0) : Int) ≤ 9223372036854775807) ∧ (-9223372036854775808 ≤ ((y3 + (y1.getD s.toNat 0)) - 1 : Int) ∧ ((y3 + (y1.getD s.toNat 0)) - 1 : Int) ≤ 9223372036854775807) ∧ y1.getD s.toNat 0 ≠ 0 ∧ (-9223372036854775808 ≤ (Int.tdiv ((y3 + (y1.getD s.toNat 0)) - 1) (y1.getD s.toNat 0) : Int) ∧ (Int.tdiv ((y3 + (y1.getD s.toNat 0)) - 1) (y1.getD s.toNat 0) : Int) ≤ 9223372036854775807)) <|
  some (.inl (s, Int.tdiv ((y3 + (y1.getD s.toNat 0)) - 1) (y1.getD s.toNat 0), s + 1))
 else
  some (.inl (best, most, s + 1))
 else
  some (.inr (.inl best))) (0, 0, 1)).bind fun z => match z with
  | .inl best1 => (some (best1, 0))
  | .inr rr => some rr

end Go.SH
