/-
  Functions of the program as plain functions: greedy_weights, greedy_Best_1, greedy_taken, greedy_sum, greedy_Best. By a program of mine (shal.py). Conditions: none.
-/
import Derived.Test.YtkjfccdfmjnkbaaAxN
import Derived.Test.YtkjfccdfmjnkbaaAxY
import Derived.Test.YtkjfccdfmjnkbaaSpaxioms
import Derived.Test.YtkjfccdfmjnkbaaSpcmp
set_option linter.unusedVariables false
set_option linter.unusedSimpArgs false
namespace Go.SH
open Go Go.AX

noncomputable def greedy_weights (m_0 : Int) (m_1 : List Int) (w : List Int) : Option (Int) :=
  (axioms_Check m_0 m_1).bind fun y =>
  if y ≠ 0 then
  some y
 else
  if (w.length : Int) ≠ m_0 then
  some 3
 else
  (loopM (ρ := Unit ⊕ Int) (fun (v : Int) =>
  if v < (w.length : Int) then
  chk ((0 ≤ v ∧ v < w.length)) <|
  if (w.getD v.toNat 0 < (-1000) ∨ 1000 < w.getD v.toNat 0) then
  some (.inr (.inr 1))
 else
  some (.inl (v + 1))
 else
  some (.inr (.inl ()))) 0).bind fun z => match z with
  | .inl _ => (some 0)
  | .inr rr => some rr

noncomputable def greedy_Best_1 (a : Int) (b : Int) (c0 : List Int) : Option (Int) :=
  chk ((0 ≤ b ∧ b < c0.length) ∧ (0 ≤ a ∧ a < c0.length)) <|
  (cmp_Compare_int (c0.getD b.toNat 0) (c0.getD a.toNat 0)).bind fun y =>
  some y

noncomputable def greedy_taken (m_0 : Int) (m_1 : List Int) (order : List Int) : Option (Int) :=
  (axioms_Ranks m_0 m_1).bind fun y =>
  (loopM (ρ := Int) (fun ((s, v) : Int × Int) =>
  if v < (order.length : Int) then
  chk ((0 ≤ v ∧ v < order.length)) <|
  chk ((0 ≤ order.getD v.toNat 0 ∧ order.getD v.toNat 0 ≤ 62) ∧ (0 ≤ ior s (2 ^ (order.getD v.toNat 0).toNat : Int) ∧ ior s (2 ^ (order.getD v.toNat 0).toNat : Int) < y.1.length) ∧ (0 ≤ s ∧ s < y.1.length)) <|
  if y.1.getD s.toNat 0 < y.1.getD (ior s (2 ^ (order.getD v.toNat 0).toNat : Int)).toNat 0 then
  chk ((0 ≤ order.getD v.toNat 0 ∧ order.getD v.toNat 0 ≤ 62)) <|
  some (.inl (ior s (2 ^ (order.getD v.toNat 0).toNat : Int), v + 1))
 else
  some (.inl (s, v + 1))
 else
  some (.inr s)) (0, 0)).bind fun (s1 : Int) =>
  some s1

noncomputable def greedy_sum (w : List Int) (s : Int) : Option (Int) :=
  (loopM (ρ := Int) (fun ((n, v) : Int × Int) =>
  if v < (w.length : Int) then
  chk ((0 ≤ v ∧ v < w.length)) <|
  chk (0 ≤ v ∧ (-9223372036854775808 ≤ ((w.getD v.toNat 0) * (iand (s / 2 ^ v.toNat) 1) : Int) ∧ ((w.getD v.toNat 0) * (iand (s / 2 ^ v.toNat) 1) : Int) ≤ 9223372036854775807) ∧ (-9223372036854775808 ≤ (n + ((w.getD v.toNat 0) * (iand (s / 2 ^ v.toNat) 1)) : Int) ∧ (n + ((w.getD v.toNat 0) * (iand (s / 2 ^ v.toNat) 1)) : Int) ≤ 9223372036854775807)) <|
  some (.inl (n + ((w.getD v.toNat 0) * (iand (s / 2 ^ v.toNat) 1)), v + 1))
 else
  some (.inr n)) (0, 0)).bind fun (n1 : Int) =>
  some n1

noncomputable def greedy_Best (m_0 : Int) (m_1 : List Int) (w : List Int) : Option (Int × Int × Int) :=
  (greedy_weights m_0 m_1 w).bind fun y =>
  if y ≠ 0 then
  some (0, 0, y)
 else
  chk ((0 ≤ m_0 ∧ m_0 ≤ 1099511627776)) <|
  (loopM (ρ := List Int) (fun ((order, v) : List Int × Int) =>
  if v < ((List.replicate m_0.toNat 0).length : Int) then
  chk ((0 ≤ v ∧ v < order.length)) <|
  some (.inl (order.set v.toNat v, v + 1))
 else
  some (.inr order)) (List.replicate m_0.toNat 0, 0)).bind fun (order1 : List Int) =>
  chk ((OrdL (fun x0 x1 => greedy_Best_1 x0 x1 w) order1 ∧ order1.length < 20)) <|
  (greedy_taken m_0 m_1 (stabL (fun x0 x1 => greedy_Best_1 x0 x1 w) order1)).bind fun y1 =>
  (greedy_sum w y1).bind fun y2 =>
  some (y1, y2, 0)

end Go.SH
