/-
  Functions of the program as plain functions: greedy_weights, greedy_Best_1, greedy_taken, greedy_sum, greedy_Best, greedy_Steps, greedy_First, greedy_basis, greedy_two, greedy_size, greedy_Swap, greedy_Ladder, greedy_Fundamental. By a program of mine (shal.py). Conditions: none.
-/
import Derived.Test.YtcjhpcbipcdhiaaAxN
import Derived.Test.YtcjhpcbipcdhiaaAxY
import Derived.Test.YtcjhpcbipcdhiaaSpaxioms
import Derived.Test.YtcjhpcbipcdhiaaSpbits
import Derived.Test.YtcjhpcbipcdhiaaSpcmp
import Derived.Test.YtcjhpcbipcdhiaaSpslices
set_option linter.unusedVariables false
set_option linter.unusedSimpArgs false
namespace Go.SH
open Go Go.AX

noncomputable def greedy_weights (m_0 : Int) (m_1 : List Int) (w : List Int) : Option (Int) :=
  (axioms_Check m_0 m_1).bind fun y =>
  if y ≠ 0 then
  some y
 else
  if (w.length : Int) ≠ m_0 then
  some 3
 else
  (loopM (ρ := Unit ⊕ Int) (fun (v : Int) =>
  if v < (w.length : Int) then
  chk ((0 ≤ v ∧ v < w.length)) <|
  if (w.getD v.toNat 0 < (-1000) ∨ 1000 < w.getD v.toNat 0) then
  some (.inr (.inr 1))
 else
  some (.inl (v + 1))
 else
  some (.inr (.inl ()))) 0).bind fun z => match z with
  | .inl _ => (some 0)
  | .inr rr => some rr

noncomputable def greedy_Best_1 (a : Int) (b : Int) (c0 : List Int) : Option (Int) :=
  chk ((0 ≤ b ∧ b < c0.length) ∧ (0 ≤ a ∧ a < c0.length)) <|
  (cmp_Compare_int (c0.getD b.toNat 0) (c0.getD a.toNat 0)).bind fun y =>
  some y

noncomputable def greedy_taken (m_0 : Int) (m_1 : List Int) (order : List Int) : Option (Int) :=
  (axioms_Ranks m_0 m_1).bind fun y =>
  (loopM (ρ := Int) (fun ((s, v) : Int × Int) =>
  if v < (order.length : Int) then
  chk ((0 ≤ v ∧ v < order.length)) <|
  chk ((0 ≤ order.getD v.toNat 0 ∧ order.getD v.toNat 0 ≤ 62) ∧ (0 ≤ ior s (2 ^ (order.getD v.toNat 0).toNat : Int) ∧ ior s (2 ^ (order.getD v.toNat 0).toNat : Int) < y.1.length) ∧ (0 ≤ s ∧ s < y.1.length)) <|
  if y.1.getD s.toNat 0 < y.1.getD (ior s (2 ^ (order.getD v.toNat 0).toNat : Int)).toNat 0 then
  chk ((0 ≤ order.getD v.toNat 0 ∧ order.getD v.toNat 0 ≤ 62)) <|
  some (.inl (ior s (2 ^ (order.getD v.toNat 0).toNat : Int), v + 1))
 else
  some (.inl (s, v + 1))
 else
  some (.inr s)) (0, 0)).bind fun (s1 : Int) =>
  some s1

noncomputable def greedy_sum (w : List Int) (s : Int) : Option (Int) :=
  (loopM (ρ := Int) (fun ((n, v) : Int × Int) =>
  if v < (w.length : Int) then
  chk ((0 ≤ v ∧ v < w.length)) <|
  chk (0 ≤ v ∧ (-9223372036854775808 ≤ ((w.getD v.toNat 0) * (iand (s / 2 ^ v.toNat) 1) : Int) ∧ ((w.getD v.toNat 0) * (iand (s / 2 ^ v.toNat) 1) : Int) ≤ 9223372036854775807) ∧ (-9223372036854775808 ≤ (n + ((w.getD v.toNat 0) * (iand (s / 2 ^ v.toNat) 1)) : Int) ∧ (n + ((w.getD v.toNat 0) * (iand (s / 2 ^ v.toNat) 1)) : Int) ≤ 9223372036854775807)) <|
  some (.inl (n + ((w.getD v.toNat 0) * (iand (s / 2 ^ v.toNat) 1)), v + 1))
 else
  some (.inr n)) (0, 0)).bind fun (n1 : Int) =>
  some n1

noncomputable def greedy_Best (m_0 : Int) (m_1 : List Int) (w : List Int) : Option (Int × Int × Int) :=
  (greedy_weights m_0 m_1 w).bind fun y =>
  if y ≠ 0 then
  some (0, 0, y)
 else
  chk ((0 ≤ m_0 ∧ m_0 ≤ 1099511627776)) <|
  (loopM (ρ := List Int) (fun ((order, v) : List Int × Int) =>
  if v < ((List.replicate m_0.toNat 0).length : Int) then
  chk ((0 ≤ v ∧ v < order.length)) <|
  some (.inl (order.set v.toNat v, v + 1))
 else
  some (.inr order)) (List.replicate m_0.toNat 0, 0)).bind fun (order1 : List Int) =>
  chk ((OrdL (fun x0 x1 => greedy_Best_1 x0 x1 w) order1 ∧ order1.length < 20)) <|
  (greedy_taken m_0 m_1 (stabL (fun x0 x1 => greedy_Best_1 x0 x1 w) order1)).bind fun y1 =>
  (greedy_sum w y1).bind fun y2 =>
  some (y1, y2, 0)

noncomputable def greedy_Steps (m_0 : Int) (m_1 : List Int) (a1 : List Int) : Option (List Int × Int) :=
  (greedy_Best m_0 m_1 a1).bind fun y =>
  if y.2.2 ≠ 0 then
  some ([], y.2.2)
 else
  (loopM (ρ := List Int) (fun ((v, v1) : List Int × Int) =>
  if v1 ≠ 0 then
  (loopM (ρ := Int) (fun ((v3, v4) : Int × Int) =>
  if v4 < m_0 then
  chk (0 ≤ v4 ∧ (((iand (v1 / 2 ^ v4.toNat) 1 = 1) ∧ ¬ (v3 < 0)) → (0 ≤ v4 ∧ v4 < a1.length)) ∧ (((iand (v1 / 2 ^ v4.toNat) 1 = 1) ∧ ¬ (v3 < 0)) → (0 ≤ v3 ∧ v3 < a1.length))) <|
  if (iand (v1 / 2 ^ v4.toNat) 1 = 1 ∧ (v3 < 0 ∨ a1.getD v3.toNat 0 < a1.getD v4.toNat 0)) then
  some (.inl (v4, v4 + 1))
 else
  some (.inl (v3, v4 + 1))
 else
  some (.inr v3)) ((-1), 0)).bind fun (v5 : Int) =>
  chk ((0 ≤ v5 ∧ v5 ≤ 62)) <|
  chk ((-9223372036854775808 ≤ ((v.length : Int) - 1 : Int) ∧ ((v.length : Int) - 1 : Int) ≤ 9223372036854775807)) <|
  chk ((0 ≤ (v.length : Int) - 1 ∧ (v.length : Int) - 1 < v.length)) <|
  chk ((0 ≤ v5 ∧ v5 ≤ 62)) <|
  chk (((v ++ [ior (v.getD ((v.length : Int) - 1).toNat 0) (2 ^ v5.toNat : Int)]).length ≤ 8796093022208)) <|
  some (.inl (v ++ [ior (v.getD ((v.length : Int) - 1).toNat 0) (2 ^ v5.toNat : Int)], iandnot v1 (2 ^ v5.toNat : Int)))
 else
  some (.inr v)) ([0], y.1)).bind fun (v2 : List Int) =>
  some (v2, 0)

noncomputable def greedy_First (m_0 : Int) (m_1 : List Int) (order : List Int) : Option (Int × Int) :=
  (axioms_Check m_0 m_1).bind fun y =>
  if y ≠ 0 then
  some (0, y)
 else
  (loopM (ρ := Unit ⊕ (Int × Int)) (fun ((seen, v) : Int × Int) =>
  if v < (order.length : Int) then
  chk ((0 ≤ v ∧ v < order.length)) <|
  chk (((¬ ((order.getD v.toNat 0 < 0 ∨ m_0 ≤ order.getD v.toNat 0))) → 0 ≤ order.getD v.toNat 0)) <|
  if ((order.getD v.toNat 0 < 0 ∨ m_0 ≤ order.getD v.toNat 0) ∨ iand (seen / 2 ^ (order.getD v.toNat 0).toNat) 1 = 1) then
  some (.inr (.inr (0, 1)))
 else
  chk ((0 ≤ order.getD v.toNat 0 ∧ order.getD v.toNat 0 ≤ 62)) <|
  some (.inl (ior seen (2 ^ (order.getD v.toNat 0).toNat : Int), v + 1))
 else
  some (.inr (.inl ()))) (0, 0)).bind fun z => match z with
  | .inl _ => (if (order.length : Int) ≠ m_0 then
  some (0, 1)
 else
  (greedy_taken m_0 m_1 order).bind fun y1 =>
  some (y1, 0))
  | .inr rr => some rr

noncomputable def greedy_basis (m_0 : Int) (m_1 : List Int) (s : Int) : Option (Bool) :=
  (slices_BinarySearch_int_int m_1 s).bind fun y =>
  some y.2

noncomputable def greedy_two (m_0 : Int) (m_1 : List Int) (a : Int) (b : Int) : Option (Int) :=
  (axioms_Check m_0 m_1).bind fun y =>
  if y ≠ 0 then
  some y
 else
  (greedy_basis m_0 m_1 a).bind fun y1 =>
  (if ¬ (¬ (y1 = true)) then greedy_basis m_0 m_1 b else some false).bind fun y2 =>
  if (¬ (y1 = true) ∨ ¬ (y2 = true)) then
  some 1
 else
  some 0

noncomputable def greedy_size (s : Int) : Option (Int) :=
  chk ((0 ≤ (s : Int) ∧ (s : Int) ≤ 18446744073709551615)) <|
  (bits_OnesCount s).bind fun y =>
  some y

noncomputable def greedy_Swap (m_0 : Int) (m_1 : List Int) (a1 : Int) (a2 : Int) (a3 : Int) : Option (Int × Int) :=
  (greedy_two m_0 m_1 a1 a2).bind fun y =>
  if y ≠ 0 then
  some (0, y)
 else
  if (a3 < 0 ∨ iandnot a3 (iandnot a1 a2) ≠ 0) then
  some (0, 3)
 else
  chk ((0 ≤ m_0 ∧ m_0 ≤ 62)) <|
  (loopM (ρ := Unit ⊕ (Int × Int)) (fun (v : Int) =>
  if v < (2 ^ m_0.toNat : Int) then
  (if iandnot v (iandnot a2 a1) = 0 then greedy_size v else some 0).bind fun y1 =>
  (if iandnot v (iandnot a2 a1) = 0 then greedy_size a3 else some 0).bind fun y2 =>
  (if (iandnot v (iandnot a2 a1) = 0 ∧ y1 = y2) then greedy_basis m_0 m_1 (ior (iandnot a1 a3) v) else some false).bind fun y3 =>
  (if ((iandnot v (iandnot a2 a1) = 0 ∧ y1 = y2) ∧ y3 = true) then greedy_basis m_0 m_1 (ior (iandnot a2 v) a3) else some false).bind fun y4 =>
  if (((iandnot v (iandnot a2 a1) = 0 ∧ y1 = y2) ∧ y3 = true) ∧ y4 = true) then
  some (.inr (.inr (v, 0)))
 else
  some (.inl (v + 1))
 else
  some (.inr (.inl ()))) 0).bind fun z => match z with
  | .inl _ => (some (0, 5))
  | .inr rr => some rr

noncomputable def greedy_Ladder (m_0 : Int) (m_1 : List Int) (a : Int) (b : Int) : Option (List Int × Int) :=
  (greedy_two m_0 m_1 a b).bind fun y =>
  if y ≠ 0 then
  some ([], y)
 else
  (loopM (ρ := List Int) (fun ((a1, out0) : Int × List Int) =>
  if a1 ≠ b then
  chk ((-9223372036854775808 ≤ (-(iandnot a1 b) : Int) ∧ (-(iandnot a1 b) : Int) ≤ 9223372036854775807)) <|
  (loopM (ρ := Int) (fun (in0 : Int) =>
  if in0 ≠ 0 then
  chk ((-9223372036854775808 ≤ (-in0 : Int) ∧ (-in0 : Int) ≤ 9223372036854775807)) <|
  (greedy_basis m_0 m_1 (ior (iandnot a1 (iand (iandnot a1 b) (-(iandnot a1 b)))) (iand in0 (-in0)))).bind fun y1 =>
  if y1 = true then
  some (.inr (ior (iandnot a1 (iand (iandnot a1 b) (-(iandnot a1 b)))) (iand in0 (-in0))))
 else
  chk ((-9223372036854775808 ≤ (in0 - 1 : Int) ∧ (in0 - 1 : Int) ≤ 9223372036854775807)) <|
  some (.inl (iand in0 (in0 - 1)))
 else
  some (.inr a1)) (iandnot b a1)).bind fun (a2 : Int) =>
  chk (((out0 ++ [a2]).length ≤ 8796093022208)) <|
  some (.inl (a2, out0 ++ [a2]))
 else
  some (.inr out0)) (a, [a])).bind fun (out01 : List Int) =>
  some (out01, 0)

noncomputable def greedy_Fundamental (m_0 : Int) (m_1 : List Int) (b : Int) (i : Int) : Option (Int × Int) :=
  (greedy_two m_0 m_1 b b).bind fun y =>
  if y ≠ 0 then
  some (0, y)
 else
  chk (((¬ ((i < 0 ∨ m_0 ≤ i))) → 0 ≤ i)) <|
  if ((i < 0 ∨ m_0 ≤ i) ∨ iand (b / 2 ^ i.toNat) 1 = 1) then
  some (0, 3)
 else
  chk ((0 ≤ i ∧ i ≤ 62)) <|
  (loopM (ρ := Int) (fun ((c, l) : Int × Int) =>
  if l ≠ 0 then
  chk ((-9223372036854775808 ≤ (-l : Int) ∧ (-l : Int) ≤ 9223372036854775807)) <|
  chk ((0 ≤ i ∧ i ≤ 62)) <|
  (greedy_basis m_0 m_1 (ior (iandnot b (iand l (-l))) (2 ^ i.toNat : Int))).bind fun y1 =>
  if y1 = true then
  chk ((-9223372036854775808 ≤ (l - 1 : Int) ∧ (l - 1 : Int) ≤ 9223372036854775807)) <|
  some (.inl (ior c (iand l (-l)), iand l (l - 1)))
 else
  chk ((-9223372036854775808 ≤ (l - 1 : Int) ∧ (l - 1 : Int) ≤ 9223372036854775807)) <|
  some (.inl (c, iand l (l - 1)))
 else
  some (.inr c)) ((2 ^ i.toNat : Int), b)).bind fun (c1 : Int) =>
  some (c1, 0)

end Go.SH
