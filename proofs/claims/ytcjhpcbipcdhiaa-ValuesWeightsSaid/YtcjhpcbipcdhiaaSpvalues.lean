/-
  Functions of the program as plain functions: values_under, values_of_1, values_of, values_Check, values_prices, values_size, values_worth, values_Best. By a program of mine (shal.py). Conditions: none.
-/
import Derived.Test.YtcjhpcbipcdhiaaAxN
import Derived.Test.YtcjhpcbipcdhiaaSpaxioms
import Derived.Test.YtcjhpcbipcdhiaaSpbits
import Derived.Test.YtcjhpcbipcdhiaaSpslices
set_option linter.unusedVariables false
set_option linter.unusedSimpArgs false
namespace Go.SH
open Go Go.AX

noncomputable def values_under (n : Int) (l : List (Int × Int)) : Option (Int × List Int × Int) :=
  (loopM (ρ := List Int) (fun ((m, v) : List Int × Int) =>
  if v < (l.length : Int) then
  chk ((0 ≤ v ∧ v < l.length)) <|
  chk (((m ++ [(l.getD v.toNat (0, 0)).1]).length ≤ 8796093022208)) <|
  some (.inl (m ++ [(l.getD v.toNat (0, 0)).1], v + 1))
 else
  some (.inr m)) ([], 0)).bind fun (m1 : List Int) =>
  (axioms_Check n m1).bind fun y =>
  if y ≠ 0 then
  some (n, m1, y)
 else
  (loopM (ρ := Unit ⊕ (Int × List Int × Int)) (fun (v1 : Int) =>
  if v1 < (l.length : Int) then
  chk ((0 ≤ v1 ∧ v1 < l.length)) <|
  if ((l.getD v1.toNat (0, 0)).2 < (-1000) ∨ 1000 < (l.getD v1.toNat (0, 0)).2) then
  some (.inr (.inr (n, m1, 1)))
 else
  some (.inl (v1 + 1))
 else
  some (.inr (.inl ()))) 0).bind fun z => match z with
  | .inl _ => (some (n, m1, 0))
  | .inr rr => some rr

noncomputable def values_of_1 (v_0 : Int) (v_1 : Int) (b : Int) : Option (Int) :=
  chk ((-9223372036854775808 ≤ (v_0 - b : Int) ∧ (v_0 - b : Int) ≤ 9223372036854775807)) <|
  some (v_0 - b)

noncomputable def values_of (l : List (Int × Int)) (b : Int) : Option (Int × Bool) :=
  (slices_BinarySearchFunc_api_Value_api_Value_int l b (fun x0 x1 x2 => values_of_1 x0 x1 x2)).bind fun y =>
  if ¬ (y.2 = true) then
  some (0, false)
 else
  chk ((0 ≤ y.1 ∧ y.1 < l.length)) <|
  some ((l.getD y.1.toNat (0, 0)).2, true)

noncomputable def values_Check (n : Int) (a1 : List (Int × Int)) : Option (Int) :=
  (values_under n a1).bind fun y =>
  if y.2.2 ≠ 0 then
  some y.2.2
 else
  (loopM (ρ := Unit ⊕ Int) (fun (v : Int) =>
  if v < (a1.length : Int) then
  chk ((0 ≤ v ∧ v < a1.length)) <|
  (loopM (ρ := Unit ⊕ Int) (fun (v1 : Int) =>
  if v1 < (a1.length : Int) then
  chk ((0 ≤ v1 ∧ v1 < a1.length)) <|
  (loopM (ρ := Unit ⊕ Int) (fun (v2 : Int) =>
  if v2 ≠ 0 then
  chk ((-9223372036854775808 ≤ (-v2 : Int) ∧ (-v2 : Int) ≤ 9223372036854775807)) <|
  (loopM (ρ := Bool) (fun ((v3, v4) : Bool × Int) =>
  if (v4 ≠ 0 ∧ ¬ (v3 = true)) then
  chk ((-9223372036854775808 ≤ (-v4 : Int) ∧ (-v4 : Int) ≤ 9223372036854775807)) <|
  (values_of a1 (ior (iandnot ((a1.getD v.toNat (0, 0)).1) (iand v2 (-v2))) (iand v4 (-v4)))).bind fun y1 =>
  (values_of a1 (ior (iandnot ((a1.getD v1.toNat (0, 0)).1) (iand v4 (-v4))) (iand v2 (-v2)))).bind fun y2 =>
  chk (((y1.2 = true ∧ y2.2 = true) → (-9223372036854775808 ≤ (((a1.getD v.toNat (0, 0)).2) + ((a1.getD v1.toNat (0, 0)).2) : Int) ∧ (((a1.getD v.toNat (0, 0)).2) + ((a1.getD v1.toNat (0, 0)).2) : Int) ≤ 9223372036854775807)) ∧ ((y1.2 = true ∧ y2.2 = true) → (-9223372036854775808 ≤ (y1.1 + y2.1 : Int) ∧ (y1.1 + y2.1 : Int) ≤ 9223372036854775807))) <|
  chk ((-9223372036854775808 ≤ (v4 - 1 : Int) ∧ (v4 - 1 : Int) ≤ 9223372036854775807)) <|
  some (.inl (decide (((y1.2 = true ∧ y2.2 = true) ∧ ((a1.getD v.toNat (0, 0)).2) + ((a1.getD v1.toNat (0, 0)).2) ≤ y1.1 + y2.1)), iand v4 (v4 - 1)))
 else
  some (.inr v3)) (false, iandnot ((a1.getD v1.toNat (0, 0)).1) ((a1.getD v.toNat (0, 0)).1))).bind fun (v5 : Bool) =>
  if ¬ (v5 = true) then
  some (.inr (.inr 6))
 else
  chk ((-9223372036854775808 ≤ (v2 - 1 : Int) ∧ (v2 - 1 : Int) ≤ 9223372036854775807)) <|
  some (.inl (iand v2 (v2 - 1)))
 else
  some (.inr (.inl ()))) (iandnot ((a1.getD v.toNat (0, 0)).1) ((a1.getD v1.toNat (0, 0)).1))).bind fun z => match z with
  | .inl _ => (some (.inl (v1 + 1)))
  | .inr rr => some (.inr (.inr rr))
 else
  some (.inr (.inl ()))) 0).bind fun z => match z with
  | .inl _ => (some (.inl (v + 1)))
  | .inr rr => some (.inr (.inr rr))
 else
  some (.inr (.inl ()))) 0).bind fun z => match z with
  | .inl _ => (some 0)
  | .inr rr => some rr

noncomputable def values_prices (n : Int) (w : List Int) : Option (Int) :=
  if (w.length : Int) ≠ n then
  some 3
 else
  (loopM (ρ := Unit ⊕ Int) (fun (v : Int) =>
  if v < (w.length : Int) then
  chk ((0 ≤ v ∧ v < w.length)) <|
  if (w.getD v.toNat 0 < (-1000) ∨ 1000 < w.getD v.toNat 0) then
  some (.inr (.inr 1))
 else
  some (.inl (v + 1))
 else
  some (.inr (.inl ()))) 0).bind fun z => match z with
  | .inl _ => (some 0)
  | .inr rr => some rr

noncomputable def values_size (s : Int) : Option (Int) :=
  chk ((0 ≤ (s : Int) ∧ (s : Int) ≤ 18446744073709551615)) <|
  (bits_OnesCount s).bind fun y =>
  some y

noncomputable def values_worth (v_0 : Int) (v_1 : Int) (w : List Int) : Option (Int) :=
  (loopM (ρ := Int) (fun ((n, v1) : Int × Int) =>
  if v1 < (w.length : Int) then
  chk ((0 ≤ v1 ∧ v1 < w.length)) <|
  chk (0 ≤ v1 ∧ (-9223372036854775808 ≤ ((w.getD v1.toNat 0) * (iand (v_0 / 2 ^ v1.toNat) 1) : Int) ∧ ((w.getD v1.toNat 0) * (iand (v_0 / 2 ^ v1.toNat) 1) : Int) ≤ 9223372036854775807) ∧ (-9223372036854775808 ≤ (n + ((w.getD v1.toNat 0) * (iand (v_0 / 2 ^ v1.toNat) 1)) : Int) ∧ (n + ((w.getD v1.toNat 0) * (iand (v_0 / 2 ^ v1.toNat) 1)) : Int) ≤ 9223372036854775807)) <|
  some (.inl (n + ((w.getD v1.toNat 0) * (iand (v_0 / 2 ^ v1.toNat) 1)), v1 + 1))
 else
  some (.inr n)) (v_1, 0)).bind fun (n1 : Int) =>
  some n1

noncomputable def values_Best (n : Int) (a1 : List (Int × Int)) (a2 : List Int) : Option (Int × Int × Int) :=
  (values_Check n a1).bind fun y =>
  if y ≠ 0 then
  some (0, 0, y)
 else
  (values_prices n a2).bind fun y1 =>
  if y1 ≠ 0 then
  some (0, 0, y1)
 else
  chk (0 < a1.length) <|
  (loopM (ρ := Int × Int) (fun ((v, v1, v2) : Int × Int × Bool) =>
  if v2 = true then
  (loopM (ρ := Int × Int × Bool) (fun (v5 : Int) =>
  if v5 < (a1.length : Int) then
  chk ((0 ≤ v5 ∧ v5 < a1.length)) <|
  (values_size (iandnot ((a1.getD v5.toNat (0, 0)).1) v)).bind fun y2 =>
  (if y2 = 1 then values_worth ((a1.getD v5.toNat (0, 0)).1) ((a1.getD v5.toNat (0, 0)).2) a2 else some 0).bind fun y3 =>
  (if y2 = 1 then values_worth v v1 a2 else some 0).bind fun y4 =>
  (if ((y2 = 1) ∧ ¬ (y4 < y3)) then values_worth ((a1.getD v5.toNat (0, 0)).1) ((a1.getD v5.toNat (0, 0)).2) a2 else some 0).bind fun y5 =>
  (if ((y2 = 1) ∧ ¬ (y4 < y3)) then values_worth v v1 a2 else some 0).bind fun y6 =>
  if (y2 = 1 ∧ (y4 < y3 ∨ (y5 = y6 ∧ (a1.getD v5.toNat (0, 0)).1 < v))) then
  some (.inr ((a1.getD v5.toNat (0, 0)).1, (a1.getD v5.toNat (0, 0)).2, true))
 else
  some (.inl (v5 + 1))
 else
  some (.inr (v, v1, false))) 0).bind fun ((v6, v7, v8) : Int × Int × Bool) =>
  some (.inl (v6, v7, v8))
 else
  some (.inr (v, v1))) ((a1.getD 0 (0, 0)).1, (a1.getD 0 (0, 0)).2, true)).bind fun ((v3, v4) : Int × Int) =>
  (loopM (ρ := Unit ⊕ (Int × Int × Int)) (fun (v9 : Int) =>
  if v9 < (a1.length : Int) then
  chk ((0 ≤ v9 ∧ v9 < a1.length)) <|
  (values_worth ((a1.getD v9.toNat (0, 0)).1) ((a1.getD v9.toNat (0, 0)).2) a2).bind fun y7 =>
  (values_worth v3 v4 a2).bind fun y8 =>
  if y7 = y8 then
  (values_worth ((a1.getD v9.toNat (0, 0)).1) ((a1.getD v9.toNat (0, 0)).2) a2).bind fun y9 =>
  some (.inr (.inr ((a1.getD v9.toNat (0, 0)).1, y9, 0)))
 else
  some (.inl (v9 + 1))
 else
  some (.inr (.inl ()))) 0).bind fun z => match z with
  | .inl _ => (some (0, 0, 0))
  | .inr rr => some rr

end Go.SH
