/-
  Functions of the program as plain functions: sets_Family, sets_Check, sets_Below, sets_Shadow, sets_Choose. By a program of mine (shal.py). Conditions: none.
-/
import Derived.Test.YtcjhpcbipcdhiaaAxN
import Derived.Test.YtcjhpcbipcdhiaaAxP
import Derived.Test.YtcjhpcbipcdhiaaSpbits
set_option linter.unusedVariables false
set_option linter.unusedSimpArgs false
namespace Go.SH
open Go Go.AX

noncomputable def sets_Family (n : Int) (l : List Int) : Option (Int) :=
  if (n < 0 ∨ 8 < n) then
  some 1
 else
  (loopM (ρ := Unit ⊕ Int) (fun (v : Int) =>
  if v < (l.length : Int) then
  chk ((0 ≤ v ∧ v < l.length)) <|
  chk (((¬ (l.getD v.toNat 0 < 0)) → (0 ≤ n ∧ n ≤ 62)) ∧ (((¬ ((l.getD v.toNat 0 < 0 ∨ (2 ^ n.toNat : Int) ≤ l.getD v.toNat 0))) ∧ 0 < v) → (-9223372036854775808 ≤ (v - 1 : Int) ∧ (v - 1 : Int) ≤ 9223372036854775807)) ∧ (((¬ ((l.getD v.toNat 0 < 0 ∨ (2 ^ n.toNat : Int) ≤ l.getD v.toNat 0))) ∧ 0 < v) → (0 ≤ v - 1 ∧ v - 1 < l.length))) <|
  if ((l.getD v.toNat 0 < 0 ∨ (2 ^ n.toNat : Int) ≤ l.getD v.toNat 0) ∨ (0 < v ∧ l.getD v.toNat 0 ≤ l.getD (v - 1).toNat 0)) then
  some (.inr (.inr 1))
 else
  some (.inl (v + 1))
 else
  some (.inr (.inl ()))) 0).bind fun z => match z with
  | .inl _ => (some 0)
  | .inr rr => some rr

noncomputable def sets_Check (n : Int) (s : Int) : Option (Int) :=
  chk (((¬ (((n < 0 ∨ 8 < n) ∨ s < 0))) → (0 ≤ n ∧ n ≤ 62))) <|
  if (((n < 0 ∨ 8 < n) ∨ s < 0) ∨ (2 ^ n.toNat : Int) ≤ s) then
  some 1
 else
  some 0

noncomputable def sets_Below (a : Int) (b : Int) : Option (Bool × Int) :=
  (sets_Check 8 a).bind fun y =>
  (if ¬ (y ≠ 0) then sets_Check 8 b else some 0).bind fun y1 =>
  if (y ≠ 0 ∨ y1 ≠ 0) then
  some (false, 1)
 else
  chk ((0 ≤ (a : Int) ∧ (a : Int) ≤ 18446744073709551615)) <|
  (bits_OnesCount a).bind fun y2 =>
  chk ((0 ≤ (b : Int) ∧ (b : Int) ≤ 18446744073709551615)) <|
  (bits_OnesCount b).bind fun y3 =>
  if y2 ≠ y3 then
  some (false, 3)
 else
  (loopM (ρ := Unit ⊕ (Bool × Int)) (fun ((over, v) : Int × Int) =>
  if v < 8 then
  chk (0 ≤ v ∧ (-9223372036854775808 ≤ ((iand (a / 2 ^ v.toNat) 1) - (iand (b / 2 ^ v.toNat) 1) : Int) ∧ ((iand (a / 2 ^ v.toNat) 1) - (iand (b / 2 ^ v.toNat) 1) : Int) ≤ 9223372036854775807) ∧ (-9223372036854775808 ≤ (over + ((iand (a / 2 ^ v.toNat) 1) - (iand (b / 2 ^ v.toNat) 1)) : Int) ∧ (over + ((iand (a / 2 ^ v.toNat) 1) - (iand (b / 2 ^ v.toNat) 1)) : Int) ≤ 9223372036854775807)) <|
  if over + ((iand (a / 2 ^ v.toNat) 1) - (iand (b / 2 ^ v.toNat) 1)) < 0 then
  some (.inr (.inr (false, 0)))
 else
  some (.inl (over + ((iand (a / 2 ^ v.toNat) 1) - (iand (b / 2 ^ v.toNat) 1)), v + 1))
 else
  some (.inr (.inl ()))) (0, 0)).bind fun z => match z with
  | .inl _ => (some (true, 0))
  | .inr rr => some rr

noncomputable def sets_Shadow (n : Int) (l : List Int) : Option (List Int × Int) :=
  (sets_Family n l).bind fun y =>
  if y ≠ 0 then
  some ([], y)
 else
  (loopM (ρ := List Int) (fun ((out0, v) : List Int × Int) =>
  if v < (l.length : Int) then
  chk ((0 ≤ v ∧ v < l.length)) <|
  (loopM (ρ := List Int) (fun ((out02, v1) : List Int × Int) =>
  if v1 < n then
  chk (0 ≤ v1) <|
  if iand ((l.getD v.toNat 0) / 2 ^ v1.toNat) 1 = 1 then
  chk ((0 ≤ v1 ∧ v1 ≤ 62) ∧ ((out02 ++ [iandnot (l.getD v.toNat 0) (2 ^ v1.toNat : Int)]).length ≤ 8796093022208)) <|
  some (.inl (out02 ++ [iandnot (l.getD v.toNat 0) (2 ^ v1.toNat : Int)], v1 + 1))
 else
  some (.inl (out02, v1 + 1))
 else
  some (.inr out02)) (out0, 0)).bind fun (out03 : List Int) =>
  some (.inl (out03, v + 1))
 else
  some (.inr out0)) ([], 0)).bind fun (out01 : List Int) =>
  chk ((out01.length < 4611686018427387904)) <|
  chk (((uniqL (sortL out01)).length ≤ 8796093022208)) <|
  some (uniqL (sortL out01), 0)

noncomputable def sets_Choose (n : Int) (k : Int) : Option (List Int × Int) :=
  if (((n < 0 ∨ 8 < n) ∨ k < 0) ∨ n < k) then
  some ([], 1)
 else
  chk ((0 ≤ n ∧ n ≤ 62)) <|
  (loopM (ρ := List Int) (fun ((out0, v) : List Int × Int) =>
  if v < (2 ^ n.toNat : Int) then
  chk ((0 ≤ (v : Int) ∧ (v : Int) ≤ 18446744073709551615)) <|
  (bits_OnesCount v).bind fun y =>
  if y = k then
  chk (((out0 ++ [v]).length ≤ 8796093022208)) <|
  some (.inl (out0 ++ [v], v + 1))
 else
  some (.inl (out0, v + 1))
 else
  some (.inr out0)) ([], 0)).bind fun (out01 : List Int) =>
  some (out01, 0)

end Go.SH
