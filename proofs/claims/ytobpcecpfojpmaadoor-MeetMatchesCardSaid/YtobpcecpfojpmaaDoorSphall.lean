/-
  Functions of the program as plain functions: hall_Check, hall_grown, hall_matched, hall_Most. By a program of mine (shal.py). Conditions: none.
-/
import Derived.Test.YtobpcecpfojpmaaDoorAxN
import Derived.Test.YtobpcecpfojpmaaDoorSpbits
set_option linter.unusedVariables false
set_option linter.unusedSimpArgs false
namespace Go.SH
open Go Go.AX

noncomputable def hall_Check (n : Int) (l : List Int) : Option (Int) :=
  if (n < 0 ∨ 8 < n) then
  some 1
 else
  (loopM (ρ := Unit ⊕ Int) (fun (v : Int) =>
  if v < (l.length : Int) then
  chk ((0 ≤ v ∧ v < l.length)) <|
  chk (((¬ (l.getD v.toNat 0 < 0)) → (0 ≤ n ∧ n ≤ 62))) <|
  if (l.getD v.toNat 0 < 0 ∨ (2 ^ n.toNat : Int) ≤ l.getD v.toNat 0) then
  some (.inr (.inr 1))
 else
  some (.inl (v + 1))
 else
  some (.inr (.inl ()))) 0).bind fun z => match z with
  | .inl _ => (if 8 < (l.length : Int) then
  some 2
 else
  some 0)
  | .inr rr => some rr

noncomputable def hall_grown : Nat → (List Int) → (List Int) → Int → Int → Option (Bool × List Int × Int)
  | 0, _, _, _, _ => none
  | fuel + 1, l, of, k, seen =>
  chk ((0 ≤ k ∧ k < l.length)) <|
  (loopM (ρ := (List Int × Int) ⊕ (Bool × List Int × Int)) (fun ((b0, b1, x) : List Int × Int × Int) =>
  if x ≠ 0 then
  chk ((0 ≤ (x : Int) ∧ (x : Int) ≤ 18446744073709551615)) <|
  (bits_TrailingZeros x).bind fun y =>
  chk ((0 ≤ y ∧ y ≤ 62)) <|
  chk ((0 ≤ y ∧ y < b0.length) ∧ ((¬ (b0.getD y.toNat 0 < 0)) → (0 ≤ y ∧ y < b0.length))) <|
  if ¬ (b0.getD y.toNat 0 < 0) then
  (hall_grown fuel l b0 (b0.getD y.toNat 0) (ior b1 (2 ^ y.toNat : Int))).bind fun y1 =>
  chk ((y1.2.1.length = b0.length)) <|
  if y1.1 = true then
  chk ((0 ≤ y ∧ y < y1.2.1.length)) <|
  some (.inr (.inr (true, y1.2.1.set y.toNat k, y1.2.2)))
 else
  chk ((0 ≤ k ∧ k < l.length)) <|
  some (.inl (y1.2.1, y1.2.2, iandnot (l.getD k.toNat 0) y1.2.2))
 else
  chk ((0 ≤ y ∧ y < b0.length)) <|
  some (.inr (.inr (true, b0.set y.toNat k, ior b1 (2 ^ y.toNat : Int))))
 else
  some (.inr (.inl (b0, b1)))) (of, seen, iandnot (l.getD k.toNat 0) seen)).bind fun z => match z with
  | .inl (b01, b11) => (some (false, b01, b11))
  | .inr rr => some rr

noncomputable def hall_matched (n : Int) (l : List Int) : Option (List Int × Int) :=
  chk ((0 ≤ n ∧ n ≤ 1099511627776)) <|
  (loopM (ρ := List Int) (fun ((of, v) : List Int × Int) =>
  if v < ((List.replicate n.toNat 0).length : Int) then
  chk ((0 ≤ v ∧ v < of.length)) <|
  some (.inl (of.set v.toNat (-1), v + 1))
 else
  some (.inr of)) (List.replicate n.toNat 0, 0)).bind fun (of1 : List Int) =>
  (loopM (ρ := List Int × Int) (fun ((of2, many, v1) : List Int × Int × Int) =>
  if v1 < (l.length : Int) then
  (hall_grown 12 l of2 v1 0).bind fun y =>
  chk ((y.2.1.length = of2.length)) <|
  if y.1 = true then
  chk ((-9223372036854775808 ≤ (many + 1 : Int) ∧ (many + 1 : Int) ≤ 9223372036854775807)) <|
  some (.inl (y.2.1, many + 1, v1 + 1))
 else
  some (.inl (y.2.1, many, v1 + 1))
 else
  some (.inr (of2, many))) (of1, 0, 0)).bind fun ((of3, many1) : List Int × Int) =>
  some (of3, many1)

noncomputable def hall_Most (n : Int) (l : List Int) : Option (Int × Int) :=
  (hall_Check n l).bind fun y =>
  if y ≠ 0 then
  some (0, y)
 else
  (hall_matched n l).bind fun y1 =>
  some (y1.2, 0)

end Go.SH
