/-
  Functions of the program as plain functions: hall_Check, hall_Rado_1, hall_Rado, hall_RadoBar, hall_grown, hall_matched, hall_Stand. By a program of mine (shal.py). Conditions: none.
-/
import Derived.Test.YtobpcecpfojpmaaDoorAxN
import Derived.Test.YtobpcecpfojpmaaDoorSpaxioms
import Derived.Test.YtobpcecpfojpmaaDoorSpbits
set_option linter.unusedVariables false
set_option linter.unusedSimpArgs false
namespace Go.SH
open Go Go.AX

noncomputable def hall_Check (n : Int) (l : List Int) : Option (Int) :=
  if (n < 0 ∨ 8 < n) then
  some 1
 else
  (loopM (ρ := Unit ⊕ Int) (fun (v : Int) =>
  if v < (l.length : Int) then
  chk ((0 ≤ v ∧ v < l.length)) <|
  chk (((¬ (l.getD v.toNat 0 < 0)) → (0 ≤ n ∧ n ≤ 62))) <|
  if (l.getD v.toNat 0 < 0 ∨ (2 ^ n.toNat : Int) ≤ l.getD v.toNat 0) then
  some (.inr (.inr 1))
 else
  some (.inl (v + 1))
 else
  some (.inr (.inl ()))) 0).bind fun z => match z with
  | .inl _ => (if 8 < (l.length : Int) then
  some 2
 else
  some 0)
  | .inr rr => some rr

noncomputable def hall_Rado_1 : Nat → Int → Int → (List Int) → Int → (List Int) → (List Int) → (List Int) → Option (Bool × List Int)
  | 0, _, _, _, _, _, _, _ => none
  | fuel + 1, k, used, c0, c1_0, c1_1, c2, c3 =>
  if k = (c0.length : Int) then
  some (true, c3)
 else
  (loopM (ρ := (List Int) ⊕ (Bool × List Int)) (fun ((c31, v) : List Int × Int) =>
  if v < c1_0 then
  chk ((0 ≤ k ∧ k < c0.length) ∧ 0 ≤ v ∧ ((iand ((c0.getD k.toNat 0) / 2 ^ v.toNat) 1 = 1) → (0 ≤ v ∧ v ≤ 62)) ∧ ((iand ((c0.getD k.toNat 0) / 2 ^ v.toNat) 1 = 1) → (0 ≤ ior used (2 ^ v.toNat : Int) ∧ ior used (2 ^ v.toNat : Int) < c2.length)) ∧ ((iand ((c0.getD k.toNat 0) / 2 ^ v.toNat) 1 = 1) → (0 ≤ used ∧ used < c2.length))) <|
  if (iand ((c0.getD k.toNat 0) / 2 ^ v.toNat) 1 = 1 ∧ c2.getD used.toNat 0 < c2.getD (ior used (2 ^ v.toNat : Int)).toNat 0) then
  chk (((c31 ++ [v]).length ≤ 8796093022208)) <|
  chk ((-9223372036854775808 ≤ (k + 1 : Int) ∧ (k + 1 : Int) ≤ 9223372036854775807) ∧ (0 ≤ v ∧ v ≤ 62)) <|
  (hall_Rado_1 fuel (k + 1) (ior used (2 ^ v.toNat : Int)) c0 c1_0 c1_1 c2 (c31 ++ [v])).bind fun y =>
  if y.1 = true then
  some (.inr (.inr (true, y.2)))
 else
  chk ((0 ≤ k ∧ k ≤ ((y.2).length))) <|
  some (.inl (List.take k.toNat y.2, v + 1))
 else
  some (.inl (c31, v + 1))
 else
  some (.inr (.inl c31))) (c3, 0)).bind fun z => match z with
  | .inl c32 => (some (false, c32))
  | .inr rr => some rr

noncomputable def hall_Rado (m_0 : Int) (m_1 : List Int) (l : List Int) : Option (List Int × Int) :=
  (axioms_Check m_0 m_1).bind fun y =>
  if y ≠ 0 then
  some ([], y)
 else
  (hall_Check m_0 l).bind fun y1 =>
  if y1 ≠ 0 then
  some ([], y1)
 else
  (axioms_Ranks m_0 m_1).bind fun y2 =>
  (hall_Rado_1 12 0 0 l m_0 m_1 y2.1 []).bind fun y3 =>
  if ¬ (y3.1 = true) then
  some ([], 5)
 else
  some (y3.2, 0)

noncomputable def hall_RadoBar (m_0 : Int) (m_1 : List Int) (l : List Int) : Option (Int × Int) :=
  (axioms_Check m_0 m_1).bind fun y =>
  if y ≠ 0 then
  some (0, y)
 else
  (hall_Check m_0 l).bind fun y1 =>
  if y1 ≠ 0 then
  some (0, y1)
 else
  (axioms_Ranks m_0 m_1).bind fun y2 =>
  chk ((0 ≤ (l.length : Int) ∧ (l.length : Int) ≤ 62)) <|
  (loopM (ρ := Unit ⊕ (Int × Int)) (fun (v : Int) =>
  if v < (2 ^ (l.length : Int).toNat : Int) then
  (loopM (ρ := Int) (fun ((all, v1) : Int × Int) =>
  if v1 < (l.length : Int) then
  chk ((0 ≤ v1 ∧ v1 < l.length)) <|
  chk (0 ≤ v1 ∧ (-9223372036854775808 ≤ ((l.getD v1.toNat 0) * (iand (v / 2 ^ v1.toNat) 1) : Int) ∧ ((l.getD v1.toNat 0) * (iand (v / 2 ^ v1.toNat) 1) : Int) ≤ 9223372036854775807)) <|
  some (.inl (ior all ((l.getD v1.toNat 0) * (iand (v / 2 ^ v1.toNat) 1)), v1 + 1))
 else
  some (.inr all)) (0, 0)).bind fun (all1 : Int) =>
  chk ((0 ≤ all1 ∧ all1 < y2.1.length) ∧ (0 ≤ (v : Int) ∧ (v : Int) ≤ 18446744073709551615)) <|
  (bits_OnesCount v).bind fun y3 =>
  if y2.1.getD all1.toNat 0 < y3 then
  some (.inr (.inr (v, 0)))
 else
  some (.inl (v + 1))
 else
  some (.inr (.inl ()))) 0).bind fun z => match z with
  | .inl _ => (some (0, 5))
  | .inr rr => some rr

noncomputable def hall_grown : Nat → (List Int) → (List Int) → Int → Int → Option (Bool × List Int × Int)
  | 0, _, _, _, _ => none
  | fuel + 1, l, of, k, seen =>
  chk ((0 ≤ k ∧ k < l.length)) <|
  (loopM (ρ := (List Int × Int) ⊕ (Bool × List Int × Int)) (fun ((b0, b1, x) : List Int × Int × Int) =>
  if x ≠ 0 then
  chk ((0 ≤ (x : Int) ∧ (x : Int) ≤ 18446744073709551615)) <|
  (bits_TrailingZeros x).bind fun y =>
  chk ((0 ≤ y ∧ y ≤ 62)) <|
  chk ((0 ≤ y ∧ y < b0.length) ∧ ((¬ (b0.getD y.toNat 0 < 0)) → (0 ≤ y ∧ y < b0.length))) <|
  if ¬ (b0.getD y.toNat 0 < 0) then
  (hall_grown fuel l b0 (b0.getD y.toNat 0) (ior b1 (2 ^ y.toNat : Int))).bind fun y1 =>
  chk ((y1.2.1.length = b0.length)) <|
  if y1.1 = true then
  chk ((0 ≤ y ∧ y < y1.2.1.length)) <|
  some (.inr (.inr (true, y1.2.1.set y.toNat k, y1.2.2)))
 else
  chk ((0 ≤ k ∧ k < l.length)) <|
  some (.inl (y1.2.1, y1.2.2, iandnot (l.getD k.toNat 0) y1.2.2))
 else
  chk ((0 ≤ y ∧ y < b0.length)) <|
  some (.inr (.inr (true, b0.set y.toNat k, ior b1 (2 ^ y.toNat : Int))))
 else
  some (.inr (.inl (b0, b1)))) (of, seen, iandnot (l.getD k.toNat 0) seen)).bind fun z => match z with
  | .inl (b01, b11) => (some (false, b01, b11))
  | .inr rr => some rr

noncomputable def hall_matched (n : Int) (l : List Int) : Option (List Int × Int) :=
  chk ((0 ≤ n ∧ n ≤ 1099511627776)) <|
  (loopM (ρ := List Int) (fun ((of, v) : List Int × Int) =>
  if v < ((List.replicate n.toNat 0).length : Int) then
  chk ((0 ≤ v ∧ v < of.length)) <|
  some (.inl (of.set v.toNat (-1), v + 1))
 else
  some (.inr of)) (List.replicate n.toNat 0, 0)).bind fun (of1 : List Int) =>
  (loopM (ρ := List Int × Int) (fun ((of2, many, v1) : List Int × Int × Int) =>
  if v1 < (l.length : Int) then
  (hall_grown 12 l of2 v1 0).bind fun y =>
  chk ((y.2.1.length = of2.length)) <|
  if y.1 = true then
  chk ((-9223372036854775808 ≤ (many + 1 : Int) ∧ (many + 1 : Int) ≤ 9223372036854775807)) <|
  some (.inl (y.2.1, many + 1, v1 + 1))
 else
  some (.inl (y.2.1, many, v1 + 1))
 else
  some (.inr (of2, many))) (of1, 0, 0)).bind fun ((of3, many1) : List Int × Int) =>
  some (of3, many1)

noncomputable def hall_Stand (n : Int) (a1 : List Int) : Option (List Int × Int) :=
  (hall_Check n a1).bind fun y =>
  if y ≠ 0 then
  some ([], y)
 else
  (hall_matched n a1).bind fun y1 =>
  if y1.2 < (a1.length : Int) then
  some ([], 5)
 else
  chk ((a1.length ≤ 8796093022208)) <|
  (loopM (ρ := List Int) (fun ((v, v1, v2) : List Int × List Int × Int) =>
  if v2 < (a1.length : Int) then
  chk ((0 ≤ v2 ∧ v2 < v.length)) <|
  (loopM (ρ := List Int) (fun ((v4, v5) : List Int × Int) =>
  chk ((-9223372036854775808 ≤ (-v5 : Int) ∧ (-v5 : Int) ≤ 9223372036854775807) ∧ (0 ≤ v2 ∧ v2 < v4.length)) <|
  (hall_matched n (v4.set v2.toNat (iand v5 (-v5)))).bind fun y2 =>
  if y2.2 = (a1.length : Int) then
  some (.inr (v4.set v2.toNat (iand v5 (-v5))))
 else
  chk ((-9223372036854775808 ≤ (v5 - 1 : Int) ∧ (v5 - 1 : Int) ≤ 9223372036854775807)) <|
  some (.inl (v4.set v2.toNat (iand v5 (-v5)), iand v5 (v5 - 1)))) (v, v.getD v2.toNat 0)).bind fun (v6 : List Int) =>
  chk ((0 ≤ v2 ∧ v2 < v6.length) ∧ (0 ≤ (v6.getD v2.toNat 0 : Int) ∧ (v6.getD v2.toNat 0 : Int) ≤ 18446744073709551615)) <|
  (bits_TrailingZeros (v6.getD v2.toNat 0)).bind fun y3 =>
  chk (((v1 ++ [y3]).length ≤ 8796093022208)) <|
  some (.inl (v6, v1 ++ [y3], v2 + 1))
 else
  some (.inr v1)) (a1, [], 0)).bind fun (v3 : List Int) =>
  some (v3, 0)

end Go.SH
