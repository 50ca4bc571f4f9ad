/-
  Functions of the program as plain functions: axioms_size, axioms_exchange, axioms_Check, axioms_ranks, axioms_Ranks, axioms_Closure, axioms_Independents_1, axioms_family, axioms_Independents, axioms_flat, axioms_Flats_1, axioms_Flats, axioms_Circuits_1, axioms_Circuits, axioms_Hyperplanes_1, axioms_Hyperplanes. By a program of mine (shal.py). Conditions: none.
-/
import Derived.Test.YtkjfccdfmjnkbaaAxN
import Derived.Test.YtkjfccdfmjnkbaaSpbits
import Derived.Test.YtkjfccdfmjnkbaaSpsets
import Derived.Test.YtkjfccdfmjnkbaaSpslices
set_option linter.unusedVariables false
set_option linter.unusedSimpArgs false
namespace Go.SH
open Go Go.AX

noncomputable def axioms_size (s : Int) : Option (Int) :=
  chk ((0 ≤ (s : Int) ∧ (s : Int) ≤ 18446744073709551615)) <|
  (bits_OnesCount s).bind fun y =>
  some y

noncomputable def axioms_exchange (m_0 : Int) (m_1 : List Int) (a : Int) (b : Int) : Option (Bool) :=
  (loopM (ρ := Unit ⊕ Bool) (fun (out0 : Int) =>
  if out0 ≠ 0 then
  chk ((-9223372036854775808 ≤ (-out0 : Int) ∧ (-out0 : Int) ≤ 9223372036854775807)) <|
  (loopM (ρ := Bool) (fun ((ok, in0) : Bool × Int) =>
  if (in0 ≠ 0 ∧ ¬ (ok = true)) then
  chk ((-9223372036854775808 ≤ (-in0 : Int) ∧ (-in0 : Int) ≤ 9223372036854775807)) <|
  (slices_BinarySearch_int_int m_1 (ior (iandnot a (iand out0 (-out0))) (iand in0 (-in0)))).bind fun y =>
  chk ((-9223372036854775808 ≤ (in0 - 1 : Int) ∧ (in0 - 1 : Int) ≤ 9223372036854775807)) <|
  some (.inl (y.2, iand in0 (in0 - 1)))
 else
  some (.inr ok)) (false, iandnot b a)).bind fun (ok1 : Bool) =>
  if ¬ (ok1 = true) then
  some (.inr (.inr false))
 else
  chk ((-9223372036854775808 ≤ (out0 - 1 : Int) ∧ (out0 - 1 : Int) ≤ 9223372036854775807)) <|
  some (.inl (iand out0 (out0 - 1)))
 else
  some (.inr (.inl ()))) (iandnot a b)).bind fun z => match z with
  | .inl _ => (some true)
  | .inr rr => some rr

noncomputable def axioms_Check (m_0 : Int) (m_1 : List Int) : Option (Int) :=
  (sets_Family m_0 m_1).bind fun y =>
  if (y ≠ 0 ∨ (m_1.length : Int) = 0) then
  some 1
 else
  (loopM (ρ := Unit ⊕ Int) (fun (v : Int) =>
  if v < (m_1.length : Int) then
  chk ((0 ≤ v ∧ v < m_1.length)) <|
  (axioms_size (m_1.getD v.toNat 0)).bind fun y1 =>
  chk (0 < m_1.length) <|
  (axioms_size (m_1.getD 0 0)).bind fun y2 =>
  if y1 ≠ y2 then
  some (.inr (.inr 1))
 else
  some (.inl (v + 1))
 else
  some (.inr (.inl ()))) 0).bind fun z => match z with
  | .inl _ => ((loopM (ρ := Unit ⊕ Int) (fun (v1 : Int) =>
  if v1 < (m_1.length : Int) then
  chk ((0 ≤ v1 ∧ v1 < m_1.length)) <|
  (loopM (ρ := Unit ⊕ Int) (fun (v2 : Int) =>
  if v2 < (m_1.length : Int) then
  chk ((0 ≤ v2 ∧ v2 < m_1.length)) <|
  (axioms_exchange m_0 m_1 (m_1.getD v1.toNat 0) (m_1.getD v2.toNat 0)).bind fun y3 =>
  if ¬ (y3 = true) then
  some (.inr (.inr 3))
 else
  some (.inl (v2 + 1))
 else
  some (.inr (.inl ()))) 0).bind fun z => match z with
  | .inl _ => (some (.inl (v1 + 1)))
  | .inr rr => some (.inr (.inr rr))
 else
  some (.inr (.inl ()))) 0).bind fun z => match z with
  | .inl _ => (some 0)
  | .inr rr => some rr)
  | .inr rr => some rr

noncomputable def axioms_ranks (m_0 : Int) (m_1 : List Int) : Option (List Int) :=
  chk ((0 ≤ m_0 ∧ m_0 ≤ 62) ∧ (0 ≤ (2 ^ m_0.toNat : Int) ∧ (2 ^ m_0.toNat : Int) ≤ 1099511627776)) <|
  (loopM (ρ := List Int) (fun ((out0, v) : List Int × Int) =>
  if v < ((List.replicate (2 ^ m_0.toNat : Int).toNat 0).length : Int) then
  (loopM (ρ := List Int) (fun ((out02, v1) : List Int × Int) =>
  if v1 < (m_1.length : Int) then
  chk ((0 ≤ v1 ∧ v1 < m_1.length)) <|
  chk ((0 ≤ v ∧ v < out02.length)) <|
  (axioms_size (iand v (m_1.getD v1.toNat 0))).bind fun y =>
  chk ((0 ≤ v ∧ v < out02.length)) <|
  some (.inl (out02.set v.toNat (max (out02.getD v.toNat 0) y), v1 + 1))
 else
  some (.inr out02)) (out0, 0)).bind fun (out03 : List Int) =>
  some (.inl (out03, v + 1))
 else
  some (.inr out0)) (List.replicate (2 ^ m_0.toNat : Int).toNat 0, 0)).bind fun (out01 : List Int) =>
  some out01

noncomputable def axioms_Ranks (m_0 : Int) (m_1 : List Int) : Option (List Int × Int) :=
  (axioms_Check m_0 m_1).bind fun y =>
  if y ≠ 0 then
  some ([], y)
 else
  (axioms_ranks m_0 m_1).bind fun y1 =>
  some (y1, 0)

noncomputable def axioms_Closure (m_0 : Int) (m_1 : List Int) (s : Int) : Option (Int × Int) :=
  (axioms_Check m_0 m_1).bind fun y =>
  if y ≠ 0 then
  some (0, y)
 else
  (sets_Check m_0 s).bind fun y1 =>
  if y1 ≠ 0 then
  some (0, y1)
 else
  (axioms_ranks m_0 m_1).bind fun y2 =>
  (loopM (ρ := Int) (fun ((out0, v) : Int × Int) =>
  if v < m_0 then
  chk ((0 ≤ v ∧ v ≤ 62) ∧ (0 ≤ ior s (2 ^ v.toNat : Int) ∧ ior s (2 ^ v.toNat : Int) < y2.length) ∧ (0 ≤ s ∧ s < y2.length)) <|
  if y2.getD (ior s (2 ^ v.toNat : Int)).toNat 0 = y2.getD s.toNat 0 then
  chk ((0 ≤ v ∧ v ≤ 62)) <|
  some (.inl (ior out0 (2 ^ v.toNat : Int), v + 1))
 else
  some (.inl (out0, v + 1))
 else
  some (.inr out0)) (s, 0)).bind fun (out01 : Int) =>
  some (out01, 0)

noncomputable def axioms_Independents_1 (r1 : List Int) (s : Int) : Option (Bool) :=
  chk ((0 ≤ s ∧ s < r1.length)) <|
  (axioms_size s).bind fun y =>
  some (decide (r1.getD s.toNat 0 = y))

noncomputable def axioms_family (m_0 : Int) (m_1 : List Int) (kind : (List Int) → Int → Option (Bool)) : Option (List Int × Int) :=
  (axioms_Check m_0 m_1).bind fun y =>
  if y ≠ 0 then
  some ([], y)
 else
  (axioms_ranks m_0 m_1).bind fun y1 =>
  (loopM (ρ := List Int) (fun ((out0, v) : List Int × Int) =>
  if v < (y1.length : Int) then
  (kind y1 v).bind fun y2 =>
  if y2 = true then
  chk (((out0 ++ [v]).length ≤ 8796093022208)) <|
  some (.inl (out0 ++ [v], v + 1))
 else
  some (.inl (out0, v + 1))
 else
  some (.inr out0)) ([], 0)).bind fun (out01 : List Int) =>
  some (out01, 0)

noncomputable def axioms_Independents (m_0 : Int) (m_1 : List Int) : Option (List Int × Int) :=
  (axioms_family m_0 m_1 (fun x0 x1 => axioms_Independents_1 x0 x1)).bind fun y =>
  some (y.1, y.2)

noncomputable def axioms_flat (r1 : List Int) (n : Int) (s : Int) : Option (Bool) :=
  (loopM (ρ := Unit ⊕ Bool) (fun (v : Int) =>
  if v < n then
  chk (0 ≤ v ∧ ((iand (s / 2 ^ v.toNat) 1 = 0) → (0 ≤ v ∧ v ≤ 62)) ∧ ((iand (s / 2 ^ v.toNat) 1 = 0) → (0 ≤ ior s (2 ^ v.toNat : Int) ∧ ior s (2 ^ v.toNat : Int) < r1.length)) ∧ ((iand (s / 2 ^ v.toNat) 1 = 0) → (0 ≤ s ∧ s < r1.length))) <|
  if (iand (s / 2 ^ v.toNat) 1 = 0 ∧ r1.getD (ior s (2 ^ v.toNat : Int)).toNat 0 = r1.getD s.toNat 0) then
  some (.inr (.inr false))
 else
  some (.inl (v + 1))
 else
  some (.inr (.inl ()))) 0).bind fun z => match z with
  | .inl _ => (some true)
  | .inr rr => some rr

noncomputable def axioms_Flats_1 (r1 : List Int) (s : Int) (c0_0 : Int) (c0_1 : List Int) : Option (Bool) :=
  (axioms_flat r1 c0_0 s).bind fun y =>
  some y

noncomputable def axioms_Flats (m_0 : Int) (m_1 : List Int) : Option (List Int × Int) :=
  (axioms_family m_0 m_1 (fun x0 x1 => axioms_Flats_1 x0 x1 m_0 m_1)).bind fun y =>
  some (y.1, y.2)

noncomputable def axioms_Circuits_1 (r1 : List Int) (s : Int) : Option (Bool) :=
  chk ((0 ≤ s ∧ s < r1.length)) <|
  (axioms_size s).bind fun y =>
  chk ((-9223372036854775808 ≤ (y - 1 : Int) ∧ (y - 1 : Int) ≤ 9223372036854775807)) <|
  if r1.getD s.toNat 0 ≠ y - 1 then
  some false
 else
  (loopM (ρ := Unit ⊕ Bool) (fun (l : Int) =>
  if l ≠ 0 then
  chk ((-9223372036854775808 ≤ (-l : Int) ∧ (-l : Int) ≤ 9223372036854775807)) <|
  chk ((0 ≤ iandnot s (iand l (-l)) ∧ iandnot s (iand l (-l)) < r1.length)) <|
  (axioms_size (iandnot s (iand l (-l)))).bind fun y1 =>
  if r1.getD (iandnot s (iand l (-l))).toNat 0 ≠ y1 then
  some (.inr (.inr false))
 else
  chk ((-9223372036854775808 ≤ (l - 1 : Int) ∧ (l - 1 : Int) ≤ 9223372036854775807)) <|
  some (.inl (iand l (l - 1)))
 else
  some (.inr (.inl ()))) s).bind fun z => match z with
  | .inl _ => (some true)
  | .inr rr => some rr

noncomputable def axioms_Circuits (m_0 : Int) (m_1 : List Int) : Option (List Int × Int) :=
  (axioms_family m_0 m_1 (fun x0 x1 => axioms_Circuits_1 x0 x1)).bind fun y =>
  some (y.1, y.2)

noncomputable def axioms_Hyperplanes_1 (r1 : List Int) (s : Int) (c0_0 : Int) (c0_1 : List Int) : Option (Bool) :=
  chk ((0 ≤ s ∧ s < r1.length) ∧ (-9223372036854775808 ≤ ((r1.length : Int) - 1 : Int) ∧ ((r1.length : Int) - 1 : Int) ≤ 9223372036854775807) ∧ (0 ≤ (r1.length : Int) - 1 ∧ (r1.length : Int) - 1 < r1.length) ∧ (-9223372036854775808 ≤ ((r1.getD ((r1.length : Int) - 1).toNat 0) - 1 : Int) ∧ ((r1.getD ((r1.length : Int) - 1).toNat 0) - 1 : Int) ≤ 9223372036854775807)) <|
  (if r1.getD s.toNat 0 = (r1.getD ((r1.length : Int) - 1).toNat 0) - 1 then axioms_flat r1 c0_0 s else some false).bind fun y =>
  some (decide ((r1.getD s.toNat 0 = (r1.getD ((r1.length : Int) - 1).toNat 0) - 1 ∧ y = true)))

noncomputable def axioms_Hyperplanes (m_0 : Int) (m_1 : List Int) : Option (List Int × Int) :=
  (axioms_family m_0 m_1 (fun x0 x1 => axioms_Hyperplanes_1 x0 x1 m_0 m_1)).bind fun y =>
  some (y.1, y.2)

end Go.SH
