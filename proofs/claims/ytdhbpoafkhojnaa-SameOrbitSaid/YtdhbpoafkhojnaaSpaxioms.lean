/-
  Functions of the program as plain functions: axioms_size, axioms_exchange, axioms_Check, axioms_ranks, axioms_Ranks. By a program of mine (shal.py). Conditions: none.
-/
import Derived.Test.YtdhbpoafkhojnaaAxN
import Derived.Test.YtdhbpoafkhojnaaSpbits
import Derived.Test.YtdhbpoafkhojnaaSpsets
import Derived.Test.YtdhbpoafkhojnaaSpslices
set_option linter.unusedVariables false
set_option linter.unusedSimpArgs false
namespace Go.SH
open Go Go.AX

noncomputable def axioms_size (s : Int) : Option (Int) :=
  chk ((0 ≤ (s : Int) ∧ (s : Int) ≤ 18446744073709551615)) <|
  (bits_OnesCount s).bind fun y =>
  some y

noncomputable def axioms_exchange (m_0 : Int) (m_1 : List Int) (a : Int) (b : Int) : Option (Bool) :=
  (loopM (ρ := Unit ⊕ Bool) (fun (out0 : Int) =>
  if out0 ≠ 0 then
  chk ((-9223372036854775808 ≤ (-out0 : Int) ∧ (-out0 : Int) ≤ 9223372036854775807)) <|
  (loopM (ρ := Bool) (fun ((ok, in0) : Bool × Int) =>
  if (in0 ≠ 0 ∧ ¬ (ok = true)) then
  chk ((-9223372036854775808 ≤ (-in0 : Int) ∧ (-in0 : Int) ≤ 9223372036854775807)) <|
  (slices_BinarySearch_int_int m_1 (ior (iandnot a (iand out0 (-out0))) (iand in0 (-in0)))).bind fun y =>
  chk ((-9223372036854775808 ≤ (in0 - 1 : Int) ∧ (in0 - 1 : Int) ≤ 9223372036854775807)) <|
  some (.inl (y.2, iand in0 (in0 - 1)))
 else
  some (.inr ok)) (false, iandnot b a)).bind fun (ok1 : Bool) =>
  if ¬ (ok1 = true) then
  some (.inr (.inr false))
 else
  chk ((-9223372036854775808 ≤ (out0 - 1 : Int) ∧ (out0 - 1 : Int) ≤ 9223372036854775807)) <|
  some (.inl (iand out0 (out0 - 1)))
 else
  some (.inr (.inl ()))) (iandnot a b)).bind fun z => match z with
  | .inl _ => (some true)
  | .inr rr => some rr

noncomputable def axioms_Check (m_0 : Int) (m_1 : List Int) : Option (Int) :=
  (sets_Family m_0 m_1).bind fun y =>
  if (y ≠ 0 ∨ (m_1.length : Int) = 0) then
  some 1
 else
  (loopM (ρ := Unit ⊕ Int) (fun (v : Int) =>
  if v < (m_1.length : Int) then
  chk ((0 ≤ v ∧ v < m_1.length)) <|
  (axioms_size (m_1.getD v.toNat 0)).bind fun y1 =>
  chk (0 < m_1.length) <|
  (axioms_size (m_1.getD 0 0)).bind fun y2 =>
  if y1 ≠ y2 then
  some (.inr (.inr 1))
 else
  some (.inl (v + 1))
 else
  some (.inr (.inl ()))) 0).bind fun z => match z with
  | .inl _ => ((loopM (ρ := Unit ⊕ Int) (fun (v1 : Int) =>
  if v1 < (m_1.length : Int) then
  chk ((0 ≤ v1 ∧ v1 < m_1.length)) <|
  (loopM (ρ := Unit ⊕ Int) (fun (v2 : Int) =>
  if v2 < (m_1.length : Int) then
  chk ((0 ≤ v2 ∧ v2 < m_1.length)) <|
  (axioms_exchange m_0 m_1 (m_1.getD v1.toNat 0) (m_1.getD v2.toNat 0)).bind fun y3 =>
  if ¬ (y3 = true) then
  some (.inr (.inr 3))
 else
  some (.inl (v2 + 1))
 else
  some (.inr (.inl ()))) 0).bind fun z => match z with
  | .inl _ => (some (.inl (v1 + 1)))
  | .inr rr => some (.inr (.inr rr))
 else
  some (.inr (.inl ()))) 0).bind fun z => match z with
  | .inl _ => (some 0)
  | .inr rr => some rr)
  | .inr rr => some rr

noncomputable def axioms_ranks (m_0 : Int) (m_1 : List Int) : Option (List Int) :=
  chk ((0 ≤ m_0 ∧ m_0 ≤ 62) ∧ (0 ≤ (2 ^ m_0.toNat : Int) ∧ (2 ^ m_0.toNat : Int) ≤ 1099511627776)) <|
  (loopM (ρ := List Int) (fun ((out0, v) : List Int × Int) =>
  if v < ((List.replicate (2 ^ m_0.toNat : Int).toNat 0).length : Int) then
  (loopM (ρ := List Int) (fun ((out02, v1) : List Int × Int) =>
  if v1 < (m_1.length : Int) then
  chk ((0 ≤ v1 ∧ v1 < m_1.length)) <|
  chk ((0 ≤ v ∧ v < out02.length)) <|
  (axioms_size (iand v (m_1.getD v1.toNat 0))).bind fun y =>
  chk ((0 ≤ v ∧ v < out02.length)) <|
  some (.inl (out02.set v.toNat (max (out02.getD v.toNat 0) y), v1 + 1))
 else
  some (.inr out02)) (out0, 0)).bind fun (out03 : List Int) =>
  some (.inl (out03, v + 1))
 else
  some (.inr out0)) (List.replicate (2 ^ m_0.toNat : Int).toNat 0, 0)).bind fun (out01 : List Int) =>
  some out01

noncomputable def axioms_Ranks (m_0 : Int) (m_1 : List Int) : Option (List Int × Int) :=
  (axioms_Check m_0 m_1).bind fun y =>
  if y ≠ 0 then
  some ([], y)
 else
  (axioms_ranks m_0 m_1).bind fun y1 =>
  some (y1, 0)

end Go.SH
