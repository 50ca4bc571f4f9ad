/-
  Functions of the program as plain functions: sub_form, sub_Extended_1, sub_Extended, sub_Check, sub_order, sub_Vertex. By a program of mine (shal.py). Conditions: none.
-/
import Derived.Test.YtcjhpcbipcdhiaaAxN
import Derived.Test.YtcjhpcbipcdhiaaAxY
import Derived.Test.YtcjhpcbipcdhiaaSpcmp
set_option linter.unusedVariables false
set_option linter.unusedSimpArgs false
namespace Go.SH
open Go Go.AX

noncomputable def sub_form (n : Int) (f : List Int) : Option (Int) :=
  chk (((¬ ((n < 0 ∨ 8 < n))) → (0 ≤ n ∧ n ≤ 62))) <|
  if ((n < 0 ∨ 8 < n) ∨ (f.length : Int) ≠ (2 ^ n.toNat : Int)) then
  some 1
 else
  (loopM (ρ := Unit ⊕ Int) (fun (v : Int) =>
  if v < (f.length : Int) then
  chk ((0 ≤ v ∧ v < f.length)) <|
  if (f.getD v.toNat 0 < (-1000) ∨ 1000 < f.getD v.toNat 0) then
  some (.inr (.inr 1))
 else
  some (.inl (v + 1))
 else
  some (.inr (.inl ()))) 0).bind fun z => match z with
  | .inl _ => (chk (0 < f.length) <|
  if f.getD 0 0 ≠ 0 then
  some 1
 else
  some 0)
  | .inr rr => some rr

noncomputable def sub_Extended_1 (a : Int) (b : Int) (c0 : List Int) : Option (Int) :=
  chk ((0 ≤ b ∧ b < c0.length) ∧ (0 ≤ a ∧ a < c0.length)) <|
  (cmp_Compare_int (c0.getD b.toNat 0) (c0.getD a.toNat 0)).bind fun y =>
  some y

noncomputable def sub_Extended (n : Int) (a1 : List Int) (a2 : List Int) : Option (Int × Int) :=
  (sub_form n a1).bind fun y =>
  if y ≠ 0 then
  some (0, y)
 else
  if (a2.length : Int) ≠ n then
  some (0, 3)
 else
  chk ((0 ≤ n ∧ n ≤ 1099511627776)) <|
  (loopM (ρ := (List Int) ⊕ (Int × Int)) (fun ((v, v1) : List Int × Int) =>
  if v1 < (a2.length : Int) then
  chk ((0 ≤ v1 ∧ v1 < a2.length)) <|
  if (a2.getD v1.toNat 0 < (-1000) ∨ 1000 < a2.getD v1.toNat 0) then
  some (.inr (.inr (0, 1)))
 else
  chk ((0 ≤ v1 ∧ v1 < v.length)) <|
  some (.inl (v.set v1.toNat v1, v1 + 1))
 else
  some (.inr (.inl v))) (List.replicate n.toNat 0, 0)).bind fun z => match z with
  | .inl v2 => (chk ((OrdL (fun x0 x1 => sub_Extended_1 x0 x1 a2) v2 ∧ v2.length < 20)) <|
  (loopM (ρ := Int) (fun ((v3, v4, v5) : Int × Int × Int) =>
  if v5 < ((stabL (fun x0 x1 => sub_Extended_1 x0 x1 a2) v2).length : Int) then
  chk ((0 ≤ v5 ∧ v5 < ((stabL (fun x0 x1 => sub_Extended_1 x0 x1 a2) v2).length))) <|
  chk ((0 ≤ (stabL (fun x0 x1 => sub_Extended_1 x0 x1 a2) v2).getD v5.toNat 0 ∧ (stabL (fun x0 x1 => sub_Extended_1 x0 x1 a2) v2).getD v5.toNat 0 < a2.length) ∧ (0 ≤ (stabL (fun x0 x1 => sub_Extended_1 x0 x1 a2) v2).getD v5.toNat 0 ∧ (stabL (fun x0 x1 => sub_Extended_1 x0 x1 a2) v2).getD v5.toNat 0 ≤ 62) ∧ (0 ≤ ior v4 (2 ^ ((stabL (fun x0 x1 => sub_Extended_1 x0 x1 a2) v2).getD v5.toNat 0).toNat : Int) ∧ ior v4 (2 ^ ((stabL (fun x0 x1 => sub_Extended_1 x0 x1 a2) v2).getD v5.toNat 0).toNat : Int) < a1.length) ∧ (0 ≤ v4 ∧ v4 < a1.length) ∧ (-9223372036854775808 ≤ ((a1.getD (ior v4 (2 ^ ((stabL (fun x0 x1 => sub_Extended_1 x0 x1 a2) v2).getD v5.toNat 0).toNat : Int)).toNat 0) - (a1.getD v4.toNat 0) : Int) ∧ ((a1.getD (ior v4 (2 ^ ((stabL (fun x0 x1 => sub_Extended_1 x0 x1 a2) v2).getD v5.toNat 0).toNat : Int)).toNat 0) - (a1.getD v4.toNat 0) : Int) ≤ 9223372036854775807) ∧ (-9223372036854775808 ≤ ((a2.getD ((stabL (fun x0 x1 => sub_Extended_1 x0 x1 a2) v2).getD v5.toNat 0).toNat 0) * ((a1.getD (ior v4 (2 ^ ((stabL (fun x0 x1 => sub_Extended_1 x0 x1 a2) v2).getD v5.toNat 0).toNat : Int)).toNat 0) - (a1.getD v4.toNat 0)) : Int) ∧ ((a2.getD ((stabL (fun x0 x1 => sub_Extended_1 x0 x1 a2) v2).getD v5.toNat 0).toNat 0) * ((a1.getD (ior v4 (2 ^ ((stabL (fun x0 x1 => sub_Extended_1 x0 x1 a2) v2).getD v5.toNat 0).toNat : Int)).toNat 0) - (a1.getD v4.toNat 0)) : Int) ≤ 9223372036854775807) ∧ (-9223372036854775808 ≤ (v3 + ((a2.getD ((stabL (fun x0 x1 => sub_Extended_1 x0 x1 a2) v2).getD v5.toNat 0).toNat 0) * ((a1.getD (ior v4 (2 ^ ((stabL (fun x0 x1 => sub_Extended_1 x0 x1 a2) v2).getD v5.toNat 0).toNat : Int)).toNat 0) - (a1.getD v4.toNat 0))) : Int) ∧ (v3 + ((a2.getD ((stabL (fun x0 x1 => sub_Extended_1 x0 x1 a2) v2).getD v5.toNat 0).toNat 0) * ((a1.getD (ior v4 (2 ^ ((stabL (fun x0 x1 => sub_Extended_1 x0 x1 a2) v2).getD v5.toNat 0).toNat : Int)).toNat 0) - (a1.getD v4.toNat 0))) : Int) ≤ 9223372036854775807)) <|
  chk ((0 ≤ (stabL (fun x0 x1 => sub_Extended_1 x0 x1 a2) v2).getD v5.toNat 0 ∧ (stabL (fun x0 x1 => sub_Extended_1 x0 x1 a2) v2).getD v5.toNat 0 ≤ 62)) <|
  some (.inl (v3 + ((a2.getD ((stabL (fun x0 x1 => sub_Extended_1 x0 x1 a2) v2).getD v5.toNat 0).toNat 0) * ((a1.getD (ior v4 (2 ^ ((stabL (fun x0 x1 => sub_Extended_1 x0 x1 a2) v2).getD v5.toNat 0).toNat : Int)).toNat 0) - (a1.getD v4.toNat 0))), ior v4 (2 ^ ((stabL (fun x0 x1 => sub_Extended_1 x0 x1 a2) v2).getD v5.toNat 0).toNat : Int), v5 + 1))
 else
  some (.inr v3)) (0, 0, 0)).bind fun (v6 : Int) =>
  some (v6, 0))
  | .inr rr => some rr

noncomputable def sub_Check (n : Int) (a1 : List Int) : Option (Int) :=
  (sub_form n a1).bind fun y =>
  if y ≠ 0 then
  some y
 else
  (loopM (ρ := Unit ⊕ Int) (fun (v : Int) =>
  if v < (a1.length : Int) then
  (loopM (ρ := Unit ⊕ Int) (fun (v1 : Int) =>
  if v1 < n then
  (loopM (ρ := Unit ⊕ Int) (fun (v2 : Int) =>
  if v2 < v1 then
  chk ((0 ≤ v1 ∧ v1 ≤ 62) ∧ (0 ≤ v2 ∧ v2 ≤ 62)) <|
  chk (((iand v (ior (2 ^ v1.toNat : Int) (2 ^ v2.toNat : Int)) = 0) → (0 ≤ ior v (2 ^ v1.toNat : Int) ∧ ior v (2 ^ v1.toNat : Int) < a1.length)) ∧ ((iand v (ior (2 ^ v1.toNat : Int) (2 ^ v2.toNat : Int)) = 0) → (0 ≤ ior v (2 ^ v2.toNat : Int) ∧ ior v (2 ^ v2.toNat : Int) < a1.length)) ∧ ((iand v (ior (2 ^ v1.toNat : Int) (2 ^ v2.toNat : Int)) = 0) → (-9223372036854775808 ≤ ((a1.getD (ior v (2 ^ v1.toNat : Int)).toNat 0) + (a1.getD (ior v (2 ^ v2.toNat : Int)).toNat 0) : Int) ∧ ((a1.getD (ior v (2 ^ v1.toNat : Int)).toNat 0) + (a1.getD (ior v (2 ^ v2.toNat : Int)).toNat 0) : Int) ≤ 9223372036854775807)) ∧ ((iand v (ior (2 ^ v1.toNat : Int) (2 ^ v2.toNat : Int)) = 0) → (0 ≤ ior (ior v (2 ^ v1.toNat : Int)) (2 ^ v2.toNat : Int) ∧ ior (ior v (2 ^ v1.toNat : Int)) (2 ^ v2.toNat : Int) < a1.length)) ∧ ((iand v (ior (2 ^ v1.toNat : Int) (2 ^ v2.toNat : Int)) = 0) → (0 ≤ v ∧ v < a1.length)) ∧ ((iand v (ior (2 ^ v1.toNat : Int) (2 ^ v2.toNat : Int)) = 0) → (-9223372036854775808 ≤ ((a1.getD (ior (ior v (2 ^ v1.toNat : Int)) (2 ^ v2.toNat : Int)).toNat 0) + (a1.getD v.toNat 0) : Int) ∧ ((a1.getD (ior (ior v (2 ^ v1.toNat : Int)) (2 ^ v2.toNat : Int)).toNat 0) + (a1.getD v.toNat 0) : Int) ≤ 9223372036854775807))) <|
  if (iand v (ior (2 ^ v1.toNat : Int) (2 ^ v2.toNat : Int)) = 0 ∧ (a1.getD (ior v (2 ^ v1.toNat : Int)).toNat 0) + (a1.getD (ior v (2 ^ v2.toNat : Int)).toNat 0) < (a1.getD (ior (ior v (2 ^ v1.toNat : Int)) (2 ^ v2.toNat : Int)).toNat 0) + (a1.getD v.toNat 0)) then
  some (.inr (.inr 3))
 else
  some (.inl (v2 + 1))
 else
  some (.inr (.inl ()))) 0).bind fun z => match z with
  | .inl _ => (some (.inl (v1 + 1)))
  | .inr rr => some (.inr (.inr rr))
 else
  some (.inr (.inl ()))) 0).bind fun z => match z with
  | .inl _ => (some (.inl (v + 1)))
  | .inr rr => some (.inr (.inr rr))
 else
  some (.inr (.inl ()))) 0).bind fun z => match z with
  | .inl _ => (some 0)
  | .inr rr => some rr

noncomputable def sub_order (n : Int) (p : List Int) : Option (Bool) :=
  (loopM (ρ := Unit ⊕ Bool) (fun ((seen, v) : Int × Int) =>
  if v < (p.length : Int) then
  chk ((0 ≤ v ∧ v < p.length)) <|
  chk (((¬ ((p.getD v.toNat 0 < 0 ∨ n ≤ p.getD v.toNat 0))) → 0 ≤ p.getD v.toNat 0)) <|
  if ((p.getD v.toNat 0 < 0 ∨ n ≤ p.getD v.toNat 0) ∨ iand (seen / 2 ^ (p.getD v.toNat 0).toNat) 1 = 1) then
  some (.inr (.inr false))
 else
  chk ((0 ≤ p.getD v.toNat 0 ∧ p.getD v.toNat 0 ≤ 62)) <|
  some (.inl (ior seen (2 ^ (p.getD v.toNat 0).toNat : Int), v + 1))
 else
  some (.inr (.inl ()))) (0, 0)).bind fun z => match z with
  | .inl _ => (some (decide ((p.length : Int) = n)))
  | .inr rr => some rr

noncomputable def sub_Vertex (n : Int) (f : List Int) (p : List Int) : Option (List Int × Int) :=
  (sub_Check n f).bind fun y =>
  if y ≠ 0 then
  some ([], y)
 else
  (sub_order n p).bind fun y1 =>
  if ¬ (y1 = true) then
  some ([], 1)
 else
  chk ((0 ≤ n ∧ n ≤ 1099511627776)) <|
  (loopM (ρ := List Int) (fun ((out0, s, v) : List Int × Int × Int) =>
  if v < (p.length : Int) then
  chk ((0 ≤ v ∧ v < p.length)) <|
  chk ((0 ≤ p.getD v.toNat 0 ∧ p.getD v.toNat 0 ≤ 62) ∧ (0 ≤ ior s (2 ^ (p.getD v.toNat 0).toNat : Int) ∧ ior s (2 ^ (p.getD v.toNat 0).toNat : Int) < f.length) ∧ (0 ≤ s ∧ s < f.length) ∧ (-9223372036854775808 ≤ ((f.getD (ior s (2 ^ (p.getD v.toNat 0).toNat : Int)).toNat 0) - (f.getD s.toNat 0) : Int) ∧ ((f.getD (ior s (2 ^ (p.getD v.toNat 0).toNat : Int)).toNat 0) - (f.getD s.toNat 0) : Int) ≤ 9223372036854775807) ∧ (0 ≤ p.getD v.toNat 0 ∧ p.getD v.toNat 0 < out0.length)) <|
  chk ((0 ≤ p.getD v.toNat 0 ∧ p.getD v.toNat 0 ≤ 62)) <|
  some (.inl (out0.set (p.getD v.toNat 0).toNat ((f.getD (ior s (2 ^ (p.getD v.toNat 0).toNat : Int)).toNat 0) - (f.getD s.toNat 0)), ior s (2 ^ (p.getD v.toNat 0).toNat : Int), v + 1))
 else
  some (.inr out0)) (List.replicate n.toNat 0, 0, 0)).bind fun (out01 : List Int) =>
  some (out01, 0)

end Go.SH
