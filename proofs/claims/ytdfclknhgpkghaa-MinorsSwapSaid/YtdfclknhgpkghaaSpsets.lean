/-
  Functions of the program as plain functions: sets_Family, sets_least_1, sets_least, sets_Least, sets_Blocker, sets_Shadow, sets_Check. By a program of mine (shal.py). Conditions: none.
-/
import Derived.Test.YtdfclknhgpkghaaAxN
import Derived.Test.YtdfclknhgpkghaaAxP
import Derived.Test.YtdfclknhgpkghaaSpslices
set_option linter.unusedVariables false
set_option linter.unusedSimpArgs false
namespace Go.SH
open Go Go.AX

noncomputable def sets_Family (n : Int) (l : List Int) : Option (Int) :=
  if (n < 0 ∨ 8 < n) then
  some 1
 else
  (loopM (ρ := Unit ⊕ Int) (fun (v : Int) =>
  if v < (l.length : Int) then
  chk ((0 ≤ v ∧ v < l.length)) <|
  chk (((¬ (l.getD v.toNat 0 < 0)) → (0 ≤ n ∧ n ≤ 62)) ∧ (((¬ ((l.getD v.toNat 0 < 0 ∨ (2 ^ n.toNat : Int) ≤ l.getD v.toNat 0))) ∧ 0 < v) → (-9223372036854775808 ≤ (v - 1 : Int) ∧ (v - 1 : Int) ≤ 9223372036854775807)) ∧ (((¬ ((l.getD v.toNat 0 < 0 ∨ (2 ^ n.toNat : Int) ≤ l.getD v.toNat 0))) ∧ 0 < v) → (0 ≤ v - 1 ∧ v - 1 < l.length))) <|
  if ((l.getD v.toNat 0 < 0 ∨ (2 ^ n.toNat : Int) ≤ l.getD v.toNat 0) ∨ (0 < v ∧ l.getD v.toNat 0 ≤ l.getD (v - 1).toNat 0)) then
  some (.inr (.inr 1))
 else
  some (.inl (v + 1))
 else
  some (.inr (.inl ()))) 0).bind fun z => match z with
  | .inl _ => (some 0)
  | .inr rr => some rr

noncomputable def sets_least_1 (t : Int) (c0 : Int) : Option (Bool) :=
  some (decide ((t ≠ c0 ∧ iand t c0 = t)))

noncomputable def sets_least (l : List Int) : Option (List Int) :=
  (loopM (ρ := List Int) (fun ((out0, v) : List Int × Int) =>
  if v < (l.length : Int) then
  chk ((0 ≤ v ∧ v < l.length)) <|
  (slices_ContainsFunc_int_int l (fun x0 => sets_least_1 x0 (l.getD v.toNat 0))).bind fun y =>
  if ¬ (y = true) then
  chk (((out0 ++ [l.getD v.toNat 0]).length ≤ 8796093022208)) <|
  some (.inl (out0 ++ [l.getD v.toNat 0], v + 1))
 else
  some (.inl (out0, v + 1))
 else
  some (.inr out0)) ([], 0)).bind fun (out01 : List Int) =>
  some out01

noncomputable def sets_Least (n : Int) (l : List Int) : Option (List Int × Int) :=
  (sets_Family n l).bind fun y =>
  if y ≠ 0 then
  some ([], y)
 else
  (sets_least l).bind fun y1 =>
  some (y1, 0)

noncomputable def sets_Blocker (n : Int) (a1 : List Int) : Option (List Int × Int) :=
  (sets_Family n a1).bind fun y =>
  if y ≠ 0 then
  some ([], y)
 else
  (loopM (ρ := List Int) (fun ((v, v1) : List Int × Int) =>
  if v1 < (a1.length : Int) then
  chk ((0 ≤ v1 ∧ v1 < a1.length)) <|
  (loopM (ρ := List Int) (fun ((v3, v4) : List Int × Int) =>
  if v4 < (v.length : Int) then
  chk ((0 ≤ v4 ∧ v4 < v.length)) <|
  if iand (v.getD v4.toNat 0) (a1.getD v1.toNat 0) ≠ 0 then
  chk (((v3 ++ [v.getD v4.toNat 0]).length ≤ 8796093022208)) <|
  some (.inl (v3 ++ [v.getD v4.toNat 0], v4 + 1))
 else
  (loopM (ρ := List Int) (fun ((v6, v7) : List Int × Int) =>
  if v7 < n then
  chk (0 ≤ v7) <|
  if iand ((a1.getD v1.toNat 0) / 2 ^ v7.toNat) 1 = 1 then
  chk ((0 ≤ v7 ∧ v7 ≤ 62) ∧ ((v6 ++ [ior (v.getD v4.toNat 0) (2 ^ v7.toNat : Int)]).length ≤ 8796093022208)) <|
  some (.inl (v6 ++ [ior (v.getD v4.toNat 0) (2 ^ v7.toNat : Int)], v7 + 1))
 else
  some (.inl (v6, v7 + 1))
 else
  some (.inr v6)) (v3, 0)).bind fun (v8 : List Int) =>
  some (.inl (v8, v4 + 1))
 else
  some (.inr v3)) ([], 0)).bind fun (v5 : List Int) =>
  chk ((v5.length < 4611686018427387904)) <|
  (sets_least (uniqL (sortL v5))).bind fun y1 =>
  some (.inl (y1, v1 + 1))
 else
  some (.inr v)) ([0], 0)).bind fun (v2 : List Int) =>
  some (v2, 0)

noncomputable def sets_Shadow (n : Int) (l : List Int) : Option (List Int × Int) :=
  (sets_Family n l).bind fun y =>
  if y ≠ 0 then
  some ([], y)
 else
  (loopM (ρ := List Int) (fun ((out0, v) : List Int × Int) =>
  if v < (l.length : Int) then
  chk ((0 ≤ v ∧ v < l.length)) <|
  (loopM (ρ := List Int) (fun ((out02, v1) : List Int × Int) =>
  if v1 < n then
  chk (0 ≤ v1) <|
  if iand ((l.getD v.toNat 0) / 2 ^ v1.toNat) 1 = 1 then
  chk ((0 ≤ v1 ∧ v1 ≤ 62) ∧ ((out02 ++ [iandnot (l.getD v.toNat 0) (2 ^ v1.toNat : Int)]).length ≤ 8796093022208)) <|
  some (.inl (out02 ++ [iandnot (l.getD v.toNat 0) (2 ^ v1.toNat : Int)], v1 + 1))
 else
  some (.inl (out02, v1 + 1))
 else
  some (.inr out02)) (out0, 0)).bind fun (out03 : List Int) =>
  some (.inl (out03, v + 1))
 else
  some (.inr out0)) ([], 0)).bind fun (out01 : List Int) =>
  chk ((out01.length < 4611686018427387904)) <|
  chk (((uniqL (sortL out01)).length ≤ 8796093022208)) <|
  some (uniqL (sortL out01), 0)

noncomputable def sets_Check (n : Int) (s : Int) : Option (Int) :=
  chk (((¬ (((n < 0 ∨ 8 < n) ∨ s < 0))) → (0 ≤ n ∧ n ≤ 62))) <|
  if (((n < 0 ∨ 8 < n) ∨ s < 0) ∨ (2 ^ n.toNat : Int) ≤ s) then
  some 1
 else
  some 0

end Go.SH
