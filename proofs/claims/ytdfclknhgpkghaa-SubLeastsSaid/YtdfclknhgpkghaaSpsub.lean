/-
  Functions of the program as plain functions: sub_form, sub_Check, sub_Least, sub_size, sub_Induced, sub_Cuts. By a program of mine (shal.py). Conditions: none.
-/
import Derived.Test.YtdfclknhgpkghaaAxN
import Derived.Test.YtdfclknhgpkghaaSpbits
import Derived.Test.YtdfclknhgpkghaaSpkinds
import Derived.Test.YtdfclknhgpkghaaSpslices
set_option linter.unusedVariables false
set_option linter.unusedSimpArgs false
namespace Go.SH
open Go Go.AX

noncomputable def sub_form (n : Int) (f : List Int) : Option (Int) :=
  chk (((¬ ((n < 0 ∨ 8 < n))) → (0 ≤ n ∧ n ≤ 62))) <|
  if ((n < 0 ∨ 8 < n) ∨ (f.length : Int) ≠ (2 ^ n.toNat : Int)) then
  some 1
 else
  (loopM (ρ := Unit ⊕ Int) (fun (v : Int) =>
  if v < (f.length : Int) then
  chk ((0 ≤ v ∧ v < f.length)) <|
  if (f.getD v.toNat 0 < (-1000) ∨ 1000 < f.getD v.toNat 0) then
  some (.inr (.inr 1))
 else
  some (.inl (v + 1))
 else
  some (.inr (.inl ()))) 0).bind fun z => match z with
  | .inl _ => (chk (0 < f.length) <|
  if f.getD 0 0 ≠ 0 then
  some 1
 else
  some 0)
  | .inr rr => some rr

noncomputable def sub_Check (n : Int) (a1 : List Int) : Option (Int) :=
  (sub_form n a1).bind fun y =>
  if y ≠ 0 then
  some y
 else
  (loopM (ρ := Unit ⊕ Int) (fun (v : Int) =>
  if v < (a1.length : Int) then
  (loopM (ρ := Unit ⊕ Int) (fun (v1 : Int) =>
  if v1 < n then
  (loopM (ρ := Unit ⊕ Int) (fun (v2 : Int) =>
  if v2 < v1 then
  chk ((0 ≤ v1 ∧ v1 ≤ 62) ∧ (0 ≤ v2 ∧ v2 ≤ 62)) <|
  chk (((iand v (ior (2 ^ v1.toNat : Int) (2 ^ v2.toNat : Int)) = 0) → (0 ≤ ior v (2 ^ v1.toNat : Int) ∧ ior v (2 ^ v1.toNat : Int) < a1.length)) ∧ ((iand v (ior (2 ^ v1.toNat : Int) (2 ^ v2.toNat : Int)) = 0) → (0 ≤ ior v (2 ^ v2.toNat : Int) ∧ ior v (2 ^ v2.toNat : Int) < a1.length)) ∧ ((iand v (ior (2 ^ v1.toNat : Int) (2 ^ v2.toNat : Int)) = 0) → (-9223372036854775808 ≤ ((a1.getD (ior v (2 ^ v1.toNat : Int)).toNat 0) + (a1.getD (ior v (2 ^ v2.toNat : Int)).toNat 0) : Int) ∧ ((a1.getD (ior v (2 ^ v1.toNat : Int)).toNat 0) + (a1.getD (ior v (2 ^ v2.toNat : Int)).toNat 0) : Int) ≤ 9223372036854775807)) ∧ ((iand v (ior (2 ^ v1.toNat : Int) (2 ^ v2.toNat : Int)) = 0) → (0 ≤ ior (ior v (2 ^ v1.toNat : Int)) (2 ^ v2.toNat : Int) ∧ ior (ior v (2 ^ v1.toNat : Int)) (2 ^ v2.toNat : Int) < a1.length)) ∧ ((iand v (ior (2 ^ v1.toNat : Int) (2 ^ v2.toNat : Int)) = 0) → (0 ≤ v ∧ v < a1.length)) ∧ ((iand v (ior (2 ^ v1.toNat : Int) (2 ^ v2.toNat : Int)) = 0) → (-9223372036854775808 ≤ ((a1.getD (ior (ior v (2 ^ v1.toNat : Int)) (2 ^ v2.toNat : Int)).toNat 0) + (a1.getD v.toNat 0) : Int) ∧ ((a1.getD (ior (ior v (2 ^ v1.toNat : Int)) (2 ^ v2.toNat : Int)).toNat 0) + (a1.getD v.toNat 0) : Int) ≤ 9223372036854775807))) <|
  if (iand v (ior (2 ^ v1.toNat : Int) (2 ^ v2.toNat : Int)) = 0 ∧ (a1.getD (ior v (2 ^ v1.toNat : Int)).toNat 0) + (a1.getD (ior v (2 ^ v2.toNat : Int)).toNat 0) < (a1.getD (ior (ior v (2 ^ v1.toNat : Int)) (2 ^ v2.toNat : Int)).toNat 0) + (a1.getD v.toNat 0)) then
  some (.inr (.inr 3))
 else
  some (.inl (v2 + 1))
 else
  some (.inr (.inl ()))) 0).bind fun z => match z with
  | .inl _ => (some (.inl (v1 + 1)))
  | .inr rr => some (.inr (.inr rr))
 else
  some (.inr (.inl ()))) 0).bind fun z => match z with
  | .inl _ => (some (.inl (v + 1)))
  | .inr rr => some (.inr (.inr rr))
 else
  some (.inr (.inl ()))) 0).bind fun z => match z with
  | .inl _ => (some 0)
  | .inr rr => some rr

noncomputable def sub_Least (n : Int) (f : List Int) : Option (Int × Int × Int × Int) :=
  (sub_Check n f).bind fun y =>
  if y ≠ 0 then
  some (0, 0, 0, y)
 else
  (slices_Min_int_int f).bind fun y1 =>
  chk ((0 ≤ n ∧ n ≤ 62) ∧ (-9223372036854775808 ≤ ((2 ^ n.toNat : Int) - 1 : Int) ∧ ((2 ^ n.toNat : Int) - 1 : Int) ≤ 9223372036854775807)) <|
  (loopM (ρ := Int × Int) (fun ((low, high, v) : Int × Int × Int) =>
  if v < (f.length : Int) then
  chk ((0 ≤ v ∧ v < f.length)) <|
  if f.getD v.toNat 0 = y1 then
  some (.inl (iand low v, ior high v, v + 1))
 else
  some (.inl (low, high, v + 1))
 else
  some (.inr (low, high))) ((2 ^ n.toNat : Int) - 1, 0, 0)).bind fun ((low1, high1) : Int × Int) =>
  some (y1, low1, high1, 0)

noncomputable def sub_size (s : Int) : Option (Int) :=
  chk ((0 ≤ (s : Int) ∧ (s : Int) ≤ 18446744073709551615)) <|
  (bits_OnesCount s).bind fun y =>
  some y

noncomputable def sub_Induced (n : Int) (a1 : List Int) : Option (Int × List Int × Int) :=
  (sub_Check n a1).bind fun y =>
  if y ≠ 0 then
  some (0, [], y)
 else
  (loopM (ρ := Unit ⊕ (Int × List Int × Int)) (fun (v : Int) =>
  if v < (a1.length : Int) then
  (loopM (ρ := Unit ⊕ (Int × List Int × Int)) (fun (v1 : Int) =>
  if v1 < n then
  chk ((0 ≤ v1 ∧ v1 ≤ 62) ∧ (0 ≤ ior v (2 ^ v1.toNat : Int) ∧ ior v (2 ^ v1.toNat : Int) < a1.length) ∧ (0 ≤ v ∧ v < a1.length)) <|
  if a1.getD (ior v (2 ^ v1.toNat : Int)).toNat 0 < a1.getD v.toNat 0 then
  some (.inr (.inr (0, [], 3)))
 else
  some (.inl (v1 + 1))
 else
  some (.inr (.inl ()))) 0).bind fun z => match z with
  | .inl _ => (some (.inl (v + 1)))
  | .inr rr => some (.inr (.inr rr))
 else
  some (.inr (.inl ()))) 0).bind fun z => match z with
  | .inl _ => ((loopM (ρ := List Int) (fun ((v2, v3, v4) : List Int × Int × Int) =>
  if v4 < (a1.length : Int) then
  (loopM (ρ := Bool) (fun ((v6, v7) : Bool × Int) =>
  if (v7 ≠ 0 ∧ v6 = true) then
  (sub_size v7).bind fun y1 =>
  chk ((0 ≤ v7 ∧ v7 < a1.length)) <|
  chk ((-9223372036854775808 ≤ (v7 - 1 : Int) ∧ (v7 - 1 : Int) ≤ 9223372036854775807)) <|
  some (.inl (decide (y1 ≤ a1.getD v7.toNat 0), iand (v7 - 1) v4))
 else
  some (.inr v6)) (true, v4)).bind fun (v8 : Bool) =>
  (if ¬ (¬ (v8 = true)) then sub_size v4 else some 0).bind fun y2 =>
  if (¬ (v8 = true) ∨ y2 < v3) then
  some (.inl (v2, v3, v4 + 1))
 else
  (sub_size v4).bind fun y3 =>
  if v3 < y3 then
  (sub_size v4).bind fun y4 =>
  chk (([v4].length ≤ 8796093022208)) <|
  some (.inl ([v4], y4, v4 + 1))
 else
  chk (((v2 ++ [v4]).length ≤ 8796093022208)) <|
  some (.inl (v2 ++ [v4], v3, v4 + 1))
 else
  some (.inr v2)) ([], (-1), 0)).bind fun (v5 : List Int) =>
  some (n, v5, 0))
  | .inr rr => some rr

noncomputable def sub_Cuts (g_0 : Int) (g_1 : List (Int × Int)) (a1 : List Int) : Option (List Int × Int) :=
  (kinds_CheckGraph g_0 g_1).bind fun y =>
  if y ≠ 0 then
  some ([], y)
 else
  if (a1.length : Int) ≠ (g_1.length : Int) then
  some ([], 3)
 else
  (loopM (ρ := Unit ⊕ (List Int × Int)) (fun (v : Int) =>
  if v < (a1.length : Int) then
  chk ((0 ≤ v ∧ v < a1.length)) <|
  if (a1.getD v.toNat 0 < 0 ∨ 100 < a1.getD v.toNat 0) then
  some (.inr (.inr ([], 1)))
 else
  some (.inl (v + 1))
 else
  some (.inr (.inl ()))) 0).bind fun z => match z with
  | .inl _ => (chk ((0 ≤ g_0 ∧ g_0 ≤ 62) ∧ (0 ≤ (2 ^ g_0.toNat : Int) ∧ (2 ^ g_0.toNat : Int) ≤ 1099511627776)) <|
  (loopM (ρ := List Int) (fun ((v1, v2) : List Int × Int) =>
  if v2 < ((List.replicate (2 ^ g_0.toNat : Int).toNat 0).length : Int) then
  (loopM (ρ := List Int) (fun ((v4, v5) : List Int × Int) =>
  if v5 < (g_1.length : Int) then
  chk ((0 ≤ v5 ∧ v5 < g_1.length)) <|
  chk (0 ≤ (g_1.getD v5.toNat (0, 0)).1 ∧ ((iand (v2 / 2 ^ ((g_1.getD v5.toNat (0, 0)).1).toNat) 1 = 1) → 0 ≤ (g_1.getD v5.toNat (0, 0)).2)) <|
  if (iand (v2 / 2 ^ ((g_1.getD v5.toNat (0, 0)).1).toNat) 1 = 1 ∧ iand (v2 / 2 ^ ((g_1.getD v5.toNat (0, 0)).2).toNat) 1 = 0) then
  chk ((0 ≤ v2 ∧ v2 < v4.length) ∧ (0 ≤ v5 ∧ v5 < a1.length) ∧ (-9223372036854775808 ≤ ((v4.getD v2.toNat 0) + (a1.getD v5.toNat 0) : Int) ∧ ((v4.getD v2.toNat 0) + (a1.getD v5.toNat 0) : Int) ≤ 9223372036854775807)) <|
  some (.inl (v4.set v2.toNat ((v4.getD v2.toNat 0) + (a1.getD v5.toNat 0)), v5 + 1))
 else
  some (.inl (v4, v5 + 1))
 else
  some (.inr v4)) (v1, 0)).bind fun (v6 : List Int) =>
  some (.inl (v6, v2 + 1))
 else
  some (.inr v1)) (List.replicate (2 ^ g_0.toNat : Int).toNat 0, 0)).bind fun (v3 : List Int) =>
  some (v3, 0))
  | .inr rr => some rr

end Go.SH
