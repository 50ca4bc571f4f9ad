/-
  Functions of the program as plain functions: kinds_CheckGraph, kinds_size, kinds_Laminar_1, kinds_greatest, kinds_Laminar, kinds_chosen_1, kinds_chosen, kinds_Transversal_1, kinds_Transversal. By a program of mine (shal.py). Conditions: none.
-/
import Derived.Test.YtobpcecpfojpmaaDoorAxN
import Derived.Test.YtobpcecpfojpmaaDoorSpbits
import Derived.Test.YtobpcecpfojpmaaDoorSpsets
set_option linter.unusedVariables false
set_option linter.unusedSimpArgs false
namespace Go.SH
open Go Go.AX

noncomputable def kinds_CheckGraph (g_0 : Int) (g_1 : List (Int × Int)) : Option (Int) :=
  if ((g_0 < 1 ∨ 7 < g_0) ∨ 8 < (g_1.length : Int)) then
  some 1
 else
  (loopM (ρ := Unit ⊕ Int) (fun (v : Int) =>
  if v < (g_1.length : Int) then
  chk ((0 ≤ v ∧ v < g_1.length)) <|
  if ((((g_1.getD v.toNat (0, 0)).1 < 0 ∨ (g_1.getD v.toNat (0, 0)).2 < 0) ∨ g_0 ≤ (g_1.getD v.toNat (0, 0)).1) ∨ g_0 ≤ (g_1.getD v.toNat (0, 0)).2) then
  some (.inr (.inr 1))
 else
  some (.inl (v + 1))
 else
  some (.inr (.inl ()))) 0).bind fun z => match z with
  | .inl _ => (some 0)
  | .inr rr => some rr

noncomputable def kinds_size (s : Int) : Option (Int) :=
  chk ((0 ≤ (s : Int) ∧ (s : Int) ≤ 18446744073709551615)) <|
  (bits_OnesCount s).bind fun y =>
  some y

noncomputable def kinds_Laminar_1 (s : Int) (c0 : List Int) (c1 : List Int) : Option (Bool) :=
  (loopM (ρ := Unit ⊕ Bool) (fun (v : Int) =>
  if v < (c0.length : Int) then
  chk ((0 ≤ v ∧ v < c0.length)) <|
  (kinds_size (iand (c0.getD v.toNat 0) s)).bind fun y =>
  chk ((0 ≤ v ∧ v < c1.length)) <|
  if c1.getD v.toNat 0 < y then
  some (.inr (.inr false))
 else
  some (.inl (v + 1))
 else
  some (.inr (.inl ()))) 0).bind fun z => match z with
  | .inl _ => (some true)
  | .inr rr => some rr

noncomputable def kinds_greatest (n : Int) (independent : Int → Option (Bool)) : Option (Int × List Int) :=
  chk ((0 ≤ n ∧ n ≤ 62)) <|
  (loopM (ρ := List Int) (fun ((m, most, v) : List Int × Int × Int) =>
  if v < (2 ^ n.toNat : Int) then
  (kinds_size v).bind fun y =>
  if ¬ (y < most) then
  (independent v).bind fun y1 =>
  if ¬ (y1 = true) then
  some (.inl (m, most, v + 1))
 else
  (kinds_size v).bind fun y2 =>
  if most < y2 then
  (kinds_size v).bind fun y3 =>
  chk (([v].length ≤ 8796093022208)) <|
  some (.inl ([v], y3, v + 1))
 else
  chk (((m ++ [v]).length ≤ 8796093022208)) <|
  some (.inl (m ++ [v], most, v + 1))
 else
  some (.inl (m, most, v + 1))
 else
  some (.inr m)) ([], (-1), 0)).bind fun (m1 : List Int) =>
  some (n, m1)

noncomputable def kinds_Laminar (n : Int) (a1 : List Int) (a2 : List Int) : Option (Int × List Int × Int) :=
  (sets_Family n a1).bind fun y =>
  if y ≠ 0 then
  some (0, [], y)
 else
  if (a2.length : Int) ≠ (a1.length : Int) then
  some (0, [], 3)
 else
  (loopM (ρ := Unit ⊕ (Int × List Int × Int)) (fun (v : Int) =>
  if v < (a1.length : Int) then
  chk ((0 ≤ v ∧ v < a1.length)) <|
  chk ((0 ≤ v ∧ v < a2.length)) <|
  if a2.getD v.toNat 0 < 0 then
  some (.inr (.inr (0, [], 1)))
 else
  chk ((0 ≤ v ∧ v ≤ a1.length)) <|
  (loopM (ρ := Unit ⊕ (Int × List Int × Int)) (fun (v1 : Int) =>
  if v1 < ((a1.take v.toNat).length : Int) then
  chk ((0 ≤ v1 ∧ v1 < (a1.take v.toNat).length)) <|
  if ((iand (a1.getD v.toNat 0) ((a1.take v.toNat).getD v1.toNat 0) ≠ 0 ∧ iand (a1.getD v.toNat 0) ((a1.take v.toNat).getD v1.toNat 0) ≠ a1.getD v.toNat 0) ∧ iand (a1.getD v.toNat 0) ((a1.take v.toNat).getD v1.toNat 0) ≠ (a1.take v.toNat).getD v1.toNat 0) then
  some (.inr (.inr (0, [], 3)))
 else
  some (.inl (v1 + 1))
 else
  some (.inr (.inl ()))) 0).bind fun z => match z with
  | .inl _ => (some (.inl (v + 1)))
  | .inr rr => some (.inr (.inr rr))
 else
  some (.inr (.inl ()))) 0).bind fun z => match z with
  | .inl _ => ((kinds_greatest n (fun x0 => kinds_Laminar_1 x0 a1 a2)).bind fun y1 =>
  some (y1.1, y1.2, 0))
  | .inr rr => some rr

noncomputable def kinds_chosen_1 : Nat → Int → Int → (List Int) → Option (Bool)
  | 0, _, _, _ => none
  | fuel + 1, s, used, c0 =>
  if s = 0 then
  some true
 else
  chk ((-9223372036854775808 ≤ (-s : Int) ∧ (-s : Int) ≤ 9223372036854775807)) <|
  (loopM (ρ := Unit ⊕ Bool) (fun (v : Int) =>
  if v < (c0.length : Int) then
  chk ((0 ≤ v ∧ v < c0.length)) <|
  chk (0 ≤ v ∧ ((iand (used / 2 ^ v.toNat) 1 = 0 ∧ iand (c0.getD v.toNat 0) (iand s (-s)) ≠ 0) → (0 ≤ v ∧ v ≤ 62))) <|
  if (iand (used / 2 ^ v.toNat) 1 = 0 ∧ iand (c0.getD v.toNat 0) (iand s (-s)) ≠ 0) then
  (kinds_chosen_1 fuel (iandnot s (iand s (-s))) (ior used (2 ^ v.toNat : Int)) c0).bind fun y =>
  if y = true then
  some (.inr (.inr true))
 else
  some (.inl (v + 1))
 else
  some (.inl (v + 1))
 else
  some (.inr (.inl ()))) 0).bind fun z => match z with
  | .inl _ => (some false)
  | .inr rr => some rr

noncomputable def kinds_chosen (s : Int) (l : List Int) : Option (Bool) :=
  (kinds_chosen_1 12 s 0 l).bind fun y =>
  some y

noncomputable def kinds_Transversal_1 (s : Int) (c0 : List Int) : Option (Bool) :=
  (kinds_chosen s c0).bind fun y =>
  some y

noncomputable def kinds_Transversal (n : Int) (l : List Int) : Option (Int × List Int × Int) :=
  if (n < 0 ∨ 8 < n) then
  some (0, [], 1)
 else
  (loopM (ρ := Unit ⊕ (Int × List Int × Int)) (fun (v : Int) =>
  if v < (l.length : Int) then
  chk ((0 ≤ v ∧ v < l.length)) <|
  chk (((¬ (l.getD v.toNat 0 < 0)) → (0 ≤ n ∧ n ≤ 62))) <|
  if (l.getD v.toNat 0 < 0 ∨ (2 ^ n.toNat : Int) ≤ l.getD v.toNat 0) then
  some (.inr (.inr (0, [], 1)))
 else
  some (.inl (v + 1))
 else
  some (.inr (.inl ()))) 0).bind fun z => match z with
  | .inl _ => (if 8 < (l.length : Int) then
  some (0, [], 2)
 else
  (kinds_greatest n (fun x0 => kinds_Transversal_1 x0 l)).bind fun y =>
  some (y.1, y.2, 0))
  | .inr rr => some rr

end Go.SH
