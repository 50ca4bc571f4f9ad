/-
  Functions of the program as plain functions: kinds_chosen_1, kinds_chosen, kinds_Transversal_1, kinds_Transversal. By a program of mine (shal.py). Conditions: none.
-/
import Derived.Test.YtdhbpoafkhojnaaAxN
import Derived.Test.YtdhbpoafkhojnaaSp
set_option linter.unusedVariables false
set_option linter.unusedSimpArgs false
namespace Go.SH
open Go Go.AX

noncomputable def kinds_chosen_1 : Nat → Int → Int → (List Int) → Option (Bool)
  | 0, _, _, _ => none
  | fuel + 1, s, used, c0 =>
  if s = 0 then
  some true
 else
  chk ((-9223372036854775808 ≤ (-s : Int) ∧ (-s : Int) ≤ 9223372036854775807)) <|
  (loopM (ρ := Unit ⊕ Bool) (fun (v : Int) =>
  if v < (c0.length : Int) then
  chk ((0 ≤ v ∧ v < c0.length)) <|
  chk (0 ≤ v ∧ ((iand (used / 2 ^ v.toNat) 1 = 0 ∧ iand (c0.getD v.toNat 0) (iand s (-s)) ≠ 0) → (0 ≤ v ∧ v ≤ 62))) <|
  if (iand (used / 2 ^ v.toNat) 1 = 0 ∧ iand (c0.getD v.toNat 0) (iand s (-s)) ≠ 0) then
  (kinds_chosen_1 fuel (iandnot s (iand s (-s))) (ior used (2 ^ v.toNat : Int)) c0).bind fun y =>
  if y = true then
  some (.inr (.inr true))
 else
  some (.inl (v + 1))
 else
  some (.inl (v + 1))
 else
  some (.inr (.inl ()))) 0).bind fun z => match z with
  | .inl _ => (some false)
  | .inr rr => some rr

noncomputable def kinds_chosen (s : Int) (l : List Int) : Option (Bool) :=
  (kinds_chosen_1 12 s 0 l).bind fun y =>
  some y

noncomputable def kinds_Transversal_1 (s : Int) (c0 : List Int) : Option (Bool) :=
  (kinds_chosen s c0).bind fun y =>
  some y

noncomputable def kinds_Transversal (n : Int) (l : List Int) : Option (Int × List Int × Int) :=
  if (n < 0 ∨ 8 < n) then
  some (0, [], 1)
 else
  (loopM (ρ := Unit ⊕ (Int × List Int × Int)) (fun (v : Int) =>
  if v < (l.length : Int) then
  chk ((0 ≤ v ∧ v < l.length)) <|
  chk (((¬ (l.getD v.toNat 0 < 0)) → (0 ≤ n ∧ n ≤ 62))) <|
  if (l.getD v.toNat 0 < 0 ∨ (2 ^ n.toNat : Int) ≤ l.getD v.toNat 0) then
  some (.inr (.inr (0, [], 1)))
 else
  some (.inl (v + 1))
 else
  some (.inr (.inl ()))) 0).bind fun z => match z with
  | .inl _ => (if 8 < (l.length : Int) then
  some (0, [], 2)
 else
  (kinds_greatest n (fun x0 => kinds_Transversal_1 x0 l)).bind fun y =>
  some (y.1, y.2, 0))
  | .inr rr => some rr

end Go.SH
