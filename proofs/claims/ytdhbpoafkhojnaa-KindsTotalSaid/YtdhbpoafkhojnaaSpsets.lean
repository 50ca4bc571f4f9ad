/-
  Functions of the program as plain functions: sets_Choose, sets_Family. By a program of mine (shal.py). Conditions: none.
-/
import Derived.Test.YtdhbpoafkhojnaaAxN
import Derived.Test.YtdhbpoafkhojnaaSpbits
set_option linter.unusedVariables false
set_option linter.unusedSimpArgs false
namespace Go.SH
open Go Go.AX

noncomputable def sets_Choose (n : Int) (k : Int) : Option (List Int × Int) :=
  if (((n < 0 ∨ 8 < n) ∨ k < 0) ∨ n < k) then
  some ([], 1)
 else
  chk ((0 ≤ n ∧ n ≤ 62)) <|
  (loopM (ρ := List Int) (fun ((out0, v) : List Int × Int) =>
  if v < (2 ^ n.toNat : Int) then
  chk ((0 ≤ (v : Int) ∧ (v : Int) ≤ 18446744073709551615)) <|
  (bits_OnesCount v).bind fun y =>
  if y = k then
  chk (((out0 ++ [v]).length ≤ 8796093022208)) <|
  some (.inl (out0 ++ [v], v + 1))
 else
  some (.inl (out0, v + 1))
 else
  some (.inr out0)) ([], 0)).bind fun (out01 : List Int) =>
  some (out01, 0)

noncomputable def sets_Family (n : Int) (l : List Int) : Option (Int) :=
  if (n < 0 ∨ 8 < n) then
  some 1
 else
  (loopM (ρ := Unit ⊕ Int) (fun (v : Int) =>
  if v < (l.length : Int) then
  chk ((0 ≤ v ∧ v < l.length)) <|
  chk (((¬ (l.getD v.toNat 0 < 0)) → (0 ≤ n ∧ n ≤ 62)) ∧ (((¬ ((l.getD v.toNat 0 < 0 ∨ (2 ^ n.toNat : Int) ≤ l.getD v.toNat 0))) ∧ 0 < v) → (-9223372036854775808 ≤ (v - 1 : Int) ∧ (v - 1 : Int) ≤ 9223372036854775807)) ∧ (((¬ ((l.getD v.toNat 0 < 0 ∨ (2 ^ n.toNat : Int) ≤ l.getD v.toNat 0))) ∧ 0 < v) → (0 ≤ v - 1 ∧ v - 1 < l.length))) <|
  if ((l.getD v.toNat 0 < 0 ∨ (2 ^ n.toNat : Int) ≤ l.getD v.toNat 0) ∨ (0 < v ∧ l.getD v.toNat 0 ≤ l.getD (v - 1).toNat 0)) then
  some (.inr (.inr 1))
 else
  some (.inl (v + 1))
 else
  some (.inr (.inl ()))) 0).bind fun z => match z with
  | .inl _ => (some 0)
  | .inr rr => some rr

end Go.SH
