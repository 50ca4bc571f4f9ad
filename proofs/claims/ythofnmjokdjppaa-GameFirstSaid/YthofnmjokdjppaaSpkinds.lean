/-
  Functions of the program as plain functions: kinds_CheckGraph. By a program of mine (shal.py). Conditions: none.
-/
import Derived.Test.YthofnmjokdjppaaAxN
set_option linter.unusedVariables false
set_option linter.unusedSimpArgs false
namespace Go.SH
open Go Go.AX

noncomputable def kinds_CheckGraph (g_0 : Int) (g_1 : List (Int × Int)) : Option (Int) :=
  if ((g_0 < 1 ∨ 7 < g_0) ∨ 8 < (g_1.length : Int)) then
  some 1
 else
  (loopM (ρ := Unit ⊕ Int) (fun (v : Int) =>
  if v < (g_1.length : Int) then
  chk ((0 ≤ v ∧ v < g_1.length)) <|
  if ((((g_1.getD v.toNat (0, 0)).1 < 0 ∨ (g_1.getD v.toNat (0, 0)).2 < 0) ∨ g_0 ≤ (g_1.getD v.toNat (0, 0)).1) ∨ g_0 ≤ (g_1.getD v.toNat (0, 0)).2) then
  some (.inr (.inr 1))
 else
  some (.inl (v + 1))
 else
  some (.inr (.inl ()))) 0).bind fun z => match z with
  | .inl _ => (some 0)
  | .inr rr => some rr

end Go.SH
