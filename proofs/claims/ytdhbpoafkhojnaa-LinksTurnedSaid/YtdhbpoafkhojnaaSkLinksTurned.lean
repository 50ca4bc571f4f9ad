/-
  Functions of the program as plain functions: rotakeep_LinksTurned. By a program of mine (shal.py). Conditions: none.
-/
import Derived.Test.YtdhbpoafkhojnaaAxN
import Derived.Test.YtdhbpoafkhojnaaSplinks
import Derived.Test.YtdhbpoafkhojnaaSprotaref
set_option linter.unusedVariables false
set_option linter.unusedSimpArgs false
namespace Go.SH
open Go Go.AX

noncomputable def rotakeep_LinksTurned (g_0 : Int) (g_1 : List (Int × Int)) (a1 : Int) (a2 : Int) (a3 : Int) : Option (Bool) :=
  (links_Cut 1 [] 1 1).bind fun y =>
  if (y.2 ≠ 0 ∨ y.1 ≠ 1) then
  some false
 else
  (links_Most g_0 g_1 a1 a2).bind fun y1 =>
  if y1.2 ≠ 0 then
  some (decide (y1.1 = 0))
 else
  (loopM (ρ := List (Int × Int)) (fun ((v, v1) : (List (Int × Int)) × Int) =>
  if v1 < (g_1.length : Int) then
  chk ((0 ≤ v1 ∧ v1 < g_1.length)) <|
  chk (((v ++ [((g_1.getD v1.toNat (0, 0)).2, (g_1.getD v1.toNat (0, 0)).1)]).length ≤ 8796093022208)) <|
  some (.inl (v ++ [((g_1.getD v1.toNat (0, 0)).2, (g_1.getD v1.toNat (0, 0)).1)], v1 + 1))
 else
  some (.inr v)) ([], 0)).bind fun (v2 : List (Int × Int)) =>
  (links_Most g_0 v2 a2 a1).bind fun y2 =>
  (rotaref_Pick a3 g_0).bind fun y3 =>
  chk ((0 ≤ y3 ∧ y3 ≤ 62)) <|
  (links_Most g_0 g_1 (ior a1 (2 ^ y3.toNat : Int)) a2).bind fun y4 =>
  chk (((((y2.2 = 0 ∧ y4.2 = 0) ∧ y2.1 = y1.1) ∧ ¬ (y4.1 = y1.1)) → (-9223372036854775808 ≤ (y1.1 + 1 : Int) ∧ (y1.1 + 1 : Int) ≤ 9223372036854775807))) <|
  some (decide ((((y2.2 = 0 ∧ y4.2 = 0) ∧ y2.1 = y1.1) ∧ (y4.1 = y1.1 ∨ y4.1 = y1.1 + 1))))

end Go.SH
