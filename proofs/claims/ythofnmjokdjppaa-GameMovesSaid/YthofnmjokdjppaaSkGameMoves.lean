/-
  Functions of the program as plain functions: rotakeep_GameMoves. By a program of mine (shal.py). Conditions: none.
-/
import Derived.Test.YthofnmjokdjppaaAxN
import Derived.Test.YthofnmjokdjppaaSpgame
import Derived.Test.YthofnmjokdjppaaSprotaref
set_option linter.unusedVariables false
set_option linter.unusedSimpArgs false
namespace Go.SH
open Go Go.AX

noncomputable def rotakeep_GameMoves (g_0 : Int) (g_1 : List (Int × Int)) (a1 : Int) (a2 : Int) (a3 : Int) (a4 : Int) (a5 : Bool) : Option (Bool) :=
  (game_Joins 2 [(0, 1)] 0 1 1 0 false).bind fun y =>
  if (y.2 ≠ 0 ∨ ¬ (y.1 = true)) then
  some false
 else
  (game_Joins g_0 g_1 a1 a2 a3 a4 true).bind fun y1 =>
  (game_Joins g_0 g_1 a1 a2 a3 a4 false).bind fun y2 =>
  if y1.2 ≠ 0 then
  some (decide (((y1.2 = y2.2 ∧ ¬ (y1.1 = true)) ∧ ¬ (y2.1 = true))))
 else
  if (y2.2 ≠ 0 ∨ (y2.1 = true ∧ ¬ (y1.1 = true))) then
  some false
 else
  joinM (fun (v : Bool) =>
  (game_Move g_0 g_1 a1 a2 a3 a4 a5).bind fun y3 =>
  if y3.2 = 6 then
  some (decide (((y1.1 = true ↔ y2.1 = true) ∧ y3.1 = 0)))
 else
  if ¬ (y3.2 = 0 ↔ (v = true ↔ a5 = true)) then
  some false
 else
  joinM (fun (_ : Unit) =>
  (loopM (ρ := Unit ⊕ Bool) (fun (v3 : Int) =>
  if v3 < (g_1.length : Int) then
  (rotaref_In (ior a3 a4) v3).bind fun y6 =>
  if y6 = true then
  some (.inl (v3 + 1))
 else
  chk ((0 ≤ v3 ∧ v3 ≤ 62)) <|
  (game_Joins g_0 g_1 a1 a2 (ior a3 (2 ^ v3.toNat : Int)) a4 a5).bind fun y7 =>
  if (y7.2 ≠ 0 ∨ (v = true ∧ ¬ (y7.1 = true))) then
  some (.inr (.inr false))
 else
  some (.inl (v3 + 1))
 else
  some (.inr (.inl ()))) 0).bind fun z => match z with
  | .inl _ => (some true)
  | .inr rr => some rr) fun j1 =>
  if y3.2 = 0 then
  joinM (fun ((v1, v2) : Int × Int) =>
  (game_Joins g_0 g_1 a1 a2 v1 v2 (decide (¬ (a5 = true)))).bind fun y4 =>
  (if ¬ (y4.2 ≠ 0) then rotaref_In (ior a3 a4) y3.1 else some false).bind fun y5 =>
  if ((y4.2 ≠ 0 ∨ y5 = true) ∨ ¬ (y4.1 = true ↔ a5 = true)) then
  some false
 else
  j1 ()) fun j2 =>
  if a5 = true then
  chk ((0 ≤ y3.1 ∧ y3.1 ≤ 62)) <|
  j2 (ior a3 (2 ^ y3.1.toNat : Int), a4)
 else
  chk ((0 ≤ y3.1 ∧ y3.1 ≤ 62)) <|
  j2 (a3, ior a4 (2 ^ y3.1.toNat : Int))
 else
  j1 ()) fun j =>
  if a5 = true then
  j y1.1
 else
  j y2.1

end Go.SH
