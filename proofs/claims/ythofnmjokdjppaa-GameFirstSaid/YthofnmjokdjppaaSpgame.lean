/-
  Functions of the program as plain functions: game_Check, game_hangs, game_table_wins, game_Joins, game_Move, game_spans, game_Twins. By a program of mine (shal.py). Conditions: none.
-/
import Derived.Test.YthofnmjokdjppaaAxN
import Derived.Test.YthofnmjokdjppaaAxMg
import Derived.Test.YthofnmjokdjppaaSpbits
import Derived.Test.YthofnmjokdjppaaSpkinds
set_option linter.unusedVariables false
set_option linter.unusedSimpArgs false
namespace Go.SH
open Go Go.AX

noncomputable def game_Check (g_0 : Int) (g_1 : List (Int × Int)) (a1 : Int) (a2 : Int) (a3 : Int) (a4 : Int) : Option (Int) :=
  (kinds_CheckGraph g_0 g_1).bind fun y =>
  if y ≠ 0 then
  some y
 else
  chk ((0 ≤ (g_1.length : Int) ∧ (g_1.length : Int) ≤ 62) ∧ (-9223372036854775808 ≤ ((2 ^ (g_1.length : Int).toNat : Int) - 1 : Int) ∧ ((2 ^ (g_1.length : Int).toNat : Int) - 1 : Int) ≤ 9223372036854775807)) <|
  if ((((((((a1 < 0 ∨ a2 < 0) ∨ g_0 ≤ a1) ∨ g_0 ≤ a2) ∨ a3 < 0) ∨ a4 < 0) ∨ iandnot a3 ((2 ^ (g_1.length : Int).toNat : Int) - 1) ≠ 0) ∨ iandnot a4 ((2 ^ (g_1.length : Int).toNat : Int) - 1) ≠ 0) ∨ iand a3 a4 ≠ 0) then
  some 1
 else
  some 0

noncomputable def game_hangs (g_0 : Int) (g_1 : List (Int × Int)) (s : Int) (t : Int) (edges : Int) : Option (Bool) :=
  chk ((0 ≤ s ∧ s ≤ 62)) <|
  (loopM (ρ := Int) (fun ((in0, v) : Int × Int) =>
  if v < g_0 then
  (loopM (ρ := Int) (fun ((in02, v1) : Int × Int) =>
  if v1 < (g_1.length : Int) then
  chk ((0 ≤ v1 ∧ v1 < g_1.length)) <|
  chk (0 ≤ v1 ∧ ((iand (edges / 2 ^ v1.toNat) 1 = 1) → 0 ≤ (g_1.getD v1.toNat (0, 0)).1) ∧ (((iand (edges / 2 ^ v1.toNat) 1 = 1) ∧ ¬ (iand (in02 / 2 ^ ((g_1.getD v1.toNat (0, 0)).1).toNat) 1 = 1)) → 0 ≤ (g_1.getD v1.toNat (0, 0)).2)) <|
  if (iand (edges / 2 ^ v1.toNat) 1 = 1 ∧ (iand (in02 / 2 ^ ((g_1.getD v1.toNat (0, 0)).1).toNat) 1 = 1 ∨ iand (in02 / 2 ^ ((g_1.getD v1.toNat (0, 0)).2).toNat) 1 = 1)) then
  chk ((0 ≤ (g_1.getD v1.toNat (0, 0)).1 ∧ (g_1.getD v1.toNat (0, 0)).1 ≤ 62) ∧ (0 ≤ (g_1.getD v1.toNat (0, 0)).2 ∧ (g_1.getD v1.toNat (0, 0)).2 ≤ 62)) <|
  some (.inl (ior in02 (ior (2 ^ ((g_1.getD v1.toNat (0, 0)).1).toNat : Int) (2 ^ ((g_1.getD v1.toNat (0, 0)).2).toNat : Int)), v1 + 1))
 else
  some (.inl (in02, v1 + 1))
 else
  some (.inr in02)) (in0, 0)).bind fun (in03 : Int) =>
  some (.inl (in03, v + 1))
 else
  some (.inr in0)) ((2 ^ s.toNat : Int), 0)).bind fun (in01 : Int) =>
  chk (0 ≤ t) <|
  some (decide (iand (in01 / 2 ^ t.toNat) 1 = 1))

noncomputable def game_table_wins : Nat → Int → (List (Int × Int)) → Int → Int → Memo → Int → Int → Int → Option (Bool × Memo)
  | 0, _, _, _, _, _, _, _, _ => none
  | fuel + 1, b_0, b_1, b_2, b_3, b_4, a1, a2, a3 =>
  if 0 < b_4.2 [a1, a2, a3] then
  some (decide (b_4.2 [a1, a2, a3] = 1), b_4)
 else
  chk ((0 ≤ (b_1.length : Int) ∧ (b_1.length : Int) ≤ 62) ∧ (-9223372036854775808 ≤ ((2 ^ (b_1.length : Int).toNat : Int) - 1 : Int) ∧ ((2 ^ (b_1.length : Int).toNat : Int) - 1 : Int) ≤ 9223372036854775807)) <|
  joinM (fun ((b_41, v) : Memo × Bool) =>
  if v = true then
  chk (b_41.1 < 1000000000) <|
  some (v, (b_41.1 + 1, putF b_41.2 [a1, a2, a3] 1))
 else
  chk (b_41.1 < 1000000000) <|
  some (v, (b_41.1 + 1, putF b_41.2 [a1, a2, a3] 2))) fun j =>
  (game_hangs b_0 b_1 b_2 b_3 a1).bind fun y =>
  if y = true then
  j (b_4, true)
 else
  (game_hangs b_0 b_1 b_2 b_3 (iandnot ((2 ^ (b_1.length : Int).toNat : Int) - 1) a2)).bind fun y1 =>
  if ¬ (y1 = true) then
  j (b_4, false)
 else
  if a3 = 1 then
  (loopM (ρ := Memo × Bool) (fun ((b_42, v1, v2) : Memo × Bool × Int) =>
  if (v2 ≠ 0 ∧ ¬ (v1 = true)) then
  chk ((-9223372036854775808 ≤ (-v2 : Int) ∧ (-v2 : Int) ≤ 9223372036854775807)) <|
  (game_table_wins fuel b_0 b_1 b_2 b_3 b_42 (ior a1 (iand v2 (-v2))) a2 0).bind fun y2 =>
  chk ((-9223372036854775808 ≤ (v2 - 1 : Int) ∧ (v2 - 1 : Int) ≤ 9223372036854775807)) <|
  some (.inl (y2.2, y2.1, iand v2 (v2 - 1)))
 else
  some (.inr (b_42, v1))) (b_4, false, iandnot ((2 ^ (b_1.length : Int).toNat : Int) - 1) (ior a1 a2))).bind fun ((b_43, v3) : Memo × Bool) =>
  j (b_43, v3)
 else
  (loopM (ρ := Memo × Bool) (fun ((b_44, v4, v5) : Memo × Bool × Int) =>
  if (v5 ≠ 0 ∧ v4 = true) then
  chk ((-9223372036854775808 ≤ (-v5 : Int) ∧ (-v5 : Int) ≤ 9223372036854775807)) <|
  (game_table_wins fuel b_0 b_1 b_2 b_3 b_44 a1 (ior a2 (iand v5 (-v5))) 1).bind fun y3 =>
  chk ((-9223372036854775808 ≤ (v5 - 1 : Int) ∧ (v5 - 1 : Int) ≤ 9223372036854775807)) <|
  some (.inl (y3.2, y3.1, iand v5 (v5 - 1)))
 else
  some (.inr (b_44, v4))) (b_4, true, iandnot ((2 ^ (b_1.length : Int).toNat : Int) - 1) (ior a1 a2))).bind fun ((b_45, v6) : Memo × Bool) =>
  j (b_45, v6)

noncomputable def game_Joins (g_0 : Int) (g_1 : List (Int × Int)) (s : Int) (t : Int) (joined : Int) (cut : Int) (first : Bool) : Option (Bool × Int) :=
  (game_Check g_0 g_1 s t joined cut).bind fun y =>
  if y ≠ 0 then
  some (false, y)
 else
  joinM (fun (who : Int) =>
  (game_table_wins 12 g_0 g_1 s t memo0 joined cut who).bind fun y1 =>
  some (y1.1, 0)) fun j =>
  if first = true then
  j 1
 else
  j 0

noncomputable def game_Move (g_0 : Int) (g_1 : List (Int × Int)) (a1 : Int) (a2 : Int) (a3 : Int) (a4 : Int) (a5 : Bool) : Option (Int × Int) :=
  (game_Check g_0 g_1 a1 a2 a3 a4).bind fun y =>
  if y ≠ 0 then
  some (0, y)
 else
  chk ((0 ≤ (g_1.length : Int) ∧ (g_1.length : Int) ≤ 62) ∧ (-9223372036854775808 ≤ ((2 ^ (g_1.length : Int).toNat : Int) - 1 : Int) ∧ ((2 ^ (g_1.length : Int).toNat : Int) - 1 : Int) ≤ 9223372036854775807)) <|
  (game_hangs g_0 g_1 a1 a2 a3).bind fun y1 =>
  (if ¬ (y1 = true) then game_hangs g_0 g_1 a1 a2 (iandnot ((2 ^ (g_1.length : Int).toNat : Int) - 1) a4) else some false).bind fun y2 =>
  if (y1 = true ∨ ¬ (y2 = true)) then
  some (0, 6)
 else
  (loopM (ρ := Unit ⊕ (Int × Int)) (fun ((v, v1) : Memo × Int) =>
  if v1 < (g_1.length : Int) then
  chk ((0 ≤ v1 ∧ v1 ≤ 62)) <|
  if iand (ior a3 a4) (2 ^ v1.toNat : Int) ≠ 0 then
  some (.inl (v, v1 + 1))
 else
  joinM (fun ((v2, v3) : Memo × Bool) =>
  if v3 = true then
  some (.inr (.inr (v1, 0)))
 else
  some (.inl (v2, v1 + 1))) fun j =>
  if a5 = true then
  (game_table_wins 12 g_0 g_1 a1 a2 v (ior a3 (2 ^ v1.toNat : Int)) a4 0).bind fun y3 =>
  if y3.1 = true then
  j (y3.2, y3.1)
 else
  if ¬ (a5 = true) then
  (game_table_wins 12 g_0 g_1 a1 a2 y3.2 a3 (ior a4 (2 ^ v1.toNat : Int)) 1).bind fun y4 =>
  j (y4.2, decide (¬ (y4.1 = true)))
 else
  j (y3.2, false)
 else
  if ¬ (a5 = true) then
  (game_table_wins 12 g_0 g_1 a1 a2 v a3 (ior a4 (2 ^ v1.toNat : Int)) 1).bind fun y5 =>
  j (y5.2, decide (¬ (y5.1 = true)))
 else
  j (v, false)
 else
  some (.inr (.inl ()))) (memo0, 0)).bind fun z => match z with
  | .inl _ => (some (0, 5))
  | .inr rr => some rr

noncomputable def game_spans (g_0 : Int) (g_1 : List (Int × Int)) (edges : Int) (vertices : Int) : Option (Bool) :=
  chk ((0 ≤ (vertices : Int) ∧ (vertices : Int) ≤ 18446744073709551615)) <|
  (bits_OnesCount vertices).bind fun y =>
  chk ((0 ≤ (edges : Int) ∧ (edges : Int) ≤ 18446744073709551615)) <|
  (bits_OnesCount edges).bind fun y1 =>
  chk ((-9223372036854775808 ≤ (y - 1 : Int) ∧ (y - 1 : Int) ≤ 9223372036854775807)) <|
  if y1 ≠ y - 1 then
  some false
 else
  chk ((-9223372036854775808 ≤ (-vertices : Int) ∧ (-vertices : Int) ≤ 9223372036854775807)) <|
  (loopM (ρ := Int) (fun ((in0, v) : Int × Int) =>
  if v < g_0 then
  (loopM (ρ := Int) (fun ((in02, v1) : Int × Int) =>
  if v1 < (g_1.length : Int) then
  chk ((0 ≤ v1 ∧ v1 < g_1.length)) <|
  chk ((0 ≤ (g_1.getD v1.toNat (0, 0)).1 ∧ (g_1.getD v1.toNat (0, 0)).1 ≤ 62) ∧ (0 ≤ (g_1.getD v1.toNat (0, 0)).2 ∧ (g_1.getD v1.toNat (0, 0)).2 ≤ 62)) <|
  chk (0 ≤ v1) <|
  if (iand (edges / 2 ^ v1.toNat) 1 = 1 ∧ iand (ior (2 ^ ((g_1.getD v1.toNat (0, 0)).1).toNat : Int) (2 ^ ((g_1.getD v1.toNat (0, 0)).2).toNat : Int)) in02 ≠ 0) then
  some (.inl (ior in02 (ior (2 ^ ((g_1.getD v1.toNat (0, 0)).1).toNat : Int) (2 ^ ((g_1.getD v1.toNat (0, 0)).2).toNat : Int)), v1 + 1))
 else
  some (.inl (in02, v1 + 1))
 else
  some (.inr in02)) (in0, 0)).bind fun (in03 : Int) =>
  some (.inl (in03, v + 1))
 else
  some (.inr in0)) (iand vertices (-vertices), 0)).bind fun (in01 : Int) =>
  some (decide (in01 = vertices))

noncomputable def game_Twins (g_0 : Int) (g_1 : List (Int × Int)) (a1 : Int) (a2 : Int) : Option (Int × Int × Int) :=
  (game_Check g_0 g_1 a1 a2 0 0).bind fun y =>
  if y ≠ 0 then
  some (0, 0, y)
 else
  chk ((0 ≤ a1 ∧ a1 ≤ 62) ∧ (0 ≤ a2 ∧ a2 ≤ 62)) <|
  chk ((0 ≤ (g_1.length : Int) ∧ (g_1.length : Int) ≤ 62)) <|
  (loopM (ρ := Unit ⊕ (Int × Int × Int)) (fun (v : Int) =>
  if v < (2 ^ (g_1.length : Int).toNat : Int) then
  joinM (fun (v1 : Int) =>
  (loopM (ρ := Int) (fun ((v2, v3) : Int × Int) =>
  if v3 < (g_1.length : Int) then
  chk ((0 ≤ v3 ∧ v3 < g_1.length)) <|
  chk (0 ≤ v3) <|
  if iand (v / 2 ^ v3.toNat) 1 = 1 then
  chk ((0 ≤ (g_1.getD v3.toNat (0, 0)).1 ∧ (g_1.getD v3.toNat (0, 0)).1 ≤ 62) ∧ (0 ≤ (g_1.getD v3.toNat (0, 0)).2 ∧ (g_1.getD v3.toNat (0, 0)).2 ≤ 62)) <|
  some (.inl (ior v2 (ior (2 ^ ((g_1.getD v3.toNat (0, 0)).1).toNat : Int) (2 ^ ((g_1.getD v3.toNat (0, 0)).2).toNat : Int)), v3 + 1))
 else
  some (.inl (v2, v3 + 1))
 else
  some (.inr v2)) (v1, 0)).bind fun (v4 : Int) =>
  (if ¬ (iand v4 (ior (2 ^ a1.toNat : Int) (2 ^ a2.toNat : Int)) ≠ ior (2 ^ a1.toNat : Int) (2 ^ a2.toNat : Int)) then game_spans g_0 g_1 v v4 else some false).bind fun y1 =>
  if (iand v4 (ior (2 ^ a1.toNat : Int) (2 ^ a2.toNat : Int)) ≠ ior (2 ^ a1.toNat : Int) (2 ^ a2.toNat : Int) ∨ ¬ (y1 = true)) then
  some (.inl (v + 1))
 else
  chk ((0 ≤ (g_1.length : Int) ∧ (g_1.length : Int) ≤ 62)) <|
  (loopM (ρ := Unit ⊕ (Int × Int × Int)) (fun (v5 : Int) =>
  if v5 < (2 ^ (g_1.length : Int).toNat : Int) then
  (if iand v v5 = 0 then game_spans g_0 g_1 v5 v4 else some false).bind fun y2 =>
  if (iand v v5 = 0 ∧ y2 = true) then
  some (.inr (.inr (v, v5, 0)))
 else
  some (.inl (v5 + 1))
 else
  some (.inr (.inl ()))) 0).bind fun z => match z with
  | .inl _ => (some (.inl (v + 1)))
  | .inr rr => some (.inr (.inr rr))) fun j =>
  if v ≠ 0 then
  j 0
 else
  j (ior (2 ^ a1.toNat : Int) (2 ^ a2.toNat : Int))
 else
  some (.inr (.inl ()))) 0).bind fun z => match z with
  | .inl _ => (some (0, 0, 5))
  | .inr rr => some rr

end Go.SH
