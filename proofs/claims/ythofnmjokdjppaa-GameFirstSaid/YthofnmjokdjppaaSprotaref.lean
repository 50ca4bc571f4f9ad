/-
  Functions of the program as plain functions: rotaref_In, rotaref_Joined, rotaref_Elements, rotaref_Size. By a program of mine (shal.py). Conditions: none.
-/
import Derived.Test.YthofnmjokdjppaaAxN
set_option linter.unusedVariables false
set_option linter.unusedSimpArgs false
namespace Go.SH
open Go Go.AX

noncomputable def rotaref_In (s : Int) (i : Int) : Option (Bool) :=
  chk (0 ≤ i) <|
  some (decide (Int.tmod (s / 2 ^ i.toNat) 2 = 1))

noncomputable def rotaref_Joined (g_0 : Int) (g_1 : List (Int × Int)) (x : Int) (s : Int) (t : Int) : Option (Bool) :=
  chk ((0 ≤ s ∧ s ≤ 62)) <|
  (loopM (ρ := Int) (fun ((in0, turn) : Int × Int) =>
  if turn < g_0 then
  (loopM (ρ := Int) (fun ((in02, i) : Int × Int) =>
  if i < (g_1.length : Int) then
  chk ((0 ≤ i ∧ i < g_1.length)) <|
  (rotaref_In x i).bind fun y =>
  (if y = true then rotaref_In in02 ((g_1.getD i.toNat (0, 0)).1) else some false).bind fun y1 =>
  (if ((y = true) ∧ ¬ (y1 = true)) then rotaref_In in02 ((g_1.getD i.toNat (0, 0)).2) else some false).bind fun y2 =>
  if (y = true ∧ (y1 = true ∨ y2 = true)) then
  chk ((0 ≤ (g_1.getD i.toNat (0, 0)).1 ∧ (g_1.getD i.toNat (0, 0)).1 ≤ 62) ∧ (0 ≤ (g_1.getD i.toNat (0, 0)).2 ∧ (g_1.getD i.toNat (0, 0)).2 ≤ 62)) <|
  chk ((-9223372036854775808 ≤ (i + 1 : Int) ∧ (i + 1 : Int) ≤ 9223372036854775807)) <|
  some (.inl (ior in02 (ior (2 ^ ((g_1.getD i.toNat (0, 0)).1).toNat : Int) (2 ^ ((g_1.getD i.toNat (0, 0)).2).toNat : Int)), i + 1))
 else
  chk ((-9223372036854775808 ≤ (i + 1 : Int) ∧ (i + 1 : Int) ≤ 9223372036854775807)) <|
  some (.inl (in02, i + 1))
 else
  some (.inr in02)) (in0, 0)).bind fun (in03 : Int) =>
  chk ((-9223372036854775808 ≤ (turn + 1 : Int) ∧ (turn + 1 : Int) ≤ 9223372036854775807)) <|
  some (.inl (in03, turn + 1))
 else
  some (.inr in0)) ((2 ^ s.toNat : Int), 0)).bind fun (in01 : Int) =>
  (rotaref_In in01 t).bind fun y3 =>
  some y3

noncomputable def rotaref_Elements (s : Int) : Option (List Int) :=
  (loopM (ρ := List Int) (fun ((out0, i) : List Int × Int) =>
  if i < 8 then
  (rotaref_In s i).bind fun y =>
  if y = true then
  chk (((out0 ++ [i]).length ≤ 8796093022208)) <|
  some (.inl (out0 ++ [i], i + 1))
 else
  some (.inl (out0, i + 1))
 else
  some (.inr out0)) ([], 0)).bind fun (out01 : List Int) =>
  some out01

noncomputable def rotaref_Size (s : Int) : Option (Int) :=
  (rotaref_Elements s).bind fun y =>
  some (y.length : Int)

end Go.SH
