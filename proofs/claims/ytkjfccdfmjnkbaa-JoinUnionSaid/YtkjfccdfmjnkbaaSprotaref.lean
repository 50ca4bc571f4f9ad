/-
  Functions of the program as plain functions: rotaref_In, rotaref_Elements, rotaref_Weighs, rotaref_Size, rotaref_All, rotaref_Up. By a program of mine (shal.py). Conditions: none.
-/
import Derived.Test.YtkjfccdfmjnkbaaAxN
set_option linter.unusedVariables false
set_option linter.unusedSimpArgs false
namespace Go.SH
open Go Go.AX

noncomputable def rotaref_In (s : Int) (i : Int) : Option (Bool) :=
  chk (0 ≤ i) <|
  some (decide (Int.tmod (s / 2 ^ i.toNat) 2 = 1))

noncomputable def rotaref_Elements (s : Int) : Option (List Int) :=
  (loopM (ρ := List Int) (fun ((out0, i) : List Int × Int) =>
  if i < 8 then
  (rotaref_In s i).bind fun y =>
  if y = true then
  chk (((out0 ++ [i]).length ≤ 8796093022208)) <|
  some (.inl (out0 ++ [i], i + 1))
 else
  some (.inl (out0, i + 1))
 else
  some (.inr out0)) ([], 0)).bind fun (out01 : List Int) =>
  some out01

noncomputable def rotaref_Weighs (w : List Int) (s : Int) : Option (Int) :=
  (rotaref_Elements s).bind fun y =>
  (loopM (ρ := Int) (fun ((n, i) : Int × Int) =>
  if i < (y.length : Int) then
  chk ((0 ≤ i ∧ i < y.length) ∧ (0 ≤ y.getD i.toNat 0 ∧ y.getD i.toNat 0 < w.length) ∧ (-9223372036854775808 ≤ (n + (w.getD (y.getD i.toNat 0).toNat 0) : Int) ∧ (n + (w.getD (y.getD i.toNat 0).toNat 0) : Int) ≤ 9223372036854775807)) <|
  some (.inl (n + (w.getD (y.getD i.toNat 0).toNat 0), i + 1))
 else
  some (.inr n)) (0, 0)).bind fun (n1 : Int) =>
  some n1

noncomputable def rotaref_Size (s : Int) : Option (Int) :=
  (rotaref_Elements s).bind fun y =>
  some (y.length : Int)

noncomputable def rotaref_All (n : Int) : Option (Int) :=
  chk ((0 ≤ n ∧ n ≤ 62) ∧ (-9223372036854775808 ≤ ((2 ^ n.toNat : Int) - 1 : Int) ∧ ((2 ^ n.toNat : Int) - 1 : Int) ≤ 9223372036854775807)) <|
  some ((2 ^ n.toNat : Int) - 1)

noncomputable def rotaref_Up (a : Int) (b : Int) : Option (Int) :=
  chk (b ≠ 0 ∧ (-9223372036854775808 ≤ (Int.tdiv a b : Int) ∧ (Int.tdiv a b : Int) ≤ 9223372036854775807)) <|
  chk ((-9223372036854775808 ≤ ((Int.tdiv a b) * b : Int) ∧ ((Int.tdiv a b) * b : Int) ≤ 9223372036854775807)) <|
  if (Int.tdiv a b) * b < a then
  chk ((-9223372036854775808 ≤ ((Int.tdiv a b) + 1 : Int) ∧ ((Int.tdiv a b) + 1 : Int) ≤ 9223372036854775807)) <|
  some ((Int.tdiv a b) + 1)
 else
  some (Int.tdiv a b)

end Go.SH
