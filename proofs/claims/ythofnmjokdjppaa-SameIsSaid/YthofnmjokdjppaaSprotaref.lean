/-
  Functions of the program as plain functions: rotaref_In, rotaref_Shifted, rotaref_All, rotaref_IsSet, rotaref_Elements, rotaref_Size. By a program of mine (shal.py). Conditions: none.
-/
import Derived.Test.YthofnmjokdjppaaAxN
set_option linter.unusedVariables false
set_option linter.unusedSimpArgs false
namespace Go.SH
open Go Go.AX

noncomputable def rotaref_In (s : Int) (i : Int) : Option (Bool) :=
  chk (0 ≤ i) <|
  some (decide (Int.tmod (s / 2 ^ i.toNat) 2 = 1))

noncomputable def rotaref_Shifted (n : Int) (gone : Int) (s : Int) : Option (Int) :=
  (loopM (ρ := Int) (fun ((out0, i, k) : Int × Int × Int) =>
  if i < n then
  (rotaref_In gone i).bind fun y =>
  if y = true then
  some (.inl (out0, i + 1, k))
 else
  (rotaref_In s i).bind fun y1 =>
  if y1 = true then
  chk ((0 ≤ k ∧ k ≤ 62)) <|
  chk ((-9223372036854775808 ≤ (k + 1 : Int) ∧ (k + 1 : Int) ≤ 9223372036854775807)) <|
  some (.inl (ior out0 (2 ^ k.toNat : Int), i + 1, k + 1))
 else
  chk ((-9223372036854775808 ≤ (k + 1 : Int) ∧ (k + 1 : Int) ≤ 9223372036854775807)) <|
  some (.inl (out0, i + 1, k + 1))
 else
  some (.inr out0)) (0, 0, 0)).bind fun (out01 : Int) =>
  some out01

noncomputable def rotaref_All (n : Int) : Option (Int) :=
  chk ((0 ≤ n ∧ n ≤ 62) ∧ (-9223372036854775808 ≤ ((2 ^ n.toNat : Int) - 1 : Int) ∧ ((2 ^ n.toNat : Int) - 1 : Int) ≤ 9223372036854775807)) <|
  some ((2 ^ n.toNat : Int) - 1)

noncomputable def rotaref_IsSet (n : Int) (s : Int) : Option (Bool) :=
  (if ((0 ≤ n ∧ n ≤ 8) ∧ 0 ≤ s) then rotaref_All n else some 0).bind fun y =>
  some (decide ((((0 ≤ n ∧ n ≤ 8) ∧ 0 ≤ s) ∧ s ≤ y)))

noncomputable def rotaref_Elements (s : Int) : Option (List Int) :=
  (loopM (ρ := List Int) (fun ((out0, i) : List Int × Int) =>
  if i < 8 then
  (rotaref_In s i).bind fun y =>
  if y = true then
  chk (((out0 ++ [i]).length ≤ 8796093022208)) <|
  some (.inl (out0 ++ [i], i + 1))
 else
  some (.inl (out0, i + 1))
 else
  some (.inr out0)) ([], 0)).bind fun (out01 : List Int) =>
  some out01

noncomputable def rotaref_Size (s : Int) : Option (Int) :=
  (rotaref_Elements s).bind fun y =>
  some (y.length : Int)

end Go.SH
