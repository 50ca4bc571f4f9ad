/-
  Functions of the program as plain functions: rotaref_Pick, rotaref_All, rotaref_In, rotaref_Elements, rotaref_Size, rotaref_Several, rotaref_Within. By a program of mine (shal.py). Conditions: none.
-/
import Derived.Test.YtobpcecpfojpmaaDoorAxN
set_option linter.unusedVariables false
set_option linter.unusedSimpArgs false
namespace Go.SH
open Go Go.AX

noncomputable def rotaref_Pick (k : Int) (n : Int) : Option (Int) :=
  if k < 0 then
  chk ((-9223372036854775808 ≤ (-(k + 1) : Int) ∧ (-(k + 1) : Int) ≤ 9223372036854775807)) <|
  chk (n ≠ 0) <|
  some (Int.tmod (-(k + 1)) n)
 else
  chk (n ≠ 0) <|
  some (Int.tmod k n)

noncomputable def rotaref_All (n : Int) : Option (Int) :=
  chk ((0 ≤ n ∧ n ≤ 62) ∧ (-9223372036854775808 ≤ ((2 ^ n.toNat : Int) - 1 : Int) ∧ ((2 ^ n.toNat : Int) - 1 : Int) ≤ 9223372036854775807)) <|
  some ((2 ^ n.toNat : Int) - 1)

noncomputable def rotaref_In (s : Int) (i : Int) : Option (Bool) :=
  chk (0 ≤ i) <|
  some (decide (Int.tmod (s / 2 ^ i.toNat) 2 = 1))

noncomputable def rotaref_Elements (s : Int) : Option (List Int) :=
  (loopM (ρ := List Int) (fun ((out0, i) : List Int × Int) =>
  if i < 8 then
  (rotaref_In s i).bind fun y =>
  if y = true then
  chk (((out0 ++ [i]).length ≤ 8796093022208)) <|
  some (.inl (out0 ++ [i], i + 1))
 else
  some (.inl (out0, i + 1))
 else
  some (.inr out0)) ([], 0)).bind fun (out01 : List Int) =>
  some out01

noncomputable def rotaref_Size (s : Int) : Option (Int) :=
  (rotaref_Elements s).bind fun y =>
  some (y.length : Int)

noncomputable def rotaref_Several (l : List Int) (s : Int) : Option (Int) :=
  (loopM (ρ := Int) (fun ((out0, i) : Int × Int) =>
  if i < (l.length : Int) then
  (rotaref_In s i).bind fun y =>
  if y = true then
  chk ((0 ≤ i ∧ i < l.length)) <|
  some (.inl (ior out0 (l.getD i.toNat 0), i + 1))
 else
  some (.inl (out0, i + 1))
 else
  some (.inr out0)) (0, 0)).bind fun (out01 : Int) =>
  some out01

noncomputable def rotaref_Within (a : Int) (b : Int) : Option (Bool) :=
  some (decide (ior a b = b))

end Go.SH
