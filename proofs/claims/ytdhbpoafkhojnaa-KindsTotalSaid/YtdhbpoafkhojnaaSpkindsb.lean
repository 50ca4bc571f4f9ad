/-
  Functions of the program as plain functions: kinds_size, kinds_greatest. By a program of mine (shal.py). Conditions: none.
-/
import Derived.Test.YtdhbpoafkhojnaaAxN
import Derived.Test.YtdhbpoafkhojnaaSpbits
set_option linter.unusedVariables false
set_option linter.unusedSimpArgs false
namespace Go.SH
open Go Go.AX

noncomputable def kinds_size (s : Int) : Option (Int) :=
  chk ((0 ≤ (s : Int) ∧ (s : Int) ≤ 18446744073709551615)) <|
  (bits_OnesCount s).bind fun y =>
  some y

noncomputable def kinds_greatest (n : Int) (independent : Int → Option (Bool)) : Option (Int × List Int) :=
  chk ((0 ≤ n ∧ n ≤ 62)) <|
  (loopM (ρ := List Int) (fun ((m, most, v) : List Int × Int × Int) =>
  if v < (2 ^ n.toNat : Int) then
  (kinds_size v).bind fun y =>
  if ¬ (y < most) then
  (independent v).bind fun y1 =>
  if ¬ (y1 = true) then
  some (.inl (m, most, v + 1))
 else
  (kinds_size v).bind fun y2 =>
  if most < y2 then
  (kinds_size v).bind fun y3 =>
  chk (([v].length ≤ 8796093022208)) <|
  some (.inl ([v], y3, v + 1))
 else
  chk (((m ++ [v]).length ≤ 8796093022208)) <|
  some (.inl (m ++ [v], most, v + 1))
 else
  some (.inl (m, most, v + 1))
 else
  some (.inr m)) ([], (-1), 0)).bind fun (m1 : List Int) =>
  some (n, m1)

end Go.SH
