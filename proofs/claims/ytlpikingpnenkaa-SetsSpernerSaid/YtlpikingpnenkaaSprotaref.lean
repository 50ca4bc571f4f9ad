/-
  Functions of the program as plain functions: rotaref_In, rotaref_Elements, rotaref_Size. By a program of mine (shal.py). Conditions: none.
-/
import Derived.Test.YtlpikingpnenkaaAxN
set_option linter.unusedVariables false
set_option linter.unusedSimpArgs false
namespace Go.SH
open Go Go.AX

noncomputable def rotaref_In (s : Int) (i : Int) : Option (Bool) :=
  chk (0 ≤ i) <|
  some (decide (Int.tmod (s / 2 ^ i.toNat) 2 = 1))

noncomputable def rotaref_Elements (s : Int) : Option (List Int) :=
  (loopM (ρ := List Int) (fun ((out0, i) : List Int × Int) =>
  if i < 8 then
  (rotaref_In s i).bind fun y =>
  if y = true then
  chk (((out0 ++ [i]).length ≤ 8796093022208)) <|
  some (.inl (out0 ++ [i], i + 1))
 else
  some (.inl (out0, i + 1))
 else
  some (.inr out0)) ([], 0)).bind fun (out01 : List Int) =>
  some out01

noncomputable def rotaref_Size (s : Int) : Option (Int) :=
  (rotaref_Elements s).bind fun y =>
  some (y.length : Int)

end Go.SH
