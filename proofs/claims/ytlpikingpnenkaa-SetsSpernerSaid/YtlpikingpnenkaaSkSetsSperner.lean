/-
  Functions of the program as plain functions: rotakeep_SetsSperner. By a program of mine (shal.py). Conditions: none.
-/
import Derived.Test.YtlpikingpnenkaaAxN
import Derived.Test.YtlpikingpnenkaaSp
import Derived.Test.YtlpikingpnenkaaSprotakeep
import Derived.Test.YtlpikingpnenkaaSprotaref
set_option linter.unusedVariables false
set_option linter.unusedSimpArgs false
namespace Go.SH
open Go Go.AX

noncomputable def rotakeep_SetsSperner (n : Int) (a1 : List Int) : Option (Bool) :=
  (sets_Most 2 [1, 2, 3]).bind fun y =>
  if ¬ (y.2 ≠ 0) then
  (rotalaw_Same_int y.1 [3]).bind fun y1 =>
  if ¬ (y1 = true) then
  some false
 else
  (sets_Least n a1).bind fun y2 =>
  if y2.2 ≠ 0 then
  some (decide ((y2.1.length : Int) = 0))
 else
  (loopM (ρ := Bool × List Int × Bool × List Int) (fun ((v, v1, v2, v3, v4) : Bool × List Int × Bool × List Int × Int) =>
  if v4 < (y2.1.length : Int) then
  chk ((0 ≤ v4 ∧ v4 < y2.1.length)) <|
  (rotaref_Size (y2.1.getD v4.toNat 0)).bind fun y3 =>
  (rotakeep_over n y3).bind fun y4 =>
  (rotabig_NewRat 1 y4).bind fun y5 =>
  (rotabig_Rat_Add ((v, v1), (v2, v3)) ((y5.1.1, y5.1.2), (y5.2.1, y5.2.2))).bind fun y6 =>
  chk ((-9223372036854775808 ≤ (v4 + 1 : Int) ∧ (v4 + 1 : Int) ≤ 9223372036854775807)) <|
  some (.inl (y6.1.1.1, y6.1.1.2, y6.1.2.1, y6.1.2.2, v4 + 1))
 else
  some (.inr (v, v1, v2, v3))) (false, [], false, [], 0)).bind fun ((v5, v6, v7, v8) : Bool × List Int × Bool × List Int) =>
  (rotabig_NewRat 1 1).bind fun y7 =>
  (rotabig_Rat_Cmp ((v5, v6), (v7, v8)) ((y7.1.1, y7.1.2), (y7.2.1, y7.2.2))).bind fun y8 =>
  if 0 < y8.1 then
  some false
 else
  (sets_Most n a1).bind fun y9 =>
  if y9.2 ≠ 0 then
  some (decide ((y9.1.length : Int) = 0))
 else
  (loopM (ρ := Bool × List Int × Bool × List Int) (fun ((v9, v10, v11, v12, v13) : Bool × List Int × Bool × List Int × Int) =>
  if v13 < (y9.1.length : Int) then
  chk ((0 ≤ v13 ∧ v13 < y9.1.length)) <|
  (rotaref_Size (y9.1.getD v13.toNat 0)).bind fun y10 =>
  (rotakeep_over n y10).bind fun y11 =>
  (rotabig_NewRat 1 y11).bind fun y12 =>
  (rotabig_Rat_Add ((v9, v10), (v11, v12)) ((y12.1.1, y12.1.2), (y12.2.1, y12.2.2))).bind fun y13 =>
  chk ((-9223372036854775808 ≤ (v13 + 1 : Int) ∧ (v13 + 1 : Int) ≤ 9223372036854775807)) <|
  some (.inl (y13.1.1.1, y13.1.1.2, y13.1.2.1, y13.1.2.2, v13 + 1))
 else
  some (.inr (v9, v10, v11, v12))) (false, [], false, [], 0)).bind fun ((v14, v15, v16, v17) : Bool × List Int × Bool × List Int) =>
  (rotabig_NewRat 1 1).bind fun y14 =>
  (rotabig_Rat_Cmp ((v14, v15), (v16, v17)) ((y14.1.1, y14.1.2), (y14.2.1, y14.2.2))).bind fun y15 =>
  if 0 < y15.1 then
  some false
 else
  some true
 else
  some false

end Go.SH
