/-
  Functions of the program as plain functions: rotakeep_MeetMatches. By a program of mine (shal.py). Conditions: none.
-/
import Derived.Test.YtobpcecpfojpmaaDoorAxN
import Derived.Test.YtobpcecpfojpmaaDoorSphall
import Derived.Test.YtobpcecpfojpmaaDoorSpkinds
import Derived.Test.YtobpcecpfojpmaaDoorSpmeet
import Derived.Test.YtobpcecpfojpmaaDoorSprotakeep
import Derived.Test.YtobpcecpfojpmaaDoorSprotaref
set_option linter.unusedVariables false
set_option linter.unusedSimpArgs false
namespace Go.SH
open Go Go.AX

noncomputable def rotakeep_MeetMatches (g_0 : Int) (g_1 : List (Int × Int)) : Option (Bool) :=
  (meet_Common 1 [1] 1 [1]).bind fun y =>
  if (y.2.2 ≠ 0 ∨ y.1 ≠ 1) then
  some false
 else
  (kinds_CheckGraph g_0 g_1).bind fun y1 =>
  if y1 ≠ 0 then
  some true
 else
  (rotakeep_MeetMatches_1 g_0 g_1 (g_1.length : Int) (fun x0 x1 => rotakeep_MeetMatches_2 x0 x1)).bind fun y2 =>
  (rotakeep_MeetMatches_1 g_0 g_1 (g_1.length : Int) (fun x0 x1 => rotakeep_MeetMatches_3 x0 x1)).bind fun y3 =>
  (meet_Common y2.1 y2.2.1 y3.1 y3.2.1).bind fun y4 =>
  (loopM (ρ := List Int) (fun ((v, v1) : List Int × Int) =>
  if v1 < g_0 then
  (loopM (ρ := Int) (fun ((v3, v4) : Int × Int) =>
  if v4 < (g_1.length : Int) then
  chk ((0 ≤ v4 ∧ v4 < g_1.length)) <|
  if (g_1.getD v4.toNat (0, 0)).1 = v1 then
  chk ((0 ≤ (g_1.getD v4.toNat (0, 0)).2 ∧ (g_1.getD v4.toNat (0, 0)).2 ≤ 62)) <|
  some (.inl (ior v3 (2 ^ ((g_1.getD v4.toNat (0, 0)).2).toNat : Int), v4 + 1))
 else
  some (.inl (v3, v4 + 1))
 else
  some (.inr v3)) (0, 0)).bind fun (v5 : Int) =>
  chk (((v ++ [v5]).length ≤ 8796093022208)) <|
  some (.inl (v ++ [v5], v1 + 1))
 else
  some (.inr v)) ([], 0)).bind fun (v2 : List Int) =>
  (hall_Most g_0 v2).bind fun y5 =>
  (if (((y2.2.2 = 0 ∧ y3.2.2 = 0) ∧ y4.2.2 = 0) ∧ y5.2 = 0) then rotaref_Size y4.1 else some 0).bind fun y6 =>
  some (decide (((((y2.2.2 = 0 ∧ y3.2.2 = 0) ∧ y4.2.2 = 0) ∧ y5.2 = 0) ∧ y6 = y5.1)))

end Go.SH
