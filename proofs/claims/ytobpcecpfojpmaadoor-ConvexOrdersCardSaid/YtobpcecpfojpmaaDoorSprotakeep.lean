/-
  Functions of the program as plain functions: rotakeep_MeetMatches_2, rotakeep_MeetMatches_1, rotakeep_MeetMatches_3, rotakeep_ConvexOrders_1, rotakeep_ConvexOrders_2, rotakeep_ConvexOrders_3, rotakeep_ConvexOrders_4. By a program of mine (shal.py). Conditions: none.
-/
import Derived.Test.YtobpcecpfojpmaaDoorAxN
import Derived.Test.YtobpcecpfojpmaaDoorAxP
import Derived.Test.YtobpcecpfojpmaaDoorSpconvex
import Derived.Test.YtobpcecpfojpmaaDoorSpkinds
set_option linter.unusedVariables false
set_option linter.unusedSimpArgs false
namespace Go.SH
open Go Go.AX

noncomputable def rotakeep_MeetMatches_2 (e_0 : Int) (e_1 : Int) : Option (Int) :=
  some e_0

noncomputable def rotakeep_MeetMatches_1 (c0_0 : Int) (c0_1 : List (Int × Int)) (c1 : Int) (of : Int → Int → Option (Int)) : Option (Int × List Int × Int) :=
  (loopM (ρ := List Int × List Int) (fun ((l, most, v) : List Int × List Int × Int) =>
  if v < c0_0 then
  (loopM (ρ := Int) (fun ((s, v1) : Int × Int) =>
  if v1 < (c0_1.length : Int) then
  chk ((0 ≤ v1 ∧ v1 < c0_1.length)) <|
  (of ((c0_1.getD v1.toNat (0, 0)).1) ((c0_1.getD v1.toNat (0, 0)).2)).bind fun y =>
  if y = v then
  chk ((0 ≤ v1 ∧ v1 ≤ 62)) <|
  some (.inl (ior s (2 ^ v1.toNat : Int), v1 + 1))
 else
  some (.inl (s, v1 + 1))
 else
  some (.inr s)) (0, 0)).bind fun (s1 : Int) =>
  if 0 < s1 then
  chk (((l ++ [s1]).length ≤ 8796093022208) ∧ ((most ++ [1]).length ≤ 8796093022208)) <|
  some (.inl (l ++ [s1], most ++ [1], v + 1))
 else
  some (.inl (l, most, v + 1))
 else
  some (.inr (l, most))) ([], [], 0)).bind fun ((l1, most1) : List Int × List Int) =>
  chk ((l1.length < 4611686018427387904)) <|
  (kinds_Laminar c1 (sortL l1) most1).bind fun y1 =>
  some (y1.1, y1.2.1, y1.2.2)

noncomputable def rotakeep_MeetMatches_3 (e_0 : Int) (e_1 : Int) : Option (Int) :=
  some e_1

noncomputable def rotakeep_ConvexOrders_1 (c0 : Int) (c1 : List (Int × Int)) : Option (Int × List Int × Int) :=
  (convex_Ordered c0 c1).bind fun y =>
  some (c0, y.1, y.2)

noncomputable def rotakeep_ConvexOrders_2 (c0_0 : Int) (c0_1 : List (Int × Int)) : Option (Int × List Int × Int) :=
  (convex_Tree c0_0 c0_1).bind fun y =>
  some (c0_0, y.1, y.2)

noncomputable def rotakeep_ConvexOrders_3 (c0 : Int) : Option (Int × List Int × Int) :=
  (convex_Line c0).bind fun y =>
  some (c0, y.1, y.2)

noncomputable def rotakeep_ConvexOrders_4 (c0 : Int) (c1 : List Int) : Option (Int × List Int × Int) :=
  (convex_Check c0 c1).bind fun y =>
  some (c0, c1, y)

end Go.SH
