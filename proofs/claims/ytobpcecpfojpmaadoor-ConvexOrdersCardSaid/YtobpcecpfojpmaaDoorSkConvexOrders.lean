/-
  Functions of the program as plain functions: rotakeep_ConvexOrders. By a program of mine (shal.py). Conditions: none.
-/
import Derived.Test.YtobpcecpfojpmaaDoorAxN
import Derived.Test.YtobpcecpfojpmaaDoorSpconvex
import Derived.Test.YtobpcecpfojpmaaDoorSprotakeep
import Derived.Test.YtobpcecpfojpmaaDoorSprotaref
import Derived.Test.YtobpcecpfojpmaaDoorSpslices
set_option linter.unusedVariables false
set_option linter.unusedSimpArgs false
namespace Go.SH
open Go Go.AX

noncomputable def rotakeep_ConvexOrders (n : Int) (a1 : List Int) (a2 : List (Int × Int)) (a3_0 : Int) (a3_1 : List (Int × Int)) : Option (Bool) :=
  (convex_Orders 2 [0, 1, 2, 3]).bind fun y =>
  if (y.2 ≠ 0 ∨ y.1 ≠ 2) then
  some false
 else
  joinM (fun (_ : Unit) =>
  joinM (fun (_ : Unit) =>
  joinM (fun (_ : Unit) =>
  joinM (fun (_ : Unit) =>
  some true) fun j3 =>
  (rotakeep_ConvexOrders_4 n a1).bind fun y19 =>
  if y19.2.2 ≠ 0 then
  j3 ()
 else
  (convex_Check y19.1 y19.2.1).bind fun y20 =>
  if y20 ≠ 0 then
  some false
 else
  (convex_Orders y19.1 y19.2.1).bind fun y21 =>
  (convex_First y19.1 y19.2.1).bind fun y22 =>
  if (((y21.2 ≠ 0 ∨ y22.2 ≠ 0) ∨ y21.1 < 1) ∨ (y22.1.length : Int) ≠ y19.1) then
  some false
 else
  (loopM (ρ := Unit ⊕ Bool) (fun ((v6, v7) : Int × Int) =>
  if v7 < (y22.1.length : Int) then
  chk ((0 ≤ v7 ∧ v7 < y22.1.length)) <|
  (if ¬ ((y22.1.getD v7.toNat 0 < 0 ∨ y19.1 ≤ y22.1.getD v7.toNat 0)) then rotaref_In v6 (y22.1.getD v7.toNat 0) else some false).bind fun y23 =>
  chk (((¬ (((y22.1.getD v7.toNat 0 < 0 ∨ y19.1 ≤ y22.1.getD v7.toNat 0) ∨ y23 = true))) → (0 ≤ y22.1.getD v7.toNat 0 ∧ y22.1.getD v7.toNat 0 ≤ 62))) <|
  (if ¬ (((y22.1.getD v7.toNat 0 < 0 ∨ y19.1 ≤ y22.1.getD v7.toNat 0) ∨ y23 = true)) then slices_Contains_int_int y19.2.1 (ior v6 (2 ^ (y22.1.getD v7.toNat 0).toNat : Int)) else some false).bind fun y24 =>
  if (((y22.1.getD v7.toNat 0 < 0 ∨ y19.1 ≤ y22.1.getD v7.toNat 0) ∨ y23 = true) ∨ ¬ (y24 = true)) then
  some (.inr (.inr false))
 else
  chk ((0 ≤ y22.1.getD v7.toNat 0 ∧ y22.1.getD v7.toNat 0 ≤ 62)) <|
  some (.inl (ior v6 (2 ^ (y22.1.getD v7.toNat 0).toNat : Int), v7 + 1))
 else
  some (.inr (.inl ()))) (0, 0)).bind fun z => match z with
  | .inl _ => (j3 ())
  | .inr rr => some rr) fun j2 =>
  (rotakeep_ConvexOrders_3 n).bind fun y13 =>
  if y13.2.2 ≠ 0 then
  j2 ()
 else
  (convex_Check y13.1 y13.2.1).bind fun y14 =>
  if y14 ≠ 0 then
  some false
 else
  (convex_Orders y13.1 y13.2.1).bind fun y15 =>
  (convex_First y13.1 y13.2.1).bind fun y16 =>
  if (((y15.2 ≠ 0 ∨ y16.2 ≠ 0) ∨ y15.1 < 1) ∨ (y16.1.length : Int) ≠ y13.1) then
  some false
 else
  (loopM (ρ := Unit ⊕ Bool) (fun ((v4, v5) : Int × Int) =>
  if v5 < (y16.1.length : Int) then
  chk ((0 ≤ v5 ∧ v5 < y16.1.length)) <|
  (if ¬ ((y16.1.getD v5.toNat 0 < 0 ∨ y13.1 ≤ y16.1.getD v5.toNat 0)) then rotaref_In v4 (y16.1.getD v5.toNat 0) else some false).bind fun y17 =>
  chk (((¬ (((y16.1.getD v5.toNat 0 < 0 ∨ y13.1 ≤ y16.1.getD v5.toNat 0) ∨ y17 = true))) → (0 ≤ y16.1.getD v5.toNat 0 ∧ y16.1.getD v5.toNat 0 ≤ 62))) <|
  (if ¬ (((y16.1.getD v5.toNat 0 < 0 ∨ y13.1 ≤ y16.1.getD v5.toNat 0) ∨ y17 = true)) then slices_Contains_int_int y13.2.1 (ior v4 (2 ^ (y16.1.getD v5.toNat 0).toNat : Int)) else some false).bind fun y18 =>
  if (((y16.1.getD v5.toNat 0 < 0 ∨ y13.1 ≤ y16.1.getD v5.toNat 0) ∨ y17 = true) ∨ ¬ (y18 = true)) then
  some (.inr (.inr false))
 else
  chk ((0 ≤ y16.1.getD v5.toNat 0 ∧ y16.1.getD v5.toNat 0 ≤ 62)) <|
  some (.inl (ior v4 (2 ^ (y16.1.getD v5.toNat 0).toNat : Int), v5 + 1))
 else
  some (.inr (.inl ()))) (0, 0)).bind fun z => match z with
  | .inl _ => (j2 ())
  | .inr rr => some rr) fun j1 =>
  (rotakeep_ConvexOrders_2 a3_0 a3_1).bind fun y7 =>
  if y7.2.2 ≠ 0 then
  j1 ()
 else
  (convex_Check y7.1 y7.2.1).bind fun y8 =>
  if y8 ≠ 0 then
  some false
 else
  (convex_Orders y7.1 y7.2.1).bind fun y9 =>
  (convex_First y7.1 y7.2.1).bind fun y10 =>
  if (((y9.2 ≠ 0 ∨ y10.2 ≠ 0) ∨ y9.1 < 1) ∨ (y10.1.length : Int) ≠ y7.1) then
  some false
 else
  (loopM (ρ := Unit ⊕ Bool) (fun ((v2, v3) : Int × Int) =>
  if v3 < (y10.1.length : Int) then
  chk ((0 ≤ v3 ∧ v3 < y10.1.length)) <|
  (if ¬ ((y10.1.getD v3.toNat 0 < 0 ∨ y7.1 ≤ y10.1.getD v3.toNat 0)) then rotaref_In v2 (y10.1.getD v3.toNat 0) else some false).bind fun y11 =>
  chk (((¬ (((y10.1.getD v3.toNat 0 < 0 ∨ y7.1 ≤ y10.1.getD v3.toNat 0) ∨ y11 = true))) → (0 ≤ y10.1.getD v3.toNat 0 ∧ y10.1.getD v3.toNat 0 ≤ 62))) <|
  (if ¬ (((y10.1.getD v3.toNat 0 < 0 ∨ y7.1 ≤ y10.1.getD v3.toNat 0) ∨ y11 = true)) then slices_Contains_int_int y7.2.1 (ior v2 (2 ^ (y10.1.getD v3.toNat 0).toNat : Int)) else some false).bind fun y12 =>
  if (((y10.1.getD v3.toNat 0 < 0 ∨ y7.1 ≤ y10.1.getD v3.toNat 0) ∨ y11 = true) ∨ ¬ (y12 = true)) then
  some (.inr (.inr false))
 else
  chk ((0 ≤ y10.1.getD v3.toNat 0 ∧ y10.1.getD v3.toNat 0 ≤ 62)) <|
  some (.inl (ior v2 (2 ^ (y10.1.getD v3.toNat 0).toNat : Int), v3 + 1))
 else
  some (.inr (.inl ()))) (0, 0)).bind fun z => match z with
  | .inl _ => (j1 ())
  | .inr rr => some rr) fun j =>
  (rotakeep_ConvexOrders_1 n a2).bind fun y1 =>
  if y1.2.2 ≠ 0 then
  j ()
 else
  (convex_Check y1.1 y1.2.1).bind fun y2 =>
  if y2 ≠ 0 then
  some false
 else
  (convex_Orders y1.1 y1.2.1).bind fun y3 =>
  (convex_First y1.1 y1.2.1).bind fun y4 =>
  if (((y3.2 ≠ 0 ∨ y4.2 ≠ 0) ∨ y3.1 < 1) ∨ (y4.1.length : Int) ≠ y1.1) then
  some false
 else
  (loopM (ρ := Unit ⊕ Bool) (fun ((v, v1) : Int × Int) =>
  if v1 < (y4.1.length : Int) then
  chk ((0 ≤ v1 ∧ v1 < y4.1.length)) <|
  (if ¬ ((y4.1.getD v1.toNat 0 < 0 ∨ y1.1 ≤ y4.1.getD v1.toNat 0)) then rotaref_In v (y4.1.getD v1.toNat 0) else some false).bind fun y5 =>
  chk (((¬ (((y4.1.getD v1.toNat 0 < 0 ∨ y1.1 ≤ y4.1.getD v1.toNat 0) ∨ y5 = true))) → (0 ≤ y4.1.getD v1.toNat 0 ∧ y4.1.getD v1.toNat 0 ≤ 62))) <|
  (if ¬ (((y4.1.getD v1.toNat 0 < 0 ∨ y1.1 ≤ y4.1.getD v1.toNat 0) ∨ y5 = true)) then slices_Contains_int_int y1.2.1 (ior v (2 ^ (y4.1.getD v1.toNat 0).toNat : Int)) else some false).bind fun y6 =>
  if (((y4.1.getD v1.toNat 0 < 0 ∨ y1.1 ≤ y4.1.getD v1.toNat 0) ∨ y5 = true) ∨ ¬ (y6 = true)) then
  some (.inr (.inr false))
 else
  chk ((0 ≤ y4.1.getD v1.toNat 0 ∧ y4.1.getD v1.toNat 0 ≤ 62)) <|
  some (.inl (ior v (2 ^ (y4.1.getD v1.toNat 0).toNat : Int), v1 + 1))
 else
  some (.inr (.inl ()))) (0, 0)).bind fun z => match z with
  | .inl _ => (j ())
  | .inr rr => some rr

end Go.SH
