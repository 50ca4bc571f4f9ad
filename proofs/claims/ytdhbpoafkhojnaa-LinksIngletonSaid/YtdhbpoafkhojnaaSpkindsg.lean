/-
  Functions of the program as plain functions: kinds_CheckGraph, kinds_forest_1, kinds_forest, kinds_Graphic_1, kinds_Graphic. By a program of mine (shal.py). Conditions: none.
-/
import Derived.Test.YtdhbpoafkhojnaaAxN
import Derived.Test.YtdhbpoafkhojnaaSp
set_option linter.unusedVariables false
set_option linter.unusedSimpArgs false
namespace Go.SH
open Go Go.AX

noncomputable def kinds_CheckGraph (g_0 : Int) (g_1 : List (Int × Int)) : Option (Int) :=
  if ((g_0 < 1 ∨ 7 < g_0) ∨ 8 < (g_1.length : Int)) then
  some 1
 else
  (loopM (ρ := Unit ⊕ Int) (fun (v : Int) =>
  if v < (g_1.length : Int) then
  chk ((0 ≤ v ∧ v < g_1.length)) <|
  if ((((g_1.getD v.toNat (0, 0)).1 < 0 ∨ (g_1.getD v.toNat (0, 0)).2 < 0) ∨ g_0 ≤ (g_1.getD v.toNat (0, 0)).1) ∨ g_0 ≤ (g_1.getD v.toNat (0, 0)).2) then
  some (.inr (.inr 1))
 else
  some (.inl (v + 1))
 else
  some (.inr (.inl ()))) 0).bind fun z => match z with
  | .inl _ => (some 0)
  | .inr rr => some rr

noncomputable def kinds_forest_1 (v : Int) (c0 : List Int) : Option (Int) :=
  (loopM (ρ := Int) (fun (v1 : Int) =>
  chk ((0 ≤ v1 ∧ v1 < c0.length)) <|
  if c0.getD v1.toNat 0 ≠ v1 then
  chk ((0 ≤ v1 ∧ v1 < c0.length)) <|
  some (.inl (c0.getD v1.toNat 0))
 else
  some (.inr v1)) v).bind fun (v2 : Int) =>
  some v2

noncomputable def kinds_forest (g_0 : Int) (g_1 : List (Int × Int)) (s : Int) : Option (Bool) :=
  chk ((0 ≤ g_0 ∧ g_0 ≤ 1099511627776)) <|
  (loopM (ρ := List Int) (fun ((root, v) : List Int × Int) =>
  if v < ((List.replicate g_0.toNat 0).length : Int) then
  chk ((0 ≤ v ∧ v < root.length)) <|
  some (.inl (root.set v.toNat v, v + 1))
 else
  some (.inr root)) (List.replicate g_0.toNat 0, 0)).bind fun (root1 : List Int) =>
  (loopM (ρ := Unit ⊕ Bool) (fun ((root2, v1) : List Int × Int) =>
  if v1 < (g_1.length : Int) then
  chk ((0 ≤ v1 ∧ v1 < g_1.length)) <|
  chk (0 ≤ v1) <|
  if iand (s / 2 ^ v1.toNat) 1 = 0 then
  some (.inl (root2, v1 + 1))
 else
  (kinds_forest_1 ((g_1.getD v1.toNat (0, 0)).1) root2).bind fun y =>
  (kinds_forest_1 ((g_1.getD v1.toNat (0, 0)).2) root2).bind fun y1 =>
  if y = y1 then
  some (.inr (.inr false))
 else
  chk ((0 ≤ y ∧ y < root2.length)) <|
  some (.inl (root2.set y.toNat y1, v1 + 1))
 else
  some (.inr (.inl ()))) (root1, 0)).bind fun z => match z with
  | .inl _ => (some true)
  | .inr rr => some rr

noncomputable def kinds_Graphic_1 (s : Int) (c0_0 : Int) (c0_1 : List (Int × Int)) : Option (Bool) :=
  (kinds_forest c0_0 c0_1 s).bind fun y =>
  some y

noncomputable def kinds_Graphic (g_0 : Int) (g_1 : List (Int × Int)) : Option (Int × List Int × Int) :=
  (kinds_CheckGraph g_0 g_1).bind fun y =>
  if y ≠ 0 then
  some (0, [], y)
 else
  (kinds_greatest (g_1.length : Int) (fun x0 => kinds_Graphic_1 x0 g_0 g_1)).bind fun y1 =>
  some (y1.1, y1.2, 0)

end Go.SH
