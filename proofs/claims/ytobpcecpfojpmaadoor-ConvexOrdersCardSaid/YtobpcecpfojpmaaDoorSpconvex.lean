/-
  Functions of the program as plain functions: convex_Line, convex_has, convex_Check, convex_Orders, convex_right, convex_hull, convex_Hull, convex_Ordered_1, convex_Ordered_2, convex_Ordered, convex_First, convex_joined, convex_Tree. By a program of mine (shal.py). Conditions: none.
-/
import Derived.Test.YtobpcecpfojpmaaDoorAxN
import Derived.Test.YtobpcecpfojpmaaDoorSpbits
import Derived.Test.YtobpcecpfojpmaaDoorSpkinds
import Derived.Test.YtobpcecpfojpmaaDoorSpsets
import Derived.Test.YtobpcecpfojpmaaDoorSpslices
set_option linter.unusedVariables false
set_option linter.unusedSimpArgs false
namespace Go.SH
open Go Go.AX

noncomputable def convex_Line (n : Int) : Option (List Int × Int) :=
  if (n < 0 ∨ 8 < n) then
  some ([], 1)
 else
  chk ((0 ≤ n ∧ n ≤ 62)) <|
  (loopM (ρ := List Int) (fun ((out0, v) : List Int × Int) =>
  if v < (2 ^ n.toNat : Int) then
  chk ((0 ≤ n ∧ n ≤ 62) ∧ (-9223372036854775808 ≤ ((2 ^ n.toNat : Int) - 1 : Int) ∧ ((2 ^ n.toNat : Int) - 1 : Int) ≤ 9223372036854775807) ∧ (0 ≤ (iandnot ((2 ^ n.toNat : Int) - 1) v : Int) ∧ (iandnot ((2 ^ n.toNat : Int) - 1) v : Int) ≤ 18446744073709551615)) <|
  (if ¬ (iandnot ((2 ^ n.toNat : Int) - 1) v = 0) then bits_Len (iandnot ((2 ^ n.toNat : Int) - 1) v) else some 0).bind fun y =>
  (if ¬ (iandnot ((2 ^ n.toNat : Int) - 1) v = 0) then bits_TrailingZeros (iandnot ((2 ^ n.toNat : Int) - 1) v) else some 0).bind fun y1 =>
  chk (((¬ (iandnot ((2 ^ n.toNat : Int) - 1) v = 0)) → (-9223372036854775808 ≤ (y - y1 : Int) ∧ (y - y1 : Int) ≤ 9223372036854775807))) <|
  (if ¬ (iandnot ((2 ^ n.toNat : Int) - 1) v = 0) then bits_OnesCount (iandnot ((2 ^ n.toNat : Int) - 1) v) else some 0).bind fun y2 =>
  if (iandnot ((2 ^ n.toNat : Int) - 1) v = 0 ∨ y - y1 = y2) then
  chk (((out0 ++ [v]).length ≤ 8796093022208)) <|
  some (.inl (out0 ++ [v], v + 1))
 else
  some (.inl (out0, v + 1))
 else
  some (.inr out0)) ([], 0)).bind fun (out01 : List Int) =>
  some (out01, 0)

noncomputable def convex_has (l : List Int) (s : Int) : Option (Bool) :=
  (slices_BinarySearch_int_int l s).bind fun y =>
  some y.2

noncomputable def convex_Check (n : Int) (a1 : List Int) : Option (Int) :=
  (sets_Family n a1).bind fun y =>
  if y ≠ 0 then
  some y
 else
  chk (((¬ ((a1.length : Int) = 0)) → 0 < a1.length) ∧ ((¬ (((a1.length : Int) = 0 ∨ a1.getD 0 0 ≠ 0))) → (-9223372036854775808 ≤ ((a1.length : Int) - 1 : Int) ∧ ((a1.length : Int) - 1 : Int) ≤ 9223372036854775807)) ∧ ((¬ (((a1.length : Int) = 0 ∨ a1.getD 0 0 ≠ 0))) → (0 ≤ (a1.length : Int) - 1 ∧ (a1.length : Int) - 1 < a1.length)) ∧ ((¬ (((a1.length : Int) = 0 ∨ a1.getD 0 0 ≠ 0))) → (0 ≤ n ∧ n ≤ 62)) ∧ ((¬ (((a1.length : Int) = 0 ∨ a1.getD 0 0 ≠ 0))) → (-9223372036854775808 ≤ ((2 ^ n.toNat : Int) - 1 : Int) ∧ ((2 ^ n.toNat : Int) - 1 : Int) ≤ 9223372036854775807))) <|
  if (((a1.length : Int) = 0 ∨ a1.getD 0 0 ≠ 0) ∨ a1.getD ((a1.length : Int) - 1).toNat 0 ≠ (2 ^ n.toNat : Int) - 1) then
  some 3
 else
  (loopM (ρ := Unit ⊕ Int) (fun (v : Int) =>
  if v < (a1.length : Int) then
  chk ((0 ≤ v ∧ v < a1.length)) <|
  (loopM (ρ := Bool) (fun ((v1, v2) : Bool × Int) =>
  if v2 ≠ 0 then
  chk (((¬ (v1 = true)) → (-9223372036854775808 ≤ (-v2 : Int) ∧ (-v2 : Int) ≤ 9223372036854775807))) <|
  (if ¬ (v1 = true) then convex_has a1 (iandnot (a1.getD v.toNat 0) (iand v2 (-v2))) else some false).bind fun y1 =>
  chk ((-9223372036854775808 ≤ (v2 - 1 : Int) ∧ (v2 - 1 : Int) ≤ 9223372036854775807)) <|
  some (.inl (decide ((v1 = true ∨ y1 = true)), iand v2 (v2 - 1)))
 else
  some (.inr v1)) (decide (a1.getD v.toNat 0 = 0), a1.getD v.toNat 0)).bind fun (v3 : Bool) =>
  if ¬ (v3 = true) then
  some (.inr (.inr 3))
 else
  (loopM (ρ := Unit ⊕ Int) (fun (v4 : Int) =>
  if v4 < (a1.length : Int) then
  chk ((0 ≤ v4 ∧ v4 < a1.length)) <|
  (convex_has a1 (ior (a1.getD v.toNat 0) (a1.getD v4.toNat 0))).bind fun y2 =>
  if ¬ (y2 = true) then
  some (.inr (.inr 3))
 else
  some (.inl (v4 + 1))
 else
  some (.inr (.inl ()))) 0).bind fun z => match z with
  | .inl _ => (some (.inl (v + 1)))
  | .inr rr => some (.inr (.inr rr))
 else
  some (.inr (.inl ()))) 0).bind fun z => match z with
  | .inl _ => (some 0)
  | .inr rr => some rr

noncomputable def convex_Orders (n : Int) (l : List Int) : Option (Int × Int) :=
  (convex_Check n l).bind fun y =>
  if y ≠ 0 then
  some (0, y)
 else
  chk ((0 ≤ n ∧ n ≤ 62) ∧ (0 ≤ (2 ^ n.toNat : Int) ∧ (2 ^ n.toNat : Int) ≤ 1099511627776)) <|
  chk ((0 ≤ 0 ∧ 0 < ((List.replicate (2 ^ n.toNat : Int).toNat 0).length))) <|
  (loopM (ρ := List Int) (fun ((ways, v) : List Int × Int) =>
  if v < (l.length : Int) then
  chk ((0 ≤ v ∧ v < l.length)) <|
  (loopM (ρ := List Int) (fun ((ways2, t) : List Int × Int) =>
  if t ≠ 0 then
  chk ((-9223372036854775808 ≤ (-t : Int) ∧ (-t : Int) ≤ 9223372036854775807)) <|
  (convex_has l (iandnot (l.getD v.toNat 0) (iand t (-t)))).bind fun y1 =>
  if y1 = true then
  chk ((0 ≤ l.getD v.toNat 0 ∧ l.getD v.toNat 0 < ways2.length) ∧ (0 ≤ iandnot (l.getD v.toNat 0) (iand t (-t)) ∧ iandnot (l.getD v.toNat 0) (iand t (-t)) < ways2.length) ∧ (-9223372036854775808 ≤ ((ways2.getD (l.getD v.toNat 0).toNat 0) + (ways2.getD (iandnot (l.getD v.toNat 0) (iand t (-t))).toNat 0) : Int) ∧ ((ways2.getD (l.getD v.toNat 0).toNat 0) + (ways2.getD (iandnot (l.getD v.toNat 0) (iand t (-t))).toNat 0) : Int) ≤ 9223372036854775807)) <|
  chk ((-9223372036854775808 ≤ (t - 1 : Int) ∧ (t - 1 : Int) ≤ 9223372036854775807)) <|
  some (.inl (ways2.set (l.getD v.toNat 0).toNat ((ways2.getD (l.getD v.toNat 0).toNat 0) + (ways2.getD (iandnot (l.getD v.toNat 0) (iand t (-t))).toNat 0)), iand t (t - 1)))
 else
  chk ((-9223372036854775808 ≤ (t - 1 : Int) ∧ (t - 1 : Int) ≤ 9223372036854775807)) <|
  some (.inl (ways2, iand t (t - 1)))
 else
  some (.inr ways2)) (ways, l.getD v.toNat 0)).bind fun (ways3 : List Int) =>
  some (.inl (ways3, v + 1))
 else
  some (.inr ways)) ((List.replicate (2 ^ n.toNat : Int).toNat 0).set 0 1, 0)).bind fun (ways1 : List Int) =>
  chk ((0 ≤ n ∧ n ≤ 62) ∧ (-9223372036854775808 ≤ ((2 ^ n.toNat : Int) - 1 : Int) ∧ ((2 ^ n.toNat : Int) - 1 : Int) ≤ 9223372036854775807) ∧ (0 ≤ (2 ^ n.toNat : Int) - 1 ∧ (2 ^ n.toNat : Int) - 1 < ways1.length)) <|
  some (ways1.getD ((2 ^ n.toNat : Int) - 1).toNat 0, 0)

noncomputable def convex_right (n : Int) (l : List Int) (s : Int) : Option (Int) :=
  (convex_Check n l).bind fun y =>
  if y ≠ 0 then
  some y
 else
  (sets_Check n s).bind fun y1 =>
  some y1

noncomputable def convex_hull (n : Int) (l : List Int) (s : Int) : Option (Int) :=
  (loopM (ρ := Int) (fun ((best, v) : Int × Int) =>
  if v < (l.length : Int) then
  chk ((0 ≤ v ∧ v < l.length)) <|
  if iand (l.getD v.toNat 0) s = 0 then
  some (.inl (ior best (l.getD v.toNat 0), v + 1))
 else
  some (.inl (best, v + 1))
 else
  some (.inr best)) (0, 0)).bind fun (best1 : Int) =>
  chk ((0 ≤ n ∧ n ≤ 62) ∧ (-9223372036854775808 ≤ ((2 ^ n.toNat : Int) - 1 : Int) ∧ ((2 ^ n.toNat : Int) - 1 : Int) ≤ 9223372036854775807)) <|
  some (iandnot ((2 ^ n.toNat : Int) - 1) best1)

noncomputable def convex_Hull (n : Int) (l : List Int) (s : Int) : Option (Int × Int) :=
  (convex_right n l s).bind fun y =>
  if y ≠ 0 then
  some (0, y)
 else
  (convex_hull n l s).bind fun y1 =>
  some (y1, 0)

noncomputable def convex_Ordered_1 (e_0 : Int) (e_1 : Int) (c0 : Int) : Option (Bool) :=
  chk (0 ≤ e_1 ∧ ((iand (c0 / 2 ^ e_1.toNat) 1 = 1) → 0 ≤ e_0)) <|
  some (decide ((iand (c0 / 2 ^ e_1.toNat) 1 = 1 ∧ iand (c0 / 2 ^ e_0.toNat) 1 = 0)))

noncomputable def convex_Ordered_2 (e_0 : Int) (e_1 : Int) : Option (Bool) :=
  some (decide (e_0 = e_1))

noncomputable def convex_Ordered (n : Int) (a1 : List (Int × Int)) : Option (List Int × Int) :=
  if (n < 0 ∨ 8 < n) then
  some ([], 1)
 else
  (loopM (ρ := Unit ⊕ (List Int × Int)) (fun (v : Int) =>
  if v < (a1.length : Int) then
  chk ((0 ≤ v ∧ v < a1.length)) <|
  if ((((a1.getD v.toNat (0, 0)).1 < 0 ∨ (a1.getD v.toNat (0, 0)).2 < 0) ∨ n ≤ (a1.getD v.toNat (0, 0)).1) ∨ n ≤ (a1.getD v.toNat (0, 0)).2) then
  some (.inr (.inr ([], 1)))
 else
  some (.inl (v + 1))
 else
  some (.inr (.inl ()))) 0).bind fun z => match z with
  | .inl _ => (chk ((0 ≤ n ∧ n ≤ 62)) <|
  (loopM (ρ := List Int) (fun ((v1, v2) : List Int × Int) =>
  if v2 < (2 ^ n.toNat : Int) then
  (slices_ContainsFunc_api_Edge_api_Edge a1 (fun x0 x1 => convex_Ordered_1 x0 x1 v2)).bind fun y =>
  if ¬ (y = true) then
  chk (((v1 ++ [v2]).length ≤ 8796093022208)) <|
  some (.inl (v1 ++ [v2], v2 + 1))
 else
  some (.inl (v1, v2 + 1))
 else
  some (.inr v1)) ([], 0)).bind fun (v3 : List Int) =>
  (convex_Check n v3).bind fun y1 =>
  (if ¬ (y1 ≠ 0) then slices_ContainsFunc_api_Edge_api_Edge a1 (fun x0 x1 => convex_Ordered_2 x0 x1) else some false).bind fun y2 =>
  if (y1 ≠ 0 ∨ y2 = true) then
  some ([], 3)
 else
  some (v3, 0))
  | .inr rr => some rr

noncomputable def convex_First (n : Int) (l : List Int) : Option (List Int × Int) :=
  (convex_Check n l).bind fun y =>
  if y ≠ 0 then
  some ([], y)
 else
  (loopM (ρ := List Int) (fun ((out0, s, v) : List Int × Int × Int) =>
  if v < n then
  (loopM (ρ := List Int × Int) (fun (v1 : Int) =>
  if v1 < n then
  chk (0 ≤ v1 ∧ ((iand (s / 2 ^ v1.toNat) 1 = 0) → (0 ≤ v1 ∧ v1 ≤ 62))) <|
  (if iand (s / 2 ^ v1.toNat) 1 = 0 then convex_has l (ior s (2 ^ v1.toNat : Int)) else some false).bind fun y1 =>
  if (iand (s / 2 ^ v1.toNat) 1 = 0 ∧ y1 = true) then
  chk ((0 ≤ v1 ∧ v1 ≤ 62)) <|
  chk (((out0 ++ [v1]).length ≤ 8796093022208)) <|
  some (.inr (out0 ++ [v1], ior s (2 ^ v1.toNat : Int)))
 else
  some (.inl (v1 + 1))
 else
  some (.inr (out0, s))) 0).bind fun ((out02, s1) : List Int × Int) =>
  some (.inl (out02, s1, v + 1))
 else
  some (.inr out0)) ([], 0, 0)).bind fun (out01 : List Int) =>
  some (out01, 0)

noncomputable def convex_joined (g_0 : Int) (g_1 : List (Int × Int)) (s : Int) : Option (Bool) :=
  if s = 0 then
  some true
 else
  chk ((-9223372036854775808 ≤ (-s : Int) ∧ (-s : Int) ≤ 9223372036854775807)) <|
  (loopM (ρ := Int) (fun ((in0, v) : Int × Int) =>
  if v < g_0 then
  (loopM (ρ := Int) (fun ((in02, v1) : Int × Int) =>
  if v1 < (g_1.length : Int) then
  chk ((0 ≤ v1 ∧ v1 < g_1.length)) <|
  chk ((0 ≤ (g_1.getD v1.toNat (0, 0)).1 ∧ (g_1.getD v1.toNat (0, 0)).1 ≤ 62) ∧ (0 ≤ (g_1.getD v1.toNat (0, 0)).2 ∧ (g_1.getD v1.toNat (0, 0)).2 ≤ 62)) <|
  if (iand (ior (2 ^ ((g_1.getD v1.toNat (0, 0)).1).toNat : Int) (2 ^ ((g_1.getD v1.toNat (0, 0)).2).toNat : Int)) s = ior (2 ^ ((g_1.getD v1.toNat (0, 0)).1).toNat : Int) (2 ^ ((g_1.getD v1.toNat (0, 0)).2).toNat : Int) ∧ iand (ior (2 ^ ((g_1.getD v1.toNat (0, 0)).1).toNat : Int) (2 ^ ((g_1.getD v1.toNat (0, 0)).2).toNat : Int)) in02 ≠ 0) then
  some (.inl (ior in02 (ior (2 ^ ((g_1.getD v1.toNat (0, 0)).1).toNat : Int) (2 ^ ((g_1.getD v1.toNat (0, 0)).2).toNat : Int)), v1 + 1))
 else
  some (.inl (in02, v1 + 1))
 else
  some (.inr in02)) (in0, 0)).bind fun (in03 : Int) =>
  some (.inl (in03, v + 1))
 else
  some (.inr in0)) (iand s (-s), 0)).bind fun (in01 : Int) =>
  some (decide (in01 = s))

noncomputable def convex_Tree (g_0 : Int) (g_1 : List (Int × Int)) : Option (List Int × Int) :=
  (kinds_CheckGraph g_0 g_1).bind fun y =>
  if y ≠ 0 then
  some ([], y)
 else
  chk ((0 ≤ g_0 ∧ g_0 ≤ 62) ∧ (-9223372036854775808 ≤ ((2 ^ g_0.toNat : Int) - 1 : Int) ∧ ((2 ^ g_0.toNat : Int) - 1 : Int) ≤ 9223372036854775807)) <|
  chk ((-9223372036854775808 ≤ (g_0 - 1 : Int) ∧ (g_0 - 1 : Int) ≤ 9223372036854775807)) <|
  (if ¬ ((g_1.length : Int) ≠ g_0 - 1) then convex_joined g_0 g_1 ((2 ^ g_0.toNat : Int) - 1) else some false).bind fun y1 =>
  if ((g_1.length : Int) ≠ g_0 - 1 ∨ ¬ (y1 = true)) then
  some ([], 3)
 else
  chk ((-9223372036854775808 ≤ (((2 ^ g_0.toNat : Int) - 1) + 1 : Int) ∧ (((2 ^ g_0.toNat : Int) - 1) + 1 : Int) ≤ 9223372036854775807)) <|
  (loopM (ρ := List Int) (fun ((out0, v) : List Int × Int) =>
  if v < ((2 ^ g_0.toNat : Int) - 1) + 1 then
  (convex_joined g_0 g_1 (iandnot ((2 ^ g_0.toNat : Int) - 1) v)).bind fun y2 =>
  if y2 = true then
  chk (((out0 ++ [v]).length ≤ 8796093022208)) <|
  some (.inl (out0 ++ [v], v + 1))
 else
  some (.inl (out0, v + 1))
 else
  some (.inr out0)) ([], 0)).bind fun (out01 : List Int) =>
  some (out01, 0)

end Go.SH
