/-
  Functions of the program as plain functions: bits_OnesCount. By a program of mine (shal.py). Functions of the program as plain functions: sets_Family, sets_Choose. By a program of mine (shal.py). Functions of the program as plain functions: cmp_isNaN_int, cmp_Less_int. By a program of mine (shal.py). Functions of the program as plain functions: slices_isNaN_int, slices_BinarySearch_int_int, slices_Index_int_int, slices_Contains_int_int. By a program of mine (shal.py). Functions of the program as plain functions: axioms_size, axioms_exchange, axioms_Check, axioms_ranks, axioms_Ranks. By a program of mine (shal.py). Functions of the program as plain functions: kinds_size, kinds_greatest. By a program of mine (shal.py). Functions of the program as plain functions: kinds_CheckGraph, kinds_forest_1, kinds_forest, kinds_Graphic_1, kinds_Graphic. By a program of mine (shal.py). Functions of the program as plain functions: kinds_without_1, kinds_without, kinds_Named. By a program of mine (shal.py). Functions of the program as plain functions: kinds_Uniform. By a program of mine (shal.py). Functions of the program as plain functions: minors_made, minors_Dual. By a program of mine (shal.py). Functions of the program as plain functions: same_ranks, same_ones, same_restricted, same_Isomorphic_1, same_moved, same_each_1, same_each, same_Isomorphic, same_Minor. By a program of mine (shal.py). Functions of the program as plain functions: repr_search_from, repr_Represent, repr_uniform, repr_has, repr_Regular. By a program of mine (shal.py). Functions of the program as plain functions: rotalaw_Same_int, rotalaw_Rows_int. By a program of mine (shal.py).  Conditions: none.
-/
import Derived.Test.YtabhcjpjoknihaaAxN
import Derived.Test.YtabhcjpjoknihaaAxDl
import Derived.Test.YtabhcjpjoknihaaAxP

set_option linter.unusedVariables false
set_option linter.unusedSimpArgs false
namespace Go.SH
open Go Go.AX

def oc1 (x : Int) : Int := iand (x / 2 ^ 1) 6148914691236517205 + iand x 6148914691236517205
def oc2 (x : Int) : Int := iand (x / 2 ^ 2) 3689348814741910323 + iand x 3689348814741910323
def oc3 (x : Int) : Int := iand (x / 2 ^ 4 + x) 1085102592571150095
def oc4 (x : Int) : Int := x + x / 2 ^ 8
def oc5 (x : Int) : Int := x + x / 2 ^ 16
def oc6 (x : Int) : Int := x + x / 2 ^ 32
/-- How many bits stand. -/
def oc (x : Int) : Int := iand (oc6 (oc5 (oc4 (oc3 (oc2 (oc1 x)))))) 127
theorem oc1_bd {x : Int} (h : 0 ≤ x) : 0 ≤ oc1 x ∧ oc1 x ≤ 12297829382473034410 := by
  unfold oc1
  have h1 := iand_bd (a := x / 2 ^ 1) (b := 6148914691236517205) (by omega) (by omega)
  have h2 := iand_bd (a := x) (b := 6148914691236517205) (by omega) (by omega)
  omega
theorem oc2_bd {x : Int} (h : 0 ≤ x) : 0 ≤ oc2 x ∧ oc2 x ≤ 7378697629483820646 := by
  unfold oc2
  have h1 := iand_bd (a := x / 2 ^ 2) (b := 3689348814741910323) (by omega) (by omega)
  have h2 := iand_bd (a := x) (b := 3689348814741910323) (by omega) (by omega)
  omega
theorem oc3_bd {x : Int} (h : 0 ≤ x) : 0 ≤ oc3 x ∧ oc3 x ≤ 1085102592571150095 := by
  unfold oc3
  have h1 := iand_bd (a := x / 2 ^ 4 + x) (b := 1085102592571150095) (by omega) (by omega)
  omega
theorem oc4_bd {x : Int} (h : 0 ≤ x) (h' : x ≤ 1085102592571150095) : 0 ≤ oc4 x ∧ oc4 x ≤ 2170205185142300190 := by unfold oc4; omega
theorem oc5_bd {x : Int} (h : 0 ≤ x) (h' : x ≤ 2170205185142300190) : 0 ≤ oc5 x ∧ oc5 x ≤ 4340410370284600380 := by unfold oc5; omega
theorem oc6_bd {x : Int} (h : 0 ≤ x) (h' : x ≤ 4340410370284600380) : 0 ≤ oc6 x ∧ oc6 x ≤ 8680820740569200760 := by unfold oc6; omega
theorem oc_bd {x : Int} (h : 0 ≤ x) : 0 ≤ oc x ∧ oc x ≤ 127 := by
  have h1 := oc1_bd h
  have h2 := oc2_bd h1.1
  have h3 := oc3_bd h2.1
  have h4 := oc4_bd h3.1 h3.2
  have h5 := oc5_bd h4.1 h4.2
  have h6 := oc6_bd h5.1 h5.2
  have := iand_bd (a := oc6 (oc5 (oc4 (oc3 (oc2 (oc1 x)))))) (b := 127) h6.1 (by omega)
  exact ⟨this.1, this.2.2⟩
/-- bits.OnesCount. -/
def bits_OnesCount (x : Int) : Option Int := some (oc x)

end Go.SH

set_option linter.unusedVariables false
set_option linter.unusedSimpArgs false
namespace Go.SH
open Go Go.AX

noncomputable def sets_Family (n : Int) (l : List Int) : Option (Int) :=
  if (n < 0 ∨ 8 < n) then
  some 1
 else
  (loopM (ρ := Unit ⊕ Int) (fun (v : Int) =>
  if v < (l.length : Int) then
  chk ((0 ≤ v ∧ v < l.length)) <|
  chk (((¬ (l.getD v.toNat 0 < 0)) → (0 ≤ n ∧ n ≤ 62)) ∧ (((¬ ((l.getD v.toNat 0 < 0 ∨ (2 ^ n.toNat : Int) ≤ l.getD v.toNat 0))) ∧ 0 < v) → (-9223372036854775808 ≤ (v - 1 : Int) ∧ (v - 1 : Int) ≤ 9223372036854775807)) ∧ (((¬ ((l.getD v.toNat 0 < 0 ∨ (2 ^ n.toNat : Int) ≤ l.getD v.toNat 0))) ∧ 0 < v) → (0 ≤ v - 1 ∧ v - 1 < l.length))) <|
  if ((l.getD v.toNat 0 < 0 ∨ (2 ^ n.toNat : Int) ≤ l.getD v.toNat 0) ∨ (0 < v ∧ l.getD v.toNat 0 ≤ l.getD (v - 1).toNat 0)) then
  some (.inr (.inr 1))
 else
  some (.inl (v + 1))
 else
  some (.inr (.inl ()))) 0).bind fun z => match z with
  | .inl _ => (some 0)
  | .inr rr => some rr

noncomputable def sets_Choose (n : Int) (k : Int) : Option (List Int × Int) :=
  if (((n < 0 ∨ 8 < n) ∨ k < 0) ∨ n < k) then
  some ([], 1)
 else
  chk ((0 ≤ n ∧ n ≤ 62)) <|
  (loopM (ρ := List Int) (fun ((out0, v) : List Int × Int) =>
  if v < (2 ^ n.toNat : Int) then
  chk ((0 ≤ (v : Int) ∧ (v : Int) ≤ 18446744073709551615)) <|
  (bits_OnesCount v).bind fun y =>
  if y = k then
  chk (((out0 ++ [v]).length ≤ 8796093022208)) <|
  some (.inl (out0 ++ [v], v + 1))
 else
  some (.inl (out0, v + 1))
 else
  some (.inr out0)) ([], 0)).bind fun (out01 : List Int) =>
  some (out01, 0)

end Go.SH

set_option linter.unusedVariables false
set_option linter.unusedSimpArgs false
namespace Go.SH
open Go Go.AX

noncomputable def cmp_isNaN_int (x : Int) : Option (Bool) :=
  some (decide (x ≠ x))

noncomputable def cmp_Less_int (x : Int) (y : Int) : Option (Bool) :=
  (cmp_isNaN_int x).bind fun y1 =>
  (if y1 = true then cmp_isNaN_int y else some false).bind fun y2 =>
  some (decide (((y1 = true ∧ ¬ (y2 = true)) ∨ x < y)))

end Go.SH

set_option linter.unusedVariables false
set_option linter.unusedSimpArgs false
namespace Go.SH
open Go Go.AX

noncomputable def slices_isNaN_int (x : Int) : Option (Bool) :=
  some (decide (x ≠ x))

noncomputable def slices_BinarySearch_int_int (x : List Int) (target : Int) : Option (Int × Bool) :=
  (loopM (ρ := Int) (fun ((i, j) : Int × Int) =>
  if i < j then
  chk ((-9223372036854775808 ≤ (i + j : Int) ∧ (i + j : Int) ≤ 9223372036854775807) ∧ (0 ≤ (i + j : Int) ∧ (i + j : Int) ≤ 18446744073709551615) ∧ (-9223372036854775808 ≤ ((i + j) / 2 ^ 1 : Int) ∧ ((i + j) / 2 ^ 1 : Int) ≤ 9223372036854775807)) <|
  chk ((0 ≤ (i + j) / 2 ^ 1 ∧ (i + j) / 2 ^ 1 < x.length)) <|
  (cmp_Less_int (x.getD ((i + j) / 2 ^ 1).toNat 0) target).bind fun y =>
  if y = true then
  chk ((-9223372036854775808 ≤ (((i + j) / 2 ^ 1) + 1 : Int) ∧ (((i + j) / 2 ^ 1) + 1 : Int) ≤ 9223372036854775807)) <|
  some (.inl (((i + j) / 2 ^ 1) + 1, j))
 else
  some (.inl (i, (i + j) / 2 ^ 1))
 else
  some (.inr i)) (0, (x.length : Int))).bind fun (i1 : Int) =>
  chk (((i1 < (x.length : Int)) → (0 ≤ i1 ∧ i1 < x.length)) ∧ (((i1 < (x.length : Int)) ∧ ¬ (x.getD i1.toNat 0 = target)) → (0 ≤ i1 ∧ i1 < x.length))) <|
  (if ((i1 < (x.length : Int)) ∧ ¬ (x.getD i1.toNat 0 = target)) then slices_isNaN_int (x.getD i1.toNat 0) else some false).bind fun y1 =>
  (if (((i1 < (x.length : Int)) ∧ ¬ (x.getD i1.toNat 0 = target)) ∧ y1 = true) then slices_isNaN_int target else some false).bind fun y2 =>
  some (i1, decide ((i1 < (x.length : Int) ∧ (x.getD i1.toNat 0 = target ∨ (y1 = true ∧ y2 = true)))))

noncomputable def slices_Index_int_int (s : List Int) (v : Int) : Option (Int) :=
  (loopM (ρ := Unit ⊕ Int) (fun (v1 : Int) =>
  if v1 < (s.length : Int) then
  chk ((0 ≤ v1 ∧ v1 < s.length)) <|
  if v = s.getD v1.toNat 0 then
  some (.inr (.inr v1))
 else
  some (.inl (v1 + 1))
 else
  some (.inr (.inl ()))) 0).bind fun z => match z with
  | .inl _ => (some (-1))
  | .inr rr => some rr

noncomputable def slices_Contains_int_int (s : List Int) (v : Int) : Option (Bool) :=
  (slices_Index_int_int s v).bind fun y =>
  some (decide (0 ≤ y))

end Go.SH

set_option linter.unusedVariables false
set_option linter.unusedSimpArgs false
namespace Go.SH
open Go Go.AX

noncomputable def axioms_size (s : Int) : Option (Int) :=
  chk ((0 ≤ (s : Int) ∧ (s : Int) ≤ 18446744073709551615)) <|
  (bits_OnesCount s).bind fun y =>
  some y

noncomputable def axioms_exchange (m_0 : Int) (m_1 : List Int) (a : Int) (b : Int) : Option (Bool) :=
  (loopM (ρ := Unit ⊕ Bool) (fun (out0 : Int) =>
  if out0 ≠ 0 then
  chk ((-9223372036854775808 ≤ (-out0 : Int) ∧ (-out0 : Int) ≤ 9223372036854775807)) <|
  (loopM (ρ := Bool) (fun ((ok, in0) : Bool × Int) =>
  if (in0 ≠ 0 ∧ ¬ (ok = true)) then
  chk ((-9223372036854775808 ≤ (-in0 : Int) ∧ (-in0 : Int) ≤ 9223372036854775807)) <|
  (slices_BinarySearch_int_int m_1 (ior (iandnot a (iand out0 (-out0))) (iand in0 (-in0)))).bind fun y =>
  chk ((-9223372036854775808 ≤ (in0 - 1 : Int) ∧ (in0 - 1 : Int) ≤ 9223372036854775807)) <|
  some (.inl (y.2, iand in0 (in0 - 1)))
 else
  some (.inr ok)) (false, iandnot b a)).bind fun (ok1 : Bool) =>
  if ¬ (ok1 = true) then
  some (.inr (.inr false))
 else
  chk ((-9223372036854775808 ≤ (out0 - 1 : Int) ∧ (out0 - 1 : Int) ≤ 9223372036854775807)) <|
  some (.inl (iand out0 (out0 - 1)))
 else
  some (.inr (.inl ()))) (iandnot a b)).bind fun z => match z with
  | .inl _ => (some true)
  | .inr rr => some rr

noncomputable def axioms_Check (m_0 : Int) (m_1 : List Int) : Option (Int) :=
  (sets_Family m_0 m_1).bind fun y =>
  if (y ≠ 0 ∨ (m_1.length : Int) = 0) then
  some 1
 else
  (loopM (ρ := Unit ⊕ Int) (fun (v : Int) =>
  if v < (m_1.length : Int) then
  chk ((0 ≤ v ∧ v < m_1.length)) <|
  (axioms_size (m_1.getD v.toNat 0)).bind fun y1 =>
  chk (0 < m_1.length) <|
  (axioms_size (m_1.getD 0 0)).bind fun y2 =>
  if y1 ≠ y2 then
  some (.inr (.inr 1))
 else
  some (.inl (v + 1))
 else
  some (.inr (.inl ()))) 0).bind fun z => match z with
  | .inl _ => ((loopM (ρ := Unit ⊕ Int) (fun (v1 : Int) =>
  if v1 < (m_1.length : Int) then
  chk ((0 ≤ v1 ∧ v1 < m_1.length)) <|
  (loopM (ρ := Unit ⊕ Int) (fun (v2 : Int) =>
  if v2 < (m_1.length : Int) then
  chk ((0 ≤ v2 ∧ v2 < m_1.length)) <|
  (axioms_exchange m_0 m_1 (m_1.getD v1.toNat 0) (m_1.getD v2.toNat 0)).bind fun y3 =>
  if ¬ (y3 = true) then
  some (.inr (.inr 3))
 else
  some (.inl (v2 + 1))
 else
  some (.inr (.inl ()))) 0).bind fun z => match z with
  | .inl _ => (some (.inl (v1 + 1)))
  | .inr rr => some (.inr (.inr rr))
 else
  some (.inr (.inl ()))) 0).bind fun z => match z with
  | .inl _ => (some 0)
  | .inr rr => some rr)
  | .inr rr => some rr

noncomputable def axioms_ranks (m_0 : Int) (m_1 : List Int) : Option (List Int) :=
  chk ((0 ≤ m_0 ∧ m_0 ≤ 62) ∧ (0 ≤ (2 ^ m_0.toNat : Int) ∧ (2 ^ m_0.toNat : Int) ≤ 1099511627776)) <|
  (loopM (ρ := List Int) (fun ((out0, v) : List Int × Int) =>
  if v < ((List.replicate (2 ^ m_0.toNat : Int).toNat 0).length : Int) then
  (loopM (ρ := List Int) (fun ((out02, v1) : List Int × Int) =>
  if v1 < (m_1.length : Int) then
  chk ((0 ≤ v1 ∧ v1 < m_1.length)) <|
  chk ((0 ≤ v ∧ v < out02.length)) <|
  (axioms_size (iand v (m_1.getD v1.toNat 0))).bind fun y =>
  chk ((0 ≤ v ∧ v < out02.length)) <|
  some (.inl (out02.set v.toNat (max (out02.getD v.toNat 0) y), v1 + 1))
 else
  some (.inr out02)) (out0, 0)).bind fun (out03 : List Int) =>
  some (.inl (out03, v + 1))
 else
  some (.inr out0)) (List.replicate (2 ^ m_0.toNat : Int).toNat 0, 0)).bind fun (out01 : List Int) =>
  some out01

noncomputable def axioms_Ranks (m_0 : Int) (m_1 : List Int) : Option (List Int × Int) :=
  (axioms_Check m_0 m_1).bind fun y =>
  if y ≠ 0 then
  some ([], y)
 else
  (axioms_ranks m_0 m_1).bind fun y1 =>
  some (y1, 0)

end Go.SH

set_option linter.unusedVariables false
set_option linter.unusedSimpArgs false
namespace Go.SH
open Go Go.AX

noncomputable def kinds_size (s : Int) : Option (Int) :=
  chk ((0 ≤ (s : Int) ∧ (s : Int) ≤ 18446744073709551615)) <|
  (bits_OnesCount s).bind fun y =>
  some y

noncomputable def kinds_greatest (n : Int) (independent : Int → Option (Bool)) : Option (Int × List Int) :=
  chk ((0 ≤ n ∧ n ≤ 62)) <|
  (loopM (ρ := List Int) (fun ((m, most, v) : List Int × Int × Int) =>
  if v < (2 ^ n.toNat : Int) then
  (kinds_size v).bind fun y =>
  if ¬ (y < most) then
  (independent v).bind fun y1 =>
  if ¬ (y1 = true) then
  some (.inl (m, most, v + 1))
 else
  (kinds_size v).bind fun y2 =>
  if most < y2 then
  (kinds_size v).bind fun y3 =>
  chk (([v].length ≤ 8796093022208)) <|
  some (.inl ([v], y3, v + 1))
 else
  chk (((m ++ [v]).length ≤ 8796093022208)) <|
  some (.inl (m ++ [v], most, v + 1))
 else
  some (.inl (m, most, v + 1))
 else
  some (.inr m)) ([], (-1), 0)).bind fun (m1 : List Int) =>
  some (n, m1)

end Go.SH

set_option linter.unusedVariables false
set_option linter.unusedSimpArgs false
namespace Go.SH
open Go Go.AX

noncomputable def kinds_CheckGraph (g_0 : Int) (g_1 : List (Int × Int)) : Option (Int) :=
  if ((g_0 < 1 ∨ 7 < g_0) ∨ 8 < (g_1.length : Int)) then
  some 1
 else
  (loopM (ρ := Unit ⊕ Int) (fun (v : Int) =>
  if v < (g_1.length : Int) then
  chk ((0 ≤ v ∧ v < g_1.length)) <|
  if ((((g_1.getD v.toNat (0, 0)).1 < 0 ∨ (g_1.getD v.toNat (0, 0)).2 < 0) ∨ g_0 ≤ (g_1.getD v.toNat (0, 0)).1) ∨ g_0 ≤ (g_1.getD v.toNat (0, 0)).2) then
  some (.inr (.inr 1))
 else
  some (.inl (v + 1))
 else
  some (.inr (.inl ()))) 0).bind fun z => match z with
  | .inl _ => (some 0)
  | .inr rr => some rr

noncomputable def kinds_forest_1 (v : Int) (c0 : List Int) : Option (Int) :=
  (loopM (ρ := Int) (fun (v1 : Int) =>
  chk ((0 ≤ v1 ∧ v1 < c0.length)) <|
  if c0.getD v1.toNat 0 ≠ v1 then
  chk ((0 ≤ v1 ∧ v1 < c0.length)) <|
  some (.inl (c0.getD v1.toNat 0))
 else
  some (.inr v1)) v).bind fun (v2 : Int) =>
  some v2

noncomputable def kinds_forest (g_0 : Int) (g_1 : List (Int × Int)) (s : Int) : Option (Bool) :=
  chk ((0 ≤ g_0 ∧ g_0 ≤ 1099511627776)) <|
  (loopM (ρ := List Int) (fun ((root, v) : List Int × Int) =>
  if v < ((List.replicate g_0.toNat 0).length : Int) then
  chk ((0 ≤ v ∧ v < root.length)) <|
  some (.inl (root.set v.toNat v, v + 1))
 else
  some (.inr root)) (List.replicate g_0.toNat 0, 0)).bind fun (root1 : List Int) =>
  (loopM (ρ := Unit ⊕ Bool) (fun ((root2, v1) : List Int × Int) =>
  if v1 < (g_1.length : Int) then
  chk ((0 ≤ v1 ∧ v1 < g_1.length)) <|
  chk (0 ≤ v1) <|
  if iand (s / 2 ^ v1.toNat) 1 = 0 then
  some (.inl (root2, v1 + 1))
 else
  (kinds_forest_1 ((g_1.getD v1.toNat (0, 0)).1) root2).bind fun y =>
  (kinds_forest_1 ((g_1.getD v1.toNat (0, 0)).2) root2).bind fun y1 =>
  if y = y1 then
  some (.inr (.inr false))
 else
  chk ((0 ≤ y ∧ y < root2.length)) <|
  some (.inl (root2.set y.toNat y1, v1 + 1))
 else
  some (.inr (.inl ()))) (root1, 0)).bind fun z => match z with
  | .inl _ => (some true)
  | .inr rr => some rr

noncomputable def kinds_Graphic_1 (s : Int) (c0_0 : Int) (c0_1 : List (Int × Int)) : Option (Bool) :=
  (kinds_forest c0_0 c0_1 s).bind fun y =>
  some y

noncomputable def kinds_Graphic (g_0 : Int) (g_1 : List (Int × Int)) : Option (Int × List Int × Int) :=
  (kinds_CheckGraph g_0 g_1).bind fun y =>
  if y ≠ 0 then
  some (0, [], y)
 else
  (kinds_greatest (g_1.length : Int) (fun x0 => kinds_Graphic_1 x0 g_0 g_1)).bind fun y1 =>
  some (y1.1, y1.2, 0)

end Go.SH

set_option linter.unusedVariables false
set_option linter.unusedSimpArgs false
namespace Go.SH
open Go Go.AX

noncomputable def kinds_without_1 (s : Int) (c0 : List Int) : Option (Bool) :=
  (slices_Contains_int_int c0 s).bind fun y =>
  some y

noncomputable def kinds_without (rank : Int) (n : Int) (gone : List Int) : Option (Int × List Int) :=
  (sets_Choose n rank).bind fun y =>
  chk ((DefL (fun x0 => kinds_without_1 x0 gone) y.1)) <|
  chk (((delL (fun x0 => kinds_without_1 x0 gone) y.1).length ≤ 8796093022208)) <|
  some (n, delL (fun x0 => kinds_without_1 x0 gone) y.1)

noncomputable def kinds_Named (name : List UInt8) : Option (Int × List Int × Int) :=
  if name = ([102, 97, 110, 111] : List UInt8) then
  (kinds_without 3 7 [11, 22, 44, 88, 49, 98, 69]).bind fun y =>
  some (y.1, y.2, 0)
 else
  if name = ([110, 111, 110, 102, 97, 110, 111] : List UInt8) then
  (kinds_without 3 7 [11, 22, 44, 88, 49, 98]).bind fun y1 =>
  some (y1.1, y1.2, 0)
 else
  if name = ([107, 52] : List UInt8) then
  (kinds_Graphic 4 [(0, 1), (0, 2), (0, 3), (1, 2), (1, 3), (2, 3)]).bind fun y2 =>
  some (y2.1, y2.2.1, y2.2.2)
 else
  if name = ([118, 97, 109, 111, 115] : List UInt8) then
  (kinds_without 4 8 [15, 51, 60, 195, 204]).bind fun y3 =>
  some (y3.1, y3.2, 0)
 else
  some (0, [], 6)

end Go.SH

set_option linter.unusedVariables false
set_option linter.unusedSimpArgs false
namespace Go.SH
open Go Go.AX

noncomputable def kinds_Uniform (rank : Int) (n : Int) : Option (Int × List Int × Int) :=
  (sets_Choose n rank).bind fun y =>
  if y.2 ≠ 0 then
  some (0, [], y.2)
 else
  some (n, y.1, 0)

end Go.SH

set_option linter.unusedVariables false
set_option linter.unusedSimpArgs false
namespace Go.SH
open Go Go.AX

noncomputable def minors_made (n : Int) (l : List Int) : Option (Int × List Int) :=
  chk ((l.length < 4611686018427387904)) <|
  chk (((uniqL (sortL l)).length ≤ 8796093022208)) <|
  some (n, uniqL (sortL l))

noncomputable def minors_Dual (m_0 : Int) (m_1 : List Int) : Option (Int × List Int × Int) :=
  (axioms_Check m_0 m_1).bind fun y =>
  if y ≠ 0 then
  some (0, [], y)
 else
  (loopM (ρ := List Int) (fun ((l, v) : List Int × Int) =>
  if v < (m_1.length : Int) then
  chk ((0 ≤ v ∧ v < m_1.length)) <|
  chk ((0 ≤ m_0 ∧ m_0 ≤ 62) ∧ (-9223372036854775808 ≤ ((2 ^ m_0.toNat : Int) - 1 : Int) ∧ ((2 ^ m_0.toNat : Int) - 1 : Int) ≤ 9223372036854775807) ∧ ((l ++ [iandnot ((2 ^ m_0.toNat : Int) - 1) (m_1.getD v.toNat 0)]).length ≤ 8796093022208)) <|
  some (.inl (l ++ [iandnot ((2 ^ m_0.toNat : Int) - 1) (m_1.getD v.toNat 0)], v + 1))
 else
  some (.inr l)) ([], 0)).bind fun (l1 : List Int) =>
  (minors_made m_0 l1).bind fun y1 =>
  some (y1.1, y1.2, 0)

end Go.SH

set_option linter.unusedVariables false
set_option linter.unusedSimpArgs false
namespace Go.SH
open Go Go.AX

noncomputable def same_ranks (m_0 : Int) (m_1 : List Int) : Option (List Int) :=
  (axioms_Ranks m_0 m_1).bind fun y =>
  some y.1

noncomputable def same_ones (s : Int) : Option (Int) :=
  (loopM (ρ := Int) (fun ((s1, n) : Int × Int) =>
  if s1 ≠ 0 then
  chk ((-9223372036854775808 ≤ (n + 1 : Int) ∧ (n + 1 : Int) ≤ 9223372036854775807)) <|
  chk ((-9223372036854775808 ≤ (s1 - 1 : Int) ∧ (s1 - 1 : Int) ≤ 9223372036854775807)) <|
  some (.inl (iand s1 (s1 - 1), n + 1))
 else
  some (.inr n)) (s, 0)).bind fun (n1 : Int) =>
  some n1

noncomputable def same_restricted (n : Int) (a1 : List Int) (a2 : Int) (a3 : Int) : Option (Int × List Int) :=
  (loopM (ρ := List Int) (fun ((v, v1) : List Int × Int) =>
  if v1 < n then
  chk (0 ≤ v1) <|
  if iand (a2 / 2 ^ v1.toNat) 1 = 1 then
  chk (((v ++ [v1]).length ≤ 8796093022208)) <|
  some (.inl (v ++ [v1], v1 + 1))
 else
  some (.inl (v, v1 + 1))
 else
  some (.inr v)) ([], 0)).bind fun (v2 : List Int) =>
  chk ((0 ≤ ior a2 a3 ∧ ior a2 a3 < a1.length) ∧ (0 ≤ a3 ∧ a3 < a1.length) ∧ (-9223372036854775808 ≤ ((a1.getD (ior a2 a3).toNat 0) - (a1.getD a3.toNat 0) : Int) ∧ ((a1.getD (ior a2 a3).toNat 0) - (a1.getD a3.toNat 0) : Int) ≤ 9223372036854775807)) <|
  chk ((0 ≤ (v2.length : Int) ∧ (v2.length : Int) ≤ 62)) <|
  (loopM (ρ := List Int) (fun ((v3, v4) : List Int × Int) =>
  if v4 < (2 ^ (v2.length : Int).toNat : Int) then
  (loopM (ρ := Int) (fun ((v6, v7) : Int × Int) =>
  if v7 < (v2.length : Int) then
  chk ((0 ≤ v7 ∧ v7 < v2.length)) <|
  chk (0 ≤ v7 ∧ (shlOk .i64 (iand (v4 / 2 ^ v7.toNat) 1) (v2.getD v7.toNat 0) = true)) <|
  some (.inl (ior v6 ((iand (v4 / 2 ^ v7.toNat) 1) * (2 ^ (v2.getD v7.toNat 0).toNat : Int)), v7 + 1))
 else
  some (.inr v6)) (0, 0)).bind fun (v8 : Int) =>
  (same_ones v4).bind fun y =>
  chk (((y = (a1.getD (ior a2 a3).toNat 0) - (a1.getD a3.toNat 0)) → (0 ≤ ior v8 a3 ∧ ior v8 a3 < a1.length)) ∧ ((y = (a1.getD (ior a2 a3).toNat 0) - (a1.getD a3.toNat 0)) → (0 ≤ a3 ∧ a3 < a1.length)) ∧ ((y = (a1.getD (ior a2 a3).toNat 0) - (a1.getD a3.toNat 0)) → (-9223372036854775808 ≤ ((a1.getD (ior v8 a3).toNat 0) - (a1.getD a3.toNat 0) : Int) ∧ ((a1.getD (ior v8 a3).toNat 0) - (a1.getD a3.toNat 0) : Int) ≤ 9223372036854775807))) <|
  if (y = (a1.getD (ior a2 a3).toNat 0) - (a1.getD a3.toNat 0) ∧ (a1.getD (ior v8 a3).toNat 0) - (a1.getD a3.toNat 0) = (a1.getD (ior a2 a3).toNat 0) - (a1.getD a3.toNat 0)) then
  chk (((v3 ++ [v4]).length ≤ 8796093022208)) <|
  some (.inl (v3 ++ [v4], v4 + 1))
 else
  some (.inl (v3, v4 + 1))
 else
  some (.inr v3)) ([], 0)).bind fun (v5 : List Int) =>
  some ((v2.length : Int), v5)

noncomputable def same_Isomorphic_1 (p : List Int) (q0 : List Int) (q1 : Bool) : Option (Bool × List Int × Bool) :=
  chk ((p.length ≤ 17592186044416)) <|
  some (false, p, true)

noncomputable def same_moved (p : List Int) (s : Int) : Option (Int) :=
  (loopM (ρ := Int) (fun ((out0, v) : Int × Int) =>
  if v < (p.length : Int) then
  chk ((0 ≤ v ∧ v < p.length)) <|
  chk (0 ≤ v ∧ (shlOk .i64 (iand (s / 2 ^ v.toNat) 1) (p.getD v.toNat 0) = true)) <|
  some (.inl (ior out0 ((iand (s / 2 ^ v.toNat) 1) * (2 ^ (p.getD v.toNat 0).toNat : Int)), v + 1))
 else
  some (.inr out0)) (0, 0)).bind fun (out01 : Int) =>
  some out01

noncomputable def same_each_1 : Nat → Int → Int → (List Int) → Int → (List Int) → (List Int) → (List Int) → (List Int) → (List Int) → Bool → Option (Bool × List Int × List Int × Bool)
  | 0, _, _, _, _, _, _, _, _, _, _ => none
  | fuel + 1, used, c1_0, c1_1, c3_0, c3_1, c4, c5, q0, q1, q2 =>
  if (q0.length : Int) = c1_0 then
  (same_Isomorphic_1 q0 q1 q2).bind fun y =>
  some (y.1, q0, y.2.1, y.2.2)
 else
  (loopM (ρ := (List Int × List Int × Bool) ⊕ (Bool × List Int × List Int × Bool)) (fun ((q01, q11, q21, v) : List Int × List Int × Bool × Int) =>
  if v < c3_0 then
  chk (0 ≤ v) <|
  if iand (used / 2 ^ v.toNat) 1 = 1 then
  some (.inl (q01, q11, q21, v + 1))
 else
  chk (((q01 ++ [v]).length ≤ 8796093022208)) <|
  chk ((0 ≤ (q0.length : Int) ∧ (q0.length : Int) ≤ 62)) <|
  (loopM (ρ := Bool) (fun ((v1, v2) : Bool × Int) =>
  chk ((shlOk .i64 2 (q0.length : Int) = true)) <|
  if (v2 < 2 * (2 ^ (q0.length : Int).toNat : Int) ∧ v1 = true) then
  chk ((0 ≤ v2 ∧ v2 < c4.length)) <|
  (same_moved (q01 ++ [v]) v2).bind fun y1 =>
  chk ((0 ≤ y1 ∧ y1 < c5.length)) <|
  chk ((-9223372036854775808 ≤ (v2 + 1 : Int) ∧ (v2 + 1 : Int) ≤ 9223372036854775807)) <|
  some (.inl (decide (c4.getD v2.toNat 0 = c5.getD y1.toNat 0), v2 + 1))
 else
  some (.inr v1)) (true, (2 ^ (q0.length : Int).toNat : Int))).bind fun (v3 : Bool) =>
  chk (((¬ (¬ (v3 = true))) → (0 ≤ v ∧ v ≤ 62))) <|
  if ¬ (¬ (v3 = true)) then
  (same_each_1 fuel (ior used (2 ^ v.toNat : Int)) c1_0 c1_1 c3_0 c3_1 c4 c5 (q01 ++ [v]) q11 q21).bind fun y2 =>
  chk ((0 ≤ (q0.length : Int) ∧ (q0.length : Int) ≤ ((y2.2.1).length))) <|
  if ¬ (y2.1 = true) then
  some (.inr (.inr (false, List.take ((q0.length : Int).toNat) y2.2.1, y2.2.2.1, y2.2.2.2)))
 else
  some (.inl (List.take ((q0.length : Int).toNat) y2.2.1, y2.2.2.1, y2.2.2.2, v + 1))
 else
  chk ((0 ≤ (q0.length : Int) ∧ (q0.length : Int) ≤ ((q01 ++ [v]).length))) <|
  if ¬ (True) then
  some (.inr (.inr (false, List.take ((q0.length : Int).toNat) (q01 ++ [v]), q11, q21)))
 else
  some (.inl (List.take ((q0.length : Int).toNat) (q01 ++ [v]), q11, q21, v + 1))
 else
  some (.inr (.inl (q01, q11, q21)))) (q0, q1, q2, 0)).bind fun z => match z with
  | .inl (q02, q12, q22) => (some (true, q02, q12, q22))
  | .inr rr => some rr

noncomputable def same_each (a_0 : Int) (a_1 : List Int) (b_0 : Int) (b_1 : List Int) (q0 : List Int) (q1 : Bool) : Option (List Int × Bool) :=
  (same_ranks a_0 a_1).bind fun y =>
  (same_ranks b_0 b_1).bind fun y1 =>
  (same_each_1 12 0 a_0 a_1 b_0 b_1 y y1 [] q0 q1).bind fun y2 =>
  some (y2.2.2.1, y2.2.2.2)

noncomputable def same_Isomorphic (a_0 : Int) (a_1 : List Int) (b_0 : Int) (b_1 : List Int) : Option (List Int × Int) :=
  (axioms_Check a_0 a_1).bind fun y =>
  (axioms_Check b_0 b_1).bind fun y1 =>
  if y ≠ 0 then
  some ([], y)
 else
  if y1 ≠ 0 then
  some ([], y1)
 else
  joinM (fun ((out0, found) : List Int × Bool) =>
  if ¬ (found = true) then
  some ([], 5)
 else
  some (out0, 0)) fun j =>
  if (a_0 = b_0 ∧ (a_1.length : Int) = (b_1.length : Int)) then
  (same_each a_0 a_1 b_0 b_1 [] false).bind fun y2 =>
  j (y2.1, y2.2)
 else
  j ([], false)

noncomputable def same_Minor (m_0 : Int) (m_1 : List Int) (a1_0 : Int) (a1_1 : List Int) : Option (Int × Int × Int) :=
  (axioms_Check m_0 m_1).bind fun y =>
  (axioms_Check a1_0 a1_1).bind fun y1 =>
  if y ≠ 0 then
  some (0, 0, y)
 else
  if y1 ≠ 0 then
  some (0, 0, y1)
 else
  (same_ranks m_0 m_1).bind fun y2 =>
  (same_ranks a1_0 a1_1).bind fun y3 =>
  chk ((0 ≤ a1_0 ∧ a1_0 ≤ 62)) <|
  chk ((-9223372036854775808 ≤ ((2 ^ a1_0.toNat : Int) - 1 : Int) ∧ ((2 ^ a1_0.toNat : Int) - 1 : Int) ≤ 9223372036854775807)) <|
  chk ((0 ≤ (2 ^ a1_0.toNat : Int) - 1 ∧ (2 ^ a1_0.toNat : Int) - 1 < y3.length)) <|
  chk ((0 ≤ m_0 ∧ m_0 ≤ 62)) <|
  (loopM (ρ := Unit ⊕ (Int × Int × Int)) (fun (v : Int) =>
  if v < (2 ^ m_0.toNat : Int) then
  chk ((0 ≤ m_0 ∧ m_0 ≤ 62)) <|
  (loopM (ρ := Unit ⊕ (Int × Int × Int)) (fun (v1 : Int) =>
  if v1 < (2 ^ m_0.toNat : Int) then
  chk ((0 ≤ m_0 ∧ m_0 ≤ 62) ∧ (-9223372036854775808 ≤ ((2 ^ m_0.toNat : Int) - 1 : Int) ∧ ((2 ^ m_0.toNat : Int) - 1 : Int) ≤ 9223372036854775807)) <|
  (if ¬ (iand v1 v ≠ 0) then same_ones (iandnot ((2 ^ m_0.toNat : Int) - 1) (ior v v1)) else some 0).bind fun y4 =>
  chk (((¬ ((iand v1 v ≠ 0 ∨ y4 ≠ a1_0))) → (0 ≤ ior (iandnot ((2 ^ m_0.toNat : Int) - 1) (ior v v1)) v1 ∧ ior (iandnot ((2 ^ m_0.toNat : Int) - 1) (ior v v1)) v1 < y2.length)) ∧ ((¬ ((iand v1 v ≠ 0 ∨ y4 ≠ a1_0))) → (0 ≤ v1 ∧ v1 < y2.length)) ∧ ((¬ ((iand v1 v ≠ 0 ∨ y4 ≠ a1_0))) → (-9223372036854775808 ≤ ((y2.getD (ior (iandnot ((2 ^ m_0.toNat : Int) - 1) (ior v v1)) v1).toNat 0) - (y2.getD v1.toNat 0) : Int) ∧ ((y2.getD (ior (iandnot ((2 ^ m_0.toNat : Int) - 1) (ior v v1)) v1).toNat 0) - (y2.getD v1.toNat 0) : Int) ≤ 9223372036854775807))) <|
  if ((iand v1 v ≠ 0 ∨ y4 ≠ a1_0) ∨ (y2.getD (ior (iandnot ((2 ^ m_0.toNat : Int) - 1) (ior v v1)) v1).toNat 0) - (y2.getD v1.toNat 0) ≠ y3.getD ((2 ^ a1_0.toNat : Int) - 1).toNat 0) then
  some (.inl (v1 + 1))
 else
  (same_restricted m_0 y2 (iandnot ((2 ^ m_0.toNat : Int) - 1) (ior v v1)) v1).bind fun y5 =>
  if (y5.2.length : Int) ≠ (a1_1.length : Int) then
  some (.inl (v1 + 1))
 else
  (same_Isomorphic y5.1 y5.2 a1_0 a1_1).bind fun y6 =>
  if y6.2 = 0 then
  some (.inr (.inr (v, v1, 0)))
 else
  some (.inl (v1 + 1))
 else
  some (.inr (.inl ()))) 0).bind fun z => match z with
  | .inl _ => (some (.inl (v + 1)))
  | .inr rr => some (.inr (.inr rr))
 else
  some (.inr (.inl ()))) 0).bind fun z => match z with
  | .inl _ => (some (0, 0, 5))
  | .inr rr => some rr

end Go.SH

set_option linter.unusedVariables false
set_option linter.unusedSimpArgs false
namespace Go.SH
open Go Go.AX

noncomputable def repr_search_from (s_0 : Int) (s_1 : List Int) (s_2 : List Int) (s_3 : Int) (s_4 : Int) (s_5 : List (List Int)) (s_6 : List Int) (s_7 : List Int) (a1 : Int) (a2 : Int) (a3 : Int) : Option (Bool) :=
  if a1 = (s_7.length : Int) then
  some true
 else
  none

noncomputable def repr_Represent (m_0 : Int) (m_1 : List Int) (a1 : Int) : Option (Int × Int × List (List Int) × Int) :=
  (axioms_Check m_0 m_1).bind fun y =>
  if y ≠ 0 then
  some (0, 0, ([] : List (List Int)), y)
 else
  if (a1 ≠ 2 ∧ a1 ≠ 3) then
  some (0, 0, ([] : List (List Int)), 1)
 else
  (axioms_Ranks m_0 m_1).bind fun y1 =>
  chk ((-9223372036854775808 ≤ ((y1.1.length : Int) - 1 : Int) ∧ ((y1.1.length : Int) - 1 : Int) ≤ 9223372036854775807) ∧ (0 ≤ (y1.1.length : Int) - 1 ∧ (y1.1.length : Int) - 1 < y1.1.length)) <|
  if 6 < y1.1.getD ((y1.1.length : Int) - 1).toNat 0 then
  some (0, 0, ([] : List (List Int)), 2)
 else
  (loopM (ρ := List (List Int) × List Int × List Int) (fun ((v, v1, v2, v3) : List (List Int) × List Int × List Int × Int) =>
  if v3 < m_0 then
  chk (0 < m_1.length ∧ 0 ≤ v3) <|
  if iand ((m_1.getD 0 0) / 2 ^ v3.toNat) 1 = 0 then
  chk (((v2 ++ [v3]).length ≤ 8796093022208)) <|
  chk ((-9223372036854775808 ≤ (v3 + 1 : Int) ∧ (v3 + 1 : Int) ≤ 9223372036854775807)) <|
  some (.inl (v, v1, v2 ++ [v3], v3 + 1))
 else
  chk ((0 ≤ m_0 ∧ m_0 ≤ 1099511627776)) <|
  chk ((0 ≤ v3 ∧ v3 < ((List.replicate m_0.toNat 0).length))) <|
  chk (((v1 ++ [v3]).length ≤ 8796093022208)) <|
  chk (((v ++ [(List.replicate m_0.toNat 0).set v3.toNat 1]).length ≤ 1099511627776)) <|
  chk ((-9223372036854775808 ≤ (v3 + 1 : Int) ∧ (v3 + 1 : Int) ≤ 9223372036854775807)) <|
  some (.inl (v ++ [(List.replicate m_0.toNat 0).set v3.toNat 1], v1 ++ [v3], v2, v3 + 1))
 else
  some (.inr (v, v1, v2))) (([] : List (List Int)), [], [], 0)).bind fun ((v4, v5, v6) : List (List Int) × List Int × List Int) =>
  chk (0 < m_1.length) <|
  (repr_search_from m_0 m_1 y1.1 a1 m_0 v4 v5 v6 0 0 (m_1.getD 0 0)).bind fun y2 =>
  if ¬ (y2 = true) then
  some (0, 0, ([] : List (List Int)), 5)
 else
  some (a1, m_0, v4, 0)

noncomputable def repr_uniform (rank : Int) (n : Int) : Option (Int × List Int) :=
  (kinds_Uniform rank n).bind fun y =>
  some (y.1, y.2.1)

noncomputable def repr_has (m_0 : Int) (m_1 : List Int) (l : List (Int × List Int)) : Option (Bool) :=
  (loopM (ρ := Unit ⊕ Bool) (fun (v : Int) =>
  if v < (l.length : Int) then
  chk ((0 ≤ v ∧ v < l.length)) <|
  (same_Minor m_0 m_1 ((l.getD v.toNat (0, [])).1) ((l.getD v.toNat (0, [])).2)).bind fun y =>
  if y.2.2 = 0 then
  some (.inr (.inr true))
 else
  some (.inl (v + 1))
 else
  some (.inr (.inl ()))) 0).bind fun z => match z with
  | .inl _ => (some false)
  | .inr rr => some rr

noncomputable def repr_Regular (m_0 : Int) (m_1 : List Int) : Option (Bool × Int) :=
  (axioms_Check m_0 m_1).bind fun y =>
  if y ≠ 0 then
  some (false, y)
 else
  (kinds_Named ([102, 97, 110, 111] : List UInt8)).bind fun y1 =>
  (minors_Dual y1.1 y1.2.1).bind fun y2 =>
  (repr_uniform 2 4).bind fun y3 =>
  (repr_has m_0 m_1 [(y3.1, y3.2), (y1.1, y1.2.1), (y2.1, y2.2.1)]).bind fun y4 =>
  some (decide (¬ (y4 = true)), 0)

end Go.SH

set_option linter.unusedVariables false
set_option linter.unusedSimpArgs false
namespace Go.SH
open Go Go.AX

noncomputable def rotalaw_Same_int (a : List Int) (b : List Int) : Option (Bool) :=
  if (a.length : Int) ≠ (b.length : Int) then
  some false
 else
  (loopM (ρ := Unit ⊕ Bool) (fun (v : Int) =>
  if v < (a.length : Int) then
  chk ((0 ≤ v ∧ v < a.length) ∧ (0 ≤ v ∧ v < b.length)) <|
  if a.getD v.toNat 0 ≠ b.getD v.toNat 0 then
  some (.inr (.inr false))
 else
  some (.inl (v + 1))
 else
  some (.inr (.inl ()))) 0).bind fun z => match z with
  | .inl _ => (some true)
  | .inr rr => some rr

noncomputable def rotalaw_Rows_int (a : List (List Int)) (b : List (List Int)) : Option (Bool) :=
  if (a.length : Int) ≠ (b.length : Int) then
  some false
 else
  (loopM (ρ := Unit ⊕ Bool) (fun (v : Int) =>
  if v < (a.length : Int) then
  chk ((0 ≤ v ∧ v < a.length) ∧ (0 ≤ v ∧ v < b.length)) <|
  (rotalaw_Same_int (a.getD v.toNat []) (b.getD v.toNat [])).bind fun y =>
  if ¬ (y = true) then
  some (.inr (.inr false))
 else
  some (.inl (v + 1))
 else
  some (.inr (.inl ()))) 0).bind fun z => match z with
  | .inl _ => (some true)
  | .inr rr => some rr

end Go.SH
