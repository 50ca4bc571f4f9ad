/-
  Functions of the program as plain functions: bits_OnesCount. By a program of mine (shal.py). Functions of the program as plain functions: sets_Choose, sets_Family. By a program of mine (shal.py). Functions of the program as plain functions: cmp_isNaN_int, cmp_Less_int. By a program of mine (shal.py). Functions of the program as plain functions: slices_isNaN_int, slices_BinarySearch_int_int, slices_Index_int_int, slices_Contains_int_int. By a program of mine (shal.py). Functions of the program as plain functions: axioms_size, axioms_exchange, axioms_Check. By a program of mine (shal.py). Functions of the program as plain functions: field_twin, field_inverse. By a program of mine (shal.py). Functions of the program as plain functions: kinds_CheckMatrix. By a program of mine (shal.py). Functions of the program as plain functions: field_reduced, field_Rank, field_Reduced. By a program of mine (shal.py). Functions of the program as plain functions: field_Kernel. By a program of mine (shal.py). Functions of the program as plain functions: field_Times, field_Turned. By a program of mine (shal.py). Functions of the program as plain functions: kinds_size, kinds_greatest. By a program of mine (shal.py). Functions of the program as plain functions: kinds_inverse, kinds_rankOf, kinds_Linear_1, kinds_Linear. By a program of mine (shal.py). Functions of the program as plain functions: minors_made, minors_Dual. By a program of mine (shal.py). Functions of the program as plain functions: rotalaw_Same_int, rotalaw_SameMatroid, rotalaw_Rows_int. By a program of mine (shal.py).  Conditions: none.
-/
import Derived.Test.YtdhbpoafkhojnaaAxN
import Derived.Test.YtdhbpoafkhojnaaAxP

set_option linter.unusedVariables false
set_option linter.unusedSimpArgs false
namespace Go.SH
open Go Go.AX

def oc1 (x : Int) : Int := iand (x / 2 ^ 1) 6148914691236517205 + iand x 6148914691236517205
def oc2 (x : Int) : Int := iand (x / 2 ^ 2) 3689348814741910323 + iand x 3689348814741910323
def oc3 (x : Int) : Int := iand (x / 2 ^ 4 + x) 1085102592571150095
def oc4 (x : Int) : Int := x + x / 2 ^ 8
def oc5 (x : Int) : Int := x + x / 2 ^ 16
def oc6 (x : Int) : Int := x + x / 2 ^ 32
/-- How many bits stand. -/
def oc (x : Int) : Int := iand (oc6 (oc5 (oc4 (oc3 (oc2 (oc1 x)))))) 127
theorem oc1_bd {x : Int} (h : 0 ≤ x) : 0 ≤ oc1 x ∧ oc1 x ≤ 12297829382473034410 := by
  unfold oc1
  have h1 := iand_bd (a := x / 2 ^ 1) (b := 6148914691236517205) (by omega) (by omega)
  have h2 := iand_bd (a := x) (b := 6148914691236517205) (by omega) (by omega)
  omega
theorem oc2_bd {x : Int} (h : 0 ≤ x) : 0 ≤ oc2 x ∧ oc2 x ≤ 7378697629483820646 := by
  unfold oc2
  have h1 := iand_bd (a := x / 2 ^ 2) (b := 3689348814741910323) (by omega) (by omega)
  have h2 := iand_bd (a := x) (b := 3689348814741910323) (by omega) (by omega)
  omega
theorem oc3_bd {x : Int} (h : 0 ≤ x) : 0 ≤ oc3 x ∧ oc3 x ≤ 1085102592571150095 := by
  unfold oc3
  have h1 := iand_bd (a := x / 2 ^ 4 + x) (b := 1085102592571150095) (by omega) (by omega)
  omega
theorem oc4_bd {x : Int} (h : 0 ≤ x) (h' : x ≤ 1085102592571150095) : 0 ≤ oc4 x ∧ oc4 x ≤ 2170205185142300190 := by unfold oc4; omega
theorem oc5_bd {x : Int} (h : 0 ≤ x) (h' : x ≤ 2170205185142300190) : 0 ≤ oc5 x ∧ oc5 x ≤ 4340410370284600380 := by unfold oc5; omega
theorem oc6_bd {x : Int} (h : 0 ≤ x) (h' : x ≤ 4340410370284600380) : 0 ≤ oc6 x ∧ oc6 x ≤ 8680820740569200760 := by unfold oc6; omega
theorem oc_bd {x : Int} (h : 0 ≤ x) : 0 ≤ oc x ∧ oc x ≤ 127 := by
  have h1 := oc1_bd h
  have h2 := oc2_bd h1.1
  have h3 := oc3_bd h2.1
  have h4 := oc4_bd h3.1 h3.2
  have h5 := oc5_bd h4.1 h4.2
  have h6 := oc6_bd h5.1 h5.2
  have := iand_bd (a := oc6 (oc5 (oc4 (oc3 (oc2 (oc1 x)))))) (b := 127) h6.1 (by omega)
  exact ⟨this.1, this.2.2⟩
/-- bits.OnesCount. -/
def bits_OnesCount (x : Int) : Option Int := some (oc x)

end Go.SH

set_option linter.unusedVariables false
set_option linter.unusedSimpArgs false
namespace Go.SH
open Go Go.AX

noncomputable def sets_Choose (n : Int) (k : Int) : Option (List Int × Int) :=
  if (((n < 0 ∨ 8 < n) ∨ k < 0) ∨ n < k) then
  some ([], 1)
 else
  chk ((0 ≤ n ∧ n ≤ 62)) <|
  (loopM (ρ := List Int) (fun ((out0, v) : List Int × Int) =>
  if v < (2 ^ n.toNat : Int) then
  chk ((0 ≤ (v : Int) ∧ (v : Int) ≤ 18446744073709551615)) <|
  (bits_OnesCount v).bind fun y =>
  if y = k then
  chk (((out0 ++ [v]).length ≤ 8796093022208)) <|
  some (.inl (out0 ++ [v], v + 1))
 else
  some (.inl (out0, v + 1))
 else
  some (.inr out0)) ([], 0)).bind fun (out01 : List Int) =>
  some (out01, 0)

noncomputable def sets_Family (n : Int) (l : List Int) : Option (Int) :=
  if (n < 0 ∨ 8 < n) then
  some 1
 else
  (loopM (ρ := Unit ⊕ Int) (fun (v : Int) =>
  if v < (l.length : Int) then
  chk ((0 ≤ v ∧ v < l.length)) <|
  chk (((¬ (l.getD v.toNat 0 < 0)) → (0 ≤ n ∧ n ≤ 62)) ∧ (((¬ ((l.getD v.toNat 0 < 0 ∨ (2 ^ n.toNat : Int) ≤ l.getD v.toNat 0))) ∧ 0 < v) → (-9223372036854775808 ≤ (v - 1 : Int) ∧ (v - 1 : Int) ≤ 9223372036854775807)) ∧ (((¬ ((l.getD v.toNat 0 < 0 ∨ (2 ^ n.toNat : Int) ≤ l.getD v.toNat 0))) ∧ 0 < v) → (0 ≤ v - 1 ∧ v - 1 < l.length))) <|
  if ((l.getD v.toNat 0 < 0 ∨ (2 ^ n.toNat : Int) ≤ l.getD v.toNat 0) ∨ (0 < v ∧ l.getD v.toNat 0 ≤ l.getD (v - 1).toNat 0)) then
  some (.inr (.inr 1))
 else
  some (.inl (v + 1))
 else
  some (.inr (.inl ()))) 0).bind fun z => match z with
  | .inl _ => (some 0)
  | .inr rr => some rr

end Go.SH

set_option linter.unusedVariables false
set_option linter.unusedSimpArgs false
namespace Go.SH
open Go Go.AX

noncomputable def cmp_isNaN_int (x : Int) : Option (Bool) :=
  some (decide (x ≠ x))

noncomputable def cmp_Less_int (x : Int) (y : Int) : Option (Bool) :=
  (cmp_isNaN_int x).bind fun y1 =>
  (if y1 = true then cmp_isNaN_int y else some false).bind fun y2 =>
  some (decide (((y1 = true ∧ ¬ (y2 = true)) ∨ x < y)))

end Go.SH

set_option linter.unusedVariables false
set_option linter.unusedSimpArgs false
namespace Go.SH
open Go Go.AX

noncomputable def slices_isNaN_int (x : Int) : Option (Bool) :=
  some (decide (x ≠ x))

noncomputable def slices_BinarySearch_int_int (x : List Int) (target : Int) : Option (Int × Bool) :=
  (loopM (ρ := Int) (fun ((i, j) : Int × Int) =>
  if i < j then
  chk ((-9223372036854775808 ≤ (i + j : Int) ∧ (i + j : Int) ≤ 9223372036854775807) ∧ (0 ≤ (i + j : Int) ∧ (i + j : Int) ≤ 18446744073709551615) ∧ (-9223372036854775808 ≤ ((i + j) / 2 ^ 1 : Int) ∧ ((i + j) / 2 ^ 1 : Int) ≤ 9223372036854775807)) <|
  chk ((0 ≤ (i + j) / 2 ^ 1 ∧ (i + j) / 2 ^ 1 < x.length)) <|
  (cmp_Less_int (x.getD ((i + j) / 2 ^ 1).toNat 0) target).bind fun y =>
  if y = true then
  chk ((-9223372036854775808 ≤ (((i + j) / 2 ^ 1) + 1 : Int) ∧ (((i + j) / 2 ^ 1) + 1 : Int) ≤ 9223372036854775807)) <|
  some (.inl (((i + j) / 2 ^ 1) + 1, j))
 else
  some (.inl (i, (i + j) / 2 ^ 1))
 else
  some (.inr i)) (0, (x.length : Int))).bind fun (i1 : Int) =>
  chk (((i1 < (x.length : Int)) → (0 ≤ i1 ∧ i1 < x.length)) ∧ (((i1 < (x.length : Int)) ∧ ¬ (x.getD i1.toNat 0 = target)) → (0 ≤ i1 ∧ i1 < x.length))) <|
  (if ((i1 < (x.length : Int)) ∧ ¬ (x.getD i1.toNat 0 = target)) then slices_isNaN_int (x.getD i1.toNat 0) else some false).bind fun y1 =>
  (if (((i1 < (x.length : Int)) ∧ ¬ (x.getD i1.toNat 0 = target)) ∧ y1 = true) then slices_isNaN_int target else some false).bind fun y2 =>
  some (i1, decide ((i1 < (x.length : Int) ∧ (x.getD i1.toNat 0 = target ∨ (y1 = true ∧ y2 = true)))))

noncomputable def slices_Index_int_int (s : List Int) (v : Int) : Option (Int) :=
  (loopM (ρ := Unit ⊕ Int) (fun (v1 : Int) =>
  if v1 < (s.length : Int) then
  chk ((0 ≤ v1 ∧ v1 < s.length)) <|
  if v = s.getD v1.toNat 0 then
  some (.inr (.inr v1))
 else
  some (.inl (v1 + 1))
 else
  some (.inr (.inl ()))) 0).bind fun z => match z with
  | .inl _ => (some (-1))
  | .inr rr => some rr

noncomputable def slices_Contains_int_int (s : List Int) (v : Int) : Option (Bool) :=
  (slices_Index_int_int s v).bind fun y =>
  some (decide (0 ≤ y))

end Go.SH

set_option linter.unusedVariables false
set_option linter.unusedSimpArgs false
namespace Go.SH
open Go Go.AX

noncomputable def axioms_size (s : Int) : Option (Int) :=
  chk ((0 ≤ (s : Int) ∧ (s : Int) ≤ 18446744073709551615)) <|
  (bits_OnesCount s).bind fun y =>
  some y

noncomputable def axioms_exchange (m_0 : Int) (m_1 : List Int) (a : Int) (b : Int) : Option (Bool) :=
  (loopM (ρ := Unit ⊕ Bool) (fun (out0 : Int) =>
  if out0 ≠ 0 then
  chk ((-9223372036854775808 ≤ (-out0 : Int) ∧ (-out0 : Int) ≤ 9223372036854775807)) <|
  (loopM (ρ := Bool) (fun ((ok, in0) : Bool × Int) =>
  if (in0 ≠ 0 ∧ ¬ (ok = true)) then
  chk ((-9223372036854775808 ≤ (-in0 : Int) ∧ (-in0 : Int) ≤ 9223372036854775807)) <|
  (slices_BinarySearch_int_int m_1 (ior (iandnot a (iand out0 (-out0))) (iand in0 (-in0)))).bind fun y =>
  chk ((-9223372036854775808 ≤ (in0 - 1 : Int) ∧ (in0 - 1 : Int) ≤ 9223372036854775807)) <|
  some (.inl (y.2, iand in0 (in0 - 1)))
 else
  some (.inr ok)) (false, iandnot b a)).bind fun (ok1 : Bool) =>
  if ¬ (ok1 = true) then
  some (.inr (.inr false))
 else
  chk ((-9223372036854775808 ≤ (out0 - 1 : Int) ∧ (out0 - 1 : Int) ≤ 9223372036854775807)) <|
  some (.inl (iand out0 (out0 - 1)))
 else
  some (.inr (.inl ()))) (iandnot a b)).bind fun z => match z with
  | .inl _ => (some true)
  | .inr rr => some rr

noncomputable def axioms_Check (m_0 : Int) (m_1 : List Int) : Option (Int) :=
  (sets_Family m_0 m_1).bind fun y =>
  if (y ≠ 0 ∨ (m_1.length : Int) = 0) then
  some 1
 else
  (loopM (ρ := Unit ⊕ Int) (fun (v : Int) =>
  if v < (m_1.length : Int) then
  chk ((0 ≤ v ∧ v < m_1.length)) <|
  (axioms_size (m_1.getD v.toNat 0)).bind fun y1 =>
  chk (0 < m_1.length) <|
  (axioms_size (m_1.getD 0 0)).bind fun y2 =>
  if y1 ≠ y2 then
  some (.inr (.inr 1))
 else
  some (.inl (v + 1))
 else
  some (.inr (.inl ()))) 0).bind fun z => match z with
  | .inl _ => ((loopM (ρ := Unit ⊕ Int) (fun (v1 : Int) =>
  if v1 < (m_1.length : Int) then
  chk ((0 ≤ v1 ∧ v1 < m_1.length)) <|
  (loopM (ρ := Unit ⊕ Int) (fun (v2 : Int) =>
  if v2 < (m_1.length : Int) then
  chk ((0 ≤ v2 ∧ v2 < m_1.length)) <|
  (axioms_exchange m_0 m_1 (m_1.getD v1.toNat 0) (m_1.getD v2.toNat 0)).bind fun y3 =>
  if ¬ (y3 = true) then
  some (.inr (.inr 3))
 else
  some (.inl (v2 + 1))
 else
  some (.inr (.inl ()))) 0).bind fun z => match z with
  | .inl _ => (some (.inl (v1 + 1)))
  | .inr rr => some (.inr (.inr rr))
 else
  some (.inr (.inl ()))) 0).bind fun z => match z with
  | .inl _ => (some 0)
  | .inr rr => some rr)
  | .inr rr => some rr

end Go.SH

set_option linter.unusedVariables false
set_option linter.unusedSimpArgs false
namespace Go.SH
open Go Go.AX

noncomputable def field_twin (x_0 : Int) (x_1 : Int) (x_2 : List (List Int)) : Option (Int × Int × List (List Int)) :=
  (loopM (ρ := List (List Int)) (fun ((out0, v) : List (List Int) × Int) =>
  if v < (x_2.length : Int) then
  chk ((0 ≤ v ∧ v < x_2.length)) <|
  chk (((x_2.getD v.toNat []).length ≤ 17592186044416)) <|
  chk (((out0 ++ [(x_2.getD v.toNat [])]).length ≤ 1099511627776)) <|
  some (.inl (out0 ++ [(x_2.getD v.toNat [])], v + 1))
 else
  some (.inr out0)) (([] : List (List Int)), 0)).bind fun (out01 : List (List Int)) =>
  some (x_0, x_1, out01)

noncomputable def field_inverse (a : Int) (p : Int) : Option (Int) :=
  (loopM (ρ := Unit ⊕ Int) (fun (b : Int) =>
  if b < p then
  chk ((-9223372036854775808 ≤ (a * b : Int) ∧ (a * b : Int) ≤ 9223372036854775807) ∧ p ≠ 0) <|
  if Int.tmod (a * b) p = 1 then
  some (.inr (.inr b))
 else
  some (.inl (b + 1))
 else
  some (.inr (.inl ()))) 1).bind fun z => match z with
  | .inl _ => (some 0)
  | .inr rr => some rr

end Go.SH

set_option linter.unusedVariables false
set_option linter.unusedSimpArgs false
namespace Go.SH
open Go Go.AX

noncomputable def kinds_CheckMatrix (x_0 : Int) (x_1 : Int) (x_2 : List (List Int)) : Option (Int) :=
  if ((((((x_0 ≠ 2 ∧ x_0 ≠ 3) ∧ x_0 ≠ 5) ∧ x_0 ≠ 7) ∨ x_1 < 0) ∨ 8 < x_1) ∨ 6 < (x_2.length : Int)) then
  some 1
 else
  (loopM (ρ := Unit ⊕ Int) (fun (v : Int) =>
  if v < (x_2.length : Int) then
  chk ((0 ≤ v ∧ v < x_2.length)) <|
  if ((x_2.getD v.toNat []).length : Int) ≠ x_1 then
  some (.inr (.inr 1))
 else
  (loopM (ρ := Unit ⊕ Int) (fun (v1 : Int) =>
  if v1 < ((x_2.getD v.toNat []).length : Int) then
  chk ((0 ≤ v1 ∧ v1 < (x_2.getD v.toNat []).length)) <|
  if ((x_2.getD v.toNat []).getD v1.toNat 0 < 0 ∨ x_0 ≤ (x_2.getD v.toNat []).getD v1.toNat 0) then
  some (.inr (.inr 1))
 else
  some (.inl (v1 + 1))
 else
  some (.inr (.inl ()))) 0).bind fun z => match z with
  | .inl _ => (some (.inl (v + 1)))
  | .inr rr => some (.inr (.inr rr))
 else
  some (.inr (.inl ()))) 0).bind fun z => match z with
  | .inl _ => (some 0)
  | .inr rr => some rr

end Go.SH

set_option linter.unusedVariables false
set_option linter.unusedSimpArgs false
namespace Go.SH
open Go Go.AX

noncomputable def field_reduced (q0 : Int × Int × List (List Int)) : Option (List Int × (Int × Int × List (List Int))) :=
  (loopM (ρ := List (List Int) × List Int) (fun ((q01, v, v1) : List (List Int) × List Int × Int) =>
  if (v1 < q0.2.1 ∧ (v.length : Int) < (q01.length : Int)) then
  (loopM (ρ := Int) (fun (v3 : Int) =>
  chk (((v3 < (q01.length : Int)) → (0 ≤ v3 ∧ v3 < q01.length)) ∧ ((v3 < (q01.length : Int)) → (0 ≤ v1 ∧ v1 < ((q01.getD v3.toNat []).length)))) <|
  if (v3 < (q01.length : Int) ∧ (q01.getD v3.toNat []).getD v1.toNat 0 = 0) then
  chk ((-9223372036854775808 ≤ (v3 + 1 : Int) ∧ (v3 + 1 : Int) ≤ 9223372036854775807)) <|
  some (.inl (v3 + 1))
 else
  some (.inr v3)) (v.length : Int)).bind fun (v4 : Int) =>
  if v4 = (q01.length : Int) then
  chk ((-9223372036854775808 ≤ (v1 + 1 : Int) ∧ (v1 + 1 : Int) ≤ 9223372036854775807)) <|
  some (.inl (q01, v, v1 + 1))
 else
  chk ((0 ≤ v4 ∧ v4 < q01.length)) <|
  chk ((0 ≤ (v.length : Int) ∧ (v.length : Int) < q01.length)) <|
  chk ((0 ≤ (v.length : Int) ∧ (v.length : Int) < q01.length)) <|
  chk ((0 ≤ v4 ∧ v4 < q01.length)) <|
  chk ((0 ≤ (v.length : Int) ∧ (v.length : Int) < q01.length) ∧ (0 ≤ v1 ∧ v1 < ((((q01.set ((v.length : Int).toNat) (q01.getD v4.toNat [])).set v4.toNat (q01.getD ((v.length : Int).toNat) [])).getD ((v.length : Int).toNat) []).length))) <|
  (field_inverse ((((q01.set ((v.length : Int).toNat) (q01.getD v4.toNat [])).set v4.toNat (q01.getD ((v.length : Int).toNat) [])).getD ((v.length : Int).toNat) []).getD v1.toNat 0) q0.1).bind fun y =>
  chk ((0 ≤ (v.length : Int) ∧ (v.length : Int) < q01.length)) <|
  (loopM (ρ := List (List Int)) (fun ((q03, v5) : List (List Int) × Int) =>
  if v5 < ((((q01.set ((v.length : Int).toNat) (q01.getD v4.toNat [])).set v4.toNat (q01.getD ((v.length : Int).toNat) [])).getD ((v.length : Int).toNat) []).length : Int) then
  chk ((0 ≤ (v.length : Int) ∧ (v.length : Int) < q03.length) ∧ (0 ≤ v5 ∧ v5 < ((q03.getD ((v.length : Int).toNat) []).length)) ∧ (-9223372036854775808 ≤ (((q03.getD ((v.length : Int).toNat) []).getD v5.toNat 0) * y : Int) ∧ (((q03.getD ((v.length : Int).toNat) []).getD v5.toNat 0) * y : Int) ≤ 9223372036854775807) ∧ q0.1 ≠ 0) <|
  some (.inl (q03.set ((v.length : Int).toNat) ((q03.getD ((v.length : Int).toNat) []).set v5.toNat (Int.tmod (((q03.getD ((v.length : Int).toNat) []).getD v5.toNat 0) * y) q0.1)), v5 + 1))
 else
  some (.inr q03)) ((q01.set ((v.length : Int).toNat) (q01.getD v4.toNat [])).set v4.toNat (q01.getD ((v.length : Int).toNat) []), 0)).bind fun (q04 : List (List Int)) =>
  (loopM (ρ := List (List Int)) (fun ((q05, v6) : List (List Int) × Int) =>
  if v6 < (q04.length : Int) then
  chk ((0 ≤ v6 ∧ v6 < q05.length) ∧ (0 ≤ v1 ∧ v1 < ((q05.getD v6.toNat []).length))) <|
  if (v6 = (v.length : Int) ∨ (q05.getD v6.toNat []).getD v1.toNat 0 = 0) then
  some (.inl (q05, v6 + 1))
 else
  chk ((0 ≤ v6 ∧ v6 < q05.length)) <|
  (loopM (ρ := List (List Int)) (fun ((q07, v7) : List (List Int) × Int) =>
  if v7 < ((q05.getD v6.toNat []).length : Int) then
  chk ((0 ≤ v6 ∧ v6 < q07.length) ∧ (0 ≤ v7 ∧ v7 < ((q07.getD v6.toNat []).length)) ∧ (-9223372036854775808 ≤ (q0.1 - ((q05.getD v6.toNat []).getD v1.toNat 0) : Int) ∧ (q0.1 - ((q05.getD v6.toNat []).getD v1.toNat 0) : Int) ≤ 9223372036854775807) ∧ (0 ≤ (v.length : Int) ∧ (v.length : Int) < q07.length) ∧ (0 ≤ v7 ∧ v7 < ((q07.getD ((v.length : Int).toNat) []).length)) ∧ (-9223372036854775808 ≤ ((q0.1 - ((q05.getD v6.toNat []).getD v1.toNat 0)) * ((q07.getD ((v.length : Int).toNat) []).getD v7.toNat 0) : Int) ∧ ((q0.1 - ((q05.getD v6.toNat []).getD v1.toNat 0)) * ((q07.getD ((v.length : Int).toNat) []).getD v7.toNat 0) : Int) ≤ 9223372036854775807) ∧ (-9223372036854775808 ≤ (((q07.getD v6.toNat []).getD v7.toNat 0) + ((q0.1 - ((q05.getD v6.toNat []).getD v1.toNat 0)) * ((q07.getD ((v.length : Int).toNat) []).getD v7.toNat 0)) : Int) ∧ (((q07.getD v6.toNat []).getD v7.toNat 0) + ((q0.1 - ((q05.getD v6.toNat []).getD v1.toNat 0)) * ((q07.getD ((v.length : Int).toNat) []).getD v7.toNat 0)) : Int) ≤ 9223372036854775807) ∧ q0.1 ≠ 0) <|
  chk ((-9223372036854775808 ≤ (v7 + 1 : Int) ∧ (v7 + 1 : Int) ≤ 9223372036854775807)) <|
  some (.inl (q07.set v6.toNat ((q07.getD v6.toNat []).set v7.toNat (Int.tmod (((q07.getD v6.toNat []).getD v7.toNat 0) + ((q0.1 - ((q05.getD v6.toNat []).getD v1.toNat 0)) * ((q07.getD ((v.length : Int).toNat) []).getD v7.toNat 0))) q0.1)), v7 + 1))
 else
  some (.inr q07)) (q05, 0)).bind fun (q08 : List (List Int)) =>
  some (.inl (q08, v6 + 1))
 else
  some (.inr q05)) (q04, 0)).bind fun (q06 : List (List Int)) =>
  chk (((v ++ [v1]).length ≤ 8796093022208)) <|
  chk ((-9223372036854775808 ≤ (v1 + 1 : Int) ∧ (v1 + 1 : Int) ≤ 9223372036854775807)) <|
  some (.inl (q06, v ++ [v1], v1 + 1))
 else
  some (.inr (q01, v))) (q0.2.2, [], 0)).bind fun ((q02, v2) : List (List Int) × List Int) =>
  chk ((0 ≤ (v2.length : Int) ∧ (v2.length : Int) ≤ q02.length)) <|
  chk (((v2.length : Int).toNat ≤ q02.length ∧ (v2.length : Int).toNat ≤ 1099511627776)) <|
  some (v2, (q0.1, q0.2.1, q02.take ((v2.length : Int).toNat)))

noncomputable def field_Rank (x_0 : Int) (x_1 : Int) (x_2 : List (List Int)) : Option (Int × Int) :=
  (kinds_CheckMatrix x_0 x_1 x_2).bind fun y =>
  if y ≠ 0 then
  some (0, y)
 else
  (field_twin x_0 x_1 x_2).bind fun y1 =>
  (field_reduced (y1.1, y1.2.1, y1.2.2)).bind fun y2 =>
  some ((y2.1.length : Int), 0)

noncomputable def field_Reduced (x_0 : Int) (x_1 : Int) (x_2 : List (List Int)) : Option (Int × Int × List (List Int) × Int) :=
  (kinds_CheckMatrix x_0 x_1 x_2).bind fun y =>
  if y ≠ 0 then
  some (0, 0, ([] : List (List Int)), y)
 else
  (field_twin x_0 x_1 x_2).bind fun y1 =>
  (field_reduced (y1.1, y1.2.1, y1.2.2)).bind fun y2 =>
  some (y2.2.1, y2.2.2.1, y2.2.2.2, 0)

end Go.SH

set_option linter.unusedVariables false
set_option linter.unusedSimpArgs false
namespace Go.SH
open Go Go.AX

noncomputable def field_Kernel (x_0 : Int) (x_1 : Int) (x_2 : List (List Int)) : Option (Int × Int × List (List Int) × Int) :=
  (kinds_CheckMatrix x_0 x_1 x_2).bind fun y =>
  if y ≠ 0 then
  some (0, 0, ([] : List (List Int)), y)
 else
  (field_twin x_0 x_1 x_2).bind fun y1 =>
  (field_reduced (y1.1, y1.2.1, y1.2.2)).bind fun y2 =>
  chk ((-9223372036854775808 ≤ (x_1 - (y2.1.length : Int) : Int) ∧ (x_1 - (y2.1.length : Int) : Int) ≤ 9223372036854775807)) <|
  if 6 < x_1 - (y2.1.length : Int) then
  some (0, 0, ([] : List (List Int)), 2)
 else
  (loopM (ρ := List (List Int)) (fun ((v, v1) : List (List Int) × Int) =>
  if v1 < x_1 then
  (slices_Contains_int_int y2.1 v1).bind fun y3 =>
  if y3 = true then
  chk ((-9223372036854775808 ≤ (v1 + 1 : Int) ∧ (v1 + 1 : Int) ≤ 9223372036854775807)) <|
  some (.inl (v, v1 + 1))
 else
  chk ((0 ≤ x_1 ∧ x_1 ≤ 1099511627776)) <|
  chk ((0 ≤ v1 ∧ v1 < ((List.replicate x_1.toNat 0).length))) <|
  (loopM (ρ := List Int) (fun ((v3, v4) : List Int × Int) =>
  if v4 < (y2.1.length : Int) then
  chk ((0 ≤ v4 ∧ v4 < y2.1.length)) <|
  chk ((0 ≤ v4 ∧ v4 < y2.2.2.2.length) ∧ (0 ≤ v1 ∧ v1 < ((y2.2.2.2.getD v4.toNat []).length)) ∧ (-9223372036854775808 ≤ (x_0 - ((y2.2.2.2.getD v4.toNat []).getD v1.toNat 0) : Int) ∧ (x_0 - ((y2.2.2.2.getD v4.toNat []).getD v1.toNat 0) : Int) ≤ 9223372036854775807) ∧ x_0 ≠ 0 ∧ (0 ≤ y2.1.getD v4.toNat 0 ∧ y2.1.getD v4.toNat 0 < v3.length)) <|
  chk ((-9223372036854775808 ≤ (v4 + 1 : Int) ∧ (v4 + 1 : Int) ≤ 9223372036854775807)) <|
  some (.inl (v3.set (y2.1.getD v4.toNat 0).toNat (Int.tmod (x_0 - ((y2.2.2.2.getD v4.toNat []).getD v1.toNat 0)) x_0), v4 + 1))
 else
  some (.inr v3)) ((List.replicate x_1.toNat 0).set v1.toNat 1, 0)).bind fun (v5 : List Int) =>
  chk (((v ++ [v5]).length ≤ 1099511627776)) <|
  chk ((-9223372036854775808 ≤ (v1 + 1 : Int) ∧ (v1 + 1 : Int) ≤ 9223372036854775807)) <|
  some (.inl (v ++ [v5], v1 + 1))
 else
  some (.inr v)) (([] : List (List Int)), 0)).bind fun (v2 : List (List Int)) =>
  (field_reduced (x_0, x_1, v2)).bind fun y4 =>
  some (y4.2.1, y4.2.2.1, y4.2.2.2, 0)

end Go.SH

set_option linter.unusedVariables false
set_option linter.unusedSimpArgs false
namespace Go.SH
open Go Go.AX

noncomputable def field_Times (x_0 : Int) (x_1 : Int) (x_2 : List (List Int)) (a1_0 : Int) (a1_1 : Int) (a1_2 : List (List Int)) : Option (Int × Int × List (List Int) × Int) :=
  (kinds_CheckMatrix x_0 x_1 x_2).bind fun y =>
  (kinds_CheckMatrix a1_0 a1_1 a1_2).bind fun y1 =>
  if y ≠ 0 then
  some (0, 0, ([] : List (List Int)), y)
 else
  if y1 ≠ 0 then
  some (0, 0, ([] : List (List Int)), y1)
 else
  if (x_0 ≠ a1_0 ∨ x_1 ≠ (a1_2.length : Int)) then
  some (0, 0, ([] : List (List Int)), 3)
 else
  (loopM (ρ := List (List Int)) (fun ((v, v1) : List (List Int) × Int) =>
  if v1 < (x_2.length : Int) then
  chk ((0 ≤ v1 ∧ v1 < x_2.length)) <|
  chk ((0 ≤ a1_1 ∧ a1_1 ≤ 1099511627776)) <|
  (loopM (ρ := List Int) (fun ((v3, v4) : List Int × Int) =>
  if v4 < ((x_2.getD v1.toNat []).length : Int) then
  chk ((0 ≤ v4 ∧ v4 < (x_2.getD v1.toNat []).length)) <|
  (loopM (ρ := List Int) (fun ((v6, v7) : List Int × Int) =>
  if v7 < (v3.length : Int) then
  chk ((0 ≤ v7 ∧ v7 < v6.length) ∧ (0 ≤ v4 ∧ v4 < a1_2.length) ∧ (0 ≤ v7 ∧ v7 < (a1_2.getD v4.toNat []).length) ∧ (-9223372036854775808 ≤ (((x_2.getD v1.toNat []).getD v4.toNat 0) * ((a1_2.getD v4.toNat []).getD v7.toNat 0) : Int) ∧ (((x_2.getD v1.toNat []).getD v4.toNat 0) * ((a1_2.getD v4.toNat []).getD v7.toNat 0) : Int) ≤ 9223372036854775807) ∧ (-9223372036854775808 ≤ ((v6.getD v7.toNat 0) + (((x_2.getD v1.toNat []).getD v4.toNat 0) * ((a1_2.getD v4.toNat []).getD v7.toNat 0)) : Int) ∧ ((v6.getD v7.toNat 0) + (((x_2.getD v1.toNat []).getD v4.toNat 0) * ((a1_2.getD v4.toNat []).getD v7.toNat 0)) : Int) ≤ 9223372036854775807) ∧ x_0 ≠ 0) <|
  some (.inl (v6.set v7.toNat (Int.tmod ((v6.getD v7.toNat 0) + (((x_2.getD v1.toNat []).getD v4.toNat 0) * ((a1_2.getD v4.toNat []).getD v7.toNat 0))) x_0), v7 + 1))
 else
  some (.inr v6)) (v3, 0)).bind fun (v8 : List Int) =>
  chk ((-9223372036854775808 ≤ (v4 + 1 : Int) ∧ (v4 + 1 : Int) ≤ 9223372036854775807)) <|
  some (.inl (v8, v4 + 1))
 else
  some (.inr v3)) (List.replicate a1_1.toNat 0, 0)).bind fun (v5 : List Int) =>
  chk (((v ++ [v5]).length ≤ 1099511627776)) <|
  some (.inl (v ++ [v5], v1 + 1))
 else
  some (.inr v)) (([] : List (List Int)), 0)).bind fun (v2 : List (List Int)) =>
  some (x_0, a1_1, v2, 0)

noncomputable def field_Turned (x_0 : Int) (x_1 : Int) (x_2 : List (List Int)) : Option (Int × Int × List (List Int) × Int) :=
  (kinds_CheckMatrix x_0 x_1 x_2).bind fun y =>
  if y ≠ 0 then
  some (0, 0, ([] : List (List Int)), y)
 else
  if 6 < x_1 then
  some (0, 0, ([] : List (List Int)), 2)
 else
  (loopM (ρ := List (List Int)) (fun ((out0, v) : List (List Int) × Int) =>
  if v < x_1 then
  (loopM (ρ := List Int) (fun ((l, v1) : List Int × Int) =>
  if v1 < (x_2.length : Int) then
  chk ((0 ≤ v1 ∧ v1 < x_2.length)) <|
  chk ((0 ≤ v ∧ v < (x_2.getD v1.toNat []).length) ∧ ((l ++ [(x_2.getD v1.toNat []).getD v.toNat 0]).length ≤ 8796093022208)) <|
  some (.inl (l ++ [(x_2.getD v1.toNat []).getD v.toNat 0], v1 + 1))
 else
  some (.inr l)) ([], 0)).bind fun (l1 : List Int) =>
  chk (((out0 ++ [l1]).length ≤ 1099511627776)) <|
  chk ((-9223372036854775808 ≤ (v + 1 : Int) ∧ (v + 1 : Int) ≤ 9223372036854775807)) <|
  some (.inl (out0 ++ [l1], v + 1))
 else
  some (.inr out0)) (([] : List (List Int)), 0)).bind fun (out01 : List (List Int)) =>
  some (x_0, (x_2.length : Int), out01, 0)

end Go.SH

set_option linter.unusedVariables false
set_option linter.unusedSimpArgs false
namespace Go.SH
open Go Go.AX

noncomputable def kinds_size (s : Int) : Option (Int) :=
  chk ((0 ≤ (s : Int) ∧ (s : Int) ≤ 18446744073709551615)) <|
  (bits_OnesCount s).bind fun y =>
  some y

noncomputable def kinds_greatest (n : Int) (independent : Int → Option (Bool)) : Option (Int × List Int) :=
  chk ((0 ≤ n ∧ n ≤ 62)) <|
  (loopM (ρ := List Int) (fun ((m, most, v) : List Int × Int × Int) =>
  if v < (2 ^ n.toNat : Int) then
  (kinds_size v).bind fun y =>
  if ¬ (y < most) then
  (independent v).bind fun y1 =>
  if ¬ (y1 = true) then
  some (.inl (m, most, v + 1))
 else
  (kinds_size v).bind fun y2 =>
  if most < y2 then
  (kinds_size v).bind fun y3 =>
  chk (([v].length ≤ 8796093022208)) <|
  some (.inl ([v], y3, v + 1))
 else
  chk (((m ++ [v]).length ≤ 8796093022208)) <|
  some (.inl (m ++ [v], most, v + 1))
 else
  some (.inl (m, most, v + 1))
 else
  some (.inr m)) ([], (-1), 0)).bind fun (m1 : List Int) =>
  some (n, m1)

end Go.SH

set_option linter.unusedVariables false
set_option linter.unusedSimpArgs false
namespace Go.SH
open Go Go.AX

noncomputable def kinds_inverse (a : Int) (p : Int) : Option (Int) :=
  (loopM (ρ := Unit ⊕ Int) (fun (v : Int) =>
  if v < p then
  chk ((-9223372036854775808 ≤ (a * v : Int) ∧ (a * v : Int) ≤ 9223372036854775807) ∧ p ≠ 0) <|
  if Int.tmod (a * v) p = 1 then
  some (.inr (.inr v))
 else
  some (.inl (v + 1))
 else
  some (.inr (.inl ()))) 0).bind fun z => match z with
  | .inl _ => (some 0)
  | .inr rr => some rr

noncomputable def kinds_rankOf (x_0 : Int) (x_1 : Int) (x_2 : List (List Int)) (a1 : Int) : Option (Int) :=
  (loopM (ρ := List (List Int)) (fun ((v, v1) : List (List Int) × Int) =>
  if v1 < (x_2.length : Int) then
  chk ((0 ≤ v1 ∧ v1 < x_2.length)) <|
  (loopM (ρ := List Int) (fun ((v3, v4) : List Int × Int) =>
  if v4 < ((x_2.getD v1.toNat []).length : Int) then
  chk ((0 ≤ v4 ∧ v4 < (x_2.getD v1.toNat []).length)) <|
  chk (0 ≤ v4) <|
  if iand (a1 / 2 ^ v4.toNat) 1 = 1 then
  chk (((v3 ++ [(x_2.getD v1.toNat []).getD v4.toNat 0]).length ≤ 8796093022208)) <|
  chk ((-9223372036854775808 ≤ (v4 + 1 : Int) ∧ (v4 + 1 : Int) ≤ 9223372036854775807)) <|
  some (.inl (v3 ++ [(x_2.getD v1.toNat []).getD v4.toNat 0], v4 + 1))
 else
  chk ((-9223372036854775808 ≤ (v4 + 1 : Int) ∧ (v4 + 1 : Int) ≤ 9223372036854775807)) <|
  some (.inl (v3, v4 + 1))
 else
  some (.inr v3)) ([], 0)).bind fun (v5 : List Int) =>
  chk (((v ++ [v5]).length ≤ 1099511627776)) <|
  some (.inl (v ++ [v5], v1 + 1))
 else
  some (.inr v)) (([] : List (List Int)), 0)).bind fun (v2 : List (List Int)) =>
  (loopM (ρ := Int) (fun ((v6, v7, v8) : List (List Int) × Int × Int) =>
  (kinds_size a1).bind fun y =>
  if (v8 < y ∧ v7 < (v6.length : Int)) then
  (loopM (ρ := Int) (fun (v10 : Int) =>
  chk (((v10 < (v6.length : Int)) → (0 ≤ v10 ∧ v10 < v6.length)) ∧ ((v10 < (v6.length : Int)) → (0 ≤ v8 ∧ v8 < ((v6.getD v10.toNat []).length)))) <|
  if (v10 < (v6.length : Int) ∧ (v6.getD v10.toNat []).getD v8.toNat 0 = 0) then
  chk ((-9223372036854775808 ≤ (v10 + 1 : Int) ∧ (v10 + 1 : Int) ≤ 9223372036854775807)) <|
  some (.inl (v10 + 1))
 else
  some (.inr v10)) v7).bind fun (v11 : Int) =>
  if v11 = (v6.length : Int) then
  chk ((-9223372036854775808 ≤ (v8 + 1 : Int) ∧ (v8 + 1 : Int) ≤ 9223372036854775807)) <|
  some (.inl (v6, v7, v8 + 1))
 else
  chk ((0 ≤ v11 ∧ v11 < v6.length)) <|
  chk ((0 ≤ v7 ∧ v7 < v6.length)) <|
  chk ((0 ≤ v7 ∧ v7 < v6.length)) <|
  chk ((0 ≤ v11 ∧ v11 < v6.length)) <|
  chk ((0 ≤ v7 ∧ v7 < v6.length) ∧ (0 ≤ v8 ∧ v8 < ((((v6.set v7.toNat (v6.getD v11.toNat [])).set v11.toNat (v6.getD v7.toNat [])).getD v7.toNat []).length))) <|
  (kinds_inverse ((((v6.set v7.toNat (v6.getD v11.toNat [])).set v11.toNat (v6.getD v7.toNat [])).getD v7.toNat []).getD v8.toNat 0) x_0).bind fun y1 =>
  chk ((-9223372036854775808 ≤ (v7 + 1 : Int) ∧ (v7 + 1 : Int) ≤ 9223372036854775807)) <|
  (loopM (ρ := List (List Int)) (fun ((v12, v13) : List (List Int) × Int) =>
  if v13 < (v12.length : Int) then
  chk ((0 ≤ v13 ∧ v13 < v12.length) ∧ (0 ≤ v8 ∧ v8 < ((v12.getD v13.toNat []).length)) ∧ (-9223372036854775808 ≤ (((v12.getD v13.toNat []).getD v8.toNat 0) * y1 : Int) ∧ (((v12.getD v13.toNat []).getD v8.toNat 0) * y1 : Int) ≤ 9223372036854775807) ∧ x_0 ≠ 0) <|
  (loopM (ρ := List (List Int)) (fun ((v15, v16) : List (List Int) × Int) =>
  chk ((0 ≤ v13 ∧ v13 < v15.length)) <|
  if v16 < ((v15.getD v13.toNat []).length : Int) then
  chk ((0 ≤ v13 ∧ v13 < v15.length) ∧ (0 ≤ v16 ∧ v16 < ((v15.getD v13.toNat []).length)) ∧ (-9223372036854775808 ≤ (x_0 - (Int.tmod (((v12.getD v13.toNat []).getD v8.toNat 0) * y1) x_0) : Int) ∧ (x_0 - (Int.tmod (((v12.getD v13.toNat []).getD v8.toNat 0) * y1) x_0) : Int) ≤ 9223372036854775807) ∧ (0 ≤ v7 ∧ v7 < v15.length) ∧ (0 ≤ v16 ∧ v16 < ((v15.getD v7.toNat []).length)) ∧ (-9223372036854775808 ≤ ((x_0 - (Int.tmod (((v12.getD v13.toNat []).getD v8.toNat 0) * y1) x_0)) * ((v15.getD v7.toNat []).getD v16.toNat 0) : Int) ∧ ((x_0 - (Int.tmod (((v12.getD v13.toNat []).getD v8.toNat 0) * y1) x_0)) * ((v15.getD v7.toNat []).getD v16.toNat 0) : Int) ≤ 9223372036854775807) ∧ (-9223372036854775808 ≤ (((v15.getD v13.toNat []).getD v16.toNat 0) + ((x_0 - (Int.tmod (((v12.getD v13.toNat []).getD v8.toNat 0) * y1) x_0)) * ((v15.getD v7.toNat []).getD v16.toNat 0)) : Int) ∧ (((v15.getD v13.toNat []).getD v16.toNat 0) + ((x_0 - (Int.tmod (((v12.getD v13.toNat []).getD v8.toNat 0) * y1) x_0)) * ((v15.getD v7.toNat []).getD v16.toNat 0)) : Int) ≤ 9223372036854775807) ∧ x_0 ≠ 0) <|
  chk ((-9223372036854775808 ≤ (v16 + 1 : Int) ∧ (v16 + 1 : Int) ≤ 9223372036854775807)) <|
  some (.inl (v15.set v13.toNat ((v15.getD v13.toNat []).set v16.toNat (Int.tmod (((v15.getD v13.toNat []).getD v16.toNat 0) + ((x_0 - (Int.tmod (((v12.getD v13.toNat []).getD v8.toNat 0) * y1) x_0)) * ((v15.getD v7.toNat []).getD v16.toNat 0))) x_0)), v16 + 1))
 else
  some (.inr v15)) (v12, v8)).bind fun (v17 : List (List Int)) =>
  chk ((-9223372036854775808 ≤ (v13 + 1 : Int) ∧ (v13 + 1 : Int) ≤ 9223372036854775807)) <|
  some (.inl (v17, v13 + 1))
 else
  some (.inr v12)) ((v6.set v7.toNat (v6.getD v11.toNat [])).set v11.toNat (v6.getD v7.toNat []), v7 + 1)).bind fun (v14 : List (List Int)) =>
  chk ((-9223372036854775808 ≤ (v7 + 1 : Int) ∧ (v7 + 1 : Int) ≤ 9223372036854775807)) <|
  chk ((-9223372036854775808 ≤ (v8 + 1 : Int) ∧ (v8 + 1 : Int) ≤ 9223372036854775807)) <|
  some (.inl (v14, v7 + 1, v8 + 1))
 else
  some (.inr v7)) (v2, 0, 0)).bind fun (v9 : Int) =>
  some v9

noncomputable def kinds_Linear_1 (s : Int) (c0_0 : Int) (c0_1 : Int) (c0_2 : List (List Int)) : Option (Bool) :=
  (kinds_rankOf c0_0 c0_1 c0_2 s).bind fun y =>
  (kinds_size s).bind fun y1 =>
  some (decide (y = y1))

noncomputable def kinds_Linear (x_0 : Int) (x_1 : Int) (x_2 : List (List Int)) : Option (Int × List Int × Int) :=
  (kinds_CheckMatrix x_0 x_1 x_2).bind fun y =>
  if y ≠ 0 then
  some (0, [], y)
 else
  (kinds_greatest x_1 (fun x0 => kinds_Linear_1 x0 x_0 x_1 x_2)).bind fun y1 =>
  some (y1.1, y1.2, 0)

end Go.SH

set_option linter.unusedVariables false
set_option linter.unusedSimpArgs false
namespace Go.SH
open Go Go.AX

noncomputable def minors_made (n : Int) (l : List Int) : Option (Int × List Int) :=
  chk ((l.length < 4611686018427387904)) <|
  chk (((uniqL (sortL l)).length ≤ 8796093022208)) <|
  some (n, uniqL (sortL l))

noncomputable def minors_Dual (m_0 : Int) (m_1 : List Int) : Option (Int × List Int × Int) :=
  (axioms_Check m_0 m_1).bind fun y =>
  if y ≠ 0 then
  some (0, [], y)
 else
  (loopM (ρ := List Int) (fun ((l, v) : List Int × Int) =>
  if v < (m_1.length : Int) then
  chk ((0 ≤ v ∧ v < m_1.length)) <|
  chk ((0 ≤ m_0 ∧ m_0 ≤ 62) ∧ (-9223372036854775808 ≤ ((2 ^ m_0.toNat : Int) - 1 : Int) ∧ ((2 ^ m_0.toNat : Int) - 1 : Int) ≤ 9223372036854775807) ∧ ((l ++ [iandnot ((2 ^ m_0.toNat : Int) - 1) (m_1.getD v.toNat 0)]).length ≤ 8796093022208)) <|
  some (.inl (l ++ [iandnot ((2 ^ m_0.toNat : Int) - 1) (m_1.getD v.toNat 0)], v + 1))
 else
  some (.inr l)) ([], 0)).bind fun (l1 : List Int) =>
  (minors_made m_0 l1).bind fun y1 =>
  some (y1.1, y1.2, 0)

end Go.SH

set_option linter.unusedVariables false
set_option linter.unusedSimpArgs false
namespace Go.SH
open Go Go.AX

noncomputable def rotalaw_Same_int (a : List Int) (b : List Int) : Option (Bool) :=
  if (a.length : Int) ≠ (b.length : Int) then
  some false
 else
  (loopM (ρ := Unit ⊕ Bool) (fun (v : Int) =>
  if v < (a.length : Int) then
  chk ((0 ≤ v ∧ v < a.length) ∧ (0 ≤ v ∧ v < b.length)) <|
  if a.getD v.toNat 0 ≠ b.getD v.toNat 0 then
  some (.inr (.inr false))
 else
  some (.inl (v + 1))
 else
  some (.inr (.inl ()))) 0).bind fun z => match z with
  | .inl _ => (some true)
  | .inr rr => some rr

noncomputable def rotalaw_SameMatroid (a_0 : Int) (a_1 : List Int) (b_0 : Int) (b_1 : List Int) : Option (Bool) :=
  (if a_0 = b_0 then rotalaw_Same_int a_1 b_1 else some false).bind fun y =>
  some (decide ((a_0 = b_0 ∧ y = true)))

noncomputable def rotalaw_Rows_int (a : List (List Int)) (b : List (List Int)) : Option (Bool) :=
  if (a.length : Int) ≠ (b.length : Int) then
  some false
 else
  (loopM (ρ := Unit ⊕ Bool) (fun (v : Int) =>
  if v < (a.length : Int) then
  chk ((0 ≤ v ∧ v < a.length) ∧ (0 ≤ v ∧ v < b.length)) <|
  (rotalaw_Same_int (a.getD v.toNat []) (b.getD v.toNat [])).bind fun y =>
  if ¬ (y = true) then
  some (.inr (.inr false))
 else
  some (.inl (v + 1))
 else
  some (.inr (.inl ()))) 0).bind fun z => match z with
  | .inl _ => (some true)
  | .inr rr => some rr

end Go.SH
