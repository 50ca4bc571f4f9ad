/-
  Functions of the program as plain functions: bits_OnesCount. By a program of mine (shal.py). Functions of the program as plain functions: sets_Family. By a program of mine (shal.py). Functions of the program as plain functions: cmp_isNaN_int, cmp_Less_int. By a program of mine (shal.py). Functions of the program as plain functions: slices_isNaN_int, slices_BinarySearch_int_int, slices_IndexFunc_int64_int64, slices_ContainsFunc_int64_int64. By a program of mine (shal.py). Functions of the program as plain functions: axioms_flat, axioms_Flats_1, axioms_size, axioms_exchange, axioms_Check, axioms_ranks, axioms_family, axioms_Flats, axioms_Ranks. By a program of mine (shal.py). Functions of the program as plain functions: field_twin, field_inverse. By a program of mine (shal.py). Functions of the program as plain functions: kinds_CheckMatrix. By a program of mine (shal.py). Functions of the program as plain functions: field_reduced, field_Reduced. By a program of mine (shal.py). Functions of the program as plain functions: codes_Critical_1, codes_each_1, codes_each, codes_Critical. By a program of mine (shal.py). Functions of the program as plain functions: flats_of, flats_lattice_rank, flats_lattice_mobius, flats_Characteristic. By a program of mine (shal.py). Functions of the program as plain functions: kinds_size, kinds_greatest. By a program of mine (shal.py). Functions of the program as plain functions: kinds_inverse, kinds_rankOf, kinds_Linear_1, kinds_Linear. By a program of mine (shal.py). Functions of the program as plain functions: rotabig_trim, rotabig_words, rotabig_Int_give, rotabig_Int_SetInt64, rotabig_NewInt, rotabig_mul, rotabig_Int_Mul, rotabig_add, rotabig_cmp, rotabig_sub, rotabig_sum, rotabig_Int_Add, rotabig_Int_Sign. By a program of mine (shal.py).  Conditions: none.
-/
import Derived.Test.YtlpikingpnenkaaAxN

set_option linter.unusedVariables false
set_option linter.unusedSimpArgs false
namespace Go.SH
open Go Go.AX

def oc1 (x : Int) : Int := iand (x / 2 ^ 1) 6148914691236517205 + iand x 6148914691236517205
def oc2 (x : Int) : Int := iand (x / 2 ^ 2) 3689348814741910323 + iand x 3689348814741910323
def oc3 (x : Int) : Int := iand (x / 2 ^ 4 + x) 1085102592571150095
def oc4 (x : Int) : Int := x + x / 2 ^ 8
def oc5 (x : Int) : Int := x + x / 2 ^ 16
def oc6 (x : Int) : Int := x + x / 2 ^ 32
/-- How many bits stand. -/
def oc (x : Int) : Int := iand (oc6 (oc5 (oc4 (oc3 (oc2 (oc1 x)))))) 127
theorem oc1_bd {x : Int} (h : 0 ≤ x) : 0 ≤ oc1 x ∧ oc1 x ≤ 12297829382473034410 := by
  unfold oc1
  have h1 := iand_bd (a := x / 2 ^ 1) (b := 6148914691236517205) (by omega) (by omega)
  have h2 := iand_bd (a := x) (b := 6148914691236517205) (by omega) (by omega)
  omega
theorem oc2_bd {x : Int} (h : 0 ≤ x) : 0 ≤ oc2 x ∧ oc2 x ≤ 7378697629483820646 := by
  unfold oc2
  have h1 := iand_bd (a := x / 2 ^ 2) (b := 3689348814741910323) (by omega) (by omega)
  have h2 := iand_bd (a := x) (b := 3689348814741910323) (by omega) (by omega)
  omega
theorem oc3_bd {x : Int} (h : 0 ≤ x) : 0 ≤ oc3 x ∧ oc3 x ≤ 1085102592571150095 := by
  unfold oc3
  have h1 := iand_bd (a := x / 2 ^ 4 + x) (b := 1085102592571150095) (by omega) (by omega)
  omega
theorem oc4_bd {x : Int} (h : 0 ≤ x) (h' : x ≤ 1085102592571150095) : 0 ≤ oc4 x ∧ oc4 x ≤ 2170205185142300190 := by unfold oc4; omega
theorem oc5_bd {x : Int} (h : 0 ≤ x) (h' : x ≤ 2170205185142300190) : 0 ≤ oc5 x ∧ oc5 x ≤ 4340410370284600380 := by unfold oc5; omega
theorem oc6_bd {x : Int} (h : 0 ≤ x) (h' : x ≤ 4340410370284600380) : 0 ≤ oc6 x ∧ oc6 x ≤ 8680820740569200760 := by unfold oc6; omega
theorem oc_bd {x : Int} (h : 0 ≤ x) : 0 ≤ oc x ∧ oc x ≤ 127 := by
  have h1 := oc1_bd h
  have h2 := oc2_bd h1.1
  have h3 := oc3_bd h2.1
  have h4 := oc4_bd h3.1 h3.2
  have h5 := oc5_bd h4.1 h4.2
  have h6 := oc6_bd h5.1 h5.2
  have := iand_bd (a := oc6 (oc5 (oc4 (oc3 (oc2 (oc1 x)))))) (b := 127) h6.1 (by omega)
  exact ⟨this.1, this.2.2⟩
/-- bits.OnesCount. -/
def bits_OnesCount (x : Int) : Option Int := some (oc x)

end Go.SH

set_option linter.unusedVariables false
set_option linter.unusedSimpArgs false
namespace Go.SH
open Go Go.AX

noncomputable def sets_Family (n : Int) (l : List Int) : Option (Int) :=
  if (n < 0 ∨ 8 < n) then
  some 1
 else
  (loopM (ρ := Unit ⊕ Int) (fun (v : Int) =>
  if v < (l.length : Int) then
  chk ((0 ≤ v ∧ v < l.length)) <|
  chk (((¬ (l.getD v.toNat 0 < 0)) → (0 ≤ n ∧ n ≤ 62)) ∧ (((¬ ((l.getD v.toNat 0 < 0 ∨ (2 ^ n.toNat : Int) ≤ l.getD v.toNat 0))) ∧ 0 < v) → (-9223372036854775808 ≤ (v - 1 : Int) ∧ (v - 1 : Int) ≤ 9223372036854775807)) ∧ (((¬ ((l.getD v.toNat 0 < 0 ∨ (2 ^ n.toNat : Int) ≤ l.getD v.toNat 0))) ∧ 0 < v) → (0 ≤ v - 1 ∧ v - 1 < l.length))) <|
  if ((l.getD v.toNat 0 < 0 ∨ (2 ^ n.toNat : Int) ≤ l.getD v.toNat 0) ∨ (0 < v ∧ l.getD v.toNat 0 ≤ l.getD (v - 1).toNat 0)) then
  some (.inr (.inr 1))
 else
  some (.inl (v + 1))
 else
  some (.inr (.inl ()))) 0).bind fun z => match z with
  | .inl _ => (some 0)
  | .inr rr => some rr

end Go.SH

set_option linter.unusedVariables false
set_option linter.unusedSimpArgs false
namespace Go.SH
open Go Go.AX

noncomputable def cmp_isNaN_int (x : Int) : Option (Bool) :=
  some (decide (x ≠ x))

noncomputable def cmp_Less_int (x : Int) (y : Int) : Option (Bool) :=
  (cmp_isNaN_int x).bind fun y1 =>
  (if y1 = true then cmp_isNaN_int y else some false).bind fun y2 =>
  some (decide (((y1 = true ∧ ¬ (y2 = true)) ∨ x < y)))

end Go.SH

set_option linter.unusedVariables false
set_option linter.unusedSimpArgs false
namespace Go.SH
open Go Go.AX

noncomputable def slices_isNaN_int (x : Int) : Option (Bool) :=
  some (decide (x ≠ x))

noncomputable def slices_BinarySearch_int_int (x : List Int) (target : Int) : Option (Int × Bool) :=
  (loopM (ρ := Int) (fun ((i, j) : Int × Int) =>
  if i < j then
  chk ((-9223372036854775808 ≤ (i + j : Int) ∧ (i + j : Int) ≤ 9223372036854775807) ∧ (0 ≤ (i + j : Int) ∧ (i + j : Int) ≤ 18446744073709551615) ∧ (-9223372036854775808 ≤ ((i + j) / 2 ^ 1 : Int) ∧ ((i + j) / 2 ^ 1 : Int) ≤ 9223372036854775807)) <|
  chk ((0 ≤ (i + j) / 2 ^ 1 ∧ (i + j) / 2 ^ 1 < x.length)) <|
  (cmp_Less_int (x.getD ((i + j) / 2 ^ 1).toNat 0) target).bind fun y =>
  if y = true then
  chk ((-9223372036854775808 ≤ (((i + j) / 2 ^ 1) + 1 : Int) ∧ (((i + j) / 2 ^ 1) + 1 : Int) ≤ 9223372036854775807)) <|
  some (.inl (((i + j) / 2 ^ 1) + 1, j))
 else
  some (.inl (i, (i + j) / 2 ^ 1))
 else
  some (.inr i)) (0, (x.length : Int))).bind fun (i1 : Int) =>
  chk (((i1 < (x.length : Int)) → (0 ≤ i1 ∧ i1 < x.length)) ∧ (((i1 < (x.length : Int)) ∧ ¬ (x.getD i1.toNat 0 = target)) → (0 ≤ i1 ∧ i1 < x.length))) <|
  (if ((i1 < (x.length : Int)) ∧ ¬ (x.getD i1.toNat 0 = target)) then slices_isNaN_int (x.getD i1.toNat 0) else some false).bind fun y1 =>
  (if (((i1 < (x.length : Int)) ∧ ¬ (x.getD i1.toNat 0 = target)) ∧ y1 = true) then slices_isNaN_int target else some false).bind fun y2 =>
  some (i1, decide ((i1 < (x.length : Int) ∧ (x.getD i1.toNat 0 = target ∨ (y1 = true ∧ y2 = true)))))

noncomputable def slices_IndexFunc_int64_int64 (s : List Int) (f : Int → Option (Bool)) : Option (Int) :=
  (loopM (ρ := Unit ⊕ Int) (fun (v : Int) =>
  if v < (s.length : Int) then
  chk ((0 ≤ v ∧ v < s.length)) <|
  (f (s.getD v.toNat 0)).bind fun y =>
  if y = true then
  some (.inr (.inr v))
 else
  some (.inl (v + 1))
 else
  some (.inr (.inl ()))) 0).bind fun z => match z with
  | .inl _ => (some (-1))
  | .inr rr => some rr

noncomputable def slices_ContainsFunc_int64_int64 (s : List Int) (f : Int → Option (Bool)) : Option (Bool) :=
  (slices_IndexFunc_int64_int64 s f).bind fun y =>
  some (decide (0 ≤ y))

end Go.SH

set_option linter.unusedVariables false
set_option linter.unusedSimpArgs false
namespace Go.SH
open Go Go.AX

noncomputable def axioms_flat (r1 : List Int) (n : Int) (s : Int) : Option (Bool) :=
  (loopM (ρ := Unit ⊕ Bool) (fun (v : Int) =>
  if v < n then
  chk (0 ≤ v ∧ ((iand (s / 2 ^ v.toNat) 1 = 0) → (0 ≤ v ∧ v ≤ 62)) ∧ ((iand (s / 2 ^ v.toNat) 1 = 0) → (0 ≤ ior s (2 ^ v.toNat : Int) ∧ ior s (2 ^ v.toNat : Int) < r1.length)) ∧ ((iand (s / 2 ^ v.toNat) 1 = 0) → (0 ≤ s ∧ s < r1.length))) <|
  if (iand (s / 2 ^ v.toNat) 1 = 0 ∧ r1.getD (ior s (2 ^ v.toNat : Int)).toNat 0 = r1.getD s.toNat 0) then
  some (.inr (.inr false))
 else
  some (.inl (v + 1))
 else
  some (.inr (.inl ()))) 0).bind fun z => match z with
  | .inl _ => (some true)
  | .inr rr => some rr

noncomputable def axioms_Flats_1 (r1 : List Int) (s : Int) (c0_0 : Int) (c0_1 : List Int) : Option (Bool) :=
  (axioms_flat r1 c0_0 s).bind fun y =>
  some y

noncomputable def axioms_size (s : Int) : Option (Int) :=
  chk ((0 ≤ (s : Int) ∧ (s : Int) ≤ 18446744073709551615)) <|
  (bits_OnesCount s).bind fun y =>
  some y

noncomputable def axioms_exchange (m_0 : Int) (m_1 : List Int) (a : Int) (b : Int) : Option (Bool) :=
  (loopM (ρ := Unit ⊕ Bool) (fun (out0 : Int) =>
  if out0 ≠ 0 then
  chk ((-9223372036854775808 ≤ (-out0 : Int) ∧ (-out0 : Int) ≤ 9223372036854775807)) <|
  (loopM (ρ := Bool) (fun ((ok, in0) : Bool × Int) =>
  if (in0 ≠ 0 ∧ ¬ (ok = true)) then
  chk ((-9223372036854775808 ≤ (-in0 : Int) ∧ (-in0 : Int) ≤ 9223372036854775807)) <|
  (slices_BinarySearch_int_int m_1 (ior (iandnot a (iand out0 (-out0))) (iand in0 (-in0)))).bind fun y =>
  chk ((-9223372036854775808 ≤ (in0 - 1 : Int) ∧ (in0 - 1 : Int) ≤ 9223372036854775807)) <|
  some (.inl (y.2, iand in0 (in0 - 1)))
 else
  some (.inr ok)) (false, iandnot b a)).bind fun (ok1 : Bool) =>
  if ¬ (ok1 = true) then
  some (.inr (.inr false))
 else
  chk ((-9223372036854775808 ≤ (out0 - 1 : Int) ∧ (out0 - 1 : Int) ≤ 9223372036854775807)) <|
  some (.inl (iand out0 (out0 - 1)))
 else
  some (.inr (.inl ()))) (iandnot a b)).bind fun z => match z with
  | .inl _ => (some true)
  | .inr rr => some rr

noncomputable def axioms_Check (m_0 : Int) (m_1 : List Int) : Option (Int) :=
  (sets_Family m_0 m_1).bind fun y =>
  if (y ≠ 0 ∨ (m_1.length : Int) = 0) then
  some 1
 else
  (loopM (ρ := Unit ⊕ Int) (fun (v : Int) =>
  if v < (m_1.length : Int) then
  chk ((0 ≤ v ∧ v < m_1.length)) <|
  (axioms_size (m_1.getD v.toNat 0)).bind fun y1 =>
  chk (0 < m_1.length) <|
  (axioms_size (m_1.getD 0 0)).bind fun y2 =>
  if y1 ≠ y2 then
  some (.inr (.inr 1))
 else
  some (.inl (v + 1))
 else
  some (.inr (.inl ()))) 0).bind fun z => match z with
  | .inl _ => ((loopM (ρ := Unit ⊕ Int) (fun (v1 : Int) =>
  if v1 < (m_1.length : Int) then
  chk ((0 ≤ v1 ∧ v1 < m_1.length)) <|
  (loopM (ρ := Unit ⊕ Int) (fun (v2 : Int) =>
  if v2 < (m_1.length : Int) then
  chk ((0 ≤ v2 ∧ v2 < m_1.length)) <|
  (axioms_exchange m_0 m_1 (m_1.getD v1.toNat 0) (m_1.getD v2.toNat 0)).bind fun y3 =>
  if ¬ (y3 = true) then
  some (.inr (.inr 3))
 else
  some (.inl (v2 + 1))
 else
  some (.inr (.inl ()))) 0).bind fun z => match z with
  | .inl _ => (some (.inl (v1 + 1)))
  | .inr rr => some (.inr (.inr rr))
 else
  some (.inr (.inl ()))) 0).bind fun z => match z with
  | .inl _ => (some 0)
  | .inr rr => some rr)
  | .inr rr => some rr

noncomputable def axioms_ranks (m_0 : Int) (m_1 : List Int) : Option (List Int) :=
  chk ((0 ≤ m_0 ∧ m_0 ≤ 62) ∧ (0 ≤ (2 ^ m_0.toNat : Int) ∧ (2 ^ m_0.toNat : Int) ≤ 1099511627776)) <|
  (loopM (ρ := List Int) (fun ((out0, v) : List Int × Int) =>
  if v < ((List.replicate (2 ^ m_0.toNat : Int).toNat 0).length : Int) then
  (loopM (ρ := List Int) (fun ((out02, v1) : List Int × Int) =>
  if v1 < (m_1.length : Int) then
  chk ((0 ≤ v1 ∧ v1 < m_1.length)) <|
  chk ((0 ≤ v ∧ v < out02.length)) <|
  (axioms_size (iand v (m_1.getD v1.toNat 0))).bind fun y =>
  chk ((0 ≤ v ∧ v < out02.length)) <|
  some (.inl (out02.set v.toNat (max (out02.getD v.toNat 0) y), v1 + 1))
 else
  some (.inr out02)) (out0, 0)).bind fun (out03 : List Int) =>
  some (.inl (out03, v + 1))
 else
  some (.inr out0)) (List.replicate (2 ^ m_0.toNat : Int).toNat 0, 0)).bind fun (out01 : List Int) =>
  some out01

noncomputable def axioms_family (m_0 : Int) (m_1 : List Int) (kind : (List Int) → Int → Option (Bool)) : Option (List Int × Int) :=
  (axioms_Check m_0 m_1).bind fun y =>
  if y ≠ 0 then
  some ([], y)
 else
  (axioms_ranks m_0 m_1).bind fun y1 =>
  (loopM (ρ := List Int) (fun ((out0, v) : List Int × Int) =>
  if v < (y1.length : Int) then
  (kind y1 v).bind fun y2 =>
  if y2 = true then
  chk (((out0 ++ [v]).length ≤ 8796093022208)) <|
  some (.inl (out0 ++ [v], v + 1))
 else
  some (.inl (out0, v + 1))
 else
  some (.inr out0)) ([], 0)).bind fun (out01 : List Int) =>
  some (out01, 0)

noncomputable def axioms_Flats (m_0 : Int) (m_1 : List Int) : Option (List Int × Int) :=
  (axioms_family m_0 m_1 (fun x0 x1 => axioms_Flats_1 x0 x1 m_0 m_1)).bind fun y =>
  some (y.1, y.2)

noncomputable def axioms_Ranks (m_0 : Int) (m_1 : List Int) : Option (List Int × Int) :=
  (axioms_Check m_0 m_1).bind fun y =>
  if y ≠ 0 then
  some ([], y)
 else
  (axioms_ranks m_0 m_1).bind fun y1 =>
  some (y1, 0)

end Go.SH

set_option linter.unusedVariables false
set_option linter.unusedSimpArgs false
namespace Go.SH
open Go Go.AX

noncomputable def field_twin (x_0 : Int) (x_1 : Int) (x_2 : List (List Int)) : Option (Int × Int × List (List Int)) :=
  (loopM (ρ := List (List Int)) (fun ((out0, v) : List (List Int) × Int) =>
  if v < (x_2.length : Int) then
  chk ((0 ≤ v ∧ v < x_2.length)) <|
  chk (((x_2.getD v.toNat []).length ≤ 17592186044416)) <|
  chk (((out0 ++ [(x_2.getD v.toNat [])]).length ≤ 1099511627776)) <|
  some (.inl (out0 ++ [(x_2.getD v.toNat [])], v + 1))
 else
  some (.inr out0)) (([] : List (List Int)), 0)).bind fun (out01 : List (List Int)) =>
  some (x_0, x_1, out01)

noncomputable def field_inverse (a : Int) (p : Int) : Option (Int) :=
  (loopM (ρ := Unit ⊕ Int) (fun (b : Int) =>
  if b < p then
  chk ((-9223372036854775808 ≤ (a * b : Int) ∧ (a * b : Int) ≤ 9223372036854775807) ∧ p ≠ 0) <|
  if Int.tmod (a * b) p = 1 then
  some (.inr (.inr b))
 else
  some (.inl (b + 1))
 else
  some (.inr (.inl ()))) 1).bind fun z => match z with
  | .inl _ => (some 0)
  | .inr rr => some rr

end Go.SH

set_option linter.unusedVariables false
set_option linter.unusedSimpArgs false
namespace Go.SH
open Go Go.AX

noncomputable def kinds_CheckMatrix (x_0 : Int) (x_1 : Int) (x_2 : List (List Int)) : Option (Int) :=
  if ((((((x_0 ≠ 2 ∧ x_0 ≠ 3) ∧ x_0 ≠ 5) ∧ x_0 ≠ 7) ∨ x_1 < 0) ∨ 8 < x_1) ∨ 6 < (x_2.length : Int)) then
  some 1
 else
  (loopM (ρ := Unit ⊕ Int) (fun (v : Int) =>
  if v < (x_2.length : Int) then
  chk ((0 ≤ v ∧ v < x_2.length)) <|
  if ((x_2.getD v.toNat []).length : Int) ≠ x_1 then
  some (.inr (.inr 1))
 else
  (loopM (ρ := Unit ⊕ Int) (fun (v1 : Int) =>
  if v1 < ((x_2.getD v.toNat []).length : Int) then
  chk ((0 ≤ v1 ∧ v1 < (x_2.getD v.toNat []).length)) <|
  if ((x_2.getD v.toNat []).getD v1.toNat 0 < 0 ∨ x_0 ≤ (x_2.getD v.toNat []).getD v1.toNat 0) then
  some (.inr (.inr 1))
 else
  some (.inl (v1 + 1))
 else
  some (.inr (.inl ()))) 0).bind fun z => match z with
  | .inl _ => (some (.inl (v + 1)))
  | .inr rr => some (.inr (.inr rr))
 else
  some (.inr (.inl ()))) 0).bind fun z => match z with
  | .inl _ => (some 0)
  | .inr rr => some rr

end Go.SH

set_option linter.unusedVariables false
set_option linter.unusedSimpArgs false
namespace Go.SH
open Go Go.AX

noncomputable def field_reduced (q0 : Int × Int × List (List Int)) : Option (List Int × (Int × Int × List (List Int))) :=
  (loopM (ρ := List (List Int) × List Int) (fun ((q01, v, v1) : List (List Int) × List Int × Int) =>
  if (v1 < q0.2.1 ∧ (v.length : Int) < (q01.length : Int)) then
  (loopM (ρ := Int) (fun (v3 : Int) =>
  chk (((v3 < (q01.length : Int)) → (0 ≤ v3 ∧ v3 < q01.length)) ∧ ((v3 < (q01.length : Int)) → (0 ≤ v1 ∧ v1 < ((q01.getD v3.toNat []).length)))) <|
  if (v3 < (q01.length : Int) ∧ (q01.getD v3.toNat []).getD v1.toNat 0 = 0) then
  chk ((-9223372036854775808 ≤ (v3 + 1 : Int) ∧ (v3 + 1 : Int) ≤ 9223372036854775807)) <|
  some (.inl (v3 + 1))
 else
  some (.inr v3)) (v.length : Int)).bind fun (v4 : Int) =>
  if v4 = (q01.length : Int) then
  chk ((-9223372036854775808 ≤ (v1 + 1 : Int) ∧ (v1 + 1 : Int) ≤ 9223372036854775807)) <|
  some (.inl (q01, v, v1 + 1))
 else
  chk ((0 ≤ v4 ∧ v4 < q01.length)) <|
  chk ((0 ≤ (v.length : Int) ∧ (v.length : Int) < q01.length)) <|
  chk ((0 ≤ (v.length : Int) ∧ (v.length : Int) < q01.length)) <|
  chk ((0 ≤ v4 ∧ v4 < q01.length)) <|
  chk ((0 ≤ (v.length : Int) ∧ (v.length : Int) < q01.length) ∧ (0 ≤ v1 ∧ v1 < ((((q01.set ((v.length : Int).toNat) (q01.getD v4.toNat [])).set v4.toNat (q01.getD ((v.length : Int).toNat) [])).getD ((v.length : Int).toNat) []).length))) <|
  (field_inverse ((((q01.set ((v.length : Int).toNat) (q01.getD v4.toNat [])).set v4.toNat (q01.getD ((v.length : Int).toNat) [])).getD ((v.length : Int).toNat) []).getD v1.toNat 0) q0.1).bind fun y =>
  chk ((0 ≤ (v.length : Int) ∧ (v.length : Int) < q01.length)) <|
  (loopM (ρ := List (List Int)) (fun ((q03, v5) : List (List Int) × Int) =>
  if v5 < ((((q01.set ((v.length : Int).toNat) (q01.getD v4.toNat [])).set v4.toNat (q01.getD ((v.length : Int).toNat) [])).getD ((v.length : Int).toNat) []).length : Int) then
  chk ((0 ≤ (v.length : Int) ∧ (v.length : Int) < q03.length) ∧ (0 ≤ v5 ∧ v5 < ((q03.getD ((v.length : Int).toNat) []).length)) ∧ (-9223372036854775808 ≤ (((q03.getD ((v.length : Int).toNat) []).getD v5.toNat 0) * y : Int) ∧ (((q03.getD ((v.length : Int).toNat) []).getD v5.toNat 0) * y : Int) ≤ 9223372036854775807) ∧ q0.1 ≠ 0) <|
  some (.inl (q03.set ((v.length : Int).toNat) ((q03.getD ((v.length : Int).toNat) []).set v5.toNat (Int.tmod (((q03.getD ((v.length : Int).toNat) []).getD v5.toNat 0) * y) q0.1)), v5 + 1))
 else
  some (.inr q03)) ((q01.set ((v.length : Int).toNat) (q01.getD v4.toNat [])).set v4.toNat (q01.getD ((v.length : Int).toNat) []), 0)).bind fun (q04 : List (List Int)) =>
  (loopM (ρ := List (List Int)) (fun ((q05, v6) : List (List Int) × Int) =>
  if v6 < (q04.length : Int) then
  chk ((0 ≤ v6 ∧ v6 < q05.length) ∧ (0 ≤ v1 ∧ v1 < ((q05.getD v6.toNat []).length))) <|
  if (v6 = (v.length : Int) ∨ (q05.getD v6.toNat []).getD v1.toNat 0 = 0) then
  some (.inl (q05, v6 + 1))
 else
  chk ((0 ≤ v6 ∧ v6 < q05.length)) <|
  (loopM (ρ := List (List Int)) (fun ((q07, v7) : List (List Int) × Int) =>
  if v7 < ((q05.getD v6.toNat []).length : Int) then
  chk ((0 ≤ v6 ∧ v6 < q07.length) ∧ (0 ≤ v7 ∧ v7 < ((q07.getD v6.toNat []).length)) ∧ (-9223372036854775808 ≤ (q0.1 - ((q05.getD v6.toNat []).getD v1.toNat 0) : Int) ∧ (q0.1 - ((q05.getD v6.toNat []).getD v1.toNat 0) : Int) ≤ 9223372036854775807) ∧ (0 ≤ (v.length : Int) ∧ (v.length : Int) < q07.length) ∧ (0 ≤ v7 ∧ v7 < ((q07.getD ((v.length : Int).toNat) []).length)) ∧ (-9223372036854775808 ≤ ((q0.1 - ((q05.getD v6.toNat []).getD v1.toNat 0)) * ((q07.getD ((v.length : Int).toNat) []).getD v7.toNat 0) : Int) ∧ ((q0.1 - ((q05.getD v6.toNat []).getD v1.toNat 0)) * ((q07.getD ((v.length : Int).toNat) []).getD v7.toNat 0) : Int) ≤ 9223372036854775807) ∧ (-9223372036854775808 ≤ (((q07.getD v6.toNat []).getD v7.toNat 0) + ((q0.1 - ((q05.getD v6.toNat []).getD v1.toNat 0)) * ((q07.getD ((v.length : Int).toNat) []).getD v7.toNat 0)) : Int) ∧ (((q07.getD v6.toNat []).getD v7.toNat 0) + ((q0.1 - ((q05.getD v6.toNat []).getD v1.toNat 0)) * ((q07.getD ((v.length : Int).toNat) []).getD v7.toNat 0)) : Int) ≤ 9223372036854775807) ∧ q0.1 ≠ 0) <|
  chk ((-9223372036854775808 ≤ (v7 + 1 : Int) ∧ (v7 + 1 : Int) ≤ 9223372036854775807)) <|
  some (.inl (q07.set v6.toNat ((q07.getD v6.toNat []).set v7.toNat (Int.tmod (((q07.getD v6.toNat []).getD v7.toNat 0) + ((q0.1 - ((q05.getD v6.toNat []).getD v1.toNat 0)) * ((q07.getD ((v.length : Int).toNat) []).getD v7.toNat 0))) q0.1)), v7 + 1))
 else
  some (.inr q07)) (q05, 0)).bind fun (q08 : List (List Int)) =>
  some (.inl (q08, v6 + 1))
 else
  some (.inr q05)) (q04, 0)).bind fun (q06 : List (List Int)) =>
  chk (((v ++ [v1]).length ≤ 8796093022208)) <|
  chk ((-9223372036854775808 ≤ (v1 + 1 : Int) ∧ (v1 + 1 : Int) ≤ 9223372036854775807)) <|
  some (.inl (q06, v ++ [v1], v1 + 1))
 else
  some (.inr (q01, v))) (q0.2.2, [], 0)).bind fun ((q02, v2) : List (List Int) × List Int) =>
  chk ((0 ≤ (v2.length : Int) ∧ (v2.length : Int) ≤ q02.length)) <|
  chk (((v2.length : Int).toNat ≤ q02.length ∧ (v2.length : Int).toNat ≤ 1099511627776)) <|
  some (v2, (q0.1, q0.2.1, q02.take ((v2.length : Int).toNat)))

noncomputable def field_Reduced (x_0 : Int) (x_1 : Int) (x_2 : List (List Int)) : Option (Int × Int × List (List Int) × Int) :=
  (kinds_CheckMatrix x_0 x_1 x_2).bind fun y =>
  if y ≠ 0 then
  some (0, 0, ([] : List (List Int)), y)
 else
  (field_twin x_0 x_1 x_2).bind fun y1 =>
  (field_reduced (y1.1, y1.2.1, y1.2.2)).bind fun y2 =>
  some (y2.2.1, y2.2.2.1, y2.2.2.2, 0)

end Go.SH

set_option linter.unusedVariables false
set_option linter.unusedSimpArgs false
namespace Go.SH
open Go Go.AX

noncomputable def codes_Critical_1 (w : List Int) (q0 : List (Bool)) : Option (List (Bool)) :=
  (loopM (ρ := Int) (fun ((s, v) : Int × Int) =>
  if v < (w.length : Int) then
  chk ((0 ≤ v ∧ v < w.length)) <|
  chk ((shlOk .i64 (min (w.getD v.toNat 0) 1) v = true)) <|
  some (.inl (ior s ((min (w.getD v.toNat 0) 1) * (2 ^ v.toNat : Int)), v + 1))
 else
  some (.inr s)) (0, 0)).bind fun (s1 : Int) =>
  chk ((0 ≤ s1 ∧ s1 < q0.length)) <|
  some (q0.set s1.toNat true)

noncomputable def codes_each_1 : Nat → Int → Int → Int → (List (List Int)) → Int → Int → (List (List Int)) → (List (Bool)) → (List Int) → Option (List (Bool) × List Int)
  | 0, _, _, _, _, _, _, _, _, _ => none
  | fuel + 1, k, c0_0, c0_1, c0_2, c3_0, c3_1, c3_2, q0, q1 =>
  if k = (c0_2.length : Int) then
  (codes_Critical_1 q1 q0).bind fun y =>
  some (y, q1)
 else
  (loopM (ρ := List (Bool) × List Int) (fun ((q01, q11, v) : List (Bool) × List Int × Int) =>
  if v < c3_0 then
  chk ((-9223372036854775808 ≤ (k + 1 : Int) ∧ (k + 1 : Int) ≤ 9223372036854775807)) <|
  (codes_each_1 fuel (k + 1) c0_0 c0_1 c0_2 c3_0 c3_1 c3_2 q01 q11).bind fun y1 =>
  chk ((0 ≤ k ∧ k < c0_2.length)) <|
  (loopM (ρ := List Int) (fun ((q13, v1) : List Int × Int) =>
  if v1 < ((c0_2.getD k.toNat []).length : Int) then
  chk ((0 ≤ v1 ∧ v1 < (c0_2.getD k.toNat []).length)) <|
  chk ((0 ≤ v1 ∧ v1 < q13.length) ∧ (-9223372036854775808 ≤ ((q13.getD v1.toNat 0) + ((c0_2.getD k.toNat []).getD v1.toNat 0) : Int) ∧ ((q13.getD v1.toNat 0) + ((c0_2.getD k.toNat []).getD v1.toNat 0) : Int) ≤ 9223372036854775807) ∧ c3_0 ≠ 0) <|
  some (.inl (q13.set v1.toNat (Int.tmod ((q13.getD v1.toNat 0) + ((c0_2.getD k.toNat []).getD v1.toNat 0)) c3_0), v1 + 1))
 else
  some (.inr q13)) (y1.2, 0)).bind fun (q14 : List Int) =>
  some (.inl (y1.1, q14, v + 1))
 else
  some (.inr (q01, q11))) (q0, q1, 0)).bind fun ((q02, q12) : List (Bool) × List Int) =>
  some (q02, q12)

noncomputable def codes_each (x_0 : Int) (x_1 : Int) (x_2 : List (List Int)) (q0 : List (Bool)) : Option (Int × List (Bool)) :=
  (field_Reduced x_0 x_1 x_2).bind fun y =>
  (loopM (ρ := Int) (fun ((n, v) : Int × Int) =>
  if v < (y.2.2.1.length : Int) then
  chk ((-9223372036854775808 ≤ (n * x_0 : Int) ∧ (n * x_0 : Int) ≤ 9223372036854775807)) <|
  chk ((-9223372036854775808 ≤ (v + 1 : Int) ∧ (v + 1 : Int) ≤ 9223372036854775807)) <|
  some (.inl (n * x_0, v + 1))
 else
  some (.inr n)) (1, 0)).bind fun (n1 : Int) =>
  if 20000 < n1 then
  some (2, q0)
 else
  chk ((0 ≤ x_1 ∧ x_1 ≤ 1099511627776)) <|
  (codes_each_1 12 0 y.1 y.2.1 y.2.2.1 x_0 x_1 x_2 q0 (List.replicate x_1.toNat 0)).bind fun y1 =>
  some (0, y1.1)

noncomputable def codes_Critical (x_0 : Int) (x_1 : Int) (x_2 : List (List Int)) : Option (Int × Int) :=
  (kinds_CheckMatrix x_0 x_1 x_2).bind fun y =>
  if y ≠ 0 then
  some (0, y)
 else
  chk ((0 ≤ x_1 ∧ x_1 ≤ 62) ∧ (0 ≤ (2 ^ x_1.toNat : Int) ∧ (2 ^ x_1.toNat : Int) ≤ 1099511627776)) <|
  (codes_each x_0 x_1 x_2 (List.replicate (2 ^ x_1.toNat : Int).toNat false)).bind fun y1 =>
  if y1.1 ≠ 0 then
  some (0, y1.1)
 else
  chk ((0 ≤ ((y1.2).length : Int) ∧ ((y1.2).length : Int) ≤ 1099511627776)) <|
  chk ((0 ≤ 0 ∧ 0 < ((List.replicate ((y1.2).length : Int).toNat false).length))) <|
  (loopM (ρ := Unit ⊕ (Int × Int)) (fun ((v, v1) : List (Bool) × Int) =>
  if v1 ≤ x_1 then
  chk ((-9223372036854775808 ≤ ((v.length : Int) - 1 : Int) ∧ ((v.length : Int) - 1 : Int) ≤ 9223372036854775807) ∧ (0 ≤ (v.length : Int) - 1 ∧ (v.length : Int) - 1 < v.length) ∧ (((v.length : Int) - 1).toNat < v.length)) <|
  if v.getD (((v.length : Int) - 1).toNat) false = true then
  some (.inr (.inr (v1, 0)))
 else
  chk ((0 ≤ (v.length : Int) ∧ (v.length : Int) ≤ 1099511627776)) <|
  (loopM (ρ := List (Bool)) (fun ((v2, v3) : List (Bool) × Int) =>
  if v3 < (v.length : Int) then
  (loopM (ρ := List (Bool)) (fun ((v5, v6) : List (Bool) × Int) =>
  if v6 < (y1.2.length : Int) then
  chk ((0 ≤ ior v3 v6 ∧ ior v3 v6 < v5.length) ∧ ((ior v3 v6).toNat < v5.length) ∧ ((¬ (v5.getD ((ior v3 v6).toNat) false = true)) → (0 ≤ v3 ∧ v3 < v.length)) ∧ (v3.toNat < v.length) ∧ (((¬ (v5.getD ((ior v3 v6).toNat) false = true)) ∧ v.getD v3.toNat false = true) → (0 ≤ v6 ∧ v6 < y1.2.length)) ∧ (v6.toNat < y1.2.length)) <|
  chk ((-9223372036854775808 ≤ (v6 + 1 : Int) ∧ (v6 + 1 : Int) ≤ 9223372036854775807)) <|
  some (.inl (v5.set ((ior v3 v6).toNat) (decide ((v5.getD ((ior v3 v6).toNat) false = true ∨ (v.getD v3.toNat false = true ∧ y1.2.getD v6.toNat false = true)))), v6 + 1))
 else
  some (.inr v5)) (v2, 0)).bind fun (v7 : List (Bool)) =>
  some (.inl (v7, v3 + 1))
 else
  some (.inr v2)) (List.replicate (v.length : Int).toNat false, 0)).bind fun (v4 : List (Bool)) =>
  chk ((-9223372036854775808 ≤ (v1 + 1 : Int) ∧ (v1 + 1 : Int) ≤ 9223372036854775807)) <|
  some (.inl (v4, v1 + 1))
 else
  some (.inr (.inl ()))) ((List.replicate ((y1.2).length : Int).toNat false).set 0 true, 0)).bind fun z => match z with
  | .inl _ => (some (0, 5))
  | .inr rr => some rr

end Go.SH

set_option linter.unusedVariables false
set_option linter.unusedSimpArgs false
namespace Go.SH
open Go Go.AX

noncomputable def flats_of (m_0 : Int) (m_1 : List Int) : Option (Int × List Int × List Int × Int) :=
  (axioms_Flats m_0 m_1).bind fun y =>
  if y.2 ≠ 0 then
  some (0, [], [], y.2)
 else
  (axioms_Ranks m_0 m_1).bind fun y1 =>
  some (m_0, y.1, y1.1, 0)

noncomputable def flats_lattice_rank (l_0 : Int) (l_2 : List Int) (l_3 : List Int) : Option (Int) :=
  chk ((-9223372036854775808 ≤ ((l_3.length : Int) - 1 : Int) ∧ ((l_3.length : Int) - 1 : Int) ≤ 9223372036854775807) ∧ (0 ≤ (l_3.length : Int) - 1 ∧ (l_3.length : Int) - 1 < l_3.length)) <|
  some (l_3.getD ((l_3.length : Int) - 1).toNat 0)

noncomputable def flats_lattice_mobius (l_0 : Int) (l_2 : List Int) (l_3 : List Int) : Option (List Int) :=
  chk ((0 ≤ (l_2.length : Int) ∧ (l_2.length : Int) ≤ 1099511627776)) <|
  (loopM (ρ := List Int) (fun ((out0, v) : List Int × Int) =>
  if v < (l_2.length : Int) then
  chk ((0 ≤ v ∧ v < l_2.length)) <|
  if v = 0 then
  chk ((0 ≤ v ∧ v < out0.length)) <|
  some (.inl (out0.set v.toNat 1, v + 1))
 else
  chk ((0 ≤ v ∧ v ≤ l_2.length)) <|
  (loopM (ρ := List Int) (fun ((out02, v1) : List Int × Int) =>
  if v1 < ((l_2.take v.toNat).length : Int) then
  chk ((0 ≤ v1 ∧ v1 < (l_2.take v.toNat).length)) <|
  if iand ((l_2.take v.toNat).getD v1.toNat 0) (l_2.getD v.toNat 0) = (l_2.take v.toNat).getD v1.toNat 0 then
  chk ((0 ≤ v ∧ v < out02.length) ∧ (0 ≤ v1 ∧ v1 < out02.length) ∧ (-9223372036854775808 ≤ ((out02.getD v.toNat 0) - (out02.getD v1.toNat 0) : Int) ∧ ((out02.getD v.toNat 0) - (out02.getD v1.toNat 0) : Int) ≤ 9223372036854775807)) <|
  some (.inl (out02.set v.toNat ((out02.getD v.toNat 0) - (out02.getD v1.toNat 0)), v1 + 1))
 else
  some (.inl (out02, v1 + 1))
 else
  some (.inr out02)) (out0, 0)).bind fun (out03 : List Int) =>
  some (.inl (out03, v + 1))
 else
  some (.inr out0)) (List.replicate (l_2.length : Int).toNat 0, 0)).bind fun (out01 : List Int) =>
  some out01

noncomputable def flats_Characteristic (m_0 : Int) (m_1 : List Int) : Option (List Int × Int) :=
  (flats_of m_0 m_1).bind fun y =>
  if y.2.2.2 ≠ 0 then
  some ([], y.2.2.2)
 else
  (flats_lattice_rank y.1 y.2.1 y.2.2.1).bind fun y1 =>
  chk ((-9223372036854775808 ≤ (y1 + 1 : Int) ∧ (y1 + 1 : Int) ≤ 9223372036854775807) ∧ (0 ≤ y1 + 1 ∧ y1 + 1 ≤ 1099511627776)) <|
  chk ((0 ≤ 0 ∧ 0 < y.2.1.length)) <|
  if y.2.1.getD 0 0 ≠ 0 then
  some (List.replicate (y1 + 1).toNat 0, 0)
 else
  (flats_lattice_mobius y.1 y.2.1 y.2.2.1).bind fun y2 =>
  (loopM (ρ := List Int) (fun ((out0, v) : List Int × Int) =>
  if v < (y2.length : Int) then
  chk ((0 ≤ v ∧ v < y2.length)) <|
  (flats_lattice_rank y.1 y.2.1 y.2.2.1).bind fun y3 =>
  chk ((0 ≤ v ∧ v < y.2.1.length) ∧ (0 ≤ y.2.1.getD v.toNat 0 ∧ y.2.1.getD v.toNat 0 < y.2.2.1.length) ∧ (-9223372036854775808 ≤ (y3 - (y.2.2.1.getD (y.2.1.getD v.toNat 0).toNat 0) : Int) ∧ (y3 - (y.2.2.1.getD (y.2.1.getD v.toNat 0).toNat 0) : Int) ≤ 9223372036854775807) ∧ (0 ≤ y3 - (y.2.2.1.getD (y.2.1.getD v.toNat 0).toNat 0) ∧ y3 - (y.2.2.1.getD (y.2.1.getD v.toNat 0).toNat 0) < out0.length) ∧ (-9223372036854775808 ≤ ((out0.getD (y3 - (y.2.2.1.getD (y.2.1.getD v.toNat 0).toNat 0)).toNat 0) + (y2.getD v.toNat 0) : Int) ∧ ((out0.getD (y3 - (y.2.2.1.getD (y.2.1.getD v.toNat 0).toNat 0)).toNat 0) + (y2.getD v.toNat 0) : Int) ≤ 9223372036854775807)) <|
  some (.inl (out0.set (y3 - (y.2.2.1.getD (y.2.1.getD v.toNat 0).toNat 0)).toNat ((out0.getD (y3 - (y.2.2.1.getD (y.2.1.getD v.toNat 0).toNat 0)).toNat 0) + (y2.getD v.toNat 0)), v + 1))
 else
  some (.inr out0)) (List.replicate (y1 + 1).toNat 0, 0)).bind fun (out01 : List Int) =>
  some (out01, 0)

end Go.SH

set_option linter.unusedVariables false
set_option linter.unusedSimpArgs false
namespace Go.SH
open Go Go.AX

noncomputable def kinds_size (s : Int) : Option (Int) :=
  chk ((0 ≤ (s : Int) ∧ (s : Int) ≤ 18446744073709551615)) <|
  (bits_OnesCount s).bind fun y =>
  some y

noncomputable def kinds_greatest (n : Int) (independent : Int → Option (Bool)) : Option (Int × List Int) :=
  chk ((0 ≤ n ∧ n ≤ 62)) <|
  (loopM (ρ := List Int) (fun ((m, most, v) : List Int × Int × Int) =>
  if v < (2 ^ n.toNat : Int) then
  (kinds_size v).bind fun y =>
  if ¬ (y < most) then
  (independent v).bind fun y1 =>
  if ¬ (y1 = true) then
  some (.inl (m, most, v + 1))
 else
  (kinds_size v).bind fun y2 =>
  if most < y2 then
  (kinds_size v).bind fun y3 =>
  chk (([v].length ≤ 8796093022208)) <|
  some (.inl ([v], y3, v + 1))
 else
  chk (((m ++ [v]).length ≤ 8796093022208)) <|
  some (.inl (m ++ [v], most, v + 1))
 else
  some (.inl (m, most, v + 1))
 else
  some (.inr m)) ([], (-1), 0)).bind fun (m1 : List Int) =>
  some (n, m1)

end Go.SH

set_option linter.unusedVariables false
set_option linter.unusedSimpArgs false
namespace Go.SH
open Go Go.AX

noncomputable def kinds_inverse (a : Int) (p : Int) : Option (Int) :=
  (loopM (ρ := Unit ⊕ Int) (fun (v : Int) =>
  if v < p then
  chk ((-9223372036854775808 ≤ (a * v : Int) ∧ (a * v : Int) ≤ 9223372036854775807) ∧ p ≠ 0) <|
  if Int.tmod (a * v) p = 1 then
  some (.inr (.inr v))
 else
  some (.inl (v + 1))
 else
  some (.inr (.inl ()))) 0).bind fun z => match z with
  | .inl _ => (some 0)
  | .inr rr => some rr

noncomputable def kinds_rankOf (x_0 : Int) (x_1 : Int) (x_2 : List (List Int)) (a1 : Int) : Option (Int) :=
  (loopM (ρ := List (List Int)) (fun ((v, v1) : List (List Int) × Int) =>
  if v1 < (x_2.length : Int) then
  chk ((0 ≤ v1 ∧ v1 < x_2.length)) <|
  (loopM (ρ := List Int) (fun ((v3, v4) : List Int × Int) =>
  if v4 < ((x_2.getD v1.toNat []).length : Int) then
  chk ((0 ≤ v4 ∧ v4 < (x_2.getD v1.toNat []).length)) <|
  chk (0 ≤ v4) <|
  if iand (a1 / 2 ^ v4.toNat) 1 = 1 then
  chk (((v3 ++ [(x_2.getD v1.toNat []).getD v4.toNat 0]).length ≤ 8796093022208)) <|
  chk ((-9223372036854775808 ≤ (v4 + 1 : Int) ∧ (v4 + 1 : Int) ≤ 9223372036854775807)) <|
  some (.inl (v3 ++ [(x_2.getD v1.toNat []).getD v4.toNat 0], v4 + 1))
 else
  chk ((-9223372036854775808 ≤ (v4 + 1 : Int) ∧ (v4 + 1 : Int) ≤ 9223372036854775807)) <|
  some (.inl (v3, v4 + 1))
 else
  some (.inr v3)) ([], 0)).bind fun (v5 : List Int) =>
  chk (((v ++ [v5]).length ≤ 1099511627776)) <|
  some (.inl (v ++ [v5], v1 + 1))
 else
  some (.inr v)) (([] : List (List Int)), 0)).bind fun (v2 : List (List Int)) =>
  (loopM (ρ := Int) (fun ((v6, v7, v8) : List (List Int) × Int × Int) =>
  (kinds_size a1).bind fun y =>
  if (v8 < y ∧ v7 < (v6.length : Int)) then
  (loopM (ρ := Int) (fun (v10 : Int) =>
  chk (((v10 < (v6.length : Int)) → (0 ≤ v10 ∧ v10 < v6.length)) ∧ ((v10 < (v6.length : Int)) → (0 ≤ v8 ∧ v8 < ((v6.getD v10.toNat []).length)))) <|
  if (v10 < (v6.length : Int) ∧ (v6.getD v10.toNat []).getD v8.toNat 0 = 0) then
  chk ((-9223372036854775808 ≤ (v10 + 1 : Int) ∧ (v10 + 1 : Int) ≤ 9223372036854775807)) <|
  some (.inl (v10 + 1))
 else
  some (.inr v10)) v7).bind fun (v11 : Int) =>
  if v11 = (v6.length : Int) then
  chk ((-9223372036854775808 ≤ (v8 + 1 : Int) ∧ (v8 + 1 : Int) ≤ 9223372036854775807)) <|
  some (.inl (v6, v7, v8 + 1))
 else
  chk ((0 ≤ v11 ∧ v11 < v6.length)) <|
  chk ((0 ≤ v7 ∧ v7 < v6.length)) <|
  chk ((0 ≤ v7 ∧ v7 < v6.length)) <|
  chk ((0 ≤ v11 ∧ v11 < v6.length)) <|
  chk ((0 ≤ v7 ∧ v7 < v6.length) ∧ (0 ≤ v8 ∧ v8 < ((((v6.set v7.toNat (v6.getD v11.toNat [])).set v11.toNat (v6.getD v7.toNat [])).getD v7.toNat []).length))) <|
  (kinds_inverse ((((v6.set v7.toNat (v6.getD v11.toNat [])).set v11.toNat (v6.getD v7.toNat [])).getD v7.toNat []).getD v8.toNat 0) x_0).bind fun y1 =>
  chk ((-9223372036854775808 ≤ (v7 + 1 : Int) ∧ (v7 + 1 : Int) ≤ 9223372036854775807)) <|
  (loopM (ρ := List (List Int)) (fun ((v12, v13) : List (List Int) × Int) =>
  if v13 < (v12.length : Int) then
  chk ((0 ≤ v13 ∧ v13 < v12.length) ∧ (0 ≤ v8 ∧ v8 < ((v12.getD v13.toNat []).length)) ∧ (-9223372036854775808 ≤ (((v12.getD v13.toNat []).getD v8.toNat 0) * y1 : Int) ∧ (((v12.getD v13.toNat []).getD v8.toNat 0) * y1 : Int) ≤ 9223372036854775807) ∧ x_0 ≠ 0) <|
  (loopM (ρ := List (List Int)) (fun ((v15, v16) : List (List Int) × Int) =>
  chk ((0 ≤ v13 ∧ v13 < v15.length)) <|
  if v16 < ((v15.getD v13.toNat []).length : Int) then
  chk ((0 ≤ v13 ∧ v13 < v15.length) ∧ (0 ≤ v16 ∧ v16 < ((v15.getD v13.toNat []).length)) ∧ (-9223372036854775808 ≤ (x_0 - (Int.tmod (((v12.getD v13.toNat []).getD v8.toNat 0) * y1) x_0) : Int) ∧ (x_0 - (Int.tmod (((v12.getD v13.toNat []).getD v8.toNat 0) * y1) x_0) : Int) ≤ 9223372036854775807) ∧ (0 ≤ v7 ∧ v7 < v15.length) ∧ (0 ≤ v16 ∧ v16 < ((v15.getD v7.toNat []).length)) ∧ (-9223372036854775808 ≤ ((x_0 - (Int.tmod (((v12.getD v13.toNat []).getD v8.toNat 0) * y1) x_0)) * ((v15.getD v7.toNat []).getD v16.toNat 0) : Int) ∧ ((x_0 - (Int.tmod (((v12.getD v13.toNat []).getD v8.toNat 0) * y1) x_0)) * ((v15.getD v7.toNat []).getD v16.toNat 0) : Int) ≤ 9223372036854775807) ∧ (-9223372036854775808 ≤ (((v15.getD v13.toNat []).getD v16.toNat 0) + ((x_0 - (Int.tmod (((v12.getD v13.toNat []).getD v8.toNat 0) * y1) x_0)) * ((v15.getD v7.toNat []).getD v16.toNat 0)) : Int) ∧ (((v15.getD v13.toNat []).getD v16.toNat 0) + ((x_0 - (Int.tmod (((v12.getD v13.toNat []).getD v8.toNat 0) * y1) x_0)) * ((v15.getD v7.toNat []).getD v16.toNat 0)) : Int) ≤ 9223372036854775807) ∧ x_0 ≠ 0) <|
  chk ((-9223372036854775808 ≤ (v16 + 1 : Int) ∧ (v16 + 1 : Int) ≤ 9223372036854775807)) <|
  some (.inl (v15.set v13.toNat ((v15.getD v13.toNat []).set v16.toNat (Int.tmod (((v15.getD v13.toNat []).getD v16.toNat 0) + ((x_0 - (Int.tmod (((v12.getD v13.toNat []).getD v8.toNat 0) * y1) x_0)) * ((v15.getD v7.toNat []).getD v16.toNat 0))) x_0)), v16 + 1))
 else
  some (.inr v15)) (v12, v8)).bind fun (v17 : List (List Int)) =>
  chk ((-9223372036854775808 ≤ (v13 + 1 : Int) ∧ (v13 + 1 : Int) ≤ 9223372036854775807)) <|
  some (.inl (v17, v13 + 1))
 else
  some (.inr v12)) ((v6.set v7.toNat (v6.getD v11.toNat [])).set v11.toNat (v6.getD v7.toNat []), v7 + 1)).bind fun (v14 : List (List Int)) =>
  chk ((-9223372036854775808 ≤ (v7 + 1 : Int) ∧ (v7 + 1 : Int) ≤ 9223372036854775807)) <|
  chk ((-9223372036854775808 ≤ (v8 + 1 : Int) ∧ (v8 + 1 : Int) ≤ 9223372036854775807)) <|
  some (.inl (v14, v7 + 1, v8 + 1))
 else
  some (.inr v7)) (v2, 0, 0)).bind fun (v9 : Int) =>
  some v9

noncomputable def kinds_Linear_1 (s : Int) (c0_0 : Int) (c0_1 : Int) (c0_2 : List (List Int)) : Option (Bool) :=
  (kinds_rankOf c0_0 c0_1 c0_2 s).bind fun y =>
  (kinds_size s).bind fun y1 =>
  some (decide (y = y1))

noncomputable def kinds_Linear (x_0 : Int) (x_1 : Int) (x_2 : List (List Int)) : Option (Int × List Int × Int) :=
  (kinds_CheckMatrix x_0 x_1 x_2).bind fun y =>
  if y ≠ 0 then
  some (0, [], y)
 else
  (kinds_greatest x_1 (fun x0 => kinds_Linear_1 x0 x_0 x_1 x_2)).bind fun y1 =>
  some (y1.1, y1.2, 0)

end Go.SH

set_option linter.unusedVariables false
set_option linter.unusedSimpArgs false
namespace Go.SH
open Go Go.AX

noncomputable def rotabig_trim (a : List Int) : Option (List Int) :=
  (loopM (ρ := Int) (fun (n : Int) =>
  chk (((0 < n) → (-9223372036854775808 ≤ (n - 1 : Int) ∧ (n - 1 : Int) ≤ 9223372036854775807)) ∧ ((0 < n) → (0 ≤ n - 1 ∧ n - 1 < a.length))) <|
  if (0 < n ∧ a.getD (n - 1).toNat 0 = 0) then
  chk ((-9223372036854775808 ≤ (n - 1 : Int) ∧ (n - 1 : Int) ≤ 9223372036854775807)) <|
  some (.inl (n - 1))
 else
  some (.inr n)) (a.length : Int)).bind fun (n1 : Int) =>
  chk ((0 ≤ n1 ∧ n1 ≤ a.length)) <|
  some (List.take n1.toNat a)

noncomputable def rotabig_words (x : Int) : Option (List Int) :=
  (rotabig_trim [IntKind.wrap .u32 x, IntKind.wrap .u32 (x / 2 ^ 32)]).bind fun y =>
  some y

noncomputable def rotabig_Int_give (neg : Bool) (q0 : Bool × List Int) (a : List Int) : Option (Bool × List Int) :=
  some (decide ((neg = true ∧ 0 < (a.length : Int))), a)

noncomputable def rotabig_Int_SetInt64 (x : Int) (q0 : Bool × List Int) : Option (Bool × List Int) :=
  joinM (fun (u : Int) =>
  (rotabig_words u).bind fun y =>
  (rotabig_Int_give (decide (x < 0)) (q0.1, q0.2) y).bind fun y1 =>
  some (y1.1, y1.2)) fun j =>
  if x < 0 then
  j (IntKind.wrap .u64 (-(IntKind.wrap .u64 x)))
 else
  j (IntKind.wrap .u64 x)

noncomputable def rotabig_NewInt (x : Int) : Option (Bool × List Int) :=
  (rotabig_Int_SetInt64 x (false, [])).bind fun y =>
  some (y.1, y.2)

noncomputable def rotabig_mul (a : List Int) (a1 : List Int) : Option (List Int) :=
  if ((a.length : Int) = 0 ∨ (a1.length : Int) = 0) then
  some []
 else
  chk ((-9223372036854775808 ≤ ((a.length : Int) + (a1.length : Int) : Int) ∧ ((a.length : Int) + (a1.length : Int) : Int) ≤ 9223372036854775807) ∧ (0 ≤ (a.length : Int) + (a1.length : Int) ∧ (a.length : Int) + (a1.length : Int) ≤ 1099511627776)) <|
  (loopM (ρ := List Int) (fun ((v, v1) : List Int × Int) =>
  if v1 < (a.length : Int) then
  (loopM (ρ := List Int × Int) (fun ((v3, v4, v5) : List Int × Int × Int) =>
  if v5 < (a1.length : Int) then
  chk ((0 ≤ v1 ∧ v1 < a.length) ∧ (0 ≤ (a.getD v1.toNat 0 : Int) ∧ (a.getD v1.toNat 0 : Int) ≤ 18446744073709551615) ∧ (0 ≤ v5 ∧ v5 < a1.length) ∧ (0 ≤ (a1.getD v5.toNat 0 : Int) ∧ (a1.getD v5.toNat 0 : Int) ≤ 18446744073709551615) ∧ (0 ≤ ((a.getD v1.toNat 0) * (a1.getD v5.toNat 0) : Int) ∧ ((a.getD v1.toNat 0) * (a1.getD v5.toNat 0) : Int) ≤ 18446744073709551615) ∧ (-9223372036854775808 ≤ (v1 + v5 : Int) ∧ (v1 + v5 : Int) ≤ 9223372036854775807) ∧ (0 ≤ v1 + v5 ∧ v1 + v5 < v3.length) ∧ (0 ≤ (v3.getD (v1 + v5).toNat 0 : Int) ∧ (v3.getD (v1 + v5).toNat 0 : Int) ≤ 18446744073709551615) ∧ (0 ≤ (((a.getD v1.toNat 0) * (a1.getD v5.toNat 0)) + (v3.getD (v1 + v5).toNat 0) : Int) ∧ (((a.getD v1.toNat 0) * (a1.getD v5.toNat 0)) + (v3.getD (v1 + v5).toNat 0) : Int) ≤ 18446744073709551615) ∧ (0 ≤ (v4 + (((a.getD v1.toNat 0) * (a1.getD v5.toNat 0)) + (v3.getD (v1 + v5).toNat 0)) : Int) ∧ (v4 + (((a.getD v1.toNat 0) * (a1.getD v5.toNat 0)) + (v3.getD (v1 + v5).toNat 0)) : Int) ≤ 18446744073709551615)) <|
  chk ((-9223372036854775808 ≤ (v1 + v5 : Int) ∧ (v1 + v5 : Int) ≤ 9223372036854775807)) <|
  chk ((0 ≤ v1 + v5 ∧ v1 + v5 < v3.length)) <|
  some (.inl (v3.set (v1 + v5).toNat (IntKind.wrap .u32 (v4 + (((a.getD v1.toNat 0) * (a1.getD v5.toNat 0)) + (v3.getD (v1 + v5).toNat 0)))), (v4 + (((a.getD v1.toNat 0) * (a1.getD v5.toNat 0)) + (v3.getD (v1 + v5).toNat 0))) / 2 ^ 32, v5 + 1))
 else
  some (.inr (v3, v4))) (v, 0, 0)).bind fun ((v6, v7) : List Int × Int) =>
  chk ((-9223372036854775808 ≤ (v1 + (a1.length : Int) : Int) ∧ (v1 + (a1.length : Int) : Int) ≤ 9223372036854775807)) <|
  chk ((0 ≤ v1 + (a1.length : Int) ∧ v1 + (a1.length : Int) < v6.length)) <|
  some (.inl (v6.set (v1 + (a1.length : Int)).toNat (IntKind.wrap .u32 v7), v1 + 1))
 else
  some (.inr v)) (List.replicate ((a.length : Int) + (a1.length : Int)).toNat 0, 0)).bind fun (v2 : List Int) =>
  (rotabig_trim v2).bind fun y =>
  some y

noncomputable def rotabig_Int_Mul (q0 : Bool × List Int) (q1 : Bool × List Int) : Option ((Bool × List Int) × (Bool × List Int)) :=
  (rotabig_mul q0.2 q1.2).bind fun y1 =>
  (rotabig_Int_give (decide (¬ (q0.1 = true ↔ q1.1 = true))) (q0.1, q0.2) y1).bind fun y2 =>
  some ((y2.1, y2.2), (q1.1, q1.2))

noncomputable def rotabig_add (a : List Int) (b : List Int) : Option (List Int) :=
  joinM (fun ((a1, b1) : List Int × List Int) =>
  chk ((-9223372036854775808 ≤ ((a1.length : Int) + 1 : Int) ∧ ((a1.length : Int) + 1 : Int) ≤ 9223372036854775807) ∧ (0 ≤ (a1.length : Int) + 1 ∧ (a1.length : Int) + 1 ≤ 1099511627776)) <|
  (loopM (ρ := List Int × Int) (fun ((r1, c, i) : List Int × Int × Int) =>
  if i < (a1.length : Int) then
  chk ((0 ≤ i ∧ i < a1.length) ∧ (0 ≤ (a1.getD i.toNat 0 : Int) ∧ (a1.getD i.toNat 0 : Int) ≤ 18446744073709551615) ∧ (0 ≤ (c + (a1.getD i.toNat 0) : Int) ∧ (c + (a1.getD i.toNat 0) : Int) ≤ 18446744073709551615)) <|
  if i < (b1.length : Int) then
  chk ((0 ≤ i ∧ i < b1.length) ∧ (0 ≤ (b1.getD i.toNat 0 : Int) ∧ (b1.getD i.toNat 0 : Int) ≤ 18446744073709551615) ∧ (0 ≤ ((c + (a1.getD i.toNat 0)) + (b1.getD i.toNat 0) : Int) ∧ ((c + (a1.getD i.toNat 0)) + (b1.getD i.toNat 0) : Int) ≤ 18446744073709551615)) <|
  chk ((0 ≤ i ∧ i < r1.length)) <|
  some (.inl (r1.set i.toNat (IntKind.wrap .u32 ((c + (a1.getD i.toNat 0)) + (b1.getD i.toNat 0))), ((c + (a1.getD i.toNat 0)) + (b1.getD i.toNat 0)) / 2 ^ 32, i + 1))
 else
  chk ((0 ≤ i ∧ i < r1.length)) <|
  some (.inl (r1.set i.toNat (IntKind.wrap .u32 (c + (a1.getD i.toNat 0))), (c + (a1.getD i.toNat 0)) / 2 ^ 32, i + 1))
 else
  some (.inr (r1, c))) (List.replicate ((a1.length : Int) + 1).toNat 0, 0, 0)).bind fun ((r2, c1) : List Int × Int) =>
  chk ((0 ≤ (a1.length : Int) ∧ (a1.length : Int) < r2.length)) <|
  (rotabig_trim (r2.set (a1.length : Int).toNat (IntKind.wrap .u32 c1))).bind fun y =>
  some y) fun j =>
  if (a.length : Int) < (b.length : Int) then
  j (b, a)
 else
  j (a, b)

noncomputable def rotabig_cmp (a : List Int) (b : List Int) : Option (Int) :=
  if (a.length : Int) ≠ (b.length : Int) then
  if (a.length : Int) < (b.length : Int) then
  some (-1)
 else
  some 1
 else
  chk ((-9223372036854775808 ≤ ((a.length : Int) - 1 : Int) ∧ ((a.length : Int) - 1 : Int) ≤ 9223372036854775807)) <|
  (loopM (ρ := Unit ⊕ Int) (fun (i : Int) =>
  if 0 ≤ i then
  chk ((0 ≤ i ∧ i < a.length) ∧ (0 ≤ i ∧ i < b.length)) <|
  if a.getD i.toNat 0 ≠ b.getD i.toNat 0 then
  chk ((0 ≤ i ∧ i < a.length) ∧ (0 ≤ i ∧ i < b.length)) <|
  if a.getD i.toNat 0 < b.getD i.toNat 0 then
  some (.inr (.inr (-1)))
 else
  some (.inr (.inr 1))
 else
  chk ((-9223372036854775808 ≤ (i - 1 : Int) ∧ (i - 1 : Int) ≤ 9223372036854775807)) <|
  some (.inl (i - 1))
 else
  some (.inr (.inl ()))) ((a.length : Int) - 1)).bind fun z => match z with
  | .inl _ => (some 0)
  | .inr rr => some rr

noncomputable def rotabig_sub (a : List Int) (b : List Int) : Option (List Int) :=
  chk ((0 ≤ (a.length : Int) ∧ (a.length : Int) ≤ 1099511627776)) <|
  (loopM (ρ := List Int) (fun ((r1, c, i) : List Int × Int × Int) =>
  if i < (a.length : Int) then
  chk ((0 ≤ i ∧ i < a.length) ∧ (0 ≤ (a.getD i.toNat 0 : Int) ∧ (a.getD i.toNat 0 : Int) ≤ 18446744073709551615)) <|
  if i < (b.length : Int) then
  chk ((0 ≤ i ∧ i < b.length) ∧ (0 ≤ (b.getD i.toNat 0 : Int) ∧ (b.getD i.toNat 0 : Int) ≤ 18446744073709551615)) <|
  chk ((0 ≤ i ∧ i < r1.length)) <|
  some (.inl (r1.set i.toNat (IntKind.wrap .u32 (IntKind.wrap .u64 ((IntKind.wrap .u64 ((a.getD i.toNat 0) - c)) - (b.getD i.toNat 0)))), (IntKind.wrap .u64 ((IntKind.wrap .u64 ((a.getD i.toNat 0) - c)) - (b.getD i.toNat 0))) / 2 ^ 63, i + 1))
 else
  chk ((0 ≤ i ∧ i < r1.length)) <|
  some (.inl (r1.set i.toNat (IntKind.wrap .u32 (IntKind.wrap .u64 ((a.getD i.toNat 0) - c))), (IntKind.wrap .u64 ((a.getD i.toNat 0) - c)) / 2 ^ 63, i + 1))
 else
  some (.inr r1)) (List.replicate (a.length : Int).toNat 0, 0, 0)).bind fun (r2 : List Int) =>
  (rotabig_trim r2).bind fun y =>
  some y

noncomputable def rotabig_sum (xn : Bool) (xa : List Int) (yn : Bool) (ya : List Int) : Option (Bool × List Int) :=
  if (xn = true ↔ yn = true) then
  (rotabig_add xa ya).bind fun y =>
  some (xn, y)
 else
  (rotabig_cmp xa ya).bind fun y1 =>
  if 0 ≤ y1 then
  (rotabig_sub xa ya).bind fun y2 =>
  some (xn, y2)
 else
  (rotabig_sub ya xa).bind fun y3 =>
  some (yn, y3)

noncomputable def rotabig_Int_Add (q0 : Bool × List Int) (q1 : Bool × List Int) : Option ((Bool × List Int) × (Bool × List Int)) :=
  (rotabig_sum q0.1 q0.2 q1.1 q1.2).bind fun y1 =>
  (rotabig_Int_give y1.1 (q0.1, q0.2) y1.2).bind fun y2 =>
  some ((y2.1, y2.2), (q1.1, q1.2))

noncomputable def rotabig_Int_Sign (x_0 : Bool) (x_1 : List Int) : Option (Int) :=
  if (x_1.length : Int) = 0 then
  some 0
 else
  if x_0 = true then
  some (-1)
 else
  some 1

end Go.SH
