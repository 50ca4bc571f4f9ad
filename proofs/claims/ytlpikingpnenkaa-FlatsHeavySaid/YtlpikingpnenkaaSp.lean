/-
  Functions of the program as plain functions: bits_OnesCount. By a program of mine (shal.py). Functions of the program as plain functions: sets_Family. By a program of mine (shal.py). Functions of the program as plain functions: cmp_isNaN_int, cmp_Less_int. By a program of mine (shal.py). Functions of the program as plain functions: slices_isNaN_int, slices_BinarySearch_int_int. By a program of mine (shal.py). Functions of the program as plain functions: axioms_flat, axioms_Flats_1, axioms_size, axioms_exchange, axioms_Check, axioms_ranks, axioms_family, axioms_Flats, axioms_Ranks. By a program of mine (shal.py). Functions of the program as plain functions: flats_of, flats_lattice_rank, flats_Levels. By a program of mine (shal.py). Functions of the program as plain functions: rotalaw_Same_int. By a program of mine (shal.py).  Conditions: none.
-/
import Derived.Test.YtlpikingpnenkaaAxN

set_option linter.unusedVariables false
set_option linter.unusedSimpArgs false
namespace Go.SH
open Go Go.AX

def oc1 (x : Int) : Int := iand (x / 2 ^ 1) 6148914691236517205 + iand x 6148914691236517205
def oc2 (x : Int) : Int := iand (x / 2 ^ 2) 3689348814741910323 + iand x 3689348814741910323
def oc3 (x : Int) : Int := iand (x / 2 ^ 4 + x) 1085102592571150095
def oc4 (x : Int) : Int := x + x / 2 ^ 8
def oc5 (x : Int) : Int := x + x / 2 ^ 16
def oc6 (x : Int) : Int := x + x / 2 ^ 32
/-- How many bits stand. -/
def oc (x : Int) : Int := iand (oc6 (oc5 (oc4 (oc3 (oc2 (oc1 x)))))) 127
theorem oc1_bd {x : Int} (h : 0 ≤ x) : 0 ≤ oc1 x ∧ oc1 x ≤ 12297829382473034410 := by
  unfold oc1
  have h1 := iand_bd (a := x / 2 ^ 1) (b := 6148914691236517205) (by omega) (by omega)
  have h2 := iand_bd (a := x) (b := 6148914691236517205) (by omega) (by omega)
  omega
theorem oc2_bd {x : Int} (h : 0 ≤ x) : 0 ≤ oc2 x ∧ oc2 x ≤ 7378697629483820646 := by
  unfold oc2
  have h1 := iand_bd (a := x / 2 ^ 2) (b := 3689348814741910323) (by omega) (by omega)
  have h2 := iand_bd (a := x) (b := 3689348814741910323) (by omega) (by omega)
  omega
theorem oc3_bd {x : Int} (h : 0 ≤ x) : 0 ≤ oc3 x ∧ oc3 x ≤ 1085102592571150095 := by
  unfold oc3
  have h1 := iand_bd (a := x / 2 ^ 4 + x) (b := 1085102592571150095) (by omega) (by omega)
  omega
theorem oc4_bd {x : Int} (h : 0 ≤ x) (h' : x ≤ 1085102592571150095) : 0 ≤ oc4 x ∧ oc4 x ≤ 2170205185142300190 := by unfold oc4; omega
theorem oc5_bd {x : Int} (h : 0 ≤ x) (h' : x ≤ 2170205185142300190) : 0 ≤ oc5 x ∧ oc5 x ≤ 4340410370284600380 := by unfold oc5; omega
theorem oc6_bd {x : Int} (h : 0 ≤ x) (h' : x ≤ 4340410370284600380) : 0 ≤ oc6 x ∧ oc6 x ≤ 8680820740569200760 := by unfold oc6; omega
theorem oc_bd {x : Int} (h : 0 ≤ x) : 0 ≤ oc x ∧ oc x ≤ 127 := by
  have h1 := oc1_bd h
  have h2 := oc2_bd h1.1
  have h3 := oc3_bd h2.1
  have h4 := oc4_bd h3.1 h3.2
  have h5 := oc5_bd h4.1 h4.2
  have h6 := oc6_bd h5.1 h5.2
  have := iand_bd (a := oc6 (oc5 (oc4 (oc3 (oc2 (oc1 x)))))) (b := 127) h6.1 (by omega)
  exact ⟨this.1, this.2.2⟩
/-- bits.OnesCount. -/
def bits_OnesCount (x : Int) : Option Int := some (oc x)

end Go.SH

set_option linter.unusedVariables false
set_option linter.unusedSimpArgs false
namespace Go.SH
open Go Go.AX

noncomputable def sets_Family (n : Int) (l : List Int) : Option (Int) :=
  if (n < 0 ∨ 8 < n) then
  some 1
 else
  (loopM (ρ := Unit ⊕ Int) (fun (v : Int) =>
  if v < (l.length : Int) then
  chk ((0 ≤ v ∧ v < l.length)) <|
  chk (((¬ (l.getD v.toNat 0 < 0)) → (0 ≤ n ∧ n ≤ 62)) ∧ (((¬ ((l.getD v.toNat 0 < 0 ∨ (2 ^ n.toNat : Int) ≤ l.getD v.toNat 0))) ∧ 0 < v) → (-9223372036854775808 ≤ (v - 1 : Int) ∧ (v - 1 : Int) ≤ 9223372036854775807)) ∧ (((¬ ((l.getD v.toNat 0 < 0 ∨ (2 ^ n.toNat : Int) ≤ l.getD v.toNat 0))) ∧ 0 < v) → (0 ≤ v - 1 ∧ v - 1 < l.length))) <|
  if ((l.getD v.toNat 0 < 0 ∨ (2 ^ n.toNat : Int) ≤ l.getD v.toNat 0) ∨ (0 < v ∧ l.getD v.toNat 0 ≤ l.getD (v - 1).toNat 0)) then
  some (.inr (.inr 1))
 else
  some (.inl (v + 1))
 else
  some (.inr (.inl ()))) 0).bind fun z => match z with
  | .inl _ => (some 0)
  | .inr rr => some rr

end Go.SH

set_option linter.unusedVariables false
set_option linter.unusedSimpArgs false
namespace Go.SH
open Go Go.AX

noncomputable def cmp_isNaN_int (x : Int) : Option (Bool) :=
  some (decide (x ≠ x))

noncomputable def cmp_Less_int (x : Int) (y : Int) : Option (Bool) :=
  (cmp_isNaN_int x).bind fun y1 =>
  (if y1 = true then cmp_isNaN_int y else some false).bind fun y2 =>
  some (decide (((y1 = true ∧ ¬ (y2 = true)) ∨ x < y)))

end Go.SH

set_option linter.unusedVariables false
set_option linter.unusedSimpArgs false
namespace Go.SH
open Go Go.AX

noncomputable def slices_isNaN_int (x : Int) : Option (Bool) :=
  some (decide (x ≠ x))

noncomputable def slices_BinarySearch_int_int (x : List Int) (target : Int) : Option (Int × Bool) :=
  (loopM (ρ := Int) (fun ((i, j) : Int × Int) =>
  if i < j then
  chk ((-9223372036854775808 ≤ (i + j : Int) ∧ (i + j : Int) ≤ 9223372036854775807) ∧ (0 ≤ (i + j : Int) ∧ (i + j : Int) ≤ 18446744073709551615) ∧ (-9223372036854775808 ≤ ((i + j) / 2 ^ 1 : Int) ∧ ((i + j) / 2 ^ 1 : Int) ≤ 9223372036854775807)) <|
  chk ((0 ≤ (i + j) / 2 ^ 1 ∧ (i + j) / 2 ^ 1 < x.length)) <|
  (cmp_Less_int (x.getD ((i + j) / 2 ^ 1).toNat 0) target).bind fun y =>
  if y = true then
  chk ((-9223372036854775808 ≤ (((i + j) / 2 ^ 1) + 1 : Int) ∧ (((i + j) / 2 ^ 1) + 1 : Int) ≤ 9223372036854775807)) <|
  some (.inl (((i + j) / 2 ^ 1) + 1, j))
 else
  some (.inl (i, (i + j) / 2 ^ 1))
 else
  some (.inr i)) (0, (x.length : Int))).bind fun (i1 : Int) =>
  chk (((i1 < (x.length : Int)) → (0 ≤ i1 ∧ i1 < x.length)) ∧ (((i1 < (x.length : Int)) ∧ ¬ (x.getD i1.toNat 0 = target)) → (0 ≤ i1 ∧ i1 < x.length))) <|
  (if ((i1 < (x.length : Int)) ∧ ¬ (x.getD i1.toNat 0 = target)) then slices_isNaN_int (x.getD i1.toNat 0) else some false).bind fun y1 =>
  (if (((i1 < (x.length : Int)) ∧ ¬ (x.getD i1.toNat 0 = target)) ∧ y1 = true) then slices_isNaN_int target else some false).bind fun y2 =>
  some (i1, decide ((i1 < (x.length : Int) ∧ (x.getD i1.toNat 0 = target ∨ (y1 = true ∧ y2 = true)))))

end Go.SH

set_option linter.unusedVariables false
set_option linter.unusedSimpArgs false
namespace Go.SH
open Go Go.AX

noncomputable def axioms_flat (r1 : List Int) (n : Int) (s : Int) : Option (Bool) :=
  (loopM (ρ := Unit ⊕ Bool) (fun (v : Int) =>
  if v < n then
  chk (0 ≤ v ∧ ((iand (s / 2 ^ v.toNat) 1 = 0) → (0 ≤ v ∧ v ≤ 62)) ∧ ((iand (s / 2 ^ v.toNat) 1 = 0) → (0 ≤ ior s (2 ^ v.toNat : Int) ∧ ior s (2 ^ v.toNat : Int) < r1.length)) ∧ ((iand (s / 2 ^ v.toNat) 1 = 0) → (0 ≤ s ∧ s < r1.length))) <|
  if (iand (s / 2 ^ v.toNat) 1 = 0 ∧ r1.getD (ior s (2 ^ v.toNat : Int)).toNat 0 = r1.getD s.toNat 0) then
  some (.inr (.inr false))
 else
  some (.inl (v + 1))
 else
  some (.inr (.inl ()))) 0).bind fun z => match z with
  | .inl _ => (some true)
  | .inr rr => some rr

noncomputable def axioms_Flats_1 (r1 : List Int) (s : Int) (c0_0 : Int) (c0_1 : List Int) : Option (Bool) :=
  (axioms_flat r1 c0_0 s).bind fun y =>
  some y

noncomputable def axioms_size (s : Int) : Option (Int) :=
  chk ((0 ≤ (s : Int) ∧ (s : Int) ≤ 18446744073709551615)) <|
  (bits_OnesCount s).bind fun y =>
  some y

noncomputable def axioms_exchange (m_0 : Int) (m_1 : List Int) (a : Int) (b : Int) : Option (Bool) :=
  (loopM (ρ := Unit ⊕ Bool) (fun (out0 : Int) =>
  if out0 ≠ 0 then
  chk ((-9223372036854775808 ≤ (-out0 : Int) ∧ (-out0 : Int) ≤ 9223372036854775807)) <|
  (loopM (ρ := Bool) (fun ((ok, in0) : Bool × Int) =>
  if (in0 ≠ 0 ∧ ¬ (ok = true)) then
  chk ((-9223372036854775808 ≤ (-in0 : Int) ∧ (-in0 : Int) ≤ 9223372036854775807)) <|
  (slices_BinarySearch_int_int m_1 (ior (iandnot a (iand out0 (-out0))) (iand in0 (-in0)))).bind fun y =>
  chk ((-9223372036854775808 ≤ (in0 - 1 : Int) ∧ (in0 - 1 : Int) ≤ 9223372036854775807)) <|
  some (.inl (y.2, iand in0 (in0 - 1)))
 else
  some (.inr ok)) (false, iandnot b a)).bind fun (ok1 : Bool) =>
  if ¬ (ok1 = true) then
  some (.inr (.inr false))
 else
  chk ((-9223372036854775808 ≤ (out0 - 1 : Int) ∧ (out0 - 1 : Int) ≤ 9223372036854775807)) <|
  some (.inl (iand out0 (out0 - 1)))
 else
  some (.inr (.inl ()))) (iandnot a b)).bind fun z => match z with
  | .inl _ => (some true)
  | .inr rr => some rr

noncomputable def axioms_Check (m_0 : Int) (m_1 : List Int) : Option (Int) :=
  (sets_Family m_0 m_1).bind fun y =>
  if (y ≠ 0 ∨ (m_1.length : Int) = 0) then
  some 1
 else
  (loopM (ρ := Unit ⊕ Int) (fun (v : Int) =>
  if v < (m_1.length : Int) then
  chk ((0 ≤ v ∧ v < m_1.length)) <|
  (axioms_size (m_1.getD v.toNat 0)).bind fun y1 =>
  chk (0 < m_1.length) <|
  (axioms_size (m_1.getD 0 0)).bind fun y2 =>
  if y1 ≠ y2 then
  some (.inr (.inr 1))
 else
  some (.inl (v + 1))
 else
  some (.inr (.inl ()))) 0).bind fun z => match z with
  | .inl _ => ((loopM (ρ := Unit ⊕ Int) (fun (v1 : Int) =>
  if v1 < (m_1.length : Int) then
  chk ((0 ≤ v1 ∧ v1 < m_1.length)) <|
  (loopM (ρ := Unit ⊕ Int) (fun (v2 : Int) =>
  if v2 < (m_1.length : Int) then
  chk ((0 ≤ v2 ∧ v2 < m_1.length)) <|
  (axioms_exchange m_0 m_1 (m_1.getD v1.toNat 0) (m_1.getD v2.toNat 0)).bind fun y3 =>
  if ¬ (y3 = true) then
  some (.inr (.inr 3))
 else
  some (.inl (v2 + 1))
 else
  some (.inr (.inl ()))) 0).bind fun z => match z with
  | .inl _ => (some (.inl (v1 + 1)))
  | .inr rr => some (.inr (.inr rr))
 else
  some (.inr (.inl ()))) 0).bind fun z => match z with
  | .inl _ => (some 0)
  | .inr rr => some rr)
  | .inr rr => some rr

noncomputable def axioms_ranks (m_0 : Int) (m_1 : List Int) : Option (List Int) :=
  chk ((0 ≤ m_0 ∧ m_0 ≤ 62) ∧ (0 ≤ (2 ^ m_0.toNat : Int) ∧ (2 ^ m_0.toNat : Int) ≤ 1099511627776)) <|
  (loopM (ρ := List Int) (fun ((out0, v) : List Int × Int) =>
  if v < ((List.replicate (2 ^ m_0.toNat : Int).toNat 0).length : Int) then
  (loopM (ρ := List Int) (fun ((out02, v1) : List Int × Int) =>
  if v1 < (m_1.length : Int) then
  chk ((0 ≤ v1 ∧ v1 < m_1.length)) <|
  chk ((0 ≤ v ∧ v < out02.length)) <|
  (axioms_size (iand v (m_1.getD v1.toNat 0))).bind fun y =>
  chk ((0 ≤ v ∧ v < out02.length)) <|
  some (.inl (out02.set v.toNat (max (out02.getD v.toNat 0) y), v1 + 1))
 else
  some (.inr out02)) (out0, 0)).bind fun (out03 : List Int) =>
  some (.inl (out03, v + 1))
 else
  some (.inr out0)) (List.replicate (2 ^ m_0.toNat : Int).toNat 0, 0)).bind fun (out01 : List Int) =>
  some out01

noncomputable def axioms_family (m_0 : Int) (m_1 : List Int) (kind : (List Int) → Int → Option (Bool)) : Option (List Int × Int) :=
  (axioms_Check m_0 m_1).bind fun y =>
  if y ≠ 0 then
  some ([], y)
 else
  (axioms_ranks m_0 m_1).bind fun y1 =>
  (loopM (ρ := List Int) (fun ((out0, v) : List Int × Int) =>
  if v < (y1.length : Int) then
  (kind y1 v).bind fun y2 =>
  if y2 = true then
  chk (((out0 ++ [v]).length ≤ 8796093022208)) <|
  some (.inl (out0 ++ [v], v + 1))
 else
  some (.inl (out0, v + 1))
 else
  some (.inr out0)) ([], 0)).bind fun (out01 : List Int) =>
  some (out01, 0)

noncomputable def axioms_Flats (m_0 : Int) (m_1 : List Int) : Option (List Int × Int) :=
  (axioms_family m_0 m_1 (fun x0 x1 => axioms_Flats_1 x0 x1 m_0 m_1)).bind fun y =>
  some (y.1, y.2)

noncomputable def axioms_Ranks (m_0 : Int) (m_1 : List Int) : Option (List Int × Int) :=
  (axioms_Check m_0 m_1).bind fun y =>
  if y ≠ 0 then
  some ([], y)
 else
  (axioms_ranks m_0 m_1).bind fun y1 =>
  some (y1, 0)

end Go.SH

set_option linter.unusedVariables false
set_option linter.unusedSimpArgs false
namespace Go.SH
open Go Go.AX

noncomputable def flats_of (m_0 : Int) (m_1 : List Int) : Option (Int × List Int × List Int × Int) :=
  (axioms_Flats m_0 m_1).bind fun y =>
  if y.2 ≠ 0 then
  some (0, [], [], y.2)
 else
  (axioms_Ranks m_0 m_1).bind fun y1 =>
  some (m_0, y.1, y1.1, 0)

noncomputable def flats_lattice_rank (l_0 : Int) (l_2 : List Int) (l_3 : List Int) : Option (Int) :=
  chk ((-9223372036854775808 ≤ ((l_3.length : Int) - 1 : Int) ∧ ((l_3.length : Int) - 1 : Int) ≤ 9223372036854775807) ∧ (0 ≤ (l_3.length : Int) - 1 ∧ (l_3.length : Int) - 1 < l_3.length)) <|
  some (l_3.getD ((l_3.length : Int) - 1).toNat 0)

noncomputable def flats_Levels (m_0 : Int) (m_1 : List Int) : Option (List Int × Int) :=
  (flats_of m_0 m_1).bind fun y =>
  if y.2.2.2 ≠ 0 then
  some ([], y.2.2.2)
 else
  (flats_lattice_rank y.1 y.2.1 y.2.2.1).bind fun y1 =>
  chk ((-9223372036854775808 ≤ (y1 + 1 : Int) ∧ (y1 + 1 : Int) ≤ 9223372036854775807) ∧ (0 ≤ y1 + 1 ∧ y1 + 1 ≤ 1099511627776)) <|
  (loopM (ρ := List Int) (fun ((out0, v) : List Int × Int) =>
  if v < (y.2.1.length : Int) then
  chk ((0 ≤ v ∧ v < y.2.1.length)) <|
  chk ((0 ≤ y.2.1.getD v.toNat 0 ∧ y.2.1.getD v.toNat 0 < y.2.2.1.length) ∧ (0 ≤ y.2.2.1.getD (y.2.1.getD v.toNat 0).toNat 0 ∧ y.2.2.1.getD (y.2.1.getD v.toNat 0).toNat 0 < out0.length) ∧ (-9223372036854775808 ≤ ((out0.getD (y.2.2.1.getD (y.2.1.getD v.toNat 0).toNat 0).toNat 0) + 1 : Int) ∧ ((out0.getD (y.2.2.1.getD (y.2.1.getD v.toNat 0).toNat 0).toNat 0) + 1 : Int) ≤ 9223372036854775807)) <|
  some (.inl (out0.set (y.2.2.1.getD (y.2.1.getD v.toNat 0).toNat 0).toNat ((out0.getD (y.2.2.1.getD (y.2.1.getD v.toNat 0).toNat 0).toNat 0) + 1), v + 1))
 else
  some (.inr out0)) (List.replicate (y1 + 1).toNat 0, 0)).bind fun (out01 : List Int) =>
  some (out01, 0)

end Go.SH

set_option linter.unusedVariables false
set_option linter.unusedSimpArgs false
namespace Go.SH
open Go Go.AX

noncomputable def rotalaw_Same_int (a : List Int) (b : List Int) : Option (Bool) :=
  if (a.length : Int) ≠ (b.length : Int) then
  some false
 else
  (loopM (ρ := Unit ⊕ Bool) (fun (v : Int) =>
  if v < (a.length : Int) then
  chk ((0 ≤ v ∧ v < a.length) ∧ (0 ≤ v ∧ v < b.length)) <|
  if a.getD v.toNat 0 ≠ b.getD v.toNat 0 then
  some (.inr (.inr false))
 else
  some (.inl (v + 1))
 else
  some (.inr (.inl ()))) 0).bind fun z => match z with
  | .inl _ => (some true)
  | .inr rr => some rr

end Go.SH
