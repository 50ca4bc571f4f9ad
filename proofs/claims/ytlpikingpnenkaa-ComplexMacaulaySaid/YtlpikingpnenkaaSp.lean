/-
  Functions of the program as plain functions: bits_OnesCount. By a program of mine (shal.py). Functions of the program as plain functions: sets_Family. By a program of mine (shal.py). Functions of the program as plain functions: slices_Equal_int_int, slices_IndexFunc_int_int, slices_ContainsFunc_int_int. By a program of mine (shal.py). Functions of the program as plain functions: complex_Check, complex_size, complex_Shells, complex_faces_1, complex_faces, complex_count, complex_F, complex_choose, complex_H. By a program of mine (shal.py).  Conditions: none.
-/
import Derived.Test.YtlpikingpnenkaaAxN
import Derived.Test.YtlpikingpnenkaaAxP

set_option linter.unusedVariables false
set_option linter.unusedSimpArgs false
namespace Go.SH
open Go Go.AX

def oc1 (x : Int) : Int := iand (x / 2 ^ 1) 6148914691236517205 + iand x 6148914691236517205
def oc2 (x : Int) : Int := iand (x / 2 ^ 2) 3689348814741910323 + iand x 3689348814741910323
def oc3 (x : Int) : Int := iand (x / 2 ^ 4 + x) 1085102592571150095
def oc4 (x : Int) : Int := x + x / 2 ^ 8
def oc5 (x : Int) : Int := x + x / 2 ^ 16
def oc6 (x : Int) : Int := x + x / 2 ^ 32
/-- How many bits stand. -/
def oc (x : Int) : Int := iand (oc6 (oc5 (oc4 (oc3 (oc2 (oc1 x)))))) 127
theorem oc1_bd {x : Int} (h : 0 ≤ x) : 0 ≤ oc1 x ∧ oc1 x ≤ 12297829382473034410 := by
  unfold oc1
  have h1 := iand_bd (a := x / 2 ^ 1) (b := 6148914691236517205) (by omega) (by omega)
  have h2 := iand_bd (a := x) (b := 6148914691236517205) (by omega) (by omega)
  omega
theorem oc2_bd {x : Int} (h : 0 ≤ x) : 0 ≤ oc2 x ∧ oc2 x ≤ 7378697629483820646 := by
  unfold oc2
  have h1 := iand_bd (a := x / 2 ^ 2) (b := 3689348814741910323) (by omega) (by omega)
  have h2 := iand_bd (a := x) (b := 3689348814741910323) (by omega) (by omega)
  omega
theorem oc3_bd {x : Int} (h : 0 ≤ x) : 0 ≤ oc3 x ∧ oc3 x ≤ 1085102592571150095 := by
  unfold oc3
  have h1 := iand_bd (a := x / 2 ^ 4 + x) (b := 1085102592571150095) (by omega) (by omega)
  omega
theorem oc4_bd {x : Int} (h : 0 ≤ x) (h' : x ≤ 1085102592571150095) : 0 ≤ oc4 x ∧ oc4 x ≤ 2170205185142300190 := by unfold oc4; omega
theorem oc5_bd {x : Int} (h : 0 ≤ x) (h' : x ≤ 2170205185142300190) : 0 ≤ oc5 x ∧ oc5 x ≤ 4340410370284600380 := by unfold oc5; omega
theorem oc6_bd {x : Int} (h : 0 ≤ x) (h' : x ≤ 4340410370284600380) : 0 ≤ oc6 x ∧ oc6 x ≤ 8680820740569200760 := by unfold oc6; omega
theorem oc_bd {x : Int} (h : 0 ≤ x) : 0 ≤ oc x ∧ oc x ≤ 127 := by
  have h1 := oc1_bd h
  have h2 := oc2_bd h1.1
  have h3 := oc3_bd h2.1
  have h4 := oc4_bd h3.1 h3.2
  have h5 := oc5_bd h4.1 h4.2
  have h6 := oc6_bd h5.1 h5.2
  have := iand_bd (a := oc6 (oc5 (oc4 (oc3 (oc2 (oc1 x)))))) (b := 127) h6.1 (by omega)
  exact ⟨this.1, this.2.2⟩
/-- bits.OnesCount. -/
def bits_OnesCount (x : Int) : Option Int := some (oc x)

end Go.SH

set_option linter.unusedVariables false
set_option linter.unusedSimpArgs false
namespace Go.SH
open Go Go.AX

noncomputable def sets_Family (n : Int) (l : List Int) : Option (Int) :=
  if (n < 0 ∨ 8 < n) then
  some 1
 else
  (loopM (ρ := Unit ⊕ Int) (fun (v : Int) =>
  if v < (l.length : Int) then
  chk ((0 ≤ v ∧ v < l.length)) <|
  chk (((¬ (l.getD v.toNat 0 < 0)) → (0 ≤ n ∧ n ≤ 62)) ∧ (((¬ ((l.getD v.toNat 0 < 0 ∨ (2 ^ n.toNat : Int) ≤ l.getD v.toNat 0))) ∧ 0 < v) → (-9223372036854775808 ≤ (v - 1 : Int) ∧ (v - 1 : Int) ≤ 9223372036854775807)) ∧ (((¬ ((l.getD v.toNat 0 < 0 ∨ (2 ^ n.toNat : Int) ≤ l.getD v.toNat 0))) ∧ 0 < v) → (0 ≤ v - 1 ∧ v - 1 < l.length))) <|
  if ((l.getD v.toNat 0 < 0 ∨ (2 ^ n.toNat : Int) ≤ l.getD v.toNat 0) ∨ (0 < v ∧ l.getD v.toNat 0 ≤ l.getD (v - 1).toNat 0)) then
  some (.inr (.inr 1))
 else
  some (.inl (v + 1))
 else
  some (.inr (.inl ()))) 0).bind fun z => match z with
  | .inl _ => (some 0)
  | .inr rr => some rr

end Go.SH

set_option linter.unusedVariables false
set_option linter.unusedSimpArgs false
namespace Go.SH
open Go Go.AX

noncomputable def slices_Equal_int_int (s1 : List Int) (s2 : List Int) : Option (Bool) :=
  if (s1.length : Int) ≠ (s2.length : Int) then
  some false
 else
  (loopM (ρ := Unit ⊕ Bool) (fun (v : Int) =>
  if v < (s1.length : Int) then
  chk ((0 ≤ v ∧ v < s1.length) ∧ (0 ≤ v ∧ v < s2.length)) <|
  if s1.getD v.toNat 0 ≠ s2.getD v.toNat 0 then
  some (.inr (.inr false))
 else
  some (.inl (v + 1))
 else
  some (.inr (.inl ()))) 0).bind fun z => match z with
  | .inl _ => (some true)
  | .inr rr => some rr

noncomputable def slices_IndexFunc_int_int (s : List Int) (f : Int → Option (Bool)) : Option (Int) :=
  (loopM (ρ := Unit ⊕ Int) (fun (v : Int) =>
  if v < (s.length : Int) then
  chk ((0 ≤ v ∧ v < s.length)) <|
  (f (s.getD v.toNat 0)).bind fun y =>
  if y = true then
  some (.inr (.inr v))
 else
  some (.inl (v + 1))
 else
  some (.inr (.inl ()))) 0).bind fun z => match z with
  | .inl _ => (some (-1))
  | .inr rr => some rr

noncomputable def slices_ContainsFunc_int_int (s : List Int) (f : Int → Option (Bool)) : Option (Bool) :=
  (slices_IndexFunc_int_int s f).bind fun y =>
  some (decide (0 ≤ y))

end Go.SH

set_option linter.unusedVariables false
set_option linter.unusedSimpArgs false
namespace Go.SH
open Go Go.AX

noncomputable def complex_Check (n : Int) (l : List Int) : Option (Int) :=
  (sets_Family n l).bind fun y =>
  if y ≠ 0 then
  some y
 else
  if (l.length : Int) = 0 then
  some 1
 else
  (loopM (ρ := Unit ⊕ Int) (fun (v : Int) =>
  if v < (l.length : Int) then
  chk ((0 ≤ v ∧ v < l.length)) <|
  (loopM (ρ := Unit ⊕ Int) (fun (v1 : Int) =>
  if v1 < (l.length : Int) then
  chk ((0 ≤ v1 ∧ v1 < l.length)) <|
  if (l.getD v.toNat 0 ≠ l.getD v1.toNat 0 ∧ iand (l.getD v.toNat 0) (l.getD v1.toNat 0) = l.getD v.toNat 0) then
  some (.inr (.inr 3))
 else
  some (.inl (v1 + 1))
 else
  some (.inr (.inl ()))) 0).bind fun z => match z with
  | .inl _ => (some (.inl (v + 1)))
  | .inr rr => some (.inr (.inr rr))
 else
  some (.inr (.inl ()))) 0).bind fun z => match z with
  | .inl _ => (some 0)
  | .inr rr => some rr

noncomputable def complex_size (s : Int) : Option (Int) :=
  chk ((0 ≤ (s : Int) ∧ (s : Int) ≤ 18446744073709551615)) <|
  (bits_OnesCount s).bind fun y =>
  some y

noncomputable def complex_Shells (n : Int) (a1 : List Int) (a2 : List Int) : Option (Bool × Int) :=
  (complex_Check n a1).bind fun y =>
  if y ≠ 0 then
  some (false, y)
 else
  chk ((a2.length ≤ 17592186044416)) <|
  chk ((a2.length < 4611686018427387904)) <|
  (slices_Equal_int_int (sortL a2) a1).bind fun y1 =>
  if ¬ (y1 = true) then
  some (false, 1)
 else
  (loopM (ρ := Unit ⊕ (Bool × Int)) (fun (v : Int) =>
  if v < (a1.length : Int) then
  chk ((0 ≤ v ∧ v < a1.length)) <|
  (complex_size (a1.getD v.toNat 0)).bind fun y2 =>
  chk (0 < a1.length) <|
  (complex_size (a1.getD 0 0)).bind fun y3 =>
  if y2 ≠ y3 then
  some (.inr (.inr (false, 3)))
 else
  some (.inl (v + 1))
 else
  some (.inr (.inl ()))) 0).bind fun z => match z with
  | .inl _ => ((loopM (ρ := Unit ⊕ (Bool × Int)) (fun (v1 : Int) =>
  if v1 < (a2.length : Int) then
  chk ((0 ≤ v1 ∧ v1 < a2.length)) <|
  chk ((0 ≤ v1 ∧ v1 ≤ a2.length)) <|
  (loopM (ρ := Unit ⊕ (Bool × Int)) (fun (v2 : Int) =>
  if v2 < ((a2.take v1.toNat).length : Int) then
  chk ((0 ≤ v2 ∧ v2 < (a2.take v1.toNat).length)) <|
  chk ((0 ≤ v1 ∧ v1 ≤ a2.length)) <|
  (loopM (ρ := Bool) (fun ((v3, v4) : Bool × Int) =>
  if v4 < ((a2.take v1.toNat).length : Int) then
  chk ((0 ≤ v4 ∧ v4 < (a2.take v1.toNat).length)) <|
  (if ¬ (v3 = true) then complex_size (iand (a2.getD v1.toNat 0) ((a2.take v1.toNat).getD v4.toNat 0)) else some 0).bind fun y4 =>
  (if ¬ (v3 = true) then complex_size (a2.getD v1.toNat 0) else some 0).bind fun y5 =>
  chk (((¬ (v3 = true)) → (-9223372036854775808 ≤ (y5 - 1 : Int) ∧ (y5 - 1 : Int) ≤ 9223372036854775807))) <|
  some (.inl (decide ((v3 = true ∨ (y4 = y5 - 1 ∧ iandnot (iand (a2.getD v1.toNat 0) ((a2.take v1.toNat).getD v2.toNat 0)) ((a2.take v1.toNat).getD v4.toNat 0) = 0))), v4 + 1))
 else
  some (.inr v3)) (false, 0)).bind fun (v5 : Bool) =>
  if ¬ (v5 = true) then
  some (.inr (.inr (false, 0)))
 else
  some (.inl (v2 + 1))
 else
  some (.inr (.inl ()))) 0).bind fun z => match z with
  | .inl _ => (some (.inl (v1 + 1)))
  | .inr rr => some (.inr (.inr rr))
 else
  some (.inr (.inl ()))) 0).bind fun z => match z with
  | .inl _ => (some (true, 0))
  | .inr rr => some rr)
  | .inr rr => some rr

noncomputable def complex_faces_1 (f : Int) (c0 : Int) : Option (Bool) :=
  some (decide (iand f c0 = c0))

noncomputable def complex_faces (n : Int) (l : List Int) : Option (List Int) :=
  chk ((0 ≤ n ∧ n ≤ 62)) <|
  (loopM (ρ := List Int) (fun ((out0, v) : List Int × Int) =>
  if v < (2 ^ n.toNat : Int) then
  (slices_ContainsFunc_int_int l (fun x0 => complex_faces_1 x0 v)).bind fun y =>
  if y = true then
  chk (((out0 ++ [v]).length ≤ 8796093022208)) <|
  some (.inl (out0 ++ [v], v + 1))
 else
  some (.inl (out0, v + 1))
 else
  some (.inr out0)) ([], 0)).bind fun (out01 : List Int) =>
  some out01

noncomputable def complex_count (n : Int) (l : List Int) : Option (List Int) :=
  (loopM (ρ := Int) (fun ((most, v) : Int × Int) =>
  if v < (l.length : Int) then
  chk ((0 ≤ v ∧ v < l.length)) <|
  (complex_size (l.getD v.toNat 0)).bind fun y =>
  some (.inl (max most y, v + 1))
 else
  some (.inr most)) (0, 0)).bind fun (most1 : Int) =>
  chk ((-9223372036854775808 ≤ (most1 + 1 : Int) ∧ (most1 + 1 : Int) ≤ 9223372036854775807) ∧ (0 ≤ most1 + 1 ∧ most1 + 1 ≤ 1099511627776)) <|
  (complex_faces n l).bind fun y1 =>
  (loopM (ρ := List Int) (fun ((out0, v1) : List Int × Int) =>
  if v1 < (y1.length : Int) then
  chk ((0 ≤ v1 ∧ v1 < y1.length)) <|
  (complex_size (y1.getD v1.toNat 0)).bind fun y2 =>
  chk ((0 ≤ y2 ∧ y2 < out0.length) ∧ (-9223372036854775808 ≤ ((out0.getD y2.toNat 0) + 1 : Int) ∧ ((out0.getD y2.toNat 0) + 1 : Int) ≤ 9223372036854775807)) <|
  some (.inl (out0.set y2.toNat ((out0.getD y2.toNat 0) + 1), v1 + 1))
 else
  some (.inr out0)) (List.replicate (most1 + 1).toNat 0, 0)).bind fun (out01 : List Int) =>
  some out01

noncomputable def complex_F (n : Int) (l : List Int) : Option (List Int × Int) :=
  (complex_Check n l).bind fun y =>
  if y ≠ 0 then
  some ([], y)
 else
  (complex_count n l).bind fun y1 =>
  some (y1, 0)

noncomputable def complex_choose (n : Int) (k : Int) : Option (Int) :=
  (loopM (ρ := Int) (fun ((out0, v) : Int × Int) =>
  if v < k then
  chk ((-9223372036854775808 ≤ (n - v : Int) ∧ (n - v : Int) ≤ 9223372036854775807) ∧ (-9223372036854775808 ≤ (out0 * (n - v) : Int) ∧ (out0 * (n - v) : Int) ≤ 9223372036854775807) ∧ v + 1 ≠ 0 ∧ (-9223372036854775808 ≤ (Int.tdiv (out0 * (n - v)) (v + 1) : Int) ∧ (Int.tdiv (out0 * (n - v)) (v + 1) : Int) ≤ 9223372036854775807)) <|
  some (.inl (Int.tdiv (out0 * (n - v)) (v + 1), v + 1))
 else
  some (.inr out0)) (1, 0)).bind fun (out01 : Int) =>
  some out01

noncomputable def complex_H (n : Int) (a1 : List Int) : Option (List Int × Int) :=
  (complex_F n a1).bind fun y =>
  if y.2 ≠ 0 then
  some ([], y.2)
 else
  chk ((-9223372036854775808 ≤ ((y.1.length : Int) - 1 : Int) ∧ ((y.1.length : Int) - 1 : Int) ≤ 9223372036854775807)) <|
  chk ((-9223372036854775808 ≤ (((y.1.length : Int) - 1) + 1 : Int) ∧ (((y.1.length : Int) - 1) + 1 : Int) ≤ 9223372036854775807) ∧ (0 ≤ ((y.1.length : Int) - 1) + 1 ∧ ((y.1.length : Int) - 1) + 1 ≤ 1099511627776)) <|
  (loopM (ρ := List Int) (fun ((v, v1) : List Int × Int) =>
  if v1 < ((List.replicate (((y.1.length : Int) - 1) + 1).toNat 0).length : Int) then
  (loopM (ρ := List Int) (fun ((v3, v4) : List Int × Int) =>
  if v4 < v1 + 1 then
  chk ((0 ≤ v4 ∧ v4 < y.1.length) ∧ (-9223372036854775808 ≤ (((y.1.length : Int) - 1) - v4 : Int) ∧ (((y.1.length : Int) - 1) - v4 : Int) ≤ 9223372036854775807) ∧ (-9223372036854775808 ≤ (v1 - v4 : Int) ∧ (v1 - v4 : Int) ≤ 9223372036854775807)) <|
  (complex_choose (((y.1.length : Int) - 1) - v4) (v1 - v4)).bind fun y1 =>
  chk ((-9223372036854775808 ≤ ((y.1.getD v4.toNat 0) * y1 : Int) ∧ ((y.1.getD v4.toNat 0) * y1 : Int) ≤ 9223372036854775807)) <|
  chk ((-9223372036854775808 ≤ (v1 - v4 : Int) ∧ (v1 - v4 : Int) ≤ 9223372036854775807)) <|
  if Int.tmod (v1 - v4) 2 = 1 then
  chk ((-9223372036854775808 ≤ (-((y.1.getD v4.toNat 0) * y1) : Int) ∧ (-((y.1.getD v4.toNat 0) * y1) : Int) ≤ 9223372036854775807)) <|
  chk ((0 ≤ v1 ∧ v1 < v3.length) ∧ (-9223372036854775808 ≤ ((v3.getD v1.toNat 0) + (-((y.1.getD v4.toNat 0) * y1)) : Int) ∧ ((v3.getD v1.toNat 0) + (-((y.1.getD v4.toNat 0) * y1)) : Int) ≤ 9223372036854775807)) <|
  some (.inl (v3.set v1.toNat ((v3.getD v1.toNat 0) + (-((y.1.getD v4.toNat 0) * y1))), v4 + 1))
 else
  chk ((0 ≤ v1 ∧ v1 < v3.length) ∧ (-9223372036854775808 ≤ ((v3.getD v1.toNat 0) + ((y.1.getD v4.toNat 0) * y1) : Int) ∧ ((v3.getD v1.toNat 0) + ((y.1.getD v4.toNat 0) * y1) : Int) ≤ 9223372036854775807)) <|
  some (.inl (v3.set v1.toNat ((v3.getD v1.toNat 0) + ((y.1.getD v4.toNat 0) * y1)), v4 + 1))
 else
  some (.inr v3)) (v, 0)).bind fun (v5 : List Int) =>
  some (.inl (v5, v1 + 1))
 else
  some (.inr v)) (List.replicate (((y.1.length : Int) - 1) + 1).toNat 0, 0)).bind fun (v2 : List Int) =>
  some (v2, 0)

end Go.SH
