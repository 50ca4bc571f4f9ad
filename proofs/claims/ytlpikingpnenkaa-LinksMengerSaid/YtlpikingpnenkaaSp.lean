/-
  Functions of the program as plain functions: bits_OnesCount. By a program of mine (shal.py). Functions of the program as plain functions: kinds_CheckGraph. By a program of mine (shal.py). Functions of the program as plain functions: slices_Contains_api_Edge_api_Edge. By a program of mine (shal.py). Functions of the program as plain functions: links_right, links_laid, links_pipes_more, links_ways, links_Most, links_size, links_reached, links_Cut, links_Ways_2, links_Ways_1, links_Ways. By a program of mine (shal.py).  Conditions: none.
-/
import Derived.Test.YtlpikingpnenkaaAxN

set_option linter.unusedVariables false
set_option linter.unusedSimpArgs false
namespace Go.SH
open Go Go.AX

def oc1 (x : Int) : Int := iand (x / 2 ^ 1) 6148914691236517205 + iand x 6148914691236517205
def oc2 (x : Int) : Int := iand (x / 2 ^ 2) 3689348814741910323 + iand x 3689348814741910323
def oc3 (x : Int) : Int := iand (x / 2 ^ 4 + x) 1085102592571150095
def oc4 (x : Int) : Int := x + x / 2 ^ 8
def oc5 (x : Int) : Int := x + x / 2 ^ 16
def oc6 (x : Int) : Int := x + x / 2 ^ 32
/-- How many bits stand. -/
def oc (x : Int) : Int := iand (oc6 (oc5 (oc4 (oc3 (oc2 (oc1 x)))))) 127
theorem oc1_bd {x : Int} (h : 0 ≤ x) : 0 ≤ oc1 x ∧ oc1 x ≤ 12297829382473034410 := by
  unfold oc1
  have h1 := iand_bd (a := x / 2 ^ 1) (b := 6148914691236517205) (by omega) (by omega)
  have h2 := iand_bd (a := x) (b := 6148914691236517205) (by omega) (by omega)
  omega
theorem oc2_bd {x : Int} (h : 0 ≤ x) : 0 ≤ oc2 x ∧ oc2 x ≤ 7378697629483820646 := by
  unfold oc2
  have h1 := iand_bd (a := x / 2 ^ 2) (b := 3689348814741910323) (by omega) (by omega)
  have h2 := iand_bd (a := x) (b := 3689348814741910323) (by omega) (by omega)
  omega
theorem oc3_bd {x : Int} (h : 0 ≤ x) : 0 ≤ oc3 x ∧ oc3 x ≤ 1085102592571150095 := by
  unfold oc3
  have h1 := iand_bd (a := x / 2 ^ 4 + x) (b := 1085102592571150095) (by omega) (by omega)
  omega
theorem oc4_bd {x : Int} (h : 0 ≤ x) (h' : x ≤ 1085102592571150095) : 0 ≤ oc4 x ∧ oc4 x ≤ 2170205185142300190 := by unfold oc4; omega
theorem oc5_bd {x : Int} (h : 0 ≤ x) (h' : x ≤ 2170205185142300190) : 0 ≤ oc5 x ∧ oc5 x ≤ 4340410370284600380 := by unfold oc5; omega
theorem oc6_bd {x : Int} (h : 0 ≤ x) (h' : x ≤ 4340410370284600380) : 0 ≤ oc6 x ∧ oc6 x ≤ 8680820740569200760 := by unfold oc6; omega
theorem oc_bd {x : Int} (h : 0 ≤ x) : 0 ≤ oc x ∧ oc x ≤ 127 := by
  have h1 := oc1_bd h
  have h2 := oc2_bd h1.1
  have h3 := oc3_bd h2.1
  have h4 := oc4_bd h3.1 h3.2
  have h5 := oc5_bd h4.1 h4.2
  have h6 := oc6_bd h5.1 h5.2
  have := iand_bd (a := oc6 (oc5 (oc4 (oc3 (oc2 (oc1 x)))))) (b := 127) h6.1 (by omega)
  exact ⟨this.1, this.2.2⟩
/-- bits.OnesCount. -/
def bits_OnesCount (x : Int) : Option Int := some (oc x)

end Go.SH

set_option linter.unusedVariables false
set_option linter.unusedSimpArgs false
namespace Go.SH
open Go Go.AX

noncomputable def kinds_CheckGraph (g_0 : Int) (g_1 : List (Int × Int)) : Option (Int) :=
  if ((g_0 < 1 ∨ 7 < g_0) ∨ 8 < (g_1.length : Int)) then
  some 1
 else
  (loopM (ρ := Unit ⊕ Int) (fun (v : Int) =>
  if v < (g_1.length : Int) then
  chk ((0 ≤ v ∧ v < g_1.length)) <|
  if ((((g_1.getD v.toNat (0, 0)).1 < 0 ∨ (g_1.getD v.toNat (0, 0)).2 < 0) ∨ g_0 ≤ (g_1.getD v.toNat (0, 0)).1) ∨ g_0 ≤ (g_1.getD v.toNat (0, 0)).2) then
  some (.inr (.inr 1))
 else
  some (.inl (v + 1))
 else
  some (.inr (.inl ()))) 0).bind fun z => match z with
  | .inl _ => (some 0)
  | .inr rr => some rr

end Go.SH

set_option linter.unusedVariables false
set_option linter.unusedSimpArgs false
namespace Go.SH
open Go Go.AX

def slices_Contains_api_Edge_api_Edge (s : List (Int × Int)) (a b : Int) : Option Bool := some (decide ((a, b) ∈ s))

end Go.SH

set_option linter.unusedVariables false
set_option linter.unusedSimpArgs false
namespace Go.SH
open Go Go.AX

noncomputable def links_right (g_0 : Int) (g_1 : List (Int × Int)) (l : List Int) : Option (Int) :=
  (kinds_CheckGraph g_0 g_1).bind fun y =>
  if y ≠ 0 then
  some y
 else
  (loopM (ρ := Unit ⊕ Int) (fun (v : Int) =>
  if v < (l.length : Int) then
  chk ((0 ≤ v ∧ v < l.length)) <|
  chk (((¬ (l.getD v.toNat 0 < 0)) → (0 ≤ g_0 ∧ g_0 ≤ 62))) <|
  if (l.getD v.toNat 0 < 0 ∨ (2 ^ g_0.toNat : Int) ≤ l.getD v.toNat 0) then
  some (.inr (.inr 1))
 else
  some (.inl (v + 1))
 else
  some (.inr (.inl ()))) 0).bind fun z => match z with
  | .inl _ => (some 0)
  | .inr rr => some rr

noncomputable def links_laid (g_0 : Int) (g_1 : List (Int × Int)) (a1 : Int) (a2 : Int) : Option (List (List Int)) :=
  chk ((-9223372036854775808 ≤ (2 * g_0 : Int) ∧ (2 * g_0 : Int) ≤ 9223372036854775807) ∧ (-9223372036854775808 ≤ (2 + (2 * g_0) : Int) ∧ (2 + (2 * g_0) : Int) ≤ 9223372036854775807) ∧ (0 ≤ 2 + (2 * g_0) ∧ 2 + (2 * g_0) ≤ 1099511627776)) <|
  (loopM (ρ := List (List Int)) (fun ((v, v1) : List (List Int) × Int) =>
  if v1 < ((2 + (2 * g_0)).toNat : Int) then
  chk ((0 ≤ ((2 + (2 * g_0)).toNat : Int) ∧ ((2 + (2 * g_0)).toNat : Int) ≤ 1099511627776) ∧ (0 ≤ v1 ∧ v1 < ((2 + (2 * g_0)).toNat))) <|
  chk ((v1.toNat = v.length)) <|
  chk ((-9223372036854775808 ≤ (v1 + 1 : Int) ∧ (v1 + 1 : Int) ≤ 9223372036854775807)) <|
  some (.inl (v ++ [List.replicate ((2 + (2 * g_0)).toNat : Int).toNat 0], v1 + 1))
 else
  some (.inr v)) (([] : List (List Int)), 0)).bind fun (v2 : List (List Int)) =>
  chk ((2 + (2 * g_0)).toNat = v2.length) <|
  (loopM (ρ := List (List Int)) (fun ((v3, v4) : List (List Int) × Int) =>
  if v4 < g_0 then
  chk ((-9223372036854775808 ≤ (2 * v4 : Int) ∧ (2 * v4 : Int) ≤ 9223372036854775807) ∧ (-9223372036854775808 ≤ (2 + (2 * v4) : Int) ∧ (2 + (2 * v4) : Int) ≤ 9223372036854775807) ∧ (0 ≤ 2 + (2 * v4) ∧ 2 + (2 * v4) < v3.length) ∧ (-9223372036854775808 ≤ (3 + (2 * v4) : Int) ∧ (3 + (2 * v4) : Int) ≤ 9223372036854775807) ∧ (0 ≤ 3 + (2 * v4) ∧ 3 + (2 * v4) < ((v3.getD ((2 + (2 * v4)).toNat) []).length))) <|
  chk ((0 ≤ 0 ∧ 0 < v3.length) ∧ (-9223372036854775808 ≤ (2 * v4 : Int) ∧ (2 * v4 : Int) ≤ 9223372036854775807) ∧ (-9223372036854775808 ≤ (2 + (2 * v4) : Int) ∧ (2 + (2 * v4) : Int) ≤ 9223372036854775807) ∧ 0 ≤ v4 ∧ (0 ≤ 2 + (2 * v4) ∧ 2 + (2 * v4) < ((v3.getD 0 []).length))) <|
  chk ((-9223372036854775808 ≤ (2 * v4 : Int) ∧ (2 * v4 : Int) ≤ 9223372036854775807) ∧ (-9223372036854775808 ≤ (3 + (2 * v4) : Int) ∧ (3 + (2 * v4) : Int) ≤ 9223372036854775807) ∧ (0 ≤ 3 + (2 * v4) ∧ 3 + (2 * v4) < v3.length) ∧ 0 ≤ v4 ∧ 1 < ((v3.getD ((3 + (2 * v4)).toNat) []).length)) <|
  chk ((-9223372036854775808 ≤ (v4 + 1 : Int) ∧ (v4 + 1 : Int) ≤ 9223372036854775807)) <|
  some (.inl (((v3.set ((2 + (2 * v4)).toNat) ((v3.getD ((2 + (2 * v4)).toNat) []).set ((3 + (2 * v4)).toNat) 1)).set 0 (((v3.set ((2 + (2 * v4)).toNat) ((v3.getD ((2 + (2 * v4)).toNat) []).set ((3 + (2 * v4)).toNat) 1)).getD 0 []).set ((2 + (2 * v4)).toNat) (iand (a1 / 2 ^ v4.toNat) 1))).set ((3 + (2 * v4)).toNat) ((((v3.set ((2 + (2 * v4)).toNat) ((v3.getD ((2 + (2 * v4)).toNat) []).set ((3 + (2 * v4)).toNat) 1)).set 0 (((v3.set ((2 + (2 * v4)).toNat) ((v3.getD ((2 + (2 * v4)).toNat) []).set ((3 + (2 * v4)).toNat) 1)).getD 0 []).set ((2 + (2 * v4)).toNat) (iand (a1 / 2 ^ v4.toNat) 1))).getD ((3 + (2 * v4)).toNat) []).set 1 (iand (a2 / 2 ^ v4.toNat) 1)), v4 + 1))
 else
  some (.inr v3)) (v2, 0)).bind fun (v5 : List (List Int)) =>
  (loopM (ρ := List (List Int)) (fun ((v6, v7) : List (List Int) × Int) =>
  if v7 < (g_1.length : Int) then
  chk ((0 ≤ v7 ∧ v7 < g_1.length)) <|
  chk ((-9223372036854775808 ≤ (2 * ((g_1.getD v7.toNat (0, 0)).1) : Int) ∧ (2 * ((g_1.getD v7.toNat (0, 0)).1) : Int) ≤ 9223372036854775807) ∧ (-9223372036854775808 ≤ (3 + (2 * ((g_1.getD v7.toNat (0, 0)).1)) : Int) ∧ (3 + (2 * ((g_1.getD v7.toNat (0, 0)).1)) : Int) ≤ 9223372036854775807) ∧ (0 ≤ 3 + (2 * ((g_1.getD v7.toNat (0, 0)).1)) ∧ 3 + (2 * ((g_1.getD v7.toNat (0, 0)).1)) < v6.length) ∧ (-9223372036854775808 ≤ (2 * ((g_1.getD v7.toNat (0, 0)).2) : Int) ∧ (2 * ((g_1.getD v7.toNat (0, 0)).2) : Int) ≤ 9223372036854775807) ∧ (-9223372036854775808 ≤ (2 + (2 * ((g_1.getD v7.toNat (0, 0)).2)) : Int) ∧ (2 + (2 * ((g_1.getD v7.toNat (0, 0)).2)) : Int) ≤ 9223372036854775807) ∧ (0 ≤ 2 + (2 * ((g_1.getD v7.toNat (0, 0)).2)) ∧ 2 + (2 * ((g_1.getD v7.toNat (0, 0)).2)) < ((v6.getD ((3 + (2 * ((g_1.getD v7.toNat (0, 0)).1))).toNat) []).length))) <|
  some (.inl (v6.set ((3 + (2 * ((g_1.getD v7.toNat (0, 0)).1))).toNat) ((v6.getD ((3 + (2 * ((g_1.getD v7.toNat (0, 0)).1))).toNat) []).set ((2 + (2 * ((g_1.getD v7.toNat (0, 0)).2))).toNat) 1), v7 + 1))
 else
  some (.inr v6)) (v5, 0)).bind fun (v8 : List (List Int)) =>
  some v8

noncomputable def links_pipes_more (q0 : List (List Int)) : Option (Bool × List (List Int)) :=
  chk ((0 ≤ (q0.length : Int) ∧ (q0.length : Int) ≤ 1099511627776)) <|
  (loopM (ρ := List Int) (fun ((v, v1) : List Int × Int) =>
  if v1 < ((List.replicate (q0.length : Int).toNat 0).length : Int) then
  chk ((0 ≤ v1 ∧ v1 < v.length)) <|
  some (.inl (v.set v1.toNat (-1), v1 + 1))
 else
  some (.inr v)) (List.replicate (q0.length : Int).toNat 0, 0)).bind fun (v2 : List Int) =>
  chk ((0 ≤ 0 ∧ 0 < v2.length)) <|
  (loopM (ρ := List Int) (fun ((v3, v4, v5) : List Int × List Int × Int) =>
  chk (((v5 < (v4.length : Int)) → (0 ≤ 1 ∧ 1 < v3.length))) <|
  if (v5 < (v4.length : Int) ∧ v3.getD 1 0 < 0) then
  chk ((0 ≤ v5 ∧ v5 < v4.length) ∧ (0 ≤ v4.getD v5.toNat 0 ∧ v4.getD v5.toNat 0 < q0.length)) <|
  (loopM (ρ := List Int × List Int) (fun ((v7, v8, v9) : List Int × List Int × Int) =>
  if v9 < ((q0.getD ((v4.getD v5.toNat 0).toNat) []).length : Int) then
  chk ((0 ≤ v9 ∧ v9 < ((q0.getD ((v4.getD v5.toNat 0).toNat) []).length))) <|
  chk (((0 < (q0.getD ((v4.getD v5.toNat 0).toNat) []).getD v9.toNat 0) → (0 ≤ v9 ∧ v9 < v7.length))) <|
  if (0 < (q0.getD ((v4.getD v5.toNat 0).toNat) []).getD v9.toNat 0 ∧ v7.getD v9.toNat 0 < 0) then
  chk ((0 ≤ v5 ∧ v5 < v8.length) ∧ (0 ≤ v9 ∧ v9 < v7.length)) <|
  chk (((v8 ++ [v9]).length ≤ 8796093022208)) <|
  chk ((-9223372036854775808 ≤ (v9 + 1 : Int) ∧ (v9 + 1 : Int) ≤ 9223372036854775807)) <|
  some (.inl (v7.set v9.toNat (v8.getD v5.toNat 0), v8 ++ [v9], v9 + 1))
 else
  chk ((-9223372036854775808 ≤ (v9 + 1 : Int) ∧ (v9 + 1 : Int) ≤ 9223372036854775807)) <|
  some (.inl (v7, v8, v9 + 1))
 else
  some (.inr (v7, v8))) (v3, v4, 0)).bind fun ((v10, v11) : List Int × List Int) =>
  chk ((-9223372036854775808 ≤ (v5 + 1 : Int) ∧ (v5 + 1 : Int) ≤ 9223372036854775807)) <|
  some (.inl (v10, v11, v5 + 1))
 else
  some (.inr v3)) (v2.set 0 0, [0], 0)).bind fun (v6 : List Int) =>
  chk ((0 ≤ 1 ∧ 1 < v6.length)) <|
  if v6.getD 1 0 < 0 then
  some (false, q0)
 else
  (loopM (ρ := List (List Int)) (fun ((q01, v12) : List (List Int) × Int) =>
  if v12 ≠ 0 then
  chk ((0 ≤ v12 ∧ v12 < v6.length) ∧ (0 ≤ v6.getD v12.toNat 0 ∧ v6.getD v12.toNat 0 < q01.length) ∧ (0 ≤ v12 ∧ v12 < ((q01.getD ((v6.getD v12.toNat 0).toNat) []).length)) ∧ (-9223372036854775808 ≤ (((q01.getD ((v6.getD v12.toNat 0).toNat) []).getD v12.toNat 0) - 1 : Int) ∧ (((q01.getD ((v6.getD v12.toNat 0).toNat) []).getD v12.toNat 0) - 1 : Int) ≤ 9223372036854775807)) <|
  chk ((0 ≤ v12 ∧ v12 < q01.length) ∧ (0 ≤ v12 ∧ v12 < v6.length) ∧ (0 ≤ v6.getD v12.toNat 0 ∧ v6.getD v12.toNat 0 < ((q01.getD v12.toNat []).length)) ∧ (-9223372036854775808 ≤ ((((q01.set ((v6.getD v12.toNat 0).toNat) ((q01.getD ((v6.getD v12.toNat 0).toNat) []).set v12.toNat (((q01.getD ((v6.getD v12.toNat 0).toNat) []).getD v12.toNat 0) - 1))).getD v12.toNat []).getD ((v6.getD v12.toNat 0).toNat) 0) + 1 : Int) ∧ ((((q01.set ((v6.getD v12.toNat 0).toNat) ((q01.getD ((v6.getD v12.toNat 0).toNat) []).set v12.toNat (((q01.getD ((v6.getD v12.toNat 0).toNat) []).getD v12.toNat 0) - 1))).getD v12.toNat []).getD ((v6.getD v12.toNat 0).toNat) 0) + 1 : Int) ≤ 9223372036854775807)) <|
  chk ((0 ≤ v12 ∧ v12 < v6.length)) <|
  some (.inl ((q01.set ((v6.getD v12.toNat 0).toNat) ((q01.getD ((v6.getD v12.toNat 0).toNat) []).set v12.toNat (((q01.getD ((v6.getD v12.toNat 0).toNat) []).getD v12.toNat 0) - 1))).set v12.toNat (((q01.set ((v6.getD v12.toNat 0).toNat) ((q01.getD ((v6.getD v12.toNat 0).toNat) []).set v12.toNat (((q01.getD ((v6.getD v12.toNat 0).toNat) []).getD v12.toNat 0) - 1))).getD v12.toNat []).set ((v6.getD v12.toNat 0).toNat) ((((q01.set ((v6.getD v12.toNat 0).toNat) ((q01.getD ((v6.getD v12.toNat 0).toNat) []).set v12.toNat (((q01.getD ((v6.getD v12.toNat 0).toNat) []).getD v12.toNat 0) - 1))).getD v12.toNat []).getD ((v6.getD v12.toNat 0).toNat) 0) + 1)), v6.getD v12.toNat 0))
 else
  some (.inr q01)) (q0, 1)).bind fun (q02 : List (List Int)) =>
  some (true, q02)

noncomputable def links_ways (g_0 : Int) (g_1 : List (Int × Int)) (from0 : Int) (to : Int) : Option (Int) :=
  (links_laid g_0 g_1 from0 to).bind fun y =>
  (loopM (ρ := Int) (fun ((p, n) : List (List Int) × Int) =>
  (links_pipes_more p).bind fun y1 =>
  chk ((y1.2.length = p.length)) <|
  if y1.1 = true then
  chk ((-9223372036854775808 ≤ (n + 1 : Int) ∧ (n + 1 : Int) ≤ 9223372036854775807)) <|
  some (.inl (y1.2, n + 1))
 else
  some (.inr n)) (y, 0)).bind fun (n1 : Int) =>
  some n1

noncomputable def links_Most (g_0 : Int) (g_1 : List (Int × Int)) (from0 : Int) (to : Int) : Option (Int × Int) :=
  (links_right g_0 g_1 [from0, to]).bind fun y =>
  if y ≠ 0 then
  some (0, y)
 else
  (links_ways g_0 g_1 from0 to).bind fun y1 =>
  some (y1, 0)

noncomputable def links_size (s : Int) : Option (Int) :=
  chk ((0 ≤ (s : Int) ∧ (s : Int) ≤ 18446744073709551615)) <|
  (bits_OnesCount s).bind fun y =>
  some y

noncomputable def links_reached (g_0 : Int) (g_1 : List (Int × Int)) (from0 : Int) (gone : Int) : Option (Int) :=
  (loopM (ρ := Int) (fun ((s, v) : Int × Int) =>
  if v < g_0 then
  (loopM (ρ := Int) (fun ((s2, v1) : Int × Int) =>
  if v1 < (g_1.length : Int) then
  chk ((0 ≤ v1 ∧ v1 < g_1.length)) <|
  chk (0 ≤ (g_1.getD v1.toNat (0, 0)).1) <|
  if iand (s2 / 2 ^ ((g_1.getD v1.toNat (0, 0)).1).toNat) 1 = 1 then
  chk ((0 ≤ (g_1.getD v1.toNat (0, 0)).2 ∧ (g_1.getD v1.toNat (0, 0)).2 ≤ 62)) <|
  some (.inl (ior s2 (iandnot (2 ^ ((g_1.getD v1.toNat (0, 0)).2).toNat : Int) gone), v1 + 1))
 else
  some (.inl (s2, v1 + 1))
 else
  some (.inr s2)) (s, 0)).bind fun (s3 : Int) =>
  some (.inl (s3, v + 1))
 else
  some (.inr s)) (iandnot from0 gone, 0)).bind fun (s1 : Int) =>
  some s1

noncomputable def links_Cut (g_0 : Int) (g_1 : List (Int × Int)) (from0 : Int) (to : Int) : Option (Int × Int) :=
  (links_right g_0 g_1 [from0, to]).bind fun y =>
  if y ≠ 0 then
  some (0, y)
 else
  chk ((-9223372036854775808 ≤ (g_0 + 1 : Int) ∧ (g_0 + 1 : Int) ≤ 9223372036854775807)) <|
  chk ((0 ≤ g_0 ∧ g_0 ≤ 62)) <|
  (loopM (ρ := Int) (fun ((best, most1, v1) : Int × Int × Int) =>
  if v1 < (2 ^ g_0.toNat : Int) then
  (links_size v1).bind fun y1 =>
  (if y1 < most1 then links_reached g_0 g_1 from0 v1 else some 0).bind fun y2 =>
  if (y1 < most1 ∧ iand y2 to = 0) then
  (links_size v1).bind fun y3 =>
  some (.inl (v1, y3, v1 + 1))
 else
  some (.inl (best, most1, v1 + 1))
 else
  some (.inr best)) (0, g_0 + 1, 0)).bind fun (best1 : Int) =>
  some (best1, 0)

noncomputable def links_Ways_2 (onf : (List Int) → Int → Int → Int → Int → (List (Int × Int)) → Int → Int → (List (Int × Int)) → (List (List Int)) → Option (Bool × List (List Int))) (v : Int) (gone : Int) (c0_0 : Int) (c0_1 : List (Int × Int)) (c1 : Int) (e0 : Int) (d0_0 : Int) (d0_1 : List (Int × Int)) (d1 : Int) (e3_0 : Int) (e3_1 : List (Int × Int)) (q0 : List (List Int)) : Option (Bool × List (List Int)) :=
  (loopM (ρ := Int) (fun (v1 : Int) =>
  chk (((v1 < c0_0) → 0 ≤ v1)) <|
  if (v1 < c0_0 ∧ iand (c1 / 2 ^ v1.toNat) 1 = 0) then
  chk ((-9223372036854775808 ≤ (v1 + 1 : Int) ∧ (v1 + 1 : Int) ≤ 9223372036854775807)) <|
  some (.inl (v1 + 1))
 else
  some (.inr v1)) v).bind fun (v2 : Int) =>
  if v2 = c0_0 then
  some (true, q0)
 else
  chk (0 ≤ v2) <|
  if iand (gone / 2 ^ v2.toNat) 1 = 0 then
  chk ((0 ≤ v2 ∧ v2 ≤ 62)) <|
  (onf [v2] (ior gone (2 ^ v2.toNat : Int)) v2 e0 d0_0 d0_1 d1 e3_0 e3_1 q0).bind fun y =>
  some (y.1, y.2)
 else
  some (false, q0)

noncomputable def links_Ways_1 : Nat → (List Int) → Int → Int → Int → Int → (List (Int × Int)) → Int → Int → (List (Int × Int)) → (List (List Int)) → Option (Bool × List (List Int))
  | 0, _, _, _, _, _, _, _, _, _, _ => none
  | fuel + 1, way, a1, a2, c0, d0_0, d0_1, d1, c3_0, c3_1, q0 =>
  chk ((-9223372036854775808 ≤ ((way.length : Int) - 1 : Int) ∧ ((way.length : Int) - 1 : Int) ≤ 9223372036854775807) ∧ (0 ≤ (way.length : Int) - 1 ∧ (way.length : Int) - 1 < way.length)) <|
  joinM (fun (q01 : List (List Int)) =>
  (loopM (ρ := (List (List Int)) ⊕ (Bool × List (List Int))) (fun ((q02, v) : List (List Int) × Int) =>
  if v < c3_0 then
  chk (0 ≤ v) <|
  (if ¬ (iand (a1 / 2 ^ v.toNat) 1 = 1) then slices_Contains_api_Edge_api_Edge c3_1 (way.getD ((way.length : Int) - 1).toNat 0) v else some false).bind fun y1 =>
  if (iand (a1 / 2 ^ v.toNat) 1 = 1 ∨ ¬ (y1 = true)) then
  some (.inl (q02, v + 1))
 else
  chk ((way.length ≤ 17592186044416)) <|
  chk (((way ++ [v]).length ≤ 8796093022208)) <|
  chk ((0 ≤ v ∧ v ≤ 62)) <|
  (links_Ways_1 fuel (way ++ [v]) (ior a1 (2 ^ v.toNat : Int)) a2 c0 d0_0 d0_1 d1 c3_0 c3_1 q02).bind fun y2 =>
  if y2.1 = true then
  some (.inr (.inr (true, y2.2)))
 else
  some (.inl (y2.2, v + 1))
 else
  some (.inr (.inl q02))) (q01, 0)).bind fun z => match z with
  | .inl q03 => (some (false, q03))
  | .inr rr => some rr) fun j =>
  chk (0 ≤ way.getD ((way.length : Int) - 1).toNat 0) <|
  if iand (c0 / 2 ^ (way.getD ((way.length : Int) - 1).toNat 0).toNat) 1 = 1 then
  chk ((way.length ≤ 17592186044416)) <|
  chk (((q0 ++ [way]).length ≤ 1099511627776)) <|
  chk ((-9223372036854775808 ≤ (a2 + 1 : Int) ∧ (a2 + 1 : Int) ≤ 9223372036854775807)) <|
  (links_Ways_2 (links_Ways_1 fuel) (a2 + 1) a1 d0_0 d0_1 d1 c0 d0_0 d0_1 d1 c3_0 c3_1 (q0 ++ [way])).bind fun y =>
  if y.1 = true then
  some (true, y.2)
 else
  chk ((-9223372036854775808 ≤ (((y.2).length : Int) - 1 : Int) ∧ (((y.2).length : Int) - 1 : Int) ≤ 9223372036854775807) ∧ (0 ≤ ((y.2).length : Int) - 1 ∧ ((y.2).length : Int) - 1 ≤ ((y.2).length))) <|
  j (List.take ((((y.2).length : Int) - 1).toNat) y.2)
 else
  j q0

noncomputable def links_Ways (g_0 : Int) (g_1 : List (Int × Int)) (from0 : Int) (to : Int) : Option (List (List Int) × Int) :=
  (links_right g_0 g_1 [from0, to]).bind fun y =>
  if y ≠ 0 then
  some ([], y)
 else
  (links_Ways_2 (links_Ways_1 20) 0 0 g_0 g_1 from0 to g_0 g_1 from0 g_0 g_1 []).bind fun y1 =>
  if ¬ (y1.1 = true) then
  some ([], 5)
 else
  some (y1.2, 0)

end Go.SH
