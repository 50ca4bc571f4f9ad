/-
  Functions of the program as plain functions: bits_OnesCount. By a program of mine (shal.py). Functions of the program as plain functions: kinds_CheckGraph. By a program of mine (shal.py). Functions of the program as plain functions: rotabig_trim, rotabig_words, rotabig_Int_give, rotabig_Int_SetInt64, rotabig_NewInt, rotabig_mul, rotabig_Int_Mul, rotabig_add, rotabig_cmp, rotabig_sub, rotabig_sum, rotabig_Int_Add, rotabig_twin, rotabig_Int_Neg, rotabig_small, rotabig_Int_Text, rotabig_Int_String. By a program of mine (shal.py). Functions of the program as plain functions: rotaref_Pick, rotaref_In, rotaref_All. By a program of mine (shal.py). Functions of the program as plain functions: slices_IndexFunc_api_Edge_api_Edge, slices_ContainsFunc_api_Edge_api_Edge. By a program of mine (shal.py). Functions of the program as plain functions: rotakeep_ringed_1, rotakeep_ringed, rotakeep_power, rotakeep_value. By a program of mine (shal.py). Functions of the program as plain functions: rotalaw_Same_int64. By a program of mine (shal.py). Functions of the program as plain functions: strconv_Itoa. By a program of mine (shal.py). Functions of the program as plain functions: tutte_parted_1, tutte_parted, tutte_size, tutte_Chromatic. By a program of mine (shal.py).  Conditions: none.
-/
import Derived.Test.YtlpikingpnenkaaDoorAxN
import Derived.Test.YtlpikingpnenkaaDoorAxBg
import Derived.Lib.ItoaNum
import Derived.Lib.BitFns
import Derived.Lib.TrailingZeros

set_option linter.unusedVariables false
set_option linter.unusedSimpArgs false
namespace Go.SH
open Go Go.AX

def oc1 (x : Int) : Int := iand (x / 2 ^ 1) 6148914691236517205 + iand x 6148914691236517205
def oc2 (x : Int) : Int := iand (x / 2 ^ 2) 3689348814741910323 + iand x 3689348814741910323
def oc3 (x : Int) : Int := iand (x / 2 ^ 4 + x) 1085102592571150095
def oc4 (x : Int) : Int := x + x / 2 ^ 8
def oc5 (x : Int) : Int := x + x / 2 ^ 16
def oc6 (x : Int) : Int := x + x / 2 ^ 32
/-- How many bits stand. -/
def oc (x : Int) : Int := iand (oc6 (oc5 (oc4 (oc3 (oc2 (oc1 x)))))) 127
theorem oc1_bd {x : Int} (h : 0 ≤ x) : 0 ≤ oc1 x ∧ oc1 x ≤ 12297829382473034410 := by
  unfold oc1
  have h1 := iand_bd (a := x / 2 ^ 1) (b := 6148914691236517205) (by omega) (by omega)
  have h2 := iand_bd (a := x) (b := 6148914691236517205) (by omega) (by omega)
  omega
theorem oc2_bd {x : Int} (h : 0 ≤ x) : 0 ≤ oc2 x ∧ oc2 x ≤ 7378697629483820646 := by
  unfold oc2
  have h1 := iand_bd (a := x / 2 ^ 2) (b := 3689348814741910323) (by omega) (by omega)
  have h2 := iand_bd (a := x) (b := 3689348814741910323) (by omega) (by omega)
  omega
theorem oc3_bd {x : Int} (h : 0 ≤ x) : 0 ≤ oc3 x ∧ oc3 x ≤ 1085102592571150095 := by
  unfold oc3
  have h1 := iand_bd (a := x / 2 ^ 4 + x) (b := 1085102592571150095) (by omega) (by omega)
  omega
theorem oc4_bd {x : Int} (h : 0 ≤ x) (h' : x ≤ 1085102592571150095) : 0 ≤ oc4 x ∧ oc4 x ≤ 2170205185142300190 := by unfold oc4; omega
theorem oc5_bd {x : Int} (h : 0 ≤ x) (h' : x ≤ 2170205185142300190) : 0 ≤ oc5 x ∧ oc5 x ≤ 4340410370284600380 := by unfold oc5; omega
theorem oc6_bd {x : Int} (h : 0 ≤ x) (h' : x ≤ 4340410370284600380) : 0 ≤ oc6 x ∧ oc6 x ≤ 8680820740569200760 := by unfold oc6; omega
theorem oc_bd {x : Int} (h : 0 ≤ x) : 0 ≤ oc x ∧ oc x ≤ 127 := by
  have h1 := oc1_bd h
  have h2 := oc2_bd h1.1
  have h3 := oc3_bd h2.1
  have h4 := oc4_bd h3.1 h3.2
  have h5 := oc5_bd h4.1 h4.2
  have h6 := oc6_bd h5.1 h5.2
  have := iand_bd (a := oc6 (oc5 (oc4 (oc3 (oc2 (oc1 x)))))) (b := 127) h6.1 (by omega)
  exact ⟨this.1, this.2.2⟩
/-- bits.OnesCount. -/
def bits_OnesCount (x : Int) : Option Int := some (oc x)

end Go.SH

set_option linter.unusedVariables false
set_option linter.unusedSimpArgs false
namespace Go.SH
open Go Go.AX

noncomputable def kinds_CheckGraph (g_0 : Int) (g_1 : List (Int × Int)) : Option (Int) :=
  if ((g_0 < 1 ∨ 7 < g_0) ∨ 8 < (g_1.length : Int)) then
  some 1
 else
  (loopM (ρ := Unit ⊕ Int) (fun (v : Int) =>
  if v < (g_1.length : Int) then
  chk ((0 ≤ v ∧ v < g_1.length)) <|
  if ((((g_1.getD v.toNat (0, 0)).1 < 0 ∨ (g_1.getD v.toNat (0, 0)).2 < 0) ∨ g_0 ≤ (g_1.getD v.toNat (0, 0)).1) ∨ g_0 ≤ (g_1.getD v.toNat (0, 0)).2) then
  some (.inr (.inr 1))
 else
  some (.inl (v + 1))
 else
  some (.inr (.inl ()))) 0).bind fun z => match z with
  | .inl _ => (some 0)
  | .inr rr => some rr

end Go.SH

set_option linter.unusedVariables false
set_option linter.unusedSimpArgs false
namespace Go.SH
open Go Go.AX

noncomputable def rotabig_trim (a : List Int) : Option (List Int) :=
  (loopM (ρ := Int) (fun (n : Int) =>
  chk (((0 < n) → (-9223372036854775808 ≤ (n - 1 : Int) ∧ (n - 1 : Int) ≤ 9223372036854775807)) ∧ ((0 < n) → (0 ≤ n - 1 ∧ n - 1 < a.length))) <|
  if (0 < n ∧ a.getD (n - 1).toNat 0 = 0) then
  chk ((-9223372036854775808 ≤ (n - 1 : Int) ∧ (n - 1 : Int) ≤ 9223372036854775807)) <|
  some (.inl (n - 1))
 else
  some (.inr n)) (a.length : Int)).bind fun (n1 : Int) =>
  chk ((0 ≤ n1 ∧ n1 ≤ a.length)) <|
  some (List.take n1.toNat a)

noncomputable def rotabig_words (x : Int) : Option (List Int) :=
  (rotabig_trim [IntKind.wrap .u32 x, IntKind.wrap .u32 (x / 2 ^ 32)]).bind fun y =>
  some y

noncomputable def rotabig_Int_give (neg : Bool) (q0 : Bool × List Int) (a : List Int) : Option (Bool × List Int) :=
  some (decide ((neg = true ∧ 0 < (a.length : Int))), a)

noncomputable def rotabig_Int_SetInt64 (x : Int) (q0 : Bool × List Int) : Option (Bool × List Int) :=
  joinM (fun (u : Int) =>
  (rotabig_words u).bind fun y =>
  (rotabig_Int_give (decide (x < 0)) (q0.1, q0.2) y).bind fun y1 =>
  some (y1.1, y1.2)) fun j =>
  if x < 0 then
  j (IntKind.wrap .u64 (-(IntKind.wrap .u64 x)))
 else
  j (IntKind.wrap .u64 x)

noncomputable def rotabig_NewInt (x : Int) : Option (Bool × List Int) :=
  (rotabig_Int_SetInt64 x (false, [])).bind fun y =>
  some (y.1, y.2)

noncomputable def rotabig_mul (a : List Int) (a1 : List Int) : Option (List Int) :=
  if ((a.length : Int) = 0 ∨ (a1.length : Int) = 0) then
  some []
 else
  chk ((-9223372036854775808 ≤ ((a.length : Int) + (a1.length : Int) : Int) ∧ ((a.length : Int) + (a1.length : Int) : Int) ≤ 9223372036854775807) ∧ (0 ≤ (a.length : Int) + (a1.length : Int) ∧ (a.length : Int) + (a1.length : Int) ≤ 1099511627776)) <|
  (loopM (ρ := List Int) (fun ((v, v1) : List Int × Int) =>
  if v1 < (a.length : Int) then
  (loopM (ρ := List Int × Int) (fun ((v3, v4, v5) : List Int × Int × Int) =>
  if v5 < (a1.length : Int) then
  chk ((0 ≤ v1 ∧ v1 < a.length) ∧ (0 ≤ (a.getD v1.toNat 0 : Int) ∧ (a.getD v1.toNat 0 : Int) ≤ 18446744073709551615) ∧ (0 ≤ v5 ∧ v5 < a1.length) ∧ (0 ≤ (a1.getD v5.toNat 0 : Int) ∧ (a1.getD v5.toNat 0 : Int) ≤ 18446744073709551615) ∧ (0 ≤ ((a.getD v1.toNat 0) * (a1.getD v5.toNat 0) : Int) ∧ ((a.getD v1.toNat 0) * (a1.getD v5.toNat 0) : Int) ≤ 18446744073709551615) ∧ (-9223372036854775808 ≤ (v1 + v5 : Int) ∧ (v1 + v5 : Int) ≤ 9223372036854775807) ∧ (0 ≤ v1 + v5 ∧ v1 + v5 < v3.length) ∧ (0 ≤ (v3.getD (v1 + v5).toNat 0 : Int) ∧ (v3.getD (v1 + v5).toNat 0 : Int) ≤ 18446744073709551615) ∧ (0 ≤ (((a.getD v1.toNat 0) * (a1.getD v5.toNat 0)) + (v3.getD (v1 + v5).toNat 0) : Int) ∧ (((a.getD v1.toNat 0) * (a1.getD v5.toNat 0)) + (v3.getD (v1 + v5).toNat 0) : Int) ≤ 18446744073709551615) ∧ (0 ≤ (v4 + (((a.getD v1.toNat 0) * (a1.getD v5.toNat 0)) + (v3.getD (v1 + v5).toNat 0)) : Int) ∧ (v4 + (((a.getD v1.toNat 0) * (a1.getD v5.toNat 0)) + (v3.getD (v1 + v5).toNat 0)) : Int) ≤ 18446744073709551615)) <|
  chk ((-9223372036854775808 ≤ (v1 + v5 : Int) ∧ (v1 + v5 : Int) ≤ 9223372036854775807)) <|
  chk ((0 ≤ v1 + v5 ∧ v1 + v5 < v3.length)) <|
  some (.inl (v3.set (v1 + v5).toNat (IntKind.wrap .u32 (v4 + (((a.getD v1.toNat 0) * (a1.getD v5.toNat 0)) + (v3.getD (v1 + v5).toNat 0)))), (v4 + (((a.getD v1.toNat 0) * (a1.getD v5.toNat 0)) + (v3.getD (v1 + v5).toNat 0))) / 2 ^ 32, v5 + 1))
 else
  some (.inr (v3, v4))) (v, 0, 0)).bind fun ((v6, v7) : List Int × Int) =>
  chk ((-9223372036854775808 ≤ (v1 + (a1.length : Int) : Int) ∧ (v1 + (a1.length : Int) : Int) ≤ 9223372036854775807)) <|
  chk ((0 ≤ v1 + (a1.length : Int) ∧ v1 + (a1.length : Int) < v6.length)) <|
  some (.inl (v6.set (v1 + (a1.length : Int)).toNat (IntKind.wrap .u32 v7), v1 + 1))
 else
  some (.inr v)) (List.replicate ((a.length : Int) + (a1.length : Int)).toNat 0, 0)).bind fun (v2 : List Int) =>
  (rotabig_trim v2).bind fun y =>
  some y

noncomputable def rotabig_Int_Mul (q0 : Bool × List Int) (q1 : Bool × List Int) : Option ((Bool × List Int) × (Bool × List Int)) :=
  (rotabig_mul q0.2 q1.2).bind fun y1 =>
  (rotabig_Int_give (decide (¬ (q0.1 = true ↔ q1.1 = true))) (q0.1, q0.2) y1).bind fun y2 =>
  some ((y2.1, y2.2), (q1.1, q1.2))

noncomputable def rotabig_add (a : List Int) (b : List Int) : Option (List Int) :=
  joinM (fun ((a1, b1) : List Int × List Int) =>
  chk ((-9223372036854775808 ≤ ((a1.length : Int) + 1 : Int) ∧ ((a1.length : Int) + 1 : Int) ≤ 9223372036854775807) ∧ (0 ≤ (a1.length : Int) + 1 ∧ (a1.length : Int) + 1 ≤ 1099511627776)) <|
  (loopM (ρ := List Int × Int) (fun ((r1, c, i) : List Int × Int × Int) =>
  if i < (a1.length : Int) then
  chk ((0 ≤ i ∧ i < a1.length) ∧ (0 ≤ (a1.getD i.toNat 0 : Int) ∧ (a1.getD i.toNat 0 : Int) ≤ 18446744073709551615) ∧ (0 ≤ (c + (a1.getD i.toNat 0) : Int) ∧ (c + (a1.getD i.toNat 0) : Int) ≤ 18446744073709551615)) <|
  if i < (b1.length : Int) then
  chk ((0 ≤ i ∧ i < b1.length) ∧ (0 ≤ (b1.getD i.toNat 0 : Int) ∧ (b1.getD i.toNat 0 : Int) ≤ 18446744073709551615) ∧ (0 ≤ ((c + (a1.getD i.toNat 0)) + (b1.getD i.toNat 0) : Int) ∧ ((c + (a1.getD i.toNat 0)) + (b1.getD i.toNat 0) : Int) ≤ 18446744073709551615)) <|
  chk ((0 ≤ i ∧ i < r1.length)) <|
  some (.inl (r1.set i.toNat (IntKind.wrap .u32 ((c + (a1.getD i.toNat 0)) + (b1.getD i.toNat 0))), ((c + (a1.getD i.toNat 0)) + (b1.getD i.toNat 0)) / 2 ^ 32, i + 1))
 else
  chk ((0 ≤ i ∧ i < r1.length)) <|
  some (.inl (r1.set i.toNat (IntKind.wrap .u32 (c + (a1.getD i.toNat 0))), (c + (a1.getD i.toNat 0)) / 2 ^ 32, i + 1))
 else
  some (.inr (r1, c))) (List.replicate ((a1.length : Int) + 1).toNat 0, 0, 0)).bind fun ((r2, c1) : List Int × Int) =>
  chk ((0 ≤ (a1.length : Int) ∧ (a1.length : Int) < r2.length)) <|
  (rotabig_trim (r2.set (a1.length : Int).toNat (IntKind.wrap .u32 c1))).bind fun y =>
  some y) fun j =>
  if (a.length : Int) < (b.length : Int) then
  j (b, a)
 else
  j (a, b)

noncomputable def rotabig_cmp (a : List Int) (b : List Int) : Option (Int) :=
  if (a.length : Int) ≠ (b.length : Int) then
  if (a.length : Int) < (b.length : Int) then
  some (-1)
 else
  some 1
 else
  chk ((-9223372036854775808 ≤ ((a.length : Int) - 1 : Int) ∧ ((a.length : Int) - 1 : Int) ≤ 9223372036854775807)) <|
  (loopM (ρ := Unit ⊕ Int) (fun (i : Int) =>
  if 0 ≤ i then
  chk ((0 ≤ i ∧ i < a.length) ∧ (0 ≤ i ∧ i < b.length)) <|
  if a.getD i.toNat 0 ≠ b.getD i.toNat 0 then
  chk ((0 ≤ i ∧ i < a.length) ∧ (0 ≤ i ∧ i < b.length)) <|
  if a.getD i.toNat 0 < b.getD i.toNat 0 then
  some (.inr (.inr (-1)))
 else
  some (.inr (.inr 1))
 else
  chk ((-9223372036854775808 ≤ (i - 1 : Int) ∧ (i - 1 : Int) ≤ 9223372036854775807)) <|
  some (.inl (i - 1))
 else
  some (.inr (.inl ()))) ((a.length : Int) - 1)).bind fun z => match z with
  | .inl _ => (some 0)
  | .inr rr => some rr

noncomputable def rotabig_sub (a : List Int) (b : List Int) : Option (List Int) :=
  chk ((0 ≤ (a.length : Int) ∧ (a.length : Int) ≤ 1099511627776)) <|
  (loopM (ρ := List Int) (fun ((r1, c, i) : List Int × Int × Int) =>
  if i < (a.length : Int) then
  chk ((0 ≤ i ∧ i < a.length) ∧ (0 ≤ (a.getD i.toNat 0 : Int) ∧ (a.getD i.toNat 0 : Int) ≤ 18446744073709551615)) <|
  if i < (b.length : Int) then
  chk ((0 ≤ i ∧ i < b.length) ∧ (0 ≤ (b.getD i.toNat 0 : Int) ∧ (b.getD i.toNat 0 : Int) ≤ 18446744073709551615)) <|
  chk ((0 ≤ i ∧ i < r1.length)) <|
  some (.inl (r1.set i.toNat (IntKind.wrap .u32 (IntKind.wrap .u64 ((IntKind.wrap .u64 ((a.getD i.toNat 0) - c)) - (b.getD i.toNat 0)))), (IntKind.wrap .u64 ((IntKind.wrap .u64 ((a.getD i.toNat 0) - c)) - (b.getD i.toNat 0))) / 2 ^ 63, i + 1))
 else
  chk ((0 ≤ i ∧ i < r1.length)) <|
  some (.inl (r1.set i.toNat (IntKind.wrap .u32 (IntKind.wrap .u64 ((a.getD i.toNat 0) - c))), (IntKind.wrap .u64 ((a.getD i.toNat 0) - c)) / 2 ^ 63, i + 1))
 else
  some (.inr r1)) (List.replicate (a.length : Int).toNat 0, 0, 0)).bind fun (r2 : List Int) =>
  (rotabig_trim r2).bind fun y =>
  some y

noncomputable def rotabig_sum (xn : Bool) (xa : List Int) (yn : Bool) (ya : List Int) : Option (Bool × List Int) :=
  if (xn = true ↔ yn = true) then
  (rotabig_add xa ya).bind fun y =>
  some (xn, y)
 else
  (rotabig_cmp xa ya).bind fun y1 =>
  if 0 ≤ y1 then
  (rotabig_sub xa ya).bind fun y2 =>
  some (xn, y2)
 else
  (rotabig_sub ya xa).bind fun y3 =>
  some (yn, y3)

noncomputable def rotabig_Int_Add (q0 : Bool × List Int) (q1 : Bool × List Int) : Option ((Bool × List Int) × (Bool × List Int)) :=
  (rotabig_sum q0.1 q0.2 q1.1 q1.2).bind fun y1 =>
  (rotabig_Int_give y1.1 (q0.1, q0.2) y1.2).bind fun y2 =>
  some ((y2.1, y2.2), (q1.1, q1.2))

noncomputable def rotabig_twin (a : List Int) : Option (List Int) :=
  chk ((a.length ≤ 8796093022208)) <|
  some a

noncomputable def rotabig_Int_Neg (q0 : Bool × List Int) : Option (Bool × List Int) :=
  (rotabig_twin q0.2).bind fun y =>
  (rotabig_Int_give (decide (¬ (q0.1 = true))) (q0.1, q0.2) y).bind fun y1 =>
  some (y1.1, y1.2)

noncomputable def rotabig_small (a : List Int) (d : Int) : Option (List Int × Int) :=
  chk ((0 ≤ (a.length : Int) ∧ (a.length : Int) ≤ 1099511627776)) <|
  chk ((-9223372036854775808 ≤ ((a.length : Int) - 1 : Int) ∧ ((a.length : Int) - 1 : Int) ≤ 9223372036854775807)) <|
  (loopM (ρ := List Int × Int) (fun ((q, r1, i) : List Int × Int × Int) =>
  if 0 ≤ i then
  chk ((shlOk .u64 r1 32 = true) ∧ (0 ≤ i ∧ i < a.length) ∧ (0 ≤ (a.getD i.toNat 0 : Int) ∧ (a.getD i.toNat 0 : Int) ≤ 18446744073709551615)) <|
  chk ((0 ≤ (d : Int) ∧ (d : Int) ≤ 18446744073709551615) ∧ d ≠ 0 ∧ (0 ≤ (Int.tdiv (ior (r1 * (2 ^ 32 : Int)) (a.getD i.toNat 0)) d : Int) ∧ (Int.tdiv (ior (r1 * (2 ^ 32 : Int)) (a.getD i.toNat 0)) d : Int) ≤ 18446744073709551615)) <|
  chk ((0 ≤ i ∧ i < q.length)) <|
  chk ((0 ≤ (d : Int) ∧ (d : Int) ≤ 18446744073709551615) ∧ d ≠ 0) <|
  chk ((-9223372036854775808 ≤ (i - 1 : Int) ∧ (i - 1 : Int) ≤ 9223372036854775807)) <|
  some (.inl (q.set i.toNat (IntKind.wrap .u32 (Int.tdiv (ior (r1 * (2 ^ 32 : Int)) (a.getD i.toNat 0)) d)), Int.tmod (ior (r1 * (2 ^ 32 : Int)) (a.getD i.toNat 0)) d, i - 1))
 else
  some (.inr (q, r1))) (List.replicate (a.length : Int).toNat 0, 0, (a.length : Int) - 1)).bind fun ((q1, r2) : List Int × Int) =>
  (rotabig_trim q1).bind fun y =>
  some (y, IntKind.wrap .u32 r2)

noncomputable def rotabig_Int_Text (x_0 : Bool) (x_1 : List Int) (a1 : Int) : Option (List UInt8) :=
  if (x_1.length : Int) = 0 then
  some ([48] : List UInt8)
 else
  (rotabig_twin x_1).bind fun y =>
  (loopM (ρ := List Int) (fun ((v, v1) : List Int × List Int) =>
  if 0 < (v1.length : Int) then
  (rotabig_small v1 (IntKind.wrap .u32 a1)).bind fun y1 =>
  if y1.2 < 10 then
  chk ((0 ≤ (48 + y1.2 : Int) ∧ (48 + y1.2 : Int) ≤ 4294967295)) <|
  chk (((v ++ [IntKind.wrap .u8 (48 + y1.2)]).length ≤ 8796093022208)) <|
  some (.inl (v ++ [IntKind.wrap .u8 (48 + y1.2)], y1.1))
 else
  chk ((0 ≤ (97 + y1.2 : Int) ∧ (97 + y1.2 : Int) ≤ 4294967295)) <|
  chk (((v ++ [IntKind.wrap .u8 (IntKind.wrap .u32 ((97 + y1.2) - 10))]).length ≤ 8796093022208)) <|
  some (.inl (v ++ [IntKind.wrap .u8 (IntKind.wrap .u32 ((97 + y1.2) - 10))], y1.1))
 else
  some (.inr v)) ([], y)).bind fun (v2 : List Int) =>
  joinM (fun (v3 : List Int) =>
  chk ((-9223372036854775808 ≤ ((v3.length : Int) - 1 : Int) ∧ ((v3.length : Int) - 1 : Int) ≤ 9223372036854775807)) <|
  (loopM (ρ := List Int) (fun ((v4, v5, v6) : List Int × Int × Int) =>
  if v5 < v6 then
  chk ((0 ≤ v5 ∧ v5 < v4.length)) <|
  chk ((0 ≤ v6 ∧ v6 < v4.length) ∧ (0 ≤ v5 ∧ v5 < v4.length)) <|
  chk ((0 ≤ v6 ∧ v6 < v4.length)) <|
  chk ((-9223372036854775808 ≤ (v6 - 1 : Int) ∧ (v6 - 1 : Int) ≤ 9223372036854775807)) <|
  some (.inl ((v4.set v5.toNat (v4.getD v6.toNat 0)).set v6.toNat (v4.getD v5.toNat 0), v5 + 1, v6 - 1))
 else
  some (.inr v4)) (v3, 0, (v3.length : Int) - 1)).bind fun (v7 : List Int) =>
  some (bstr v7)) fun j =>
  if x_0 = true then
  chk (((v2 ++ [45]).length ≤ 8796093022208)) <|
  j (v2 ++ [45])
 else
  j v2

noncomputable def rotabig_Int_String (x_0 : Bool) (x_1 : List Int) : Option (List UInt8) :=
  (rotabig_Int_Text x_0 x_1 10).bind fun y =>
  some y

end Go.SH

set_option linter.unusedVariables false
set_option linter.unusedSimpArgs false
namespace Go.SH
open Go Go.AX

noncomputable def rotaref_Pick (k : Int) (n : Int) : Option (Int) :=
  if k < 0 then
  chk ((-9223372036854775808 ≤ (-(k + 1) : Int) ∧ (-(k + 1) : Int) ≤ 9223372036854775807)) <|
  chk (n ≠ 0) <|
  some (Int.tmod (-(k + 1)) n)
 else
  chk (n ≠ 0) <|
  some (Int.tmod k n)

noncomputable def rotaref_In (s : Int) (i : Int) : Option (Bool) :=
  chk (0 ≤ i) <|
  some (decide (Int.tmod (s / 2 ^ i.toNat) 2 = 1))

noncomputable def rotaref_All (n : Int) : Option (Int) :=
  chk ((0 ≤ n ∧ n ≤ 62) ∧ (-9223372036854775808 ≤ ((2 ^ n.toNat : Int) - 1 : Int) ∧ ((2 ^ n.toNat : Int) - 1 : Int) ≤ 9223372036854775807)) <|
  some ((2 ^ n.toNat : Int) - 1)

end Go.SH

set_option linter.unusedVariables false
set_option linter.unusedSimpArgs false
namespace Go.SH
open Go Go.AX

noncomputable def slices_IndexFunc_api_Edge_api_Edge (s : List (Int × Int)) (f : Int → Int → Option (Bool)) : Option (Int) :=
  (loopM (ρ := Unit ⊕ Int) (fun (v : Int) =>
  if v < (s.length : Int) then
  chk ((0 ≤ v ∧ v < s.length)) <|
  (f ((s.getD v.toNat (0, 0)).1) ((s.getD v.toNat (0, 0)).2)).bind fun y =>
  if y = true then
  some (.inr (.inr v))
 else
  some (.inl (v + 1))
 else
  some (.inr (.inl ()))) 0).bind fun z => match z with
  | .inl _ => (some (-1))
  | .inr rr => some rr

noncomputable def slices_ContainsFunc_api_Edge_api_Edge (s : List (Int × Int)) (f : Int → Int → Option (Bool)) : Option (Bool) :=
  (slices_IndexFunc_api_Edge_api_Edge s f).bind fun y =>
  some (decide (0 ≤ y))

end Go.SH

set_option linter.unusedVariables false
set_option linter.unusedSimpArgs false
namespace Go.SH
open Go Go.AX

noncomputable def rotakeep_ringed_1 (e_0 : Int) (e_1 : Int) (c0 : Int) (c1 : Int) : Option (Bool) :=
  (if e_1 = c0 then rotaref_In c1 e_0 else some false).bind fun y =>
  some (decide ((e_1 = c0 ∧ y = true)))

noncomputable def rotakeep_ringed (g_0 : Int) (g_1 : List (Int × Int)) : Option (Bool) :=
  (rotaref_All g_0).bind fun y =>
  (loopM (ρ := Int) (fun ((left, v) : Int × Int) =>
  if v < g_0 then
  (loopM (ρ := Int) (fun ((left2, v1) : Int × Int) =>
  if v1 < g_0 then
  (slices_ContainsFunc_api_Edge_api_Edge g_1 (fun x0 x1 => rotakeep_ringed_1 x0 x1 v1 left2)).bind fun y1 =>
  if ¬ (y1 = true) then
  chk ((0 ≤ v1 ∧ v1 ≤ 62)) <|
  some (.inl (iandnot left2 (2 ^ v1.toNat : Int), v1 + 1))
 else
  some (.inl (left2, v1 + 1))
 else
  some (.inr left2)) (left, 0)).bind fun (left3 : Int) =>
  some (.inl (left3, v + 1))
 else
  some (.inr left)) (y, 0)).bind fun (left1 : Int) =>
  some (decide (left1 ≠ 0))

noncomputable def rotakeep_power (a : Int) (b : Int) : Option (Int) :=
  (loopM (ρ := Int) (fun ((n, v) : Int × Int) =>
  if v < b then
  chk ((-9223372036854775808 ≤ (n * a : Int) ∧ (n * a : Int) ≤ 9223372036854775807)) <|
  some (.inl (n * a, v + 1))
 else
  some (.inr n)) (1, 0)).bind fun (n1 : Int) =>
  some n1

noncomputable def rotakeep_value (c : List Int) (at0 : Int) : Option (Bool × List Int) :=
  chk ((-9223372036854775808 ≤ ((c.length : Int) - 1 : Int) ∧ ((c.length : Int) - 1 : Int) ≤ 9223372036854775807)) <|
  (loopM (ρ := Bool × List Int) (fun ((sum, sum1, i) : Bool × List Int × Int) =>
  if 0 ≤ i then
  (rotabig_NewInt at0).bind fun y =>
  (rotabig_Int_Mul (sum, sum1) (y.1, y.2)).bind fun y1 =>
  chk ((0 ≤ i ∧ i < c.length)) <|
  (rotabig_NewInt (c.getD i.toNat 0)).bind fun y2 =>
  (rotabig_Int_Add (y1.1.1, y1.1.2) (y2.1, y2.2)).bind fun y3 =>
  chk ((-9223372036854775808 ≤ (i - 1 : Int) ∧ (i - 1 : Int) ≤ 9223372036854775807)) <|
  some (.inl (y3.1.1, y3.1.2, i - 1))
 else
  some (.inr (sum, sum1))) (false, [], (c.length : Int) - 1)).bind fun ((sum2, sum3) : Bool × List Int) =>
  some (sum2, sum3)

end Go.SH

set_option linter.unusedVariables false
set_option linter.unusedSimpArgs false
namespace Go.SH
open Go Go.AX

noncomputable def rotalaw_Same_int64 (a : List Int) (b : List Int) : Option (Bool) :=
  if (a.length : Int) ≠ (b.length : Int) then
  some false
 else
  (loopM (ρ := Unit ⊕ Bool) (fun (v : Int) =>
  if v < (a.length : Int) then
  chk ((0 ≤ v ∧ v < a.length) ∧ (0 ≤ v ∧ v < b.length)) <|
  if a.getD v.toNat 0 ≠ b.getD v.toNat 0 then
  some (.inr (.inr false))
 else
  some (.inl (v + 1))
 else
  some (.inr (.inl ()))) 0).bind fun z => match z with
  | .inl _ => (some true)
  | .inr rr => some rr

end Go.SH

set_option linter.unusedVariables false
set_option linter.unusedSimpArgs false
namespace Go.SH
open Go Go.AX

def strconv_Itoa (x : Int) : Option (List UInt8) :=
  chk (-9223372036854775808 ≤ x ∧ x ≤ 9223372036854775807) <|
  some (Go.Lib.itoa x)

end Go.SH

set_option linter.unusedVariables false
set_option linter.unusedSimpArgs false
namespace Go.SH
open Go Go.AX

noncomputable def tutte_parted_1 (v : Int) (c0 : List Int) : Option (Int) :=
  (loopM (ρ := Int) (fun (v1 : Int) =>
  chk ((0 ≤ v1 ∧ v1 < c0.length)) <|
  if c0.getD v1.toNat 0 ≠ v1 then
  chk ((0 ≤ v1 ∧ v1 < c0.length)) <|
  some (.inl (c0.getD v1.toNat 0))
 else
  some (.inr v1)) v).bind fun (v2 : Int) =>
  some v2

noncomputable def tutte_parted (g_0 : Int) (g_1 : List (Int × Int)) (s : Int) : Option (Int) :=
  chk ((0 ≤ g_0 ∧ g_0 ≤ 1099511627776)) <|
  (loopM (ρ := List Int) (fun ((root, v) : List Int × Int) =>
  if v < ((List.replicate g_0.toNat 0).length : Int) then
  chk ((0 ≤ v ∧ v < root.length)) <|
  some (.inl (root.set v.toNat v, v + 1))
 else
  some (.inr root)) (List.replicate g_0.toNat 0, 0)).bind fun (root1 : List Int) =>
  (loopM (ρ := Int) (fun ((root2, n, v1) : List Int × Int × Int) =>
  if v1 < (g_1.length : Int) then
  chk ((0 ≤ v1 ∧ v1 < g_1.length)) <|
  (tutte_parted_1 ((g_1.getD v1.toNat (0, 0)).1) root2).bind fun y =>
  (tutte_parted_1 ((g_1.getD v1.toNat (0, 0)).2) root2).bind fun y1 =>
  chk (0 ≤ v1) <|
  if (iand (s / 2 ^ v1.toNat) 1 = 1 ∧ y ≠ y1) then
  chk ((0 ≤ y ∧ y < root2.length)) <|
  chk ((-9223372036854775808 ≤ (n - 1 : Int) ∧ (n - 1 : Int) ≤ 9223372036854775807)) <|
  some (.inl (root2.set y.toNat y1, n - 1, v1 + 1))
 else
  some (.inl (root2, n, v1 + 1))
 else
  some (.inr n)) (root1, g_0, 0)).bind fun (n1 : Int) =>
  some n1

noncomputable def tutte_size (s : Int) : Option (Int) :=
  chk ((0 ≤ (s : Int) ∧ (s : Int) ≤ 18446744073709551615)) <|
  (bits_OnesCount s).bind fun y =>
  some y

noncomputable def tutte_Chromatic (g_0 : Int) (g_1 : List (Int × Int)) : Option (List Int × Int) :=
  (kinds_CheckGraph g_0 g_1).bind fun y =>
  if y ≠ 0 then
  some ([], y)
 else
  chk ((-9223372036854775808 ≤ (g_0 + 1 : Int) ∧ (g_0 + 1 : Int) ≤ 9223372036854775807) ∧ (0 ≤ g_0 + 1 ∧ g_0 + 1 ≤ 1099511627776)) <|
  chk ((0 ≤ (g_1.length : Int) ∧ (g_1.length : Int) ≤ 62)) <|
  (loopM (ρ := List Int) (fun ((out0, v) : List Int × Int) =>
  if v < (2 ^ (g_1.length : Int).toNat : Int) then
  (tutte_parted g_0 g_1 v).bind fun y1 =>
  chk ((0 ≤ y1 ∧ y1 < out0.length)) <|
  (tutte_size v).bind fun y2 =>
  chk ((-9223372036854775808 ≤ (2 * (Int.tmod y2 2) : Int) ∧ (2 * (Int.tmod y2 2) : Int) ≤ 9223372036854775807) ∧ (-9223372036854775808 ≤ (1 - (2 * (Int.tmod y2 2)) : Int) ∧ (1 - (2 * (Int.tmod y2 2)) : Int) ≤ 9223372036854775807) ∧ (-9223372036854775808 ≤ ((out0.getD y1.toNat 0) + (1 - (2 * (Int.tmod y2 2))) : Int) ∧ ((out0.getD y1.toNat 0) + (1 - (2 * (Int.tmod y2 2))) : Int) ≤ 9223372036854775807) ∧ (0 ≤ y1 ∧ y1 < out0.length)) <|
  some (.inl (out0.set y1.toNat ((out0.getD y1.toNat 0) + (1 - (2 * (Int.tmod y2 2)))), v + 1))
 else
  some (.inr out0)) (List.replicate (g_0 + 1).toNat 0, 0)).bind fun (out01 : List Int) =>
  some (out01, 0)

end Go.SH
