/-
 MACAULAY: of a degree more there are no more monomials than the numbers of one degree let. Conditions: up to 70 monomials, degrees up to 7.
-/
import Derived.Test.YtlpikingpnenkaaLMb
set_option linter.unusedSimpArgs false
set_option linter.unusedVariables false
namespace Go.SH
open Go Go.AX
/-! ### pressed as far as may be -/
/-- Closed under turning one of the others into x. -/
def Stb (x : Nat) (V : List Nat) (k : Nat) (S : (Nat → Nat) → Prop) : Prop := ∀ g, Mo V k g → S g → ∀ j, j ≠ x → 0 < g j → S (upd (upd g x (g x + 1)) j (g j - 1))
theorem cn_perm {V W : List Nat} (hp : V.Perm W) (hd : V.Nodup) (k : Nat) (S : (Nat → Nat) → Prop) : cn V k S = cn W k S := ms_perm hp hd k _
theorem pot_perm {x : Nat} {V W : List Nat} (hp : V.Perm W) (hd : V.Nodup) (k : Nat) (S : (Nat → Nat) → Prop) : pot x V k S = pot x W k S := ms_perm hp hd k _
theorem pot_le {x : Nat} {V : List Nat} {k : Nat} (hx : x ∈ V) (hd : V.Nodup) (S : (Nat → Nat) → Prop) : pot x V k S ≤ ms V k fun _ => k := by
 refine ms_leM hd fun g hg => ?_
 have := dg_le (g := g) hx
 have := hg.2
 split <;> omega
theorem press {x : Nat} {W : List Nat} {k : Nat} (hd : (x :: W).Nodup) : ∀ (n : Nat) (S T : (Nat → Nat) → Prop), (ms (x :: W) k fun _ => k) ≤ pot x (x :: W) k S + n → Ov (x :: W) k S T →
  ∃ S' T', cn (x :: W) k S' = cn (x :: W) k S ∧ cn (x :: W) (k + 1) T' = cn (x :: W) (k + 1) T ∧ Ov (x :: W) k S' T' ∧ Stb x (x :: W) k S' := by
 intro n
 induction n with
 | zero =>
  intro S T hn ho
  refine ⟨S, T, rfl, rfl, ho, fun g hg hS j hj h0 => Classical.byContradiction fun hno => ?_⟩
  have hjW : j ∈ W := by
   refine Classical.byContradiction fun q => ?_
   have := hg.1 j fun z => (List.mem_cons.1 z).elim hj q
   omega
  have hp : (x :: W).Perm (x :: j :: W.erase j) := (List.perm_cons_erase hjW).cons x
  have hd' := hp.nodup_iff.1 hd
  have h1 := Pr_pot hd' S ⟨g, hg.perm hp, hS, h0, hno⟩
  rw [← pot_perm hp hd, ← pot_perm hp hd] at h1
  have h2 := pot_le (x := x) (k := k) (List.mem_cons_self (a := x) (l := W)) hd (Pr x j S)
  omega
 | succ n ih =>
  intro S T hn ho
  by_cases hst : Stb x (x :: W) k S
  ·exact ⟨S, T, rfl, rfl, ho, hst⟩
  ·have hex : ∃ g j, Mo (x :: W) k g ∧ S g ∧ j ≠ x ∧ 0 < g j ∧ ¬ S (upd (upd g x (g x + 1)) j (g j - 1)) := Classical.byContradiction fun hno => hst fun g hg hS j hj h0 => Classical.byContradiction fun q => hno ⟨g, j, hg, hS, hj, h0, q⟩
   obtain ⟨g, j, hg, hS, hj, h0, hno⟩ := hex
   have hjW : j ∈ W := by
    refine Classical.byContradiction fun q => ?_
    have := hg.1 j fun z => (List.mem_cons.1 z).elim hj q
    omega
   have hp : (x :: W).Perm (x :: j :: W.erase j) := (List.perm_cons_erase hjW).cons x
   have hd' := hp.nodup_iff.1 hd
   have h1 := Pr_pot hd' S ⟨g, hg.perm hp, hS, h0, hno⟩
   rw [← pot_perm hp hd, ← pot_perm hp hd] at h1
   obtain ⟨S', T', a1, a2, a3, a4⟩ := ih (Pr x j S) (Pr x j T) (by omega) (Pr_Ov hd (Ne.symm hj) List.mem_cons_self (List.mem_cons_of_mem _ hjW) ho)
   refine ⟨S', T', ?_, ?_, a3, a4⟩
   ·rw [a1, cn_perm hp hd, Pr_cn (Ne.symm hj), ← cn_perm hp hd]
   ·rw [a2, cn_perm hp hd, Pr_cn (Ne.symm hj), ← cn_perm hp hd]
/-! ### numbers -/
/-- Both as tables. -/
def TM : List (List Nat) := [[0, 0, 0, 0, 0, 0, 0, 0, 0, 0, 0, 0, 0, 0, 0, 0, 0, 0, 0, 0, 0, 0, 0, 0, 0, 0, 0, 0, 0, 0, 0, 0, 0, 0, 0, 0, 0, 0, 0, 0, 0, 0, 0, 0, 0, 0, 0, 0, 0, 0, 0, 0, 0, 0, 0, 0, 0, 0, 0, 0, 0, 0, 0, 0, 0, 0, 0, 0, 0, 0, 0],
 [0, 1, 3, 6, 10, 15, 21, 28, 36, 45, 55, 66, 78, 91, 105, 120, 136, 153, 171, 190, 210, 231, 253, 276, 300, 325, 351, 378, 406, 435, 465, 496, 528, 561, 595, 630, 666, 703, 741, 780, 820, 861, 903, 946, 990, 1035, 1081, 1128, 1176, 1225, 1275, 1326, 1378, 1431, 1485, 1540, 1596, 1653, 1711, 1770, 1830, 1891, 1953, 2016, 2080, 2145, 2211, 2278, 2346, 2415, 2485],
 [0, 1, 2, 4, 5, 7, 10, 11, 13, 16, 20, 21, 23, 26, 30, 35, 36, 38, 41, 45, 50, 56, 57, 59, 62, 66, 71, 77, 84, 85, 87, 90, 94, 99, 105, 112, 120, 121, 123, 126, 130, 135, 141, 148, 156, 165, 166, 168, 171, 175, 180, 186, 193, 201, 210, 220, 221, 223, 226, 230, 235, 241, 248, 256, 265, 275, 286, 287, 289, 292, 296],
 [0, 1, 2, 3, 5, 6, 7, 9, 10, 12, 15, 16, 17, 19, 20, 22, 25, 26, 28, 31, 35, 36, 37, 39, 40, 42, 45, 46, 48, 51, 55, 56, 58, 61, 65, 70, 71, 72, 74, 75, 77, 80, 81, 83, 86, 90, 91, 93, 96, 100, 105, 106, 108, 111, 115, 120, 126, 127, 128, 130, 131, 133, 136, 137, 139, 142, 146, 147, 149, 152, 156],
 [0, 1, 2, 3, 4, 6, 7, 8, 9, 11, 12, 13, 15, 16, 18, 21, 22, 23, 24, 26, 27, 28, 30, 31, 33, 36, 37, 38, 40, 41, 43, 46, 47, 49, 52, 56, 57, 58, 59, 61, 62, 63, 65, 66, 68, 71, 72, 73, 75, 76, 78, 81, 82, 84, 87, 91, 92, 93, 95, 96, 98, 101, 102, 104, 107, 111, 112, 114, 117, 121, 126],
 [0, 1, 2, 3, 4, 5, 7, 8, 9, 10, 11, 13, 14, 15, 16, 18, 19, 20, 22, 23, 25, 28, 29, 30, 31, 32, 34, 35, 36, 37, 39, 40, 41, 43, 44, 46, 49, 50, 51, 52, 54, 55, 56, 58, 59, 61, 64, 65, 66, 68, 69, 71, 74, 75, 77, 80, 84, 85, 86, 87, 88, 90, 91, 92, 93, 95, 96, 97, 99, 100, 102],
 [0, 1, 2, 3, 4, 5, 6, 8, 9, 10, 11, 12, 13, 15, 16, 17, 18, 19, 21, 22, 23, 24, 26, 27, 28, 30, 31, 33, 36, 37, 38, 39, 40, 41, 43, 44, 45, 46, 47, 49, 50, 51, 52, 54, 55, 56, 58, 59, 61, 64, 65, 66, 67, 68, 70, 71, 72, 73, 75, 76, 77, 79, 80, 82, 85, 86, 87, 88, 90, 91, 92],
 [0, 1, 2, 3, 4, 5, 6, 7, 9, 10, 11, 12, 13, 14, 15, 17, 18, 19, 20, 21, 22, 24, 25, 26, 27, 28, 30, 31, 32, 33, 35, 36, 37, 39, 40, 42, 45, 46, 47, 48, 49, 50, 51, 53, 54, 55, 56, 57, 58, 60, 61, 62, 63, 64, 66, 67, 68, 69, 71, 72, 73, 75, 76, 78, 81, 82, 83, 84, 85, 86, 88]]
def TG : List (List Nat) := [[0, 0, 0, 0, 0, 0, 0, 0, 0, 0, 0, 0, 0, 0, 0, 0, 0, 0, 0, 0, 0, 0, 0, 0, 0, 0, 0, 0, 0, 0, 0, 0, 0, 0, 0, 0, 0, 0, 0, 0, 0, 0, 0, 0, 0, 0, 0, 0, 0, 0, 0, 0, 0, 0, 0, 0, 0, 0, 0, 0, 0, 0, 0, 0, 0, 0, 0, 0, 0, 0, 0],
 [0, 0, 1, 2, 3, 4, 5, 6, 7, 8, 9, 10, 11, 12, 13, 14, 15, 16, 17, 18, 19, 20, 21, 22, 23, 24, 25, 26, 27, 28, 29, 30, 31, 32, 33, 34, 35, 36, 37, 38, 39, 40, 41, 42, 43, 44, 45, 46, 47, 48, 49, 50, 51, 52, 53, 54, 55, 56, 57, 58, 59, 60, 61, 62, 63, 64, 65, 66, 67, 68, 69],
 [0, 0, 0, 1, 1, 2, 3, 3, 4, 5, 6, 6, 7, 8, 9, 10, 10, 11, 12, 13, 14, 15, 15, 16, 17, 18, 19, 20, 21, 21, 22, 23, 24, 25, 26, 27, 28, 28, 29, 30, 31, 32, 33, 34, 35, 36, 36, 37, 38, 39, 40, 41, 42, 43, 44, 45, 45, 46, 47, 48, 49, 50, 51, 52, 53, 54, 55, 55, 56, 57, 58],
 [0, 0, 0, 0, 1, 1, 1, 2, 2, 3, 4, 4, 4, 5, 5, 6, 7, 7, 8, 9, 10, 10, 10, 11, 11, 12, 13, 13, 14, 15, 16, 16, 17, 18, 19, 20, 20, 20, 21, 21, 22, 23, 23, 24, 25, 26, 26, 27, 28, 29, 30, 30, 31, 32, 33, 34, 35, 35, 35, 36, 36, 37, 38, 38, 39, 40, 41, 41, 42, 43, 44],
 [0, 0, 0, 0, 0, 1, 1, 1, 1, 2, 2, 2, 3, 3, 4, 5, 5, 5, 5, 6, 6, 6, 7, 7, 8, 9, 9, 9, 10, 10, 11, 12, 12, 13, 14, 15, 15, 15, 15, 16, 16, 16, 17, 17, 18, 19, 19, 19, 20, 20, 21, 22, 22, 23, 24, 25, 25, 25, 26, 26, 27, 28, 28, 29, 30, 31, 31, 32, 33, 34, 35],
 [0, 0, 0, 0, 0, 0, 1, 1, 1, 1, 1, 2, 2, 2, 2, 3, 3, 3, 4, 4, 5, 6, 6, 6, 6, 6, 7, 7, 7, 7, 8, 8, 8, 9, 9, 10, 11, 11, 11, 11, 12, 12, 12, 13, 13, 14, 15, 15, 15, 16, 16, 17, 18, 18, 19, 20, 21, 21, 21, 21, 21, 22, 22, 22, 22, 23, 23, 23, 24, 24, 25],
 [0, 0, 0, 0, 0, 0, 0, 1, 1, 1, 1, 1, 1, 2, 2, 2, 2, 2, 3, 3, 3, 3, 4, 4, 4, 5, 5, 6, 7, 7, 7, 7, 7, 7, 8, 8, 8, 8, 8, 9, 9, 9, 9, 10, 10, 10, 11, 11, 12, 13, 13, 13, 13, 13, 14, 14, 14, 14, 15, 15, 15, 16, 16, 17, 18, 18, 18, 18, 19, 19, 19],
 [0, 0, 0, 0, 0, 0, 0, 0, 1, 1, 1, 1, 1, 1, 1, 2, 2, 2, 2, 2, 2, 3, 3, 3, 3, 3, 4, 4, 4, 4, 5, 5, 5, 6, 6, 7, 8, 8, 8, 8, 8, 8, 8, 9, 9, 9, 9, 9, 9, 10, 10, 10, 10, 10, 11, 11, 11, 11, 12, 12, 12, 13, 13, 14, 15, 15, 15, 15, 15, 15, 16]]
def tM (k s : Nat) : Nat := (TM.getD k []).getD s 0
def tG (k s : Nat) : Nat := (TG.getD k []).getD s 0
theorem num0 : ((List.range 8).all fun k => (List.range 71).all fun s => (s == 0 || tM k (s - 1) ≤ tM k s) && (k == 0 || s + tM k (tG k s) ≤ tM k s) && tG k s ≤ s) = true := by kernel_rfl
theorem num2 : ((List.range 7).all fun k => (List.range 71).all fun b => (List.range (71 - b)).all fun a => k == 0 || tM k (tG k b) < a || a ≤ tG (k + 1) (a + b)) = true := by kernel_rfl
theorem num1 : ((List.range 71).all fun s => (s == 0 || tG 1 s == s - 1)) = true := by kernel_rfl
end Go.SH
