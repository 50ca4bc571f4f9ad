/-
 Numbers: f out of h where h is as MACAULAY lets: no hollow, of so many elements. Conditions: up to eight elements.
-/
import Derived.Test.YtlpikingpnenkaaLfK
set_option linter.unusedSimpArgs false
set_option linter.unusedVariables false
namespace Go.SH
open Go Go.AX
def BT : List (List Nat) := [[1], [1, 1], [1, 2, 1], [1, 3, 3, 1], [1, 4, 6, 4, 1], [1, 5, 10, 10, 5, 1], [1, 6, 15, 20, 15, 6, 1], [1, 7, 21, 35, 35, 21, 7, 1], [1, 8, 28, 56, 70, 56, 28, 8, 1]]
def bT (a k : Nat) : Nat := (BT.getD a []).getD k 0
theorem bT_eq : ∀ a k : Fin 9, bT a.val k.val = bin a.val k.val := by decide
/-- The number of faces of a size, out of the numbers h. -/
def fH (d : Nat) (h : List Nat) (i : Nat) : Nat := s0 (fun j => h.getD j 0 * bT (d - j) (i - j)) (i + 1)
def okU (d n : Nat) (h : List Nat) (k : Nat) : Bool := Nat.ble (fH d h (k - 1) * fH d h (k + 1) * ((k + 1) * (n - k + 1))) (fH d h k * fH d h k * (k * (n - k)))
/-- All that MACAULAY lets, one by one. -/
def chU (d n : Nat) : Nat → List Nat → Nat → Bool
 | 0, _, _ => true
 | f + 1, h, j => (List.range (tM j (h.getD j 0) + 1)).all fun x => okU d n (h ++ [x]) j && chU d n f (h ++ [x]) (j + 1)
theorem chU_tab : ((List.range 9).all fun n => (List.range (n + 1)).all fun d => chU d n (d - 1) [1, n - d] 1) = true := by kernel_rfl
theorem chU_ok {d n : Nat} (a : Nat → Nat) : ∀ (f j : Nat), chU d n f ((List.range (j + 1)).map a) j = true → 1 ≤ j → (∀ i, 1 ≤ i → i < j + f → a (i + 1) ≤ tM i (a i)) →
  ∀ k, j ≤ k → k < j + f → okU d n ((List.range (k + 2)).map a) k = true
 | 0, j, _, _, _, k, h1, h2 => by omega
 | f + 1, j, hc, hj, hm, k, h1, h2 => by
  have e : (List.range (j + 1)).map a ++ [a (j + 1)] = (List.range (j + 2)).map a := by rw [List.range_succ (n := j + 1), List.map_append]; rfl
  have eg : ((List.range (j + 1)).map a).getD j 0 = a j := by rw [List.getD_eq_getElem?_getD, List.getElem?_map, List.getElem?_range (by omega)]; rfl
  have h3 := List.all_eq_true.1 hc (a (j + 1)) (List.mem_range.2 (by rw [eg]; have := hm j hj (by omega); omega))
  rw [e, Bool.and_eq_true] at h3
  rcases Nat.lt_or_ge j k with q | q
  ·exact chU_ok a f (j + 1) h3.2 (by omega) (fun i hi hi2 => hm i hi (by omega)) k q (by omega)
  ·rw [show k = j by omega]; exact h3.1
theorem fH_map (a : Nat → Nat) {d k i : Nat} (hd : d ≤ 8) (hi : i < k) (h9 : i < 9) : fH d ((List.range k).map a) i = s0 (fun j => a j * bin (d - j) (i - j)) (i + 1) := by
 refine s0_congr fun j hj => ?_
 rw [List.getD_eq_getElem?_getD, List.getElem?_map, List.getElem?_range (by omega)]
 show a j * _ = _
 rw [bT_eq ⟨d - j, by omega⟩ ⟨i - j, by omega⟩]
/-- No hollow: for all numbers h that MACAULAY lets. -/
theorem no_hollow {d m : Nat} (a : Nat → Nat) (h0 : a 0 = 1) (h1 : a 1 + d ≤ m) (h8 : m ≤ 8) (hm : ∀ i, 1 ≤ i → i < d → a (i + 1) ≤ tM i (a i)) {f : Nat → Nat} (hf : ∀ i, i ≤ d → f i = s0 (fun j => a j * bin (d - j) (i - j)) (i + 1)) {k : Nat} (hk1 : 1 ≤ k) (hk : k < d) :
  f (k - 1) * f (k + 1) * ((k + 1) * (m - k + 1)) ≤ f k * f k * (k * (m - k)) := by
 have ht := List.all_eq_true.1 (List.all_eq_true.1 chU_tab (a 1 + d) (List.mem_range.2 (by omega))) d (List.mem_range.2 (by omega))
 have el : [1, a 1 + d - d] = (List.range (1 + 1)).map a := by
  rw [show a 1 + d - d = a 1 by omega]
  show _ = [a 0, a 1]
  rw [h0]
 rw [el] at ht
 have hu := chU_ok (d := d) (n := a 1 + d) a (d - 1) 1 ht (Nat.le_refl _) (fun i hi hi2 => hm i hi (by omega)) k hk1 (by omega)
 have hu2 := Nat.le_of_ble_eq_true hu
 rw [fH_map a (by omega) (by omega) (by omega), fH_map a (by omega) (by omega) (by omega), fH_map a (by omega) (by omega) (by omega), ← hf _ (by omega), ← hf _ (by omega), ← hf _ (by omega)] at hu2
 generalize f (k - 1) * f (k + 1) = Y at *
 generalize f k * f k = X at *
 obtain ⟨u, hu3⟩ : ∃ u, a 1 + d - k = u + 1 := ⟨a 1 + d - k - 1, by omega⟩
 obtain ⟨w, hw⟩ : ∃ w, m - k = u + 1 + w := ⟨m - k - (u + 1), by omega⟩
 rw [hu3] at hu2
 rw [hw]
 have e1 : Y * ((k + 1) * (u + 1 + 1)) = Y * (k + 1) * (u + 2) := by rw [Nat.mul_assoc]
 have e2 : X * (k * (u + 1)) = X * k * (u + 1) := by rw [Nat.mul_assoc]
 have e3 : Y * ((k + 1) * (u + 1 + w + 1)) = Y * (k + 1) * (u + 2 + w) := by rw [Nat.mul_assoc, show u + 1 + w + 1 = u + 2 + w by omega]
 have e4 : X * (k * (u + 1 + w)) = X * k * (u + 1 + w) := by rw [Nat.mul_assoc]
 rw [e1, e2] at hu2
 rw [e3, e4]
 generalize Y * (k + 1) = P at *
 generalize X * k = Q at *
 have h2 : P ≤ Q := by
  refine Nat.le_of_mul_le_mul_right (c := u + 1) (Nat.le_trans (Nat.mul_le_mul_left P (show u + 1 ≤ u + 2 by omega)) hu2) (by omega)
 have h3 := Nat.mul_le_mul_right w h2
 rw [Nat.mul_add P, Nat.mul_add Q]
 exact Nat.add_le_add hu2 h3
end Go.SH
