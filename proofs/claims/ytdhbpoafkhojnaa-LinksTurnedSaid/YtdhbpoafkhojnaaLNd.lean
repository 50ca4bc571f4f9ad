/-
  The network turned round; one more to start from. Conditions: none.
-/
import Derived.Test.YtdhbpoafkhojnaaLNb
set_option linter.unusedSimpArgs false
set_option linter.unusedVariables false
namespace Go.SH
open Go Go.AX

def ph (i : Nat) : Nat := if i % 2 = 0 then i + 1 else i - 1
theorem ph_ph (i : Nat) : ph (ph i) = i := by unfold ph; split <;> split <;> omega
theorem ph_lt {q i : Nat} (h : i < 2 * q) : ph i < 2 * q := by unfold ph; split <;> omega
theorem sm_ph (f : Nat → Int) : ∀ q, sm (2 * q) (fun i => f (ph i)) = sm (2 * q) f
  | 0 => rfl
  | q + 1 => by
    have e : 2 * (q + 1) = 2 * q + 1 + 1 := by omega
    rw [e]
    show sm (2 * q) (fun i => f (ph i)) + f (ph (2 * q)) + f (ph (2 * q + 1)) = sm (2 * q) f + f (2 * q) + f (2 * q + 1)
    rw [sm_ph f q, show ph (2 * q) = 2 * q + 1 by unfold ph; rw [if_pos (by omega)], show ph (2 * q + 1) = 2 * q by unfold ph; rw [if_neg (by omega)]; omega]
    omega
theorem out_turn {q : Nat} {p r : Nat → Nat → Int} (h : ∀ i, i < 2 * q → ∀ j, j < 2 * q → r (ph j) (ph i) = p i j) (S : Nat → Bool) : outS (2 * q) r (fun x => !(S (ph x))) = outS (2 * q) p S := by
  unfold outS
  rw [← sm_ph]
  have e : ∀ (g : Nat → Nat → Int), sm (2 * q) (fun i => if S i = true then sm (2 * q) (fun j => if S j = true then 0 else g i j) else 0) = sm (2 * q) (fun i => sm (2 * q) (fun j => if S i = true ∧ S j = false then g i j else 0)) := fun g => sm_congr fun i _ => by
    by_cases c : S i = true
    · rw [if_pos c]
      exact sm_congr fun j _ => by cases d : S j <;> simp [c, d]
    · rw [if_neg c, sm_zero fun j _ => if_neg fun w => c w.1]
  rw [e p, sm_comm]
  refine sm_congr fun i hi => ?_
  simp only [ph_ph]
  by_cases c : S i = true
  · rw [if_neg (by simp [c]), sm_zero fun j _ => if_neg fun w => by rw [c] at w; cases w.2]
  · have c' : S i = false := by simpa using c
    rw [if_pos (by simp [c']), ← sm_ph]
    refine sm_congr fun j hj => ?_
    simp only [ph_ph]
    rw [h j hj i hi]
    cases d : S j <;> simp [c', d]
theorem lay_turn {E E' : List (Int × Int)} (hl : E'.length = E.length) (hab : ∀ k, k < E.length → hA E' k = hB E k ∧ hB E' k = hA E k) (s t N i j : Nat) : lay E' t s N E'.length (ph j) (ph i) = lay E s t N E.length i j := by
  have hD : (∃ e, e < E'.length ∧ ph j = 3 + 2 * hA E' e ∧ ph i = 2 + 2 * hB E' e) ↔ ∃ e, e < E.length ∧ i = 3 + 2 * hA E e ∧ j = 2 + 2 * hB E e := by
    rw [hl]
    refine exists_congr fun e => and_congr_right fun he => ?_
    obtain ⟨a, b⟩ := hab e he
    rw [a, b]
    unfold ph
    split <;> split <;> omega
  have hA' : (ph j % 2 = 0 ∧ 2 ≤ ph j ∧ ph i = ph j + 1 ∧ ph j < 2 + 2 * N) ↔ (i % 2 = 0 ∧ 2 ≤ i ∧ j = i + 1 ∧ i < 2 + 2 * N) := by unfold ph; split <;> split <;> omega
  have hB' : (ph j = 0 ∧ ph i % 2 = 0 ∧ 2 ≤ ph i ∧ ph i < 2 + 2 * N) ↔ (j = 1 ∧ i % 2 = 1 ∧ 3 ≤ i ∧ i < 3 + 2 * N) := by unfold ph; split <;> split <;> omega
  have hC' : (ph i = 1 ∧ ph j % 2 = 1 ∧ 3 ≤ ph j ∧ ph j < 3 + 2 * N) ↔ (i = 0 ∧ j % 2 = 0 ∧ 2 ≤ j ∧ j < 2 + 2 * N) := by unfold ph; split <;> split <;> omega
  unfold lay
  simp only [hA', hB', hC', hD]
  by_cases A : i % 2 = 0 ∧ 2 ≤ i ∧ j = i + 1 ∧ i < 2 + 2 * N
  · rw [if_pos A, if_pos A]
  · rw [if_neg A, if_neg A]
    by_cases B : i = 0 ∧ j % 2 = 0 ∧ 2 ≤ j ∧ j < 2 + 2 * N
    · rw [if_neg (show ¬ (j = 1 ∧ i % 2 = 1 ∧ 3 ≤ i ∧ i < 3 + 2 * N) by omega), if_pos B, if_pos B, show ph j / 2 - 1 = j / 2 - 1 by unfold ph; split <;> omega]
    · by_cases C : j = 1 ∧ i % 2 = 1 ∧ 3 ≤ i ∧ i < 3 + 2 * N
      · simp only [if_neg B, if_pos C, show ph i / 2 - 1 = i / 2 - 1 by unfold ph; split <;> omega]
      · simp only [if_neg B, if_neg C]
theorem bit_mono {s x v : Nat} : bitZ s v ≤ bitZ (s ||| 2 ^ x) v ∧ bitZ (s ||| 2 ^ x) v ≤ bitZ s v + (if v = x then 1 else 0) := by
  unfold bitZ
  rw [Nat.testBit_or, testBit_pow]
  by_cases c : s.testBit v = true
  · simp only [c, Bool.true_or, if_true]; split <;> omega
  · by_cases d : x = v
    · subst d; simp [c]
    · simp [c, d, Ne.symm d]
theorem lay_add (E : List (Int × Int)) (s t x k l i j : Nat) : lay E s t k l i j ≤ lay E (s ||| 2 ^ x) t k l i j ∧ lay E (s ||| 2 ^ x) t k l i j ≤ lay E s t k l i j + (if i = 0 ∧ j = 2 + 2 * x then 1 else 0) := by
  have pos : (0 : Int) ≤ if i = 0 ∧ j = 2 + 2 * x then 1 else 0 := by split <;> omega
  unfold lay
  by_cases A : i % 2 = 0 ∧ 2 ≤ i ∧ j = i + 1 ∧ i < 2 + 2 * k
  · rw [if_pos A, if_pos A]; omega
  · rw [if_neg A, if_neg A]
    by_cases B : i = 0 ∧ j % 2 = 0 ∧ 2 ≤ j ∧ j < 2 + 2 * k
    · rw [if_pos B, if_pos B]
      obtain ⟨h1, h2⟩ := bit_mono (s := s) (x := x) (v := j / 2 - 1)
      refine ⟨h1, Int.le_trans h2 ?_⟩
      by_cases d : j / 2 - 1 = x
      · rw [if_pos d, if_pos ⟨B.1, by omega⟩]; omega
      · rw [if_neg d]; omega
    · rw [if_neg B, if_neg B]
      by_cases C : j = 1 ∧ i % 2 = 1 ∧ 3 ≤ i ∧ i < 3 + 2 * k
      · rw [if_pos C]; exact ⟨Int.le_refl _, Int.le_add_of_nonneg_right pos⟩
      · rw [if_neg C]; exact ⟨Int.le_refl _, Int.le_add_of_nonneg_right pos⟩
theorem out_mono {m : Nat} {p r : Nat → Nat → Int} (h : ∀ i j, p i j ≤ r i j) (S : Nat → Bool) : outS m p S ≤ outS m r S := sm_le fun i _ => by
  split
  · exact sm_le fun j _ => by
      split
      · exact Int.le_refl _
      · exact h i j
  · exact Int.le_refl _
theorem out_add {m y : Nat} {p r : Nat → Nat → Int} (hm : 0 < m) (hy : y < m) (h : ∀ i j, r i j ≤ p i j + (if i = 0 ∧ j = y then 1 else 0)) (S : Nat → Bool) : outS m r S ≤ outS m p S + 1 := by
  have one : sm m (fun i => sm m (fun j => if i = 0 ∧ j = y then (1 : Int) else 0)) = 1 := by
    rw [sm_one (k := 0) hm fun i _ hne => sm_zero fun j _ => if_neg fun w => hne w.1, sm_one (k := y) hy fun j _ hne => if_neg fun w => hne w.2]
    simp
  rw [← one]
  unfold outS
  rw [← sm_add]
  refine sm_le fun i _ => ?_
  have nn : 0 ≤ sm m (fun j => if i = 0 ∧ j = y then (1 : Int) else 0) := sm_nn fun j _ => by split <;> omega
  split
  · rw [← sm_add]
    refine sm_le fun j _ => ?_
    split
    · split <;> omega
    · exact h i j
  · omega
end Go.SH
