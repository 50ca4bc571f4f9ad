/-
  A game of joining and cutting: who wins, by the edges that are free. Conditions: none.
-/
import Derived.Test.YthofnmjokdjppaaLM
set_option linter.unusedSimpArgs false
set_option linter.unusedVariables false
namespace Go.SH
open Go Go.AX

/-- The edges that are neither joined nor cut. -/
def Fr (m J C : Nat) : Nat := dif (2 ^ m - 1) (J ||| C)
theorem testBit_Fr (m J C i : Nat) : (Fr m J C).testBit i = (decide (i < m) && !(J.testBit i || C.testBit i)) := by
  rw [Fr, testBit_dif, Nat.testBit_two_pow_sub_one, Nat.testBit_or]
theorem Fr_lt (m J C : Nat) : Fr m J C < 2 ^ m := dif_lt (by have := Nat.two_pow_pos m; omega)
theorem Fr_J (m J C i : Nat) : Fr m (J ||| 2 ^ i) C = dif (Fr m J C) (2 ^ i) := by
  apply Nat.eq_of_testBit_eq
  intro j
  simp only [testBit_Fr, testBit_dif, Nat.testBit_or]
  cases decide (j < m) <;> cases J.testBit j <;> cases C.testBit j <;> cases (2 ^ i).testBit j <;> rfl
theorem Fr_C (m J C i : Nat) : Fr m J (C ||| 2 ^ i) = dif (Fr m J C) (2 ^ i) := by
  apply Nat.eq_of_testBit_eq
  intro j
  simp only [testBit_Fr, testBit_dif, Nat.testBit_or]
  cases decide (j < m) <;> cases J.testBit j <;> cases C.testBit j <;> cases (2 ^ i).testBit j <;> rfl
theorem Fr_cJ {m J C i k : Nat} (hi : (Fr m J C).testBit i = true) (hk : cnt m (Fr m J C) = k + 1) : cnt m (Fr m (J ||| 2 ^ i) C) = k := by
  rw [Fr_J]
  have := cnt_dif (Fr_lt m J C) hi
  omega
theorem Fr_cC {m J C i k : Nat} (hi : (Fr m J C).testBit i = true) (hk : cnt m (Fr m J C) = k + 1) : cnt m (Fr m J (C ||| 2 ^ i)) = k := by
  rw [Fr_C]
  have := cnt_dif (Fr_lt m J C) hi
  omega
theorem Fr_none {m J C : Nat} (h : cnt m (Fr m J C) = 0) : Inc (dif (2 ^ m - 1) C) J := fun i hi => by
  rw [testBit_dif, Nat.testBit_two_pow_sub_one, Bool.and_eq_true, decide_eq_true_eq] at hi
  cases hJ : J.testBit i with
  | true => rfl
  | false =>
    have hf : (Fr m J C).testBit i = true := by
      rw [testBit_Fr, hJ]
      have h2 := hi.2
      simp only [Bool.not_eq_true'] at h2
      simp [hi.1, h2]
    have := cnt_pos (Fr_lt m J C) hf
    omega
theorem inc_orG (J i : Nat) : Inc J (J ||| 2 ^ i) := fun j hj => by rw [Nat.testBit_or, hj]; rfl
theorem Fr_sub {m J C i j : Nat} (h : (dif (Fr m J C) (2 ^ i)).testBit j = true) : (Fr m J C).testBit j = true ∧ i ≠ j := by
  rw [testBit_dif, testBit_pow, Bool.and_eq_true] at h
  refine ⟨h.1, fun e => ?_⟩
  have := h.2
  simp [e] at this
theorem Fr_keep {m J C i j : Nat} (h : (Fr m J C).testBit j = true) (hij : i ≠ j) : (dif (Fr m J C) (2 ^ i)).testBit j = true := dif_self_pow h hij
theorem or_swap (J i j : Nat) : J ||| 2 ^ i ||| 2 ^ j = J ||| 2 ^ j ||| 2 ^ i := by rw [Nat.or_assoc, Nat.or_assoc, Nat.or_comm (2 ^ i)]

/-- Who moves is told by a truth value: the joiner. -/
def Win (H : Nat → Prop) (m : Nat) : Nat → Nat → Nat → Bool → Prop
  | 0, J, _, _ => H J
  | k + 1, J, C, true => H J ∨ (H (dif (2 ^ m - 1) C) ∧ ∃ i, (Fr m J C).testBit i = true ∧ Win H m k (J ||| 2 ^ i) C false)
  | k + 1, J, C, false => H J ∨ (H (dif (2 ^ m - 1) C) ∧ ∀ i, (Fr m J C).testBit i = true → Win H m k J (C ||| 2 ^ i) true)
theorem win_H {H : Nat → Prop} {m k J C : Nat} {w : Bool} (h : H J) : Win H m k J C w := by
  cases k with
  | zero => exact h
  | succ k => cases w <;> exact .inl h

/-- One edge more never harms the joiner; nor does to be on the move. -/
theorem win_both {H : Nat → Prop} {m : Nat} (hH : ∀ a b, Inc a b → H a → H b) : ∀ (k J C : Nat), cnt m (Fr m J C) = k →
    (∀ w i, (Fr m J C).testBit i = true → Win H m k J C w → Win H m (k - 1) (J ||| 2 ^ i) C w) ∧ (Win H m k J C false → Win H m k J C true) := by
  intro k
  induction k with
  | zero =>
    intro J C hk
    exact ⟨fun w i hi _ => absurd (cnt_pos (Fr_lt m J C) hi) (by omega), fun h => h⟩
  | succ k ih =>
    intro J C hk
    have last : ∀ i, k = 0 → (Fr m J C).testBit i = true → H (dif (2 ^ m - 1) C) → H (J ||| 2 ^ i) := fun i h0 hi hA => by
      subst h0
      exact hH _ _ (Fr_none (Fr_cJ hi hk)) hA
    have tail : ∀ (i : Nat) (k' : Nat), k = k' + 1 → (Fr m J C).testBit i = true → (∀ j, (Fr m J C).testBit j = true → Win H m k J (C ||| 2 ^ j) true) → ∀ j, (Fr m (J ||| 2 ^ i) C).testBit j = true → Win H m k' (J ||| 2 ^ i) (C ||| 2 ^ j) true := by
      intro i k' e hi hall j hj
      subst e
      rw [Fr_J] at hj
      obtain ⟨hj0, hij⟩ := Fr_sub hj
      exact (ih J (C ||| 2 ^ j) (Fr_cC hj0 hk)).1 true i (by rw [Fr_C]; exact Fr_keep hi (Ne.symm hij)) (hall j hj0)
    refine ⟨fun w i hi h => ?_, fun h => ?_⟩
    · show Win H m k (J ||| 2 ^ i) C w
      have hki := Fr_cJ hi hk
      cases w with
      | true =>
        rcases h with h | ⟨hA, j, hj, hw⟩
        · exact win_H (hH _ _ (inc_orG J i) h)
        · by_cases e : i = j
          · subst e; exact (ih _ C hki).2 hw
          · cases k with
            | zero =>
              have : (Fr m (J ||| 2 ^ i) C).testBit j = true := by rw [Fr_J]; exact Fr_keep hj e
              exact absurd (cnt_pos (Fr_lt m _ C) this) (by omega)
            | succ k' =>
              refine .inr ⟨hA, j, by rw [Fr_J]; exact Fr_keep hj e, ?_⟩
              have := (ih (J ||| 2 ^ j) C (Fr_cJ hj hk)).1 false i (by rw [Fr_J]; exact Fr_keep hi (Ne.symm e)) hw
              rw [or_swap]; exact this
      | false =>
        rcases h with h | ⟨hA, hall⟩
        · exact win_H (hH _ _ (inc_orG J i) h)
        · cases k with
          | zero => exact last i rfl hi hA
          | succ k' => exact .inr ⟨hA, tail i k' rfl hi hall⟩
    · rcases h with h | ⟨hA, hall⟩
      · exact .inl h
      · obtain ⟨i, hi⟩ := exists_bit (c := Fr m J C) (fun e => by rw [e, cnt_zero] at hk; omega)
        refine .inr ⟨hA, i, hi, ?_⟩
        cases k with
        | zero => exact last i rfl hi hA
        | succ k' => exact .inr ⟨hA, tail i k' rfl hi hall⟩

/-! ### what hangs together -/
def hA (E : List (Int × Int)) (k : Nat) : Nat := (E.getD k (0, 0)).1.toNat
def hB (E : List (Int × Int)) (k : Nat) : Nat := (E.getD k (0, 0)).2.toNat
def hst (E : List (Int × Int)) (J u k : Nat) : Nat := if J.testBit k = true ∧ (u.testBit (hA E k) = true ∨ u.testBit (hB E k) = true) then u ||| (2 ^ hA E k ||| 2 ^ hB E k) else u
def hps (E : List (Int × Int)) (J u : Nat) : Nat → Nat
  | 0 => u
  | k + 1 => hst E J (hps E J u k) k
def hrn (E : List (Int × Int)) (J u : Nat) : Nat → Nat
  | 0 => u
  | k + 1 => hps E J (hrn E J u k) E.length
def Hang (N : Nat) (E : List (Int × Int)) (s t J : Nat) : Prop := (hrn E J (2 ^ s) N).testBit t = true
theorem hst_mono {E : List (Int × Int)} {J K u v : Nat} (k : Nat) (h : Inc J K) (hu : Inc u v) : Inc (hst E J u k) (hst E K v k) := fun i hi => by
  unfold hst at hi ⊢
  split at hi
  · rename_i c
    rw [if_pos ⟨h k c.1, c.2.imp (hu _) (hu _)⟩]
    rw [Nat.testBit_or, Bool.or_eq_true] at hi ⊢
    exact hi.imp (hu i) id
  · split
    · rw [Nat.testBit_or, hu i hi]; rfl
    · exact hu i hi
theorem hps_mono {E : List (Int × Int)} {J K u v : Nat} (h : Inc J K) (hu : Inc u v) : ∀ k, Inc (hps E J u k) (hps E K v k)
  | 0 => hu
  | k + 1 => hst_mono k h (hps_mono h hu k)
theorem hrn_mono {E : List (Int × Int)} {J K u : Nat} (h : Inc J K) : ∀ k, Inc (hrn E J u k) (hrn E K u k)
  | 0 => fun _ hi => hi
  | k + 1 => hps_mono h (hrn_mono h k) _
theorem Hang_mono {N : Nat} {E : List (Int × Int)} {s t : Nat} (a b : Nat) (h : Inc a b) (ha : Hang N E s t a) : Hang N E s t b := hrn_mono h N t ha
end Go.SH
