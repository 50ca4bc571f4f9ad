/-
  A matroid's ranks. Conditions: none.
-/
import Derived.Test.YthofnmjokdjppaaLRk
set_option linter.unusedSimpArgs false
set_option linter.unusedVariables false
namespace Go.SH
open Go Go.AX
theorem Mat.rkF {m : Nat} {B : List Nat} (h : Mat m B) : RkF (rk m B) where
  zero := h.rk_zero
  mono := fun s t hs => h.rk_mono hs
  step := fun s i => by
    rcases Nat.lt_or_ge i m with c | c
    · exact h.rk_step s c
    · refine rk_le.2 fun b hb => ?_
      have e : cnt m ((s ||| 2 ^ i) &&& b) = cnt m (s &&& b) := cnt_congr fun j hj => by
        rw [Nat.testBit_and, Nat.testBit_or, Nat.testBit_and, testBit_pow, decide_eq_false (by omega), Bool.or_false]
      rw [e]
      have := le_rk (m := m) (s := s) hb
      omega
  sub := h.rk_sub
theorem cnt8 {m s : Nat} (h8 : m ≤ 8) (hs : s < 2 ^ m) : cnt 8 s = cnt m s := cnt_of_lt hs h8
def cpl (m s : Nat) : Nat := dif (2 ^ m - 1) s
theorem full_bit (m i : Nat) : (2 ^ m - 1).testBit i = decide (i < m) := Nat.testBit_two_pow_sub_one m i
theorem cpl_bit (m s i : Nat) : (cpl m s).testBit i = (decide (i < m) && !s.testBit i) := by rw [cpl, testBit_dif, full_bit]
theorem full_lt (m : Nat) : 2 ^ m - 1 < 2 ^ m := by have : 0 < 2 ^ m := Nat.pow_pos (by omega); omega
theorem cpl_lt (m s : Nat) : cpl m s < 2 ^ m := dif_lt (full_lt m)
theorem cpl_cpl {m s : Nat} (h : s < 2 ^ m) : cpl m (cpl m s) = s := set_ext (cpl_lt _ _) h fun i hi => by
  rw [cpl_bit, cpl_bit]; simp [hi]
theorem cpl_cnt {m s : Nat} : cnt m (cpl m s) + cnt m s = m := by
  have h1 := cnt_split m (2 ^ m - 1) s
  have h2 : cnt m (2 ^ m - 1 &&& s) = cnt m s := cnt_congr fun i hi => by rw [Nat.testBit_and, full_bit]; simp [hi]
  have h3 : cnt m (2 ^ m - 1) = m := by
    have : ∀ k, k ≤ m → cnt k (2 ^ m - 1) = k := fun k => by
      induction k with
      | zero => intro _; rfl
      | succ k ih => intro hk; simp only [cnt]; rw [ih (by omega), full_bit]; simp [show k < m by omega]
    exact this m (Nat.le_refl _)
  unfold cpl
  omega
theorem and_cpl {m b s : Nat} (hb : b < 2 ^ m) : b &&& cpl m s = dif b s := by
  apply Nat.eq_of_testBit_eq; intro i
  rw [Nat.testBit_and, cpl_bit, testBit_dif]
  cases hi : b.testBit i with
  | false => rfl
  | true => simp [bit_lt hb hi]
theorem cpl_mono {m s t : Nat} (h : Inc s t) : Inc (cpl m t) (cpl m s) := fun i hi => by
  rw [cpl_bit, Bool.and_eq_true, Bool.not_eq_true'] at hi ⊢
  refine ⟨hi.1, ?_⟩
  cases q : s.testBit i with
  | false => rfl
  | true => rw [h i q] at hi; exact absurd hi.2 (by simp)
end Go.SH
