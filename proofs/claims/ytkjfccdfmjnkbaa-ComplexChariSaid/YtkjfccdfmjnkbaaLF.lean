/-
  Circuits, flats, hyperplanes of a matroid say which sets are independent. Plain: no program in sight. Conditions: none.
-/
import Derived.Test.YtkjfccdfmjnkbaaLC
set_option linter.unusedSimpArgs false
set_option linter.unusedVariables false
namespace Go.SH
open Go Go.AX

section
variable {m : Nat} {B : List Nat} (h : Mat m B)
include h
theorem Mat.dep_circ : ∀ (k s : Nat), cnt m s ≤ k → s < 2 ^ m → rk m B s ≠ cnt m s → ∃ C, C < 2 ^ m ∧ Circ m B C ∧ Inc C s := by
  intro k
  induction k with
  | zero =>
    intro s hk hs hd
    have := h.rk_size s
    omega
  | succ k ih =>
    intro s hk hs hd
    have hsz := h.rk_size s
    rcases Classical.em (∃ i, i < m ∧ s.testBit i = true ∧ rk m B (dif s (2 ^ i)) ≠ cnt m (dif s (2 ^ i))) with ⟨i, hi, hb, q⟩ | q
    · have hc := cnt_dif hs hb
      obtain ⟨C, c1, c2, c3⟩ := ih (dif s (2 ^ i)) (by omega) (dif_lt hs) q
      exact ⟨C, c1, c2, c3.trans (inc_dif _ _)⟩
    · refine ⟨s, hs, ⟨?_, fun i hi hb => ?_⟩, Inc.refl s⟩
      · have h0 : s ≠ 0 := by
          rintro rfl
          rw [h.rk_zero, cnt_zero] at hd; exact hd rfl
        obtain ⟨i, hb⟩ := exists_bit h0
        have hi := bit_lt hs hb
        have hc := cnt_dif hs hb
        have e : rk m B (dif s (2 ^ i)) = cnt m (dif s (2 ^ i)) := by
          rcases Classical.em (rk m B (dif s (2 ^ i)) = cnt m (dif s (2 ^ i))) with e | e
          · exact e
          · exact absurd ⟨i, hi, hb, e⟩ q
        have := h.rk_mono (inc_dif s (2 ^ i))
        omega
      · rcases Classical.em (rk m B (dif s (2 ^ i)) = cnt m (dif s (2 ^ i))) with e | e
        · exact e
        · exact absurd ⟨i, hi, hb, e⟩ q
theorem Mat.ind_circ {s : Nat} (hs : s < 2 ^ m) : rk m B s = cnt m s ↔ ¬ ∃ C, C < 2 ^ m ∧ Circ m B C ∧ Inc C s := by
  constructor
  · rintro e ⟨C, c1, c2, c3⟩
    have := (h.ind_iff c1).1 (((h.ind_iff hs).2 e).mono c3)
    have := c2.1
    omega
  · intro q
    rcases Classical.em (rk m B s = cnt m s) with e | e
    · exact e
    · exact absurd (h.dep_circ _ s (Nat.le_refl _) hs e) q
/-- An element that its set's others span. -/
theorem Mat.ind_span {s : Nat} (hs : s < 2 ^ m) : rk m B s = cnt m s ↔ ∀ i, s.testBit i = true → rk m B s ≠ rk m B (dif s (2 ^ i)) := by
  constructor
  · intro e i hi q
    have := cnt_dif hs hi
    have := h.rk_size (dif s (2 ^ i))
    omega
  · intro q
    rcases Classical.em (rk m B s = cnt m s) with e | e
    · exact e
    · exfalso
      obtain ⟨C, c1, c2, c3⟩ := h.dep_circ _ s (Nat.le_refl _) hs e
      have h0 : C ≠ 0 := by
        rintro rfl
        have := c2.1
        rw [h.rk_zero, cnt_zero] at this; omega
      obtain ⟨i, hb⟩ := exists_bit h0
      have hcd := cnt_dif c1 hb
      have e1 := c2.2 i (bit_lt c1 hb) hb
      have e2 := c2.1
      have hin : Inc (dif C (2 ^ i)) (dif s (2 ^ i)) := fun j hj => by
        rw [testBit_dif, Bool.and_eq_true] at hj ⊢
        exact ⟨c3 j hj.1, hj.2⟩
      have := h.rk_stay (i := i) hin (by rw [dif_or hb]; omega)
      rw [dif_or (c3 i hb)] at this
      exact q i (c3 i hb) this
theorem Mat.cl_flat {s c : Nat} (hs : s < 2 ^ m) (hc : IsCl m B s c) : Flat m B c := by
  intro i hi hf e
  have h1 := h.cl_rk hs hc
  have h2 := h.rk_mono (s := s ||| 2 ^ i) (t := c ||| 2 ^ i) (inc_or ((h.cl_inc hs hc).trans (inc_or_l _ _)) (inc_or_r _ _))
  have h3 := h.rk_mono (inc_or_l s (2 ^ i))
  have := (hc.2 i hi).2 (.inr (by omega))
  rw [hf] at this; cases this
/-- What flats around a set have together: its closure. -/
theorem Mat.cl_iff {s c i : Nat} (hs : s < 2 ^ m) (hc : IsCl m B s c) (hi : i < m) : c.testBit i = true ↔ ∀ F, F < 2 ^ m → Flat m B F → Inc s F → F.testBit i = true := by
  constructor
  · intro q F f1 f2 f3
    rcases (hc.2 i hi).1 q with e | e
    · exact f3 i e
    · cases hb : F.testBit i with
      | true => rfl
      | false => exact absurd (h.rk_stay f3 e) (f2 i hi hb)
  · intro q
    exact q c hc.1 (h.cl_flat hs hc) (h.cl_inc hs hc)
theorem Mat.full_rk : ∀ b, b ∈ B → cnt m b = rk m B (2 ^ m - 1) := fun b hb => by
  have hbm := h.lt b hb
  have hpos : 0 < 2 ^ m := Nat.pow_pos (by omega)
  have e1 := (h.ind_iff hbm).1 ⟨b, hb, Inc.refl b⟩
  have inb : ∀ s, s < 2 ^ m → Inc s (2 ^ m - 1) := fun s hs i hi => by
    have := bit_lt hs hi
    rw [Nat.testBit_two_pow_sub_one]; simpa using this
  have e2 := h.rk_mono (inb b hbm)
  obtain ⟨b', hb', e3⟩ := h.rk_mem (2 ^ m - 1)
  have e4 := cnt_le_of_inc (m := m) (inc_and_r (2 ^ m - 1) b')
  have := h.eqc b hb b' hb'
  omega
/-- What no hyperplane has within it is all's rank. -/
theorem Mat.span_iff {s : Nat} (hs : s < 2 ^ m) : rk m B s = rk m B (2 ^ m - 1) ↔ ¬ ∃ H, H < 2 ^ m ∧ Hyper m B H ∧ Inc s H := by
  have hpos : 0 < 2 ^ m := Nat.pow_pos (by omega)
  have inb : ∀ s, s < 2 ^ m → Inc s (2 ^ m - 1) := fun s hs i hi => by
    have := bit_lt hs hi
    rw [Nat.testBit_two_pow_sub_one]; simpa using this
  constructor
  · rintro e ⟨H, h1, h2, h3⟩
    have := h.rk_mono h3
    have := h2.1
    omega
  · intro q
    have hle := h.rk_mono (inb s hs)
    rcases Nat.lt_or_ge (rk m B s) (rk m B (2 ^ m - 1)) with c | c
    · exfalso
      obtain ⟨F, hF⟩ := h.cl_exists hs
      have hr := h.cl_rk hs hF
      have hfl := h.cl_flat hs hF
      have : F ≠ 2 ^ m - 1 := by
        rintro e
        rw [e] at hr; omega
      have : ¬ Inc (2 ^ m - 1) F := fun e => this (Inc.antisymm (inb F hF.1) e)
      obtain ⟨x, x1, x2⟩ := not_inc this
      have hx := bit_lt (m := m) (s := 2 ^ m - 1) (by omega) x1
      obtain ⟨H, h1, h2, h3, _⟩ := h.flat_out hF.1 hfl hx x2
      exact q ⟨H, h1, h2, (h.cl_inc hs hF).trans h3⟩
    · omega
/-- Bases: the least sets of all's rank. -/
theorem Mat.basis_iff {s : Nat} (hs : s < 2 ^ m) : s ∈ B ↔ rk m B s = rk m B (2 ^ m - 1) ∧ ∀ t, t < 2 ^ m → rk m B t = rk m B (2 ^ m - 1) → Inc t s → t = s := by
  constructor
  · intro hb
    have e1 := (h.ind_iff hs).1 ⟨s, hb, Inc.refl s⟩
    have e2 := h.full_rk s hb
    refine ⟨by omega, fun t ht e3 hi => ?_⟩
    have := h.rk_size t
    exact inc_eq_of_cnt (m := m) hi hs (by omega)
  · rintro ⟨e1, e2⟩
    obtain ⟨J, j1, j2, j3⟩ := h.rk_ind (s := s)
    have jm := j2.lt hs
    have e3 := (h.ind_iff jm).1 j1
    have := e2 J jm (by omega) j2
    subst this
    obtain ⟨b, hb, hin⟩ := j1
    have e4 := h.full_rk b hb
    rw [inc_eq_of_cnt (m := m) hin (h.lt b hb) (by omega)]
    exact hb
end
end Go.SH
