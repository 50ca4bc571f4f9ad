/-
  Flats meet in flats, and each is where hyperplanes meet; the statement AxiomsMeet as a plain law. Circuits, flats, hyperplanes of a matroid say which sets are independent. Plain: no program in sight.  Conditions: none.
-/
import Derived.Test.YtkjfccdfmjnkbaaLB

set_option linter.unusedSimpArgs false
set_option linter.unusedVariables false
namespace Go.SH
open Go Go.AX

theorem Flats_bad {n : Int} {l : List Int} {c : Int} (h : axioms_Check n l = some c) (h0 : c ≠ 0) : axioms_Flats n l = some ([], c) := by
  unfold axioms_Flats axioms_family
  rw [h]; simp [h0]
theorem Hyperplanes_bad {n : Int} {l : List Int} {c : Int} (h : axioms_Check n l = some c) (h0 : c ≠ 0) : axioms_Hyperplanes n l = some ([], c) := by
  unfold axioms_Hyperplanes axioms_family
  rw [h]; simp [h0]
def flats (m : Nat) (B : List Nat) : List Nat := (List.range (2 ^ m)).filter fun s => Flat m B s
def hypers (m : Nat) (B : List Nat) : List Nat := (List.range (2 ^ m)).filter fun s => Hyper m B s
theorem mem_flats {m : Nat} {B : List Nat} {s : Nat} : s ∈ flats m B ↔ s < 2 ^ m ∧ Flat m B s := by simp [flats]
theorem mem_hypers {m : Nat} {B : List Nat} {s : Nat} : s ∈ hypers m B ↔ s < 2 ^ m ∧ Hyper m B s := by simp [hypers]
theorem Flats_ok {m : Nat} {B : List Nat} (h : Mat m B) (hl : B.length ≤ 9223372036854775807) : axioms_Flats m (cs B) = some (cs (flats m B), 0) := by
  refine Gets.eq ((axioms_Flats_spec m (cs B) (by simpa using hl)).mono fun r hr => ?_)
  rcases hr with ⟨h1, m', B', q1, q2, _, q3⟩ | ⟨_, _, q⟩
  · have : m' = m := by omega
    subst this
    rw [← cs_inj q2] at q3
    exact Prod.ext q3 h1
  · exact absurd ⟨m, B, rfl, rfl, h⟩ q
theorem Hyperplanes_ok {m : Nat} {B : List Nat} (h : Mat m B) (hl : B.length ≤ 9223372036854775807) : axioms_Hyperplanes m (cs B) = some (cs (hypers m B), 0) := by
  refine Gets.eq ((axioms_Hyperplanes_spec m (cs B) (by simpa using hl)).mono fun r hr => ?_)
  rcases hr with ⟨h1, m', B', q1, q2, _, q3⟩ | ⟨_, _, q⟩
  · have : m' = m := by omega
    subst this
    rw [← cs_inj q2] at q3
    exact Prod.ext q3 h1
  · exact absurd ⟨m, B, rfl, rfl, h⟩ q

section
variable {m : Nat} {B : List Nat} (h : Mat m B)
include h
theorem Mat.flat_and {a b : Nat} (ha : Flat m B a) (hb : Flat m B b) : Flat m B (a &&& b) := by
  intro i hi hf e
  rw [Nat.testBit_and, Bool.and_eq_false_iff] at hf
  rcases hf with q | q
  · exact ha i hi q (h.rk_stay (inc_and_l a b) e)
  · exact hb i hi q (h.rk_stay (inc_and_r a b) e)
omit h in
theorem exists_set (m : Nat) (p : Nat → Bool) : ∃ c, c < 2 ^ m ∧ ∀ i, i < m → c.testBit i = p i := by
  induction m with
  | zero => exact ⟨0, by simp, fun i hi => by omega⟩
  | succ m ih =>
    obtain ⟨c, h1, h2⟩ := ih
    cases hp : p m with
    | false =>
      refine ⟨c, by rw [Nat.pow_succ]; omega, fun i hi => ?_⟩
      rcases Nat.lt_or_ge i m with q | q
      · exact h2 i q
      · have : i = m := by omega
        subst this; rw [hp]; exact bit_ge h1 (Nat.le_refl _)
    | true =>
      refine ⟨c ||| 2 ^ m, or_lt (by rw [Nat.pow_succ]; omega) (pow_lt (by omega)), fun i hi => ?_⟩
      rw [Nat.testBit_or, testBit_pow]
      rcases Nat.lt_or_ge i m with q | q
      · rw [h2 i q]; simp; omega
      · have : i = m := by omega
        subst this; simp [hp]
theorem Mat.cl_exists {s : Nat} (hs : s < 2 ^ m) : ∃ c, IsCl m B s c := by
  have _ := h
  obtain ⟨c, h1, h2⟩ := exists_set m fun i => s.testBit i || decide (rk m B (s ||| 2 ^ i) = rk m B s)
  exact ⟨c, h1, fun i hi => by rw [h2 i hi, Bool.or_eq_true, decide_eq_true_eq]⟩
theorem Mat.flat_out {F x : Nat} (hF : F < 2 ^ m) (hf : Flat m B F) (hx : x < m) (hxF : F.testBit x = false) : ∃ H, H < 2 ^ m ∧ Hyper m B H ∧ Inc F H ∧ H.testBit x = false := by
  obtain ⟨I, hI, hIF, hIc⟩ := h.rk_ind (s := F)
  have hne := hf x hx hxF
  have hmono := h.rk_mono (inc_or_l F (2 ^ x))
  obtain ⟨J0, hJ0, hIJ0, hJ0u, hJ0c⟩ := h.extend (u := F ||| 2 ^ x) _ I (Nat.le_refl _) hI (hIF.trans (inc_or_l _ _))
  have hxJ0 : J0.testBit x = true := by
    cases hq : J0.testBit x with
    | true => rfl
    | false =>
      exfalso
      have : Inc J0 F := fun i hi => by
        have := hJ0u i hi
        rw [Nat.testBit_or, testBit_pow, Bool.or_eq_true] at this
        rcases this with q | q
        · exact q
        · have : x = i := of_decide_eq_true q
          subst this; rw [hq] at hi; cases hi
      have := h.ind_le hJ0 this
      omega
  have hfull : ∀ s, s < 2 ^ m → Inc s (2 ^ m - 1) := fun s hs i hi => by
    have := bit_lt hs hi
    rw [Nat.testBit_two_pow_sub_one]; simpa using this
  obtain ⟨J, hJ, hJ0J, _, hJc⟩ := h.extend (u := 2 ^ m - 1) _ J0 (Nat.le_refl _) hJ0 (hfull _ (h.ind_lt hJ0))
  have hJm := h.ind_lt hJ
  have hxJ := hJ0J x hxJ0
  have hJ'm : dif J (2 ^ x) < 2 ^ m := dif_lt hJm
  have hJ' : Ind B (dif J (2 ^ x)) := hJ.mono (inc_dif _ _)
  have c1 := cnt_dif hJm hxJ
  have c2 := (h.ind_iff hJ'm).1 hJ'
  have c3 := (h.ind_iff hJm).1 hJ
  obtain ⟨H, hH⟩ := h.cl_exists hJ'm
  have hHr := h.cl_rk hJ'm hH
  have hcI := h.cl_inc hJ'm hH
  refine ⟨H, hH.1, ⟨by omega, fun i hi hfi e => ?_⟩, fun i hi => ?_, ?_⟩
  · have h1 := h.rk_mono (show Inc (dif J (2 ^ x) ||| 2 ^ i) (H ||| 2 ^ i) from inc_or (hcI.trans (inc_or_l _ _)) (inc_or_r _ _))
    have h2 := h.rk_mono (inc_or_l (dif J (2 ^ x)) (2 ^ i))
    have := (hH.2 i hi).2 (.inr (by omega))
    rw [hfi] at this; cases this
  · have him := bit_lt hF hi
    have hIJ : Inc I (dif J (2 ^ x)) := fun j hj => by
      rw [testBit_dif, (hIJ0.trans hJ0J) j hj, testBit_pow]
      have : x ≠ j := fun q => by subst q; rw [hIF _ hj] at hxF; cases hxF
      simp [this]
    refine (hH.2 i him).2 (.inr (h.rk_stay hIJ ?_))
    have h1 := h.rk_mono (show Inc (I ||| 2 ^ i) F from inc_or hIF (inc_pow hi))
    have h2 := h.rk_mono (inc_or_l I (2 ^ i))
    have h3 := h.ind_le hI (Inc.refl I)
    omega
  · cases hq : H.testBit x with
    | false => rfl
    | true =>
      exfalso
      rcases (hH.2 x hx).1 hq with q | q
      · rw [testBit_dif, testBit_pow] at q; simp at q
      · rw [dif_or hxJ] at q; omega
end

theorem flats_two : (flats 4 twoB).length = 6 := by decide +kernel

end Go.SH

set_option linter.unusedSimpArgs false
set_option linter.unusedVariables false
namespace Go.SH
open Go Go.AX

section
variable {m : Nat} {B : List Nat} (h : Mat m B)
include h
theorem Mat.dep_circ : ∀ (k s : Nat), cnt m s ≤ k → s < 2 ^ m → rk m B s ≠ cnt m s → ∃ C, C < 2 ^ m ∧ Circ m B C ∧ Inc C s := by
  intro k
  induction k with
  | zero =>
    intro s hk hs hd
    have := h.rk_size s
    omega
  | succ k ih =>
    intro s hk hs hd
    have hsz := h.rk_size s
    rcases Classical.em (∃ i, i < m ∧ s.testBit i = true ∧ rk m B (dif s (2 ^ i)) ≠ cnt m (dif s (2 ^ i))) with ⟨i, hi, hb, q⟩ | q
    · have hc := cnt_dif hs hb
      obtain ⟨C, c1, c2, c3⟩ := ih (dif s (2 ^ i)) (by omega) (dif_lt hs) q
      exact ⟨C, c1, c2, c3.trans (inc_dif _ _)⟩
    · refine ⟨s, hs, ⟨?_, fun i hi hb => ?_⟩, Inc.refl s⟩
      · have h0 : s ≠ 0 := by
          rintro rfl
          rw [h.rk_zero, cnt_zero] at hd; exact hd rfl
        obtain ⟨i, hb⟩ := exists_bit h0
        have hi := bit_lt hs hb
        have hc := cnt_dif hs hb
        have e : rk m B (dif s (2 ^ i)) = cnt m (dif s (2 ^ i)) := by
          rcases Classical.em (rk m B (dif s (2 ^ i)) = cnt m (dif s (2 ^ i))) with e | e
          · exact e
          · exact absurd ⟨i, hi, hb, e⟩ q
        have := h.rk_mono (inc_dif s (2 ^ i))
        omega
      · rcases Classical.em (rk m B (dif s (2 ^ i)) = cnt m (dif s (2 ^ i))) with e | e
        · exact e
        · exact absurd ⟨i, hi, hb, e⟩ q
theorem Mat.ind_circ {s : Nat} (hs : s < 2 ^ m) : rk m B s = cnt m s ↔ ¬ ∃ C, C < 2 ^ m ∧ Circ m B C ∧ Inc C s := by
  constructor
  · rintro e ⟨C, c1, c2, c3⟩
    have := (h.ind_iff c1).1 (((h.ind_iff hs).2 e).mono c3)
    have := c2.1
    omega
  · intro q
    rcases Classical.em (rk m B s = cnt m s) with e | e
    · exact e
    · exact absurd (h.dep_circ _ s (Nat.le_refl _) hs e) q
/-- An element that its set's others span. -/
theorem Mat.ind_span {s : Nat} (hs : s < 2 ^ m) : rk m B s = cnt m s ↔ ∀ i, s.testBit i = true → rk m B s ≠ rk m B (dif s (2 ^ i)) := by
  constructor
  · intro e i hi q
    have := cnt_dif hs hi
    have := h.rk_size (dif s (2 ^ i))
    omega
  · intro q
    rcases Classical.em (rk m B s = cnt m s) with e | e
    · exact e
    · exfalso
      obtain ⟨C, c1, c2, c3⟩ := h.dep_circ _ s (Nat.le_refl _) hs e
      have h0 : C ≠ 0 := by
        rintro rfl
        have := c2.1
        rw [h.rk_zero, cnt_zero] at this; omega
      obtain ⟨i, hb⟩ := exists_bit h0
      have hcd := cnt_dif c1 hb
      have e1 := c2.2 i (bit_lt c1 hb) hb
      have e2 := c2.1
      have hin : Inc (dif C (2 ^ i)) (dif s (2 ^ i)) := fun j hj => by
        rw [testBit_dif, Bool.and_eq_true] at hj ⊢
        exact ⟨c3 j hj.1, hj.2⟩
      have := h.rk_stay (i := i) hin (by rw [dif_or hb]; omega)
      rw [dif_or (c3 i hb)] at this
      exact q i (c3 i hb) this
theorem Mat.cl_flat {s c : Nat} (hs : s < 2 ^ m) (hc : IsCl m B s c) : Flat m B c := by
  intro i hi hf e
  have h1 := h.cl_rk hs hc
  have h2 := h.rk_mono (s := s ||| 2 ^ i) (t := c ||| 2 ^ i) (inc_or ((h.cl_inc hs hc).trans (inc_or_l _ _)) (inc_or_r _ _))
  have h3 := h.rk_mono (inc_or_l s (2 ^ i))
  have := (hc.2 i hi).2 (.inr (by omega))
  rw [hf] at this; cases this
/-- What flats around a set have together: its closure. -/
theorem Mat.cl_iff {s c i : Nat} (hs : s < 2 ^ m) (hc : IsCl m B s c) (hi : i < m) : c.testBit i = true ↔ ∀ F, F < 2 ^ m → Flat m B F → Inc s F → F.testBit i = true := by
  constructor
  · intro q F f1 f2 f3
    rcases (hc.2 i hi).1 q with e | e
    · exact f3 i e
    · cases hb : F.testBit i with
      | true => rfl
      | false => exact absurd (h.rk_stay f3 e) (f2 i hi hb)
  · intro q
    exact q c hc.1 (h.cl_flat hs hc) (h.cl_inc hs hc)
theorem Mat.full_rk : ∀ b, b ∈ B → cnt m b = rk m B (2 ^ m - 1) := fun b hb => by
  have hbm := h.lt b hb
  have hpos : 0 < 2 ^ m := Nat.pow_pos (by omega)
  have e1 := (h.ind_iff hbm).1 ⟨b, hb, Inc.refl b⟩
  have inb : ∀ s, s < 2 ^ m → Inc s (2 ^ m - 1) := fun s hs i hi => by
    have := bit_lt hs hi
    rw [Nat.testBit_two_pow_sub_one]; simpa using this
  have e2 := h.rk_mono (inb b hbm)
  obtain ⟨b', hb', e3⟩ := h.rk_mem (2 ^ m - 1)
  have e4 := cnt_le_of_inc (m := m) (inc_and_r (2 ^ m - 1) b')
  have := h.eqc b hb b' hb'
  omega
/-- What no hyperplane has within it is all's rank. -/
theorem Mat.span_iff {s : Nat} (hs : s < 2 ^ m) : rk m B s = rk m B (2 ^ m - 1) ↔ ¬ ∃ H, H < 2 ^ m ∧ Hyper m B H ∧ Inc s H := by
  have hpos : 0 < 2 ^ m := Nat.pow_pos (by omega)
  have inb : ∀ s, s < 2 ^ m → Inc s (2 ^ m - 1) := fun s hs i hi => by
    have := bit_lt hs hi
    rw [Nat.testBit_two_pow_sub_one]; simpa using this
  constructor
  · rintro e ⟨H, h1, h2, h3⟩
    have := h.rk_mono h3
    have := h2.1
    omega
  · intro q
    have hle := h.rk_mono (inb s hs)
    rcases Nat.lt_or_ge (rk m B s) (rk m B (2 ^ m - 1)) with c | c
    · exfalso
      obtain ⟨F, hF⟩ := h.cl_exists hs
      have hr := h.cl_rk hs hF
      have hfl := h.cl_flat hs hF
      have : F ≠ 2 ^ m - 1 := by
        rintro e
        rw [e] at hr; omega
      have : ¬ Inc (2 ^ m - 1) F := fun e => this (Inc.antisymm (inb F hF.1) e)
      obtain ⟨x, x1, x2⟩ := not_inc this
      have hx := bit_lt (m := m) (s := 2 ^ m - 1) (by omega) x1
      obtain ⟨H, h1, h2, h3, _⟩ := h.flat_out hF.1 hfl hx x2
      exact q ⟨H, h1, h2, (h.cl_inc hs hF).trans h3⟩
    · omega
/-- Bases: the least sets of all's rank. -/
theorem Mat.basis_iff {s : Nat} (hs : s < 2 ^ m) : s ∈ B ↔ rk m B s = rk m B (2 ^ m - 1) ∧ ∀ t, t < 2 ^ m → rk m B t = rk m B (2 ^ m - 1) → Inc t s → t = s := by
  constructor
  · intro hb
    have e1 := (h.ind_iff hs).1 ⟨s, hb, Inc.refl s⟩
    have e2 := h.full_rk s hb
    refine ⟨by omega, fun t ht e3 hi => ?_⟩
    have := h.rk_size t
    exact inc_eq_of_cnt (m := m) hi hs (by omega)
  · rintro ⟨e1, e2⟩
    obtain ⟨J, j1, j2, j3⟩ := h.rk_ind (s := s)
    have jm := j2.lt hs
    have e3 := (h.ind_iff jm).1 j1
    have := e2 J jm (by omega) j2
    subst this
    obtain ⟨b, hb, hin⟩ := j1
    have e4 := h.full_rk b hb
    rw [inc_eq_of_cnt (m := m) hin (h.lt b hb) (by omega)]
    exact hb
end
end Go.SH
