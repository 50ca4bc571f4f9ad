/-
  Flats meet in flats, and each is where hyperplanes meet; the statement AxiomsMeet as a plain law. Conditions: lists are no longer than 2^63 - 1.
-/
import Derived.Test.YtkjfccdfmjnkbaaLB
set_option linter.unusedSimpArgs false
set_option linter.unusedVariables false
namespace Go.SH
open Go Go.AX

theorem Flats_bad {n : Int} {l : List Int} {c : Int} (h : axioms_Check n l = some c) (h0 : c ≠ 0) : axioms_Flats n l = some ([], c) := by
  unfold axioms_Flats axioms_family
  rw [h]; simp [h0]
theorem Hyperplanes_bad {n : Int} {l : List Int} {c : Int} (h : axioms_Check n l = some c) (h0 : c ≠ 0) : axioms_Hyperplanes n l = some ([], c) := by
  unfold axioms_Hyperplanes axioms_family
  rw [h]; simp [h0]
def flats (m : Nat) (B : List Nat) : List Nat := (List.range (2 ^ m)).filter fun s => Flat m B s
def hypers (m : Nat) (B : List Nat) : List Nat := (List.range (2 ^ m)).filter fun s => Hyper m B s
theorem mem_flats {m : Nat} {B : List Nat} {s : Nat} : s ∈ flats m B ↔ s < 2 ^ m ∧ Flat m B s := by simp [flats]
theorem mem_hypers {m : Nat} {B : List Nat} {s : Nat} : s ∈ hypers m B ↔ s < 2 ^ m ∧ Hyper m B s := by simp [hypers]
theorem Flats_ok {m : Nat} {B : List Nat} (h : Mat m B) (hl : B.length ≤ 9223372036854775807) : axioms_Flats m (cs B) = some (cs (flats m B), 0) := by
  refine Gets.eq ((axioms_Flats_spec m (cs B) (by simpa using hl)).mono fun r hr => ?_)
  rcases hr with ⟨h1, m', B', q1, q2, _, q3⟩ | ⟨_, _, q⟩
  · have : m' = m := by omega
    subst this
    rw [← cs_inj q2] at q3
    exact Prod.ext q3 h1
  · exact absurd ⟨m, B, rfl, rfl, h⟩ q
theorem Hyperplanes_ok {m : Nat} {B : List Nat} (h : Mat m B) (hl : B.length ≤ 9223372036854775807) : axioms_Hyperplanes m (cs B) = some (cs (hypers m B), 0) := by
  refine Gets.eq ((axioms_Hyperplanes_spec m (cs B) (by simpa using hl)).mono fun r hr => ?_)
  rcases hr with ⟨h1, m', B', q1, q2, _, q3⟩ | ⟨_, _, q⟩
  · have : m' = m := by omega
    subst this
    rw [← cs_inj q2] at q3
    exact Prod.ext q3 h1
  · exact absurd ⟨m, B, rfl, rfl, h⟩ q

section
variable {m : Nat} {B : List Nat} (h : Mat m B)
include h
theorem Mat.flat_and {a b : Nat} (ha : Flat m B a) (hb : Flat m B b) : Flat m B (a &&& b) := by
  intro i hi hf e
  rw [Nat.testBit_and, Bool.and_eq_false_iff] at hf
  rcases hf with q | q
  · exact ha i hi q (h.rk_stay (inc_and_l a b) e)
  · exact hb i hi q (h.rk_stay (inc_and_r a b) e)
omit h in
theorem exists_set (m : Nat) (p : Nat → Bool) : ∃ c, c < 2 ^ m ∧ ∀ i, i < m → c.testBit i = p i := by
  induction m with
  | zero => exact ⟨0, by simp, fun i hi => by omega⟩
  | succ m ih =>
    obtain ⟨c, h1, h2⟩ := ih
    cases hp : p m with
    | false =>
      refine ⟨c, by rw [Nat.pow_succ]; omega, fun i hi => ?_⟩
      rcases Nat.lt_or_ge i m with q | q
      · exact h2 i q
      · have : i = m := by omega
        subst this; rw [hp]; exact bit_ge h1 (Nat.le_refl _)
    | true =>
      refine ⟨c ||| 2 ^ m, or_lt (by rw [Nat.pow_succ]; omega) (pow_lt (by omega)), fun i hi => ?_⟩
      rw [Nat.testBit_or, testBit_pow]
      rcases Nat.lt_or_ge i m with q | q
      · rw [h2 i q]; simp; omega
      · have : i = m := by omega
        subst this; simp [hp]
theorem Mat.cl_exists {s : Nat} (hs : s < 2 ^ m) : ∃ c, IsCl m B s c := by
  have _ := h
  obtain ⟨c, h1, h2⟩ := exists_set m fun i => s.testBit i || decide (rk m B (s ||| 2 ^ i) = rk m B s)
  exact ⟨c, h1, fun i hi => by rw [h2 i hi, Bool.or_eq_true, decide_eq_true_eq]⟩
theorem Mat.flat_out {F x : Nat} (hF : F < 2 ^ m) (hf : Flat m B F) (hx : x < m) (hxF : F.testBit x = false) : ∃ H, H < 2 ^ m ∧ Hyper m B H ∧ Inc F H ∧ H.testBit x = false := by
  obtain ⟨I, hI, hIF, hIc⟩ := h.rk_ind (s := F)
  have hne := hf x hx hxF
  have hmono := h.rk_mono (inc_or_l F (2 ^ x))
  obtain ⟨J0, hJ0, hIJ0, hJ0u, hJ0c⟩ := h.extend (u := F ||| 2 ^ x) _ I (Nat.le_refl _) hI (hIF.trans (inc_or_l _ _))
  have hxJ0 : J0.testBit x = true := by
    cases hq : J0.testBit x with
    | true => rfl
    | false =>
      exfalso
      have : Inc J0 F := fun i hi => by
        have := hJ0u i hi
        rw [Nat.testBit_or, testBit_pow, Bool.or_eq_true] at this
        rcases this with q | q
        · exact q
        · have : x = i := of_decide_eq_true q
          subst this; rw [hq] at hi; cases hi
      have := h.ind_le hJ0 this
      omega
  have hfull : ∀ s, s < 2 ^ m → Inc s (2 ^ m - 1) := fun s hs i hi => by
    have := bit_lt hs hi
    rw [Nat.testBit_two_pow_sub_one]; simpa using this
  obtain ⟨J, hJ, hJ0J, _, hJc⟩ := h.extend (u := 2 ^ m - 1) _ J0 (Nat.le_refl _) hJ0 (hfull _ (h.ind_lt hJ0))
  have hJm := h.ind_lt hJ
  have hxJ := hJ0J x hxJ0
  have hJ'm : dif J (2 ^ x) < 2 ^ m := dif_lt hJm
  have hJ' : Ind B (dif J (2 ^ x)) := hJ.mono (inc_dif _ _)
  have c1 := cnt_dif hJm hxJ
  have c2 := (h.ind_iff hJ'm).1 hJ'
  have c3 := (h.ind_iff hJm).1 hJ
  obtain ⟨H, hH⟩ := h.cl_exists hJ'm
  have hHr := h.cl_rk hJ'm hH
  have hcI := h.cl_inc hJ'm hH
  refine ⟨H, hH.1, ⟨by omega, fun i hi hfi e => ?_⟩, fun i hi => ?_, ?_⟩
  · have h1 := h.rk_mono (show Inc (dif J (2 ^ x) ||| 2 ^ i) (H ||| 2 ^ i) from inc_or (hcI.trans (inc_or_l _ _)) (inc_or_r _ _))
    have h2 := h.rk_mono (inc_or_l (dif J (2 ^ x)) (2 ^ i))
    have := (hH.2 i hi).2 (.inr (by omega))
    rw [hfi] at this; cases this
  · have him := bit_lt hF hi
    have hIJ : Inc I (dif J (2 ^ x)) := fun j hj => by
      rw [testBit_dif, (hIJ0.trans hJ0J) j hj, testBit_pow]
      have : x ≠ j := fun q => by subst q; rw [hIF _ hj] at hxF; cases hxF
      simp [this]
    refine (hH.2 i him).2 (.inr (h.rk_stay hIJ ?_))
    have h1 := h.rk_mono (show Inc (I ||| 2 ^ i) F from inc_or hIF (inc_pow hi))
    have h2 := h.rk_mono (inc_or_l I (2 ^ i))
    have h3 := h.ind_le hI (Inc.refl I)
    omega
  · cases hq : H.testBit x with
    | false => rfl
    | true =>
      exfalso
      rcases (hH.2 x hx).1 hq with q | q
      · rw [testBit_dif, testBit_pow] at q; simp at q
      · rw [dif_or hxJ] at q; omega
end

theorem flats_two : (flats 4 twoB).length = 6 := by decide +kernel

end Go.SH
