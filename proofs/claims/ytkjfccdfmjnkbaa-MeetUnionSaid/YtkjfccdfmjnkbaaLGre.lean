/-
  The law MeetUnion. Conditions: none.
-/
import Derived.Test.YtkjfccdfmjnkbaaLGrd
import Derived.Test.YtkjfccdfmjnkbaaSkMeetUnion
set_option linter.unusedSimpArgs false
set_option linter.unusedVariables false
namespace Go.SH
open Go Go.AX

theorem basis_cnt {m : Nat} {B : List Nat} (h : Mat m B) {b : Nat} (hb : b ∈ B) : cnt m b = rk m B (2 ^ m - 1) := by
  have h1 := (h.ind_iff (h.lt b hb)).1 ⟨b, hb, Inc.refl b⟩
  have h2 := h.rk_mono (s := b) (t := 2 ^ m - 1) fun i hi => by rw [full_bit, decide_eq_true_eq]; exact bit_lt (h.lt b hb) hi
  have h3 : rk m B (2 ^ m - 1) ≤ cnt m b := rk_le.2 fun b' hb' => by
    have := cnt_le_of_inc (m := m) (inc_and_r (2 ^ m - 1) b')
    have := h.eqc b' hb' b hb
    omega
  omega
theorem or_cpl {m a b : Nat} (ha : a < 2 ^ m) : cnt m (a ||| cpl m b) = cnt m (a &&& b) + cnt m (cpl m b) := by
  have h1 := cnt_split m (a ||| cpl m b) b
  have e1 : (a ||| cpl m b) &&& b = a &&& b := Nat.eq_of_testBit_eq fun i => by
    rw [Nat.testBit_and, Nat.testBit_or, Nat.testBit_and, cpl_bit]
    cases a.testBit i <;> cases b.testBit i <;> simp
  have e2 : dif (a ||| cpl m b) b = cpl m b := Nat.eq_of_testBit_eq fun i => by
    rw [testBit_dif, Nat.testBit_or, cpl_bit]
    cases p : a.testBit i with
    | false => cases b.testBit i <;> simp
    | true =>
      have := bit_lt ha p
      cases b.testBit i <;> simp [this]
  rw [e1, e2] at h1; exact h1
theorem rotakeep_MeetUnion_law (n : Int) (l : List Int) (n' : Int) (l' : List Int) (hl : l.length ≤ 9223372036854775807) (hl' : l'.length ≤ 9223372036854775807) : rotakeep_MeetUnion n l n' l' = some true := by
  refine Gets.eq ?_
  unfold rotakeep_MeetUnion
  refine gBindE two_eq (gBindE two_eq (gBindE common_two (gIte (fun q => absurd q (by simp)) fun _ => ?_)))
  obtain ⟨c, hc, hs⟩ := both_spec n l n' l' hl hl'
  rcases hs with ⟨rfl, m, A, B, rfl, rfl, rfl, rfl, hA, hB⟩ | ⟨h0, _⟩
  rotate_left
  · exact gBindE (Common_bad hc h0) (gIte (fun _ => gSome (by simp)) fun q => absurd h0 q)
  have h8 := hA.m8
  have h256 := pow_le8 h8
  obtain ⟨S, U, e, S1, U1, S2, S3, U2, _, _⟩ := Common_ok hA hB
  refine gBindE e (gIte (fun q => absurd rfl q) fun _ => ?_)
  obtain ⟨D, d1, d2, d3⟩ := hB.Dual_ok
  refine gBindE d1 ?_
  obtain ⟨K, best, k1, k2, k3⟩ := Union_ok hA d2
  refine gBindE k1 ?_
  simp only []
  obtain ⟨b0, hb0⟩ := hB.exists_basis
  obtain ⟨a0, ha0⟩ := hA.exists_basis
  have hDm := (d3 _).2 ⟨b0, hb0, rfl⟩
  obtain ⟨t0, ht0⟩ := k3.some ⟨a0, _, ha0, hDm, rfl⟩
  have kl : 0 < K.length := List.length_pos_of_mem ht0
  have dl : 0 < D.length := List.length_pos_of_mem hDm
  simp only [cs_len]
  have hc1 : (((True ∧ True) ∧ 0 < (K.length : Int)) ∧ 0 < (D.length : Int)) := ⟨⟨⟨trivial, trivial⟩, by omega⟩, by omega⟩
  rw [if_pos hc1, if_pos hc1]
  refine gBindE (rotaref_Size_nat S) (gChk (fun _ => by omega) ?_)
  rw [cs_get]
  refine gBindE (rotaref_Size_nat _) (gChk (fun _ => by omega) ?_)
  rw [if_pos hc1, cs_get]
  refine gBindE (rotaref_Size_nat _) ?_
  have gK : K.getD 0 0 ∈ K := mem_getD.2 ⟨0, kl, rfl⟩
  have gD : D.getD 0 0 ∈ D := mem_getD.2 ⟨0, dl, rfl⟩
  have kK := k2.lt _ gK
  have kD := d2.lt _ gD
  rw [size_of_lt S1 h8, size_of_lt kK h8, size_of_lt kD h8]
  -- the sizes
  have hDc : cnt m (D.getD 0 0) = m - rk m B (2 ^ m - 1) := by
    obtain ⟨b, hb, e1⟩ := (d3 _).1 gD
    have := cpl_cnt (m := m) (s := b)
    have := basis_cnt hB hb
    rw [e1]; omega
  have bR : rk m B (2 ^ m - 1) ≤ m := Nat.le_trans (hB.rk_size _) (cnt_le _ _)
  have up : ∀ a b, a ∈ A → b ∈ B → cnt m (a ||| cpl m b) ≤ cnt m S + (m - rk m B (2 ^ m - 1)) := fun a b ha hb => by
    have hl := hA.lt a ha
    have i1 : Ind A (a &&& b) := ⟨a, ha, inc_and_l _ _⟩
    have i2 : Ind B (a &&& b) := ⟨b, hb, inc_and_r _ _⟩
    have hlt := and_lt (b := b) hl
    have := both_le hA hB hlt ((hA.ind_iff hlt).1 i1) ((hB.ind_iff hlt).1 i2) (t := U)
    have h1 := or_cpl (b := b) hl
    have := cpl_cnt (m := m) (s := b)
    have := basis_cnt hB hb
    omega
  have lo : ∃ a b, a ∈ A ∧ b ∈ B ∧ cnt m S + (m - rk m B (2 ^ m - 1)) ≤ cnt m (a ||| cpl m b) := by
    obtain ⟨a, ha, hSa⟩ := (hA.ind_iff S1).2 S2
    obtain ⟨b, hb, hSb⟩ := (hB.ind_iff S1).2 S3
    refine ⟨a, b, ha, hb, ?_⟩
    have h1 := or_cpl (b := b) (hA.lt a ha)
    have := cnt_le_of_inc (m := m) (inc_and hSa hSb)
    have := cpl_cnt (m := m) (s := b)
    have := basis_cnt hB hb
    omega
  have hKc : cnt m (K.getD 0 0) = cnt m S + (m - rk m B (2 ^ m - 1)) := by
    refine Nat.le_antisymm ?_ ?_
    · obtain ⟨a, d, ha, hd, e1⟩ := ((k3.mem _).1 gK).1
      obtain ⟨b, hb, rfl⟩ := (d3 d).1 hd
      rw [e1]; exact up a b ha hb
    · obtain ⟨a, b, ha, hb, hle⟩ := lo
      rw [((k3.mem _).1 gK).2]; exact Nat.le_trans hle (k3.le _ ⟨a, cpl m b, ha, (d3 _).2 ⟨b, hb, rfl⟩, rfl⟩)
  have hmS := cnt_le m S
  refine gChk (fun _ => by omega) (gSome ?_)
  rw [decide_eq_true_eq]
  exact ⟨hc1, by omega⟩
end Go.SH
