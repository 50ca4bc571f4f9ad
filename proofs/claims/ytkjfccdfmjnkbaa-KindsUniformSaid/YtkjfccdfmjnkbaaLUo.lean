/-
  The law KindsUniform. Conditions: none.
-/
import Derived.Test.YtkjfccdfmjnkbaaLUn
import Derived.Test.YtkjfccdfmjnkbaaSkKindsUniform
set_option linter.unusedSimpArgs false
set_option linter.unusedVariables false
namespace Go.SH
open Go Go.AX

theorem uni01 : kinds_Uniform 0 1 = some (1, [0], 0) := Uniform_ok (m := 1) (j := 0) (by omega) (by omega)
theorem rotakeep_KindsUniform_law (rank n : Int) : rotakeep_KindsUniform rank n = some true := by
  refine Gets.eq ?_
  unfold rotakeep_KindsUniform
  refine gBindE uni01 (gIte (fun _ => ?_) fun q => absurd (by simp) q)
  refine gBindE (SameU _) (gIte (fun q => absurd rfl q) fun _ => ?_)
  refine gBind (Uniform_spec rank n) ?_
  rintro y (⟨m, j, rfl, rfl, h8, hj, rfl⟩ | rfl)
  rotate_left
  · exact gIte (fun _ => gSome (by simp)) fun q => absurd (by simp) q
  refine gIte (fun q => absurd rfl q) fun _ => ?_
  have hU := uni_mat h8 hj
  have hrk : rk m (uniL m j) (2 ^ m - 1) = j := by
    obtain ⟨b, hb⟩ := hU.exists_basis
    rw [← hU.size_full hb, (mem_uniL.1 hb).2]
  obtain ⟨K, k1, k2, k3⟩ := hU.Dual_ok
  have e1 : ((m : Int) - (j : Int)) = ((m - j : Nat) : Int) := by omega
  have eK : K = uniL m (m - j) := k2.toFam.ext (uniL_fam h8 _) fun s => by
    rw [k3 s]
    refine Iff.trans ?_ mem_uniL.symm
    constructor
    · rintro ⟨b, hb, rfl⟩
      have := cpl_cnt (m := m) (s := b)
      have := (mem_uniL.1 hb).2
      exact ⟨cpl_lt m b, by omega⟩
    · rintro ⟨hs, hc⟩
      have := cpl_cnt (m := m) (s := s)
      exact ⟨cpl m s, mem_uniL.2 ⟨cpl_lt m s, by omega⟩, (cpl_cpl hs).symm⟩
  subst eK
  refine gBindE k1 (gChk (by omega) ?_)
  rw [e1]
  refine gBindE (Uniform_ok h8 (by omega)) ?_
  rw [if_pos (by simp)]
  refine gBindE (SameMU _ _) (gIte (fun q => absurd q (by simp)) fun _ => ?_)
  refine gJoin (R := fun _ => True) ?_ ?_
  · rintro _ _
    rcases Classical.em (m = 8) with c | c
    · subst c
      have hf : minors_Free ((8 : Nat) : Int) (cs (uniL 8 j)) = some (0, [], 2) := by
        refine Gets.eq ?_
        unfold minors_Free
        exact gBindE hU.check (gIte (fun q => absurd rfl q) fun _ => gIte (fun _ => gSome rfl) fun q => absurd rfl q)
      exact gBindE hf (gIte (fun _ => gSome (by simp)) fun q => absurd (by simp) q)
    · obtain ⟨K, k1, k2, k3⟩ := hU.Free_ok (by omega)
      refine gBindE k1 (gIte (fun q => gSome (by simp; omega)) fun q => ?_)
      have hj0 : 0 < j := by omega
      refine gChk (by omega) ?_
      have e2 : ((m : Int) + 1) = ((m + 1 : Nat) : Int) := by omega
      rw [e2]
      refine gBindE (Uniform_ok (by omega) (by omega)) ?_
      have hp : 2 ^ (m + 1) = 2 ^ m + 2 ^ m := by rw [Nat.pow_succ]; omega
      have cm : ∀ s, s < 2 ^ m → cnt (m + 1) s = cnt m s := fun s hs => cnt_of_lt hs (by omega)
      have eK : K = uniL (m + 1) j := k2.ext (uniL_fam (by omega) _) fun s => by
        rw [k3 s]
        refine Iff.trans ?_ mem_uniL.symm
        constructor
        · rintro (q | ⟨b, i, hb, i1, rfl⟩)
          · obtain ⟨q1, q2⟩ := mem_uniL.1 q
            exact ⟨by omega, by rw [cm s q1, q2]⟩
          · obtain ⟨q1, q2⟩ := mem_uniL.1 hb
            have hd : dif b (2 ^ i) < 2 ^ m := dif_lt q1
            refine ⟨or_lt (by omega) (pow_lt (by omega)), ?_⟩
            rw [cnt_add (by omega) (bit_ge hd (Nat.le_refl m)), cm _ hd]
            have := cnt_dif q1 i1
            omega
        · rintro ⟨hs, hc⟩
          cases hb : s.testBit m with
          | false =>
            have hs' : s < 2 ^ m := lt_of_bits fun i hi => by
              rcases Nat.lt_or_ge i (m + 1) with d | d
              · have : i = m := by omega
                subst this; exact hb
              · exact bit_ge hs d
            exact .inl (mem_uniL.2 ⟨hs', by rw [← cm s hs', hc]⟩)
          | true =>
            have hs' : dif s (2 ^ m) < 2 ^ m := lt_of_bits fun i hi => by
              rw [testBit_dif, testBit_pow]
              rcases Nat.lt_or_ge i (m + 1) with d | d
              · have : i = m := by omega
                subst this; simp
              · rw [bit_ge hs d]; rfl
            have hcd := cnt_dif hs hb
            rw [cm _ hs'] at hcd
            obtain ⟨i, hi, i1, i2⟩ := uni_up hs' rfl (by omega)
            refine .inr ⟨dif s (2 ^ m) ||| 2 ^ i, i, ?_, ?_, ?_⟩
            · have e3 : cnt m (dif s (2 ^ m)) + 1 = j := by omega
              rw [← e3]; exact i2
            · rw [Nat.testBit_or, testBit_pow]; simp
            · refine Nat.eq_of_testBit_eq fun x => ?_
              simp only [Nat.testBit_or, testBit_dif, testBit_pow] at i1 ⊢
              rcases Classical.em (m = x) with d | d
              · subst d; simp [hb]
              · rcases Classical.em (i = x) with d2 | d2
                · subst d2
                  have : s.testBit i = false := by simpa [d] using i1
                  simp [d, this]
                · simp [d, d2]
      subst eK
      rw [if_pos (by simp)]
      exact gBindE (SameMU _ _) (gSome (by simp))
  · intro jj hjj
    refine gIte (fun h0 => ?_) fun _ => hjj () trivial
    refine gChk (by omega) ?_
    have e3 : ((j : Int) - 1) = ((j - 1 : Nat) : Int) := by omega
    rw [e3]
    obtain ⟨K, k1, k2, k3⟩ := hU.Truncate_ok (t := j - 1) (by omega)
    have eK : K = uniL m (j - 1) := k2.ext (uniL_fam h8 _) fun s => by
      rw [k3 s, mem_uniL]
      constructor
      · exact fun q => ⟨q.1, q.2.2⟩
      · exact fun q => ⟨q.1, (hU.ind_iff q.1).1 (uni_ind q.1 (by omega) hj), q.2⟩
    subst eK
    refine gBindE k1 (gChk (by omega) (gBindE (Uniform_ok h8 (by omega)) ?_))
    rw [if_pos (by simp)]
    exact gBindE (SameMU _ _) (gIte (fun q => absurd q (by simp)) fun _ => hjj () trivial)
end Go.SH
