/-
  The law JoinRank. Conditions: the lists' lengths.
-/
import Derived.Test.YtcjhpcbipcdhiaaLJu
import Derived.Test.YtcjhpcbipcdhiaaSkJoinRank
set_option linter.unusedSimpArgs false
set_option linter.unusedVariables false
namespace Go.SH
open Go Go.AX

theorem union_two_two : join_Union 4 (cs twoB) 4 (cs twoB) = some (4, [15], 0) := by
  obtain ⟨K, best, h1, h2, h3⟩ := Union_ok mat_two mat_two
  have b4 : best = 4 := by
    have a1 := h3.le 15 ⟨3, 12, by decide, by decide, by decide⟩
    have a2 : cnt 4 15 = 4 := by decide
    obtain ⟨x, hx⟩ := h3.some (s := 15) ⟨3, 12, by decide, by decide, by decide⟩
    have a3 := ((h3.mem x).1 hx).2
    have a4 := cnt_le 4 x
    omega
  have e : K = [15] := h2.ext (n := 4) (K := [15]) ⟨by omega, by decide, fun i j hij hj => by simp at hj; omega⟩ fun s => by
    rw [h3.mem, b4]
    constructor
    · rintro ⟨⟨a, b, ha, hb, rfl⟩, hc⟩
      have hl := or_lt (mat_two.lt a ha) (mat_two.lt b hb)
      have hf := cnt_full hc
      have : a ||| b = 15 := set_ext hl (by decide) fun i hi => by
        rw [hf i hi]
        have : i = 0 ∨ i = 1 ∨ i = 2 ∨ i = 3 := by omega
        rcases this with rfl | rfl | rfl | rfl <;> decide
      simp [this]
    · intro hs
      have := List.mem_singleton.1 hs
      subst this
      exact ⟨⟨3, 12, by decide, by decide, by decide⟩, by decide⟩
  subst e
  exact h1
theorem rotakeep_JoinRank_law (n : Int) (l : List Int) (n' : Int) (l' : List Int) (hl : l.length ≤ 9223372036854775807) (hl' : l'.length ≤ 9223372036854775807) : rotakeep_JoinRank n l n' l' = some true := by
  refine Gets.eq ?_
  unfold rotakeep_JoinRank
  have h2 : rotakeep_two = some (4, cs twoB) := rfl
  refine gBindE h2 (gBindE h2 (gBindE union_two_two (gIte (fun _ => gBindE (SameB _) (gIte (fun q => absurd rfl q) fun _ => ?_)) fun q => absurd (by simp) q)))
  rcases Classical.em (∃ m A B, n = (m : Nat) ∧ n' = (m : Nat) ∧ l = cs A ∧ l' = cs B ∧ Mat m A ∧ Mat m B) with ⟨m, A, B, rfl, rfl, rfl, rfl, hA, hB⟩ | hbad
  rotate_left
  · have hu : Gets (join_Union n l n' l') (fun r => r.2.2 ≠ 0 ∧ r.1 = 0) := by
      unfold join_Union
      refine gBind (axioms_Check_spec n l hl) fun y hy => gBind (axioms_Check_spec n' l' hl') fun z hz => ?_
      refine gIte (fun q => gSome ⟨q, rfl⟩) fun q => gIte (fun q2 => gSome ⟨q2, rfl⟩) fun q2 => gIte (fun q3 => gSome ⟨by simp, rfl⟩) fun q3 => ?_
      rcases hy with ⟨_, m, A, rfl, rfl, hA⟩ | ⟨hy, _⟩
      · rcases hz with ⟨_, m', B, rfl, rfl, hB⟩ | ⟨hz, _⟩
        · have e : m = m' := by omega
          subst e
          exact absurd ⟨m, A, B, rfl, rfl, rfl, rfl, hA, hB⟩ hbad
        · exact absurd hz q2
      · exact absurd hy q
    exact gBind hu fun r hr => gIte (fun _ => gSome (decide_eq_true hr.2)) fun q => absurd hr.1 q
  have h8 := hA.m8
  have h256 := pow_le8 h8
  have hpos : 0 < 2 ^ m := Nat.pow_pos (by omega)
  obtain ⟨K, best, hu, hK, hL⟩ := Union_ok hA hB
  refine gBindE hu (gIte (fun q => absurd rfl q) fun _ => gBindE (axioms_Ranks_ok hA) (gBindE (axioms_Ranks_ok hB) (gIte (fun q => absurd q (by simp)) fun _ => ?_)))
  simp only [cs_len, rkL_len]
  refine gBind (R := fun o => o = (best : Int)) (Gets.mono (Q := fun o => ∃ μ : Nat, o = (μ : Int) ∧ (∀ s, s < 2 ^ m → μ ≤ rk m A s + rk m B s + (m - cnt m s)) ∧ ∃ s, s < 2 ^ m ∧ μ = rk m A s + rk m B s + (m - cnt m s)) (gFor (2 ^ m) (fun k (x : Int × Int) => x.2 = (k : Int) ∧ ∃ μ : Nat, x.1 = (μ : Int) ∧ (∀ s, s < k → μ ≤ rk m A s + rk m B s + (m - cnt m s)) ∧ ∃ s, s < 2 ^ m ∧ μ = rk m A s + rk m B s + (m - cnt m s)) (Nat.zero_le _) ⟨rfl, m, rfl, fun s hs => absurd hs (Nat.not_lt_zero s), 0, hpos, by rw [hA.rk_zero, hB.rk_zero, cnt_zero]; omega⟩ ?_) ?_) ?_
  · rintro k ⟨_, _⟩ hk ⟨rfl, μ, rfl, h3, s0, h4, h5⟩
    simp only [toNat_nat]
    refine gIte (fun h6 => ?_) fun h6 => gSome ⟨μ, rfl, fun s hs => h3 s (by omega), s0, h4, h5⟩
    have hk' : k < 2 ^ m := by omega
    have b3 := cnt_le m k
    have b1 := hA.rk_size k
    have b2 := hB.rk_size k
    have e1 : (cs (rkL m A)).getD k 0 = ((rk m A k : Nat) : Int) := by rw [cs_get, rkL_get m A hk']
    have e2 : (cs (rkL m B)).getD k 0 = ((rk m B k : Nat) : Int) := by rw [cs_get, rkL_get m B hk']
    simp only [e1, e2]
    refine gChk (by omega) (gBindE (rotaref_Size_nat k) ?_)
    rw [size_of_lt hk' h8]
    refine gChk (by omega) (gSome ⟨hk', by simp, ?_⟩)
    have e3 : ((rk m A k : Nat) : Int) + ((rk m B k : Nat) : Int) + (m : Int) - ((cnt m k : Nat) : Int) = ((rk m A k + rk m B k + (m - cnt m k) : Nat) : Int) := by omega
    rw [e3]
    rcases Nat.le_total μ (rk m A k + rk m B k + (m - cnt m k)) with c | c
    · refine ⟨μ, by omega, fun s hs => ?_, s0, h4, h5⟩
      rcases Nat.lt_succ_iff_lt_or_eq.1 hs with d | rfl
      · exact h3 s d
      · exact c
    · refine ⟨_, by omega, fun s hs => ?_, k, hk', rfl⟩
      rcases Nat.lt_succ_iff_lt_or_eq.1 hs with d | rfl
      · have := h3 s d; omega
      · exact Nat.le_refl _
  · rintro _ ⟨μ, rfl, h3, s0, h4, h5⟩
    obtain ⟨a, b, ha, hb, hab⟩ := union_rank hA hB h3
    have h6 := hL.le _ ⟨a, b, ha, hb, rfl⟩
    obtain ⟨x, hx⟩ := hL.some ⟨a, b, ha, hb, rfl⟩
    obtain ⟨⟨a', b', ha', hb', e⟩, hc⟩ := (hL.mem x).1 hx
    have h7 := union_le hA hB ha' hb' h4
    rw [← e, hc, ← h5] at h7
    have : μ = best := by omega
    rw [this]
  · rintro _ rfl
    obtain ⟨a, ha⟩ := hA.exists_basis
    obtain ⟨b, hb⟩ := hB.exists_basis
    obtain ⟨x, hx⟩ := hL.some ⟨a, b, ha, hb, rfl⟩
    have hlen : 0 < K.length := List.length_pos_of_mem hx
    have hm := mem_getD.2 ⟨0, hlen, rfl⟩
    have hx0 := ((hL.mem _).1 hm).2
    have hlt := hK.lt _ hm
    refine gChk (fun _ => by omega) ?_
    rw [if_pos (by omega), cs_get]
    refine gBindE (rotaref_Size_nat _) (gSome ?_)
    rw [size_of_lt hlt h8]
    exact decide_eq_true ⟨by omega, by rw [hx0]⟩
end Go.SH
