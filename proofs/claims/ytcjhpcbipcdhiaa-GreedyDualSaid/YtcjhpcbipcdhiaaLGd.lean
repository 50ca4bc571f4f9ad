/-
  The law GreedyDual. Conditions: the list's length.
-/
import Derived.Test.YtcjhpcbipcdhiaaLGa
import Derived.Test.YtcjhpcbipcdhiaaLQ
import Derived.Test.YtcjhpcbipcdhiaaSkGreedyDual
set_option linter.unusedSimpArgs false
set_option linter.unusedVariables false
namespace Go.SH
open Go Go.AX

theorem mat_one1 : Mat 1 [1] := ⟨⟨by omega, by decide, rise_small (by decide)⟩, by decide, by decide, ex_small (m := 1) (by decide) (by decide)⟩
theorem wsum_cpl {m : Nat} (w v : Nat → Int) (h : ∀ i, i < m → v i = - w i) (b : Nat) : wsum m v (cpl m b) = wsum m w b - sumN m w := by
  have e : wsum m v (cpl m b) + sumN m w = wsum m w b := by
    unfold wsum
    rw [← sumN_add]
    refine sumN_congr fun i hi => ?_
    rw [cpl_bit, h i hi]
    simp only [hi, decide_true, Bool.true_and]
    cases b.testBit i <;> simp
    omega
  omega
theorem rotakeep_GreedyDual_law (n : Int) (l w : List Int) (hl : l.length ≤ 9223372036854775807) : rotakeep_GreedyDual n l w = some true := by
  refine Gets.eq ?_
  unfold rotakeep_GreedyDual
  refine gBind (R := fun y => y.2.2 = 0 ∧ y.1 = 1 ∧ y.2.1 = 9) (Gets.mono (Best_spec 1 [1] [9] (by simp)) ?_) ?_
  · rintro y (⟨_, _, _, h⟩ | ⟨h1, m, B, h2, h3, hM, hW, T, h4, h5, hT⟩)
    · exact absurd ⟨1, [1], rfl, rfl, mat_one1, rfl, fun i hi => by
        have : i = 0 := by omega
        subst this
        exact ⟨by decide, by decide⟩⟩ h
    · have e1 : m = 1 := by omega
      have e2 : B = [1] := cs_inj (h3.symm.trans rfl)
      subst e1 e2
      have e3 : T = 1 := List.mem_singleton.1 hT.mem
      subst e3
      exact ⟨h1, h4, h5.trans (by decide)⟩
  rintro ⟨_, _, _⟩ ⟨rfl, rfl, rfl⟩
  refine gIte (fun q => absurd q (by simp)) fun _ => gBind (Best_spec n l w hl) ?_
  rintro y (⟨h1, h2, h3, _⟩ | ⟨h1, m, B, rfl, rfl, hM, hW, T, h4, h5, hT⟩)
  · exact gIte (fun _ => gSome (decide_eq_true h3)) fun q => absurd h1 q
  refine gIte (fun q => absurd h1 q) fun _ => ?_
  obtain ⟨K, hK, hKM, hKm⟩ := hM.Dual_ok
  have h8 := hM.m8
  have hlw := hW.1
  refine gBindE hK (gBind (R := fun o => o.2 = sumN m (wf w) ∧ o.1.length = m ∧ ∀ i, i < m → wf o.1 i = - wf w i) (gFor m (fun k (x : List Int × Int × Int) => x.2.2 = (k : Int) ∧ x.2.1 = sumN k (wf w) ∧ x.1.length = k ∧ ∀ i, i < k → wf x.1 i = - wf w i) (Nat.zero_le _) ⟨rfl, rfl, rfl, fun i hi => absurd hi (Nat.not_lt_zero i)⟩ ?_) ?_)
  · rintro k ⟨v, _, _⟩ hk ⟨rfl, rfl, h6, h7⟩
    simp only at h6 h7
    simp only [toNat_nat]
    refine gIte (fun h9 => gChk (by omega) ?_) fun h9 => gSome (by have e : k = m := by omega
                                                                   subst e; exact ⟨rfl, h6, h7⟩)
    have hk' : k < m := by omega
    have b1 := hW.2 k hk'
    have b2 := sumN_abs8 (n := k) (c := 1000) (g := wf w) (by omega) fun i hi => hW.2 i (by omega)
    have e1 : w.getD k 0 = wf w k := rfl
    simp only [e1]
    refine gChk ⟨by omega, by simp; omega⟩ (gChk (by omega) (gSome ⟨hk', by simp, rfl, by simp [h6], fun i hi => ?_⟩))
    unfold wf
    rcases Nat.lt_succ_iff_lt_or_eq.1 hi with c | rfl
    · rw [List.getD_eq_getElem?_getD, List.getElem?_append_left (by omega), ← List.getD_eq_getElem?_getD]
      exact h7 i c
    · rw [List.getD_eq_getElem?_getD, List.getElem?_append_right (by omega), h6]
      simp
  rintro ⟨v, sm⟩ ⟨h6, h7, h9⟩
  simp only at h6 h7 h9
  subst h6
  have hV : WOk m v := ⟨h7, fun i hi => by rw [h9 i hi]; have := hW.2 i hi; omega⟩
  refine gBind (Best_spec m (cs K) v (by have := hKM.len; simp; omega)) ?_
  rintro z (⟨_, _, _, h10⟩ | ⟨h10, m2, K2, h11, h12, _, _, S, h13, h14, hS⟩)
  · exact absurd ⟨m, K, rfl, rfl, hKM, hV⟩ h10
  have e1 : m2 = m := by omega
  have e2 : K2 = K := cs_inj h12.symm
  subst e1 e2
  -- the two weights
  obtain ⟨b, hb, rfl⟩ := (hKm S).1 hS.mem
  have i1 := hS.le hKM hV ((hKm _).2 ⟨T, hT.mem, rfl⟩)
  have i2 := hT.le hM hW hb
  have w1 := wsum_cpl (wf w) (wf v) h9 b
  have w2 := wsum_cpl (wf w) (wf v) h9 T
  have bd : ∀ (x : List Int), WOk m2 x → ∀ s, -8000 ≤ wsum m2 (wf x) s ∧ wsum m2 (wf x) s ≤ 8000 := fun x hx s => by
    have := sumN_abs8 (n := m2) (c := 1000) (g := fun i => if s.testBit i = true then wf x i else 0) h8 fun i hi => by
      have := hx.2 i hi
      split <;> omega
    unfold wsum
    omega
  have b1 := bd w hW T
  have b2 := bd v hV (cpl m2 b)
  rw [h5, h14]
  refine gChk (fun _ => by omega) (gSome (decide_eq_true ⟨⟨rfl, h10⟩, by omega⟩))
end Go.SH
