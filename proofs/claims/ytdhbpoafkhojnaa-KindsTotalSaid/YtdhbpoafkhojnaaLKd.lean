/-
  What elimination keeps, column by column; at its end as many rows as columns just if nothing but nought is nought with all rows. Conditions: none.
-/
import Derived.Test.YtdhbpoafkhojnaaLKc
set_option linter.unusedSimpArgs false
set_option linter.unusedVariables false
set_option linter.unusedSectionVars false
namespace Go.SH
open Go Go.AX
section
variable {p : Nat} [NeZero p]

structure El (r n : Nat) (M0 M : Nat → Nat → Fin p) (rk c : Nat) : Prop where
  rkc : rk ≤ c
  rkr : rk ≤ r
  cn : c ≤ n
  low : ∀ i, rk ≤ i → i < r → ∀ j, j < c → M i j = 0
  ker : ∀ v, Ker r n M v ↔ Ker r n M0 v
  two : (rk = c ∧ (∀ i, i < c → M i i ≠ 0) ∧ ∀ i, i < c → ∀ j, j < i → M i j = 0) ∨ (rk < c ∧ ∃ v, Ker r n M0 v ∧ ∃ j, j < n ∧ v j ≠ 0)
variable {r n rk c : Nat} {M0 M : Nat → Nat → Fin p}
theorem El.start (r n : Nat) (M0 : Nat → Nat → Fin p) : El r n M0 M0 0 0 :=
  ⟨Nat.le_refl _, Nat.zero_le _, Nat.zero_le _, fun i _ _ j hj => by omega, fun v => Iff.rfl, .inl ⟨rfl, fun i hi => by omega, fun i hi => by omega⟩⟩
theorem z0 (a : Fin p) : 0 * a = 0 := by grind
theorem z1 (a : Fin p) : a * 0 = 0 := by grind
theorem mulc (a b : Fin p) : a * b = b * a := by grind
/-- More columns than rows: something else is nought with all rows. -/
theorem ker_ex (hp : Fld p) (h : r < n) (M : Nat → Nat → Fin p) : ∃ v, Ker r n M v ∧ ∃ j, j < n ∧ v j ≠ 0 := by
  obtain ⟨v, ⟨j, hj, hne⟩, hv⟩ := nontriv hp r n (fun i j => M j i) h
  refine ⟨v, fun i hi => ?_, j, hj, hne⟩
  rw [← hv i hi]
  exact Sm_congr fun k _ => mulc _ _
theorem El.skip (hp : Fld p) (h : El r n M0 M rk c) (hc : c < n) (hz : ∀ i, rk ≤ i → i < r → M i c = 0) : El r n M0 M rk (c + 1) := by
  have hlow : ∀ i, rk ≤ i → i < r → ∀ j, j < c + 1 → M i j = 0 := fun i h1 h2 j hj => by
    rcases Nat.lt_succ_iff_lt_or_eq.1 hj with q | q
    · exact h.low i h1 h2 j q
    · subst q; exact hz i h1 h2
  refine ⟨by have := h.rkc; omega, h.rkr, by omega, hlow, h.ker, .inr ⟨by have := h.rkc; omega, ?_⟩⟩
  rcases h.two with ⟨e, _, _⟩ | ⟨_, q⟩
  · obtain ⟨v, ⟨j, hj, hne⟩, hv⟩ := nontriv hp c (c + 1) (fun i j => M j i) (by omega)
    refine ⟨fun j => if j < c + 1 then v j else 0, (h.ker _).1 fun i hi => ?_, j, by omega, by simpa [hj] using hne⟩
    rcases Nat.lt_or_ge i c with q | q
    · have e2 : n = (c + 1) + (n - (c + 1)) := by omega
      rw [e2, Sm_app, Sm_zero (n := n - (c + 1)) fun k _ => ?_, Sm_congr (g := fun k => v k * M i k) fun k hk => ?_, hv i q]
      · simp
      · simp only [if_pos hk]; exact mulc _ _
      · simp only [if_neg (show ¬ c + 1 + k < c + 1 by omega)]; exact z1 _
    · refine Sm_zero fun k hk => ?_
      by_cases ck : k < c + 1
      · rw [hlow i (by omega) hi k ck]; exact z0 _
      · simp only [if_neg ck]; exact z1 _
  · exact q
theorem El.piv (h : El r n M0 M rk c) (hc : c < n) {k : Nat} (hk : rk ≤ k) (hkr : k < r) {M1 M2 : Nat → Nat → Fin p} {t : Nat → Fin p} (h1 : ∀ i, i < r → ∀ j, j < n → M1 i j = M (sw rk k i) j) (hne : M1 rk c ≠ 0)
    (ht : ∀ i, i ≤ rk → t i = 0) (h2 : ∀ i, i < r → ∀ j, j < n → M2 i j = M1 i j - t i * M1 rk j) (hz : ∀ i, rk < i → i < r → M2 i c = 0) : El r n M0 M2 (rk + 1) (c + 1) := by
  have hrk : rk < r := by omega
  have swhi : ∀ i, rk ≤ i → rk ≤ sw rk k i := fun i hi => by unfold sw; split <;> (try split) <;> omega
  have swlo : ∀ i, i < rk → sw rk k i = i := fun i hi => by unfold sw; split <;> (try split) <;> omega
  have low1 : ∀ i, rk ≤ i → i < r → ∀ j, j < c → M1 i j = 0 := fun i a b j hj => by
    rw [h1 i b j (by omega)]; exact h.low _ (swhi i a) (sw_lt hrk hkr b) j hj
  refine ⟨by have := h.rkc; omega, by omega, by omega, fun i a b j hj => ?_, fun v => ?_, ?_⟩
  · rcases Nat.lt_succ_iff_lt_or_eq.1 hj with q | q
    · rw [h2 i b j (by omega), low1 i (by omega) b j q, low1 rk (Nat.le_refl _) hrk j q]; exact e1 _
    · subst q; exact hz i (by omega) b
  · rw [ker_sub hrk (ht rk (Nat.le_refl _)) h2, ker_sw hrk hkr h1]; exact h.ker v
  · rcases h.two with ⟨e, d1, d2⟩ | ⟨q1, q2⟩
    · have same : ∀ i, i < rk → ∀ j, j < n → M2 i j = M i j := fun i hi j hj => by
        rw [h2 i (by omega) j hj, ht i (by omega), h1 i (by omega) j hj, swlo i hi]; exact e2 _ _
      have top : ∀ j, j < n → M2 rk j = M1 rk j := fun j hj => by rw [h2 rk hrk j hj, ht rk (Nat.le_refl _)]; exact e2 _ _
      refine .inl ⟨by omega, fun i hi => ?_, fun i hi j hj => ?_⟩
      · rcases Nat.lt_succ_iff_lt_or_eq.1 hi with q | q
        · rw [same i (by omega) i (by omega)]; exact d1 i q
        · have a : i = rk := by omega
          have g : M2 i i = M2 rk c := by rw [← a, ← q]
          rw [g, top c hc]; exact hne
      · rcases Nat.lt_succ_iff_lt_or_eq.1 hi with q | q
        · rw [same i (by omega) j (by omega)]; exact d2 i q j hj
        · have a : i = rk := by omega
          rw [a, top j (by omega)]; exact low1 rk (Nat.le_refl _) hrk j (by omega)
    · exact .inr ⟨by omega, q2⟩
where
  e1 (a : Fin p) : 0 - a * 0 = 0 := by grind
  e2 (a b : Fin p) : a - 0 * b = a := by grind
theorem El.done (hp : Fld p) (h : El r n M0 M rk c) (he : c = n ∨ rk = r) : rk = n ↔ ∀ v, Ker r n M0 v → ∀ j, j < n → v j = 0 := by
  have h1 := h.rkc
  have h2 := h.cn
  have h3 := h.rkr
  constructor
  · intro e v hv
    rcases h.two with ⟨e1, d1, d2⟩ | ⟨q, _⟩
    · have ec : c = n := by omega
      subst ec
      exact ker_ut hp (by omega) d1 d2 ((h.ker v).2 hv)
    · omega
  · intro hv
    rcases h.two with ⟨e1, d1, d2⟩ | ⟨_, v, v1, j, v2, v3⟩
    · rcases Nat.lt_or_ge rk n with q | q
      · obtain ⟨v, v1, j, v2, v3⟩ := ker_ex hp (show r < n by omega) M0
        exact absurd (hv v v1 j v2) v3
      · omega
    · exact absurd (hv v v1 j v2) v3
end
end Go.SH
