/-
  Submodular numbers of sets: their least values are a lattice. Conditions: none.
-/
import Derived.Test.YtcjhpcbipcdhiaaLU
import Derived.Test.YtcjhpcbipcdhiaaLM
import Derived.Test.YtcjhpcbipcdhiaaSpslices
set_option linter.unusedSimpArgs false
set_option linter.unusedVariables false
namespace Go.SH
open Go Go.AX

/-- The least value, and of the sets that have it what all have and what any has. -/
structure LeastOf (m : Nat) (f : List Int) (r : Int × Int × Int × Int) : Prop where
  ok : r.2.2.2 = 0
  at_ : ∃ k, k < 2 ^ m ∧ f.getD k 0 = r.1
  least : ∀ k, k < 2 ^ m → r.1 ≤ f.getD k 0
  low : ∃ l : Nat, r.2.1 = (l : Int) ∧ l < 2 ^ m ∧ ∀ i, i < m → (l.testBit i = true ↔ ∀ k, k < 2 ^ m → f.getD k 0 = r.1 → k.testBit i = true)
  high : ∃ l : Nat, r.2.2.1 = (l : Int) ∧ l < 2 ^ m ∧ ∀ i, i < m → (l.testBit i = true ↔ ∃ k, k < 2 ^ m ∧ f.getD k 0 = r.1 ∧ k.testBit i = true)
theorem subm1 (a : Int) (h1 : -1000 ≤ a) (h2 : a ≤ 1000) : Subm 1 [0, a] := by
  refine ⟨⟨by omega, rfl, fun k hk => ?_, rfl⟩, fun s hs i hi k hk => by omega⟩
  match k, hk with
  | 0, _ => simp
  | 1, _ => simpa using ⟨h1, h2⟩

theorem Subm.less {m : Nat} {f : List Int} (hf : Subm m f) {i : Nat} (hi : i < m) : ∀ s, s < 2 ^ m → ∀ t, t < 2 ^ m → Inc t s → s.testBit i = false → f.getD (s ||| 2 ^ i) 0 - f.getD s 0 ≤ f.getD (t ||| 2 ^ i) 0 - f.getD t 0 := by
  -- from t to t ||| d, element by element of d
  have key : ∀ t, t < 2 ^ m → ∀ d, d < 2 ^ m → (t ||| d).testBit i = false → f.getD (t ||| d ||| 2 ^ i) 0 - f.getD (t ||| d) 0 ≤ f.getD (t ||| 2 ^ i) 0 - f.getD t 0 := by
    intro t ht
    refine set_ind (m := m) _ (fun _ => by rw [Nat.or_zero]; exact Int.le_refl _) fun d k hd hk hdk ih h => ?_
    rw [← Nat.or_assoc] at h ⊢
    have h' : (t ||| d).testBit i = false := by
      rw [Nat.testBit_or] at h
      simp only [Bool.or_eq_false_iff] at h
      exact h.1
    have hki : k ≠ i := by
      rintro rfl
      rw [Nat.testBit_or, testBit_pow] at h; simp at h
    have ih := ih h'
    have hs := or_lt ht hd
    cases hb : (t ||| d).testBit k
    · -- the two elements are new
      have e0 : (t ||| d) &&& (2 ^ i ||| 2 ^ k) = 0 := by
        rw [disj_iff]; intro j hj
        rw [Nat.testBit_or, testBit_pow, testBit_pow]
        have h1 : i ≠ j := by rintro rfl; rw [hj] at h'; cases h'
        have h2 : k ≠ j := by rintro rfl; rw [hj] at hb; cases hb
        simp [h1, h2]
      have e1 : (t ||| d) &&& (2 ^ k ||| 2 ^ i) = 0 := by rw [Nat.or_comm (2 ^ k)]; exact e0
      have c : t ||| d ||| 2 ^ k ||| 2 ^ i = t ||| d ||| 2 ^ i ||| 2 ^ k := by rw [Nat.or_assoc, Nat.or_comm (2 ^ k), ← Nat.or_assoc]
      rcases Nat.lt_or_gt_of_ne hki with q | q
      · have := hf.sub _ hs i hi k q e0
        rw [c]; omega
      · have := hf.sub _ hs k hk i q e1
        rw [c] at this ⊢; omega
    · have : t ||| d ||| 2 ^ k = t ||| d := by
        apply Nat.eq_of_testBit_eq; intro j
        rw [Nat.testBit_or (t ||| d), testBit_pow]
        by_cases q : k = j
        · subst q; rw [hb]; rfl
        · simp [q]
      rw [this]; exact ih
  intro s hs t ht hts hsi
  have e : t ||| s = s := by
    apply Nat.eq_of_testBit_eq; intro j
    rw [Nat.testBit_or]
    cases h : t.testBit j
    · rfl
    · rw [hts j h]; rfl
  have := key t ht s hs (by rw [e]; exact hsi)
  rwa [e] at this

theorem Subm.modular {m : Nat} {f : List Int} (hf : Subm m f) {s t : Nat} (hs : s < 2 ^ m) (ht : t < 2 ^ m) : f.getD (s ||| t) 0 + f.getD (s &&& t) 0 ≤ f.getD s 0 + f.getD t 0 := by
  have key : ∀ d, d < 2 ^ m → (∀ i, d.testBit i = true → s.testBit i = false) → f.getD (s ||| d) 0 - f.getD s 0 ≤ f.getD ((s &&& t) ||| d) 0 - f.getD (s &&& t) 0 := by
    refine set_ind (m := m) _ (fun _ => by rw [Nat.or_zero, Nat.or_zero]; omega) fun d k hd hk hdk ih h => ?_
    have h1 := ih fun i hi => h i (by rw [Nat.testBit_or, hi]; rfl)
    have hsk : s.testBit k = false := h k (by rw [Nat.testBit_or, testBit_pow]; simp)
    have h2 := hf.less hk (s ||| d) (or_lt hs hd) ((s &&& t) ||| d) (or_lt (and_lt hs) hd) (inc_or ((inc_and_l s t).trans (inc_or_l _ _)) (inc_or_r _ _)) (by rw [Nat.testBit_or, hsk, hdk]; rfl)
    rw [← Nat.or_assoc, ← Nat.or_assoc]
    omega
  have := key (dif t s) (dif_lt ht) fun i hi => by
    rw [testBit_dif, Bool.and_eq_true, Bool.not_eq_true'] at hi; exact hi.2
  have e1 : s ||| dif t s = s ||| t := by
    apply Nat.eq_of_testBit_eq; intro i
    rw [Nat.testBit_or, Nat.testBit_or, testBit_dif]
    cases s.testBit i <;> cases t.testBit i <;> rfl
  have e2 : (s &&& t) ||| dif t s = t := by
    apply Nat.eq_of_testBit_eq; intro i
    rw [Nat.testBit_or, Nat.testBit_and, testBit_dif]
    cases s.testBit i <;> cases t.testBit i <;> rfl
  rw [e1, e2] at this
  omega

/-- Of the sets that have the least number: what all have has it, what any has has it. -/
theorem LeastOf.lattice {m : Nat} {f : List Int} (hf : Subm m f) {r : Int × Int × Int × Int} (h : LeastOf m f r) : ∃ a b : Nat, r.2.1 = (a : Int) ∧ r.2.2.1 = (b : Int) ∧ a < 2 ^ m ∧ b < 2 ^ m ∧ f.getD a 0 = r.1 ∧ f.getD b 0 = r.1 ∧ Inc a b := by
  obtain ⟨a, ea, a1, a2⟩ := h.low
  obtain ⟨b, eb, b1, b2⟩ := h.high
  obtain ⟨k0, k1, k2⟩ := h.at_
  have lat : ∀ s t, s < 2 ^ m → t < 2 ^ m → f.getD s 0 = r.1 → f.getD t 0 = r.1 → f.getD (s ||| t) 0 = r.1 ∧ f.getD (s &&& t) 0 = r.1 := fun s t hs ht e1 e2 => by
    have h1 := hf.modular hs ht
    have h2 := h.least _ (or_lt hs ht)
    have h3 := h.least _ (and_lt (b := t) hs)
    omega
  -- one with fewest, one with most
  have low : ∀ d s, cnt m s ≤ d → s < 2 ^ m → f.getD s 0 = r.1 → f.getD a 0 = r.1 := by
    intro d
    induction d with
    | zero =>
      intro s hd hs e
      have : s = a := by
        refine set_ext hs a1 fun i hi => ?_
        rw [Bool.eq_iff_iff, a2 i hi]
        constructor
        · intro q
          have := cnt_pos hs q; omega
        · intro q; exact q s hs e
      rw [← this]; exact e
    | succ d ih =>
      intro s hd hs e
      rcases Classical.em (∃ t, t < 2 ^ m ∧ f.getD t 0 = r.1 ∧ ¬ Inc s t) with ⟨t, t1, t2, t3⟩ | q
      · obtain ⟨i, i1, i2⟩ := not_inc t3
        have h1 := (lat s t hs t1 e t2).2
        have h2 : cnt m (s &&& t) < cnt m s := cnt_lt_of (inc_and_l s t) hs i1 (by rw [Nat.testBit_and, i2, Bool.and_false])
        exact ih (s &&& t) (by omega) (and_lt hs) h1
      · have : s = a := by
          refine set_ext hs a1 fun i hi => ?_
          rw [Bool.eq_iff_iff, a2 i hi]
          constructor
          · intro q1 t t1 t2
            rcases Classical.em (Inc s t) with c | c
            · exact c i q1
            · exact absurd ⟨t, t1, t2, c⟩ q
          · intro q1; exact q1 s hs e
        rw [← this]; exact e
  have high : ∀ d s, m - cnt m s ≤ d → s < 2 ^ m → f.getD s 0 = r.1 → f.getD b 0 = r.1 := by
    intro d
    induction d with
    | zero =>
      intro s hd hs e
      have hc := cnt_le m s
      have hall := cnt_full (m := m) (s := s) (by omega)
      have : s = b := by
        refine set_ext hs b1 fun i hi => ?_
        rw [hall i hi]
        exact ((b2 i hi).2 ⟨s, hs, e, hall i hi⟩).symm
      rw [← this]; exact e
    | succ d ih =>
      intro s hd hs e
      rcases Classical.em (∃ t, t < 2 ^ m ∧ f.getD t 0 = r.1 ∧ ¬ Inc t s) with ⟨t, t1, t2, t3⟩ | q
      · obtain ⟨i, i1, i2⟩ := not_inc t3
        have h1 := (lat s t hs t1 e t2).1
        have h2 : cnt m s < cnt m (s ||| t) := cnt_lt_of (inc_or_l s t) (or_lt hs t1) (by rw [Nat.testBit_or, i1, Bool.or_true]) i2
        exact ih (s ||| t) (by omega) (or_lt hs t1) h1
      · have : s = b := by
          refine set_ext hs b1 fun i hi => ?_
          rw [Bool.eq_iff_iff, b2 i hi]
          constructor
          · intro q1; exact ⟨s, hs, e, q1⟩
          · rintro ⟨t, t1, t2, t3⟩
            rcases Classical.em (Inc t s) with c | c
            · exact c i t3
            · exact absurd ⟨t, t1, t2, c⟩ q
        rw [← this]; exact e
  refine ⟨a, b, ea, eb, a1, b1, low _ k0 (Nat.le_refl _) k1 k2, high _ k0 (Nat.le_refl _) k1 k2, fun i hi => ?_⟩
  have him := bit_lt a1 hi
  exact (b2 i him).2 ⟨k0, k1, k2, (a2 i him).1 hi k0 k1 k2⟩
end Go.SH
