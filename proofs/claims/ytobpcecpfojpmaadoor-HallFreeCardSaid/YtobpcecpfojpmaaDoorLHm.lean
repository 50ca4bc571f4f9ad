/-
  ORE: as many stand as all, less what the worst of them lack; the program's matching. Conditions: at most eight elements.
-/
import Derived.Test.YtobpcecpfojpmaaDoorLHg
set_option linter.unusedSimpArgs false
set_option linter.unusedVariables false
namespace Go.SH
open Go Go.AX

theorem cnt_sumO (s : Nat) : ∀ m, ((cnt m s : Nat) : Int) = sumN m fun i => if s.testBit i = true then 1 else 0
  | 0 => rfl
  | m + 1 => by
    simp only [cnt, sumN]
    rw [← cnt_sumO s m]
    split <;> simp_all
theorem sumN_nonneg {n : Nat} {g : Nat → Int} (h : ∀ i, i < n → 0 ≤ g i) : 0 ≤ sumN n g := by
  have := sumN_le (n := n) (g := fun _ => 0) (h := g) h
  rw [sumN_zero] at this; exact this
theorem exists_mask (m : Nat) (p : Nat → Prop) : ∃ s : Nat, s < 2 ^ m ∧ ∀ i, s.testBit i = true ↔ i < m ∧ p i := by
  induction m with
  | zero => exact ⟨0, by simp, fun i => by simp⟩
  | succ m ih =>
    obtain ⟨s, hs, hb⟩ := ih
    have h2 : (2 : Nat) ^ (m + 1) = 2 ^ m + 2 ^ m := by rw [Nat.pow_succ]; omega
    rcases Classical.em (p m) with c | c
    · refine ⟨s ||| 2 ^ m, or_lt (n := m + 1) (by omega) (by have : 0 < 2 ^ m := Nat.pow_pos (by omega); omega), fun i => ?_⟩
      rw [Nat.testBit_or, testBit_pow, Bool.or_eq_true, decide_eq_true_eq, hb]
      constructor
      · rintro (⟨h1, h3⟩ | rfl)
        · exact ⟨by omega, h3⟩
        · exact ⟨by omega, c⟩
      · rintro ⟨h1, h3⟩
        rcases Nat.lt_succ_iff_lt_or_eq.1 h1 with d | d
        · exact .inl ⟨d, h3⟩
        · exact .inr d.symm
    · refine ⟨s, by omega, fun i => ?_⟩
      rw [hb]
      constructor
      · rintro ⟨h1, h3⟩; exact ⟨by omega, h3⟩
      · rintro ⟨h1, h3⟩
        rcases Nat.lt_succ_iff_lt_or_eq.1 h1 with d | d
        · exact ⟨d, h3⟩
        · subst d; exact absurd h3 c
theorem occ_nonneg (n : Nat) (of : List Int) (v : Nat) : 0 ≤ occ n of v := sumN_nonneg fun i _ => by split <;> omega
theorem occ_pos {n x v : Nat} {of : List Int} (hx : x < n) (h : of.getD x 0 = (v : Int)) : 0 < occ n of v := by
  have h1 := sumN_single n x 1 hx
  have h2 := sumN_le (n := n) (g := fun j => if j = x then 1 else 0) (h := fun y => if of.getD y 0 = (v : Int) then 1 else 0) fun j hj => by
    by_cases c : j = x
    · subst c; rw [if_pos rfl, if_pos h]; exact Int.le_refl _
    · rw [if_neg c]; split <;> omega
  unfold occ
  omega

/-- What all of them have. -/
def IsN (L : List Nat) (s N : Nat) : Prop := ∀ x, N.testBit x = true ↔ ∃ v, v < L.length ∧ s.testBit v = true ∧ (L.getD v 0).testBit x = true
/-- A matching with what bars a greater one. -/
structure MO (n : Nat) (L : List Nat) (k : Nat) (of : List Int) (many : Int) : Prop where
  mv : MV n L of
  one : ∀ v, v < k → occ n of v = 0 ∨ occ n of v = 1
  none : ∀ v, k ≤ v → occ n of v = 0
  many : many = sumN k fun v => occ n of v
  bar : ∃ (D : Nat → Prop) (S : Nat), S < 2 ^ n ∧ (∀ v, v < k → occ n of v = 0 → D v) ∧ (∀ v, D v → v < k ∧ Inc (L.getD v 0) S) ∧ ∀ x, S.testBit x = true → ∃ j : Nat, of.getD x 0 = (j : Int) ∧ D j
theorem MO.bd {n k : Nat} {L : List Nat} {of : List Int} {many : Int} (h : MO n L k of many) : 0 ≤ many ∧ many ≤ k := by
  rw [h.many]
  refine ⟨sumN_nonneg fun v _ => occ_nonneg _ _ _, ?_⟩
  have := sumN_le (n := k) (g := fun v => occ n of v) (h := fun _ => 1) fun v hv => by rcases h.one v hv with q | q <;> omega
  have e : ∀ k : Nat, sumN k (fun _ => (1 : Int)) = k := fun k => by
    induction k with
    | zero => rfl
    | succ k ih => simp only [sumN, ih]; omega
  rw [e] at this; exact this

/-- ORE. -/
def Ore (n : Nat) (L : List Nat) (many : Int) : Prop :=
  (∀ s N, s < 2 ^ L.length → N < 2 ^ n → IsN L s N → ((cnt L.length s : Nat) : Int) - (cnt n N : Nat) ≤ L.length - many) ∧
  ∃ s, s < 2 ^ L.length ∧ ∀ N, N < 2 ^ n → IsN L s N → (L.length : Int) - many ≤ ((cnt L.length s : Nat) : Int) - (cnt n N : Nat)
theorem MO.swap {n : Nat} {L : List Nat} {of : List Int} {many : Int} (h : MO n L L.length of many) (s : Nat) : (sumN L.length fun v => if s.testBit v = true then occ n of v else 0) = sumN n fun x => sumN L.length fun v => if s.testBit v = true ∧ of.getD x 0 = (v : Int) then 1 else 0 := by
  have _ := h
  rw [sumN_swap]
  refine sumN_congr fun v _ => ?_
  by_cases c : s.testBit v = true
  · rw [if_pos c]
    unfold occ
    exact sumN_congr fun x _ => by simp [c]
  · rw [if_neg c]
    rw [sumN_congr (h := fun _ => 0) fun x _ => by rw [if_neg (fun q => c q.1)], sumN_zero]
theorem MO.rest {n : Nat} {L : List Nat} {of : List Int} {many : Int} (h : MO n L L.length of many) (s : Nat) : ((cnt L.length s : Nat) : Int) - (sumN L.length fun v => if s.testBit v = true then occ n of v else 0) ≤ L.length - many ∧ ((∀ v, v < L.length → s.testBit v = false → occ n of v = 1) → (L.length : Int) - many ≤ ((cnt L.length s : Nat) : Int) - (sumN L.length fun v => if s.testBit v = true then occ n of v else 0)) := by
  have e : ∀ k : Nat, sumN k (fun _ => (1 : Int)) = k := fun k => by
    induction k with
    | zero => rfl
    | succ k ih => simp only [sumN, ih]; omega
  have neg : ∀ (k : Nat) (g : Nat → Int), sumN k (fun v => (-1) * g v) = (-1) * sumN k g := fun k g => sumN_mul k (-1) g
  have e1 : (L.length : Int) - many = sumN L.length fun v => 1 + (-1) * occ n of v := by
    have h3 : many = sumN L.length (occ n of) := h.many
    rw [sumN_add, e, neg]; omega
  have e2 : ((cnt L.length s : Nat) : Int) - (sumN L.length fun v => if s.testBit v = true then occ n of v else 0) = sumN L.length fun v => (if s.testBit v = true then 1 else 0) + (-1) * (if s.testBit v = true then occ n of v else 0) := by
    rw [sumN_add, neg, cnt_sumO]; omega
  rw [e1, e2]
  refine ⟨sumN_le fun v hv => ?_, fun hone => sumN_le fun v hv => ?_⟩
  · rcases h.one v hv with q | q <;> by_cases c : s.testBit v = true <;> simp [c, q]
  · by_cases c : s.testBit v = true
    · simp [c]
    · have := hone v hv (by simpa using c)
      simp [c, this]
theorem MO.ore {n : Nat} {L : List Nat} {of : List Int} {many : Int} (h : MO n L L.length of many) : Ore n L many := by
  refine ⟨fun s N hs hN hI => ?_, ?_⟩
  · have h1 := (h.rest s).1
    have h2 : (sumN L.length fun v => if s.testBit v = true then occ n of v else 0) ≤ ((cnt n N : Nat) : Int) := by
      rw [h.swap, cnt_sumO]
      refine sumN_le fun x hx => ?_
      rcases h.mv.ok x hx with q | ⟨j, hj, hoj, hb⟩
      · rw [sumN_congr (h := fun _ => 0) fun v _ => by rw [if_neg (fun z => by omega)], sumN_zero]
        split <;> omega
      · by_cases c : s.testBit j = true
        · have hNx : N.testBit x = true := (hI x).2 ⟨j, hj, c, hb⟩
          rw [sumN_congr (h := fun v => if v = j then 1 else 0) fun v _ => by
            by_cases d : v = j
            · subst d; rw [if_pos ⟨c, hoj⟩, if_pos rfl]
            · rw [if_neg (fun z => d (by omega)), if_neg d], sumN_single _ _ _ hj, if_pos hNx]
          exact Int.le_refl _
        · rw [sumN_congr (h := fun _ => 0) fun v _ => by
            rw [if_neg (fun z => by
              have : v = j := by omega
              subst this; exact c z.1)], sumN_zero]
          split <;> omega
    omega
  · obtain ⟨D, S, hS, a, b, c⟩ := h.bar
    obtain ⟨s, hs, hsb⟩ := exists_mask L.length D
    refine ⟨s, hs, fun N hN hI => ?_⟩
    have h1 := (h.rest s).2 fun v hv hf => by
      rcases h.one v hv with q | q
      · have := (hsb v).2 ⟨hv, a v hv q⟩
        rw [this] at hf; cases hf
      · exact q
    have h2 : ((cnt n S : Nat) : Int) ≤ sumN L.length fun v => if s.testBit v = true then occ n of v else 0 := by
      rw [h.swap, cnt_sumO]
      refine sumN_le fun x hx => ?_
      by_cases d : S.testBit x = true
      · obtain ⟨j, hoj, hD⟩ := c x d
        obtain ⟨hj, _⟩ := b j hD
        have hsj := (hsb j).2 ⟨hj, hD⟩
        rw [if_pos d, sumN_congr (h := fun v => if v = j then 1 else 0) fun v _ => by
          by_cases e : v = j
          · subst e; rw [if_pos ⟨hsj, hoj⟩, if_pos rfl]
          · rw [if_neg (fun z => e (by omega)), if_neg e], sumN_single _ _ _ hj]
        exact Int.le_refl _
      · rw [if_neg d]
        exact sumN_nonneg fun v _ => by split <;> omega
    have h3 : cnt n N ≤ cnt n S := cnt_le_of_inc fun x hx => by
      obtain ⟨v, _, v2, v3⟩ := (hI x).1 hx
      exact (b v ((hsb v).1 v2).2).2 x v3
    omega
end Go.SH
