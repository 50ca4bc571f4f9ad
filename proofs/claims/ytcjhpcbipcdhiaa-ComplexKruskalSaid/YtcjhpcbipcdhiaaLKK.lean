/-
  KRUSKAL, KATONA (by FRANKL'S way): a family of sets of one size has no less in its shadow than the first as many. Conditions: at most eight elements.
-/
import Derived.Test.YtcjhpcbipcdhiaaLWa
import Derived.KernelRfl
set_option linter.unusedSimpArgs false
set_option linter.unusedVariables false
namespace Go.SH
open Go Go.AX

/-- How many sets are in a family. -/
def num (m : Nat) (A : Nat → Bool) : Int := sumN (2 ^ m) fun s => if A s = true then 1 else 0
theorem num_le {m : Nat} {A B : Nat → Bool} (h : ∀ s, s < 2 ^ m → A s = true → B s = true) : num m A ≤ num m B := by
  refine sumN_le fun s hs => ?_
  by_cases c : A s = true
  · rw [if_pos c, if_pos (h s hs c)]; omega
  · rw [if_neg c]; split <;> omega
theorem num_nonneg (m : Nat) (A : Nat → Bool) : 0 ≤ num m A := by
  have := sumN_le (n := 2 ^ m) (g := fun _ => 0) (h := fun s => if A s = true then 1 else 0) fun s _ => by split <;> omega
  rw [sumN_zero] at this
  exact this
theorem sumN_lt {n : Nat} {g h : Nat → Int} (e : ∀ i, i < n → g i ≤ h i) {k : Nat} (hk : k < n) (hs : g k < h k) : sumN n g < sumN n h := by
  induction n with
  | zero => omega
  | succ n ih =>
    simp only [sumN]
    have h1 := e n (by omega)
    rcases Nat.lt_or_ge k n with q | q
    · have := ih (fun i hi => e i (by omega)) q; omega
    · have : k = n := by omega
      subst this
      have := sumN_le (n := k) fun i hi => e i (by omega)
      omega
/-- The sets that have one element less than one of the family. -/
def shad (m : Nat) (A : Nat → Bool) (t : Nat) : Bool := (List.range m).any fun i => !t.testBit i && A (t ||| 2 ^ i)
theorem shad_iff {m : Nat} {A : Nat → Bool} {t : Nat} : shad m A t = true ↔ ∃ i, i < m ∧ t.testBit i = false ∧ A (t ||| 2 ^ i) = true := by
  unfold shad
  rw [List.any_eq_true]
  constructor
  · rintro ⟨i, h1, h2⟩
    rw [Bool.and_eq_true, Bool.not_eq_true'] at h2
    exact ⟨i, List.mem_range.1 h1, h2.1, h2.2⟩
  · rintro ⟨i, h1, h2, h3⟩
    exact ⟨i, List.mem_range.2 h1, by rw [h2, h3]; rfl⟩
/-- Two elements change places. -/
def tau (j e s : Nat) : Nat := s ^^^ 2 ^ j ^^^ 2 ^ e
theorem tau_bit (j e s i : Nat) : (tau j e s).testBit i = ((s.testBit i ^^ decide (j = i)) ^^ decide (e = i)) := by
  unfold tau
  rw [Nat.testBit_xor, Nat.testBit_xor, testBit_pow, testBit_pow]
theorem tau_tau (j e s : Nat) : tau j e (tau j e s) = s := by
  apply Nat.eq_of_testBit_eq; intro i
  rw [tau_bit, tau_bit]
  cases s.testBit i <;> cases decide (j = i) <;> cases decide (e = i) <;> rfl
theorem tau_or {j e t i : Nat} (h1 : j ≠ i) (h2 : e ≠ i) : tau j e (t ||| 2 ^ i) = tau j e t ||| 2 ^ i := by
  apply Nat.eq_of_testBit_eq; intro k
  rw [tau_bit, Nat.testBit_or, Nat.testBit_or, tau_bit, testBit_pow]
  by_cases c : i = k
  · subst c; simp [h1, h2]
  · simp [c]
theorem tau_je {j e t : Nat} (hne : j ≠ e) (h1 : t.testBit j = true) (h2 : t.testBit e = false) : tau j e t ||| 2 ^ j = t ||| 2 ^ e := by
  apply Nat.eq_of_testBit_eq; intro k
  rw [Nat.testBit_or, tau_bit, Nat.testBit_or, testBit_pow, testBit_pow]
  by_cases c : j = k
  · subst c; simp [h1]
  · by_cases d : e = k
    · subst d; simp [h2, c]
    · simp [c, d]
theorem tau_n {j e t : Nat} (hne : j ≠ e) (h1 : t.testBit j = false) (h2 : t.testBit e = false) : tau j e (t ||| 2 ^ e) = t ||| 2 ^ j := by
  apply Nat.eq_of_testBit_eq; intro k
  rw [tau_bit, Nat.testBit_or, Nat.testBit_or, testBit_pow, testBit_pow]
  by_cases c : j = k
  · subst c; simp [h1, Ne.symm hne]
  · by_cases d : e = k
    · subst d; simp [h2, c]
    · simp [c, d]
theorem tau_n' {j e t : Nat} (hne : j ≠ e) (h1 : t.testBit j = false) (h2 : t.testBit e = false) : tau j e (t ||| 2 ^ j) = t ||| 2 ^ e := by
  rw [← tau_n hne h1 h2, tau_tau]
theorem sumN_tau {m j e : Nat} (hj : j < m) (he : e < m) (f : Nat → Int) : sumN (2 ^ m) (fun s => f (tau j e s)) = sumN (2 ^ m) f := by
  unfold tau
  rw [sumN_turn m j (fun s => f (s ^^^ 2 ^ e)) hj, sumN_turn m e f he]
theorem cnt_tau {m j e s : Nat} (hs : s < 2 ^ m) (hj : j < m) (he : e < m) (h1 : s.testBit e = true) (h2 : s.testBit j = false) : cnt m (tau j e s) = cnt m s := by
  have e1 : tau j e s = dif s (2 ^ e) ||| 2 ^ j := by
    apply Nat.eq_of_testBit_eq; intro k
    rw [tau_bit, Nat.testBit_or, testBit_dif, testBit_pow, testBit_pow]
    by_cases c : j = k
    · subst c
      have : e ≠ j := fun q => by rw [q, h2] at h1; cases h1
      simp [h2, this]
    · by_cases d : e = k
      · subst d; simp [h1, c]
      · simp [c, d]
  rw [e1, cnt_add hj (by rw [testBit_dif, h2]; rfl), ← cnt_dif hs h1]

/-- The shift: an element gives way to another one where it can. -/
def shf (j e : Nat) (A : Nat → Bool) (s : Nat) : Bool := if s.testBit e = s.testBit j then A s else if s.testBit e = true then A s || A (tau j e s) else A s && A (tau j e s)
theorem shf_same {j e s : Nat} {A : Nat → Bool} (h : s.testBit e = s.testBit j) : shf j e A s = A s := by unfold shf; rw [if_pos h]
theorem shf_e {j e s : Nat} {A : Nat → Bool} (h : s.testBit e = true) (h' : s.testBit j = false) : shf j e A s = (A s || A (tau j e s)) := by
  unfold shf; rw [if_neg (by rw [h, h']; simp), if_pos h]
theorem shf_j {j e s : Nat} {A : Nat → Bool} (h : s.testBit e = false) (h' : s.testBit j = true) : shf j e A s = (A s && A (tau j e s)) := by
  unfold shf; rw [if_neg (by rw [h, h']; simp), if_neg (by rw [h]; simp)]
theorem shf_pair {j e : Nat} (hne : j ≠ e) (A : Nat → Bool) (s : Nat) :
    ((if shf j e A s = true then 1 else 0 : Int) + if shf j e A (tau j e s) = true then 1 else 0) = (if A s = true then 1 else 0) + if A (tau j e s) = true then 1 else 0 := by
  have be : (tau j e s).testBit e = !s.testBit e := by rw [tau_bit]; simp [hne]
  have bj : (tau j e s).testBit j = !s.testBit j := by rw [tau_bit]; simp [Ne.symm hne]
  cases h1 : s.testBit e <;> cases h2 : s.testBit j
  · rw [shf_same (by rw [h1, h2]), shf_same (by rw [be, bj, h1, h2])]
  · rw [shf_j h1 h2, shf_e (by rw [be, h1]; rfl) (by rw [bj, h2]; rfl), tau_tau]
    cases A s <;> cases A (tau j e s) <;> rfl
  · rw [shf_e h1 h2, shf_j (by rw [be, h1]; rfl) (by rw [bj, h2]; rfl), tau_tau]
    cases A s <;> cases A (tau j e s) <;> rfl
  · rw [shf_same (by rw [h1, h2]), shf_same (by rw [be, bj, h1, h2])]
theorem num_shf {m j e : Nat} (hj : j < m) (he : e < m) (hne : j ≠ e) (A : Nat → Bool) : num m (shf j e A) = num m A := by
  have h1 := sumN_tau hj he (fun s => if shf j e A s = true then (1 : Int) else 0)
  have h2 := sumN_tau hj he (fun s => if A s = true then (1 : Int) else 0)
  have h3 := sumN_congr (n := 2 ^ m) fun s (_ : s < 2 ^ m) => shf_pair hne A s
  rw [sumN_add, sumN_add] at h3
  unfold num
  omega
theorem shad_shf {m j e : Nat} (hj : j < m) (he : e < m) (hne : j ≠ e) (A : Nat → Bool) (t : Nat) (h : shad m (shf j e A) t = true) : shf j e (shad m A) t = true := by
  obtain ⟨i, hi, hti, hA⟩ := shad_iff.1 h
  have bit : ∀ k, i ≠ k → (t ||| 2 ^ i).testBit k = t.testBit k := fun k hk => by rw [Nat.testBit_or, testBit_pow]; simp [hk]
  have bit' : (t ||| 2 ^ i).testBit i = true := by rw [Nat.testBit_or, testBit_pow]; simp
  cases hq : t.testBit e <;> cases hp : t.testBit j
  · rw [shf_same (by rw [hq, hp])]
    by_cases c : i = j
    · subst c
      rw [shf_j (by rw [bit e hne]; exact hq) bit', Bool.and_eq_true] at hA
      exact shad_iff.2 ⟨i, hi, hti, hA.1⟩
    by_cases d : i = e
    · subst d
      rw [shf_e bit' (by rw [bit j c]; exact hp), Bool.or_eq_true, tau_n hne hp hq] at hA
      rcases hA with q | q
      · exact shad_iff.2 ⟨i, hi, hti, q⟩
      · exact shad_iff.2 ⟨j, hj, hp, q⟩
    · rw [shf_same (by rw [bit e d, bit j c, hq, hp])] at hA
      exact shad_iff.2 ⟨i, hi, hti, hA⟩
  · rw [shf_j hq hp, Bool.and_eq_true]
    have c : i ≠ j := fun q => by rw [q, hp] at hti; cases hti
    by_cases d : i = e
    · subst d
      rw [shf_same (by rw [bit', bit j c, hp])] at hA
      refine ⟨shad_iff.2 ⟨i, hi, hti, hA⟩, shad_iff.2 ⟨j, hj, by rw [tau_bit, hp]; simp [Ne.symm hne], ?_⟩⟩
      rw [tau_je hne hp hq]; exact hA
    · rw [shf_j (by rw [bit e d]; exact hq) (by rw [bit j c]; exact hp), Bool.and_eq_true, tau_or (Ne.symm c) (Ne.symm d)] at hA
      exact ⟨shad_iff.2 ⟨i, hi, hti, hA.1⟩, shad_iff.2 ⟨i, hi, by rw [tau_bit, hti]; simp [Ne.symm c, Ne.symm d], hA.2⟩⟩
  · rw [shf_e hq hp, Bool.or_eq_true]
    have d : i ≠ e := fun q => by rw [q, hq] at hti; cases hti
    by_cases c : i = j
    · subst c
      rw [shf_same (by rw [bit', bit e d, hq])] at hA
      exact .inl (shad_iff.2 ⟨i, hi, hti, hA⟩)
    · rw [shf_e (by rw [bit e d]; exact hq) (by rw [bit j c]; exact hp), Bool.or_eq_true, tau_or (Ne.symm c) (Ne.symm d)] at hA
      rcases hA with q | q
      · exact .inl (shad_iff.2 ⟨i, hi, hti, q⟩)
      · exact .inr (shad_iff.2 ⟨i, hi, by rw [tau_bit, hti]; simp [Ne.symm c, Ne.symm d], q⟩)
  · rw [shf_same (by rw [hq, hp])]
    have d : i ≠ e := fun q => by rw [q, hq] at hti; cases hti
    have c : i ≠ j := fun q => by rw [q, hp] at hti; cases hti
    rw [shf_same (by rw [bit e d, bit j c, hq, hp])] at hA
    exact shad_iff.2 ⟨i, hi, hti, hA⟩

/-- All of one size. -/
def Unif (m k : Nat) (A : Nat → Bool) : Prop := ∀ s, s < 2 ^ m → A s = true → cnt m s = k
theorem tau_lt {m j e s : Nat} (hs : s < 2 ^ m) (hj : j < m) (he : e < m) : tau j e s < 2 ^ m := xor_pow_lt (xor_pow_lt hs hj) he
theorem Unif.shf {m k j e : Nat} {A : Nat → Bool} (h : Unif m k A) (hj : j < m) (he : e < m) : Unif m k (shf j e A) := by
  intro s hs hA
  cases hq : s.testBit e <;> cases hp : s.testBit j
  · rw [shf_same (by rw [hq, hp])] at hA; exact h s hs hA
  · rw [shf_j hq hp, Bool.and_eq_true] at hA; exact h s hs hA.1
  · rw [shf_e hq hp, Bool.or_eq_true] at hA
    rcases hA with q | q
    · exact h s hs q
    · rw [← cnt_tau hs hj he hq hp]; exact h _ (tau_lt hs hj he) q
  · rw [shf_same (by rw [hq, hp])] at hA; exact h s hs hA
theorem up_eq {m t : Nat} (ht : t < 2 ^ m) : 2 ^ m + t = t ||| 2 ^ m := by
  apply Nat.eq_of_testBit_eq; intro i
  rw [add_bit ht, Nat.testBit_or, testBit_pow, Bool.or_comm]
  congr 1
  exact decide_eq_decide.2 ⟨fun e => e.symm, fun e => e.symm⟩
theorem shifted (m k : Nat) : ∀ (n : Nat) (A : Nat → Bool), Unif (m + 1) k A → (num m A).toNat ≤ n →
    ∃ A' : Nat → Bool, Unif (m + 1) k A' ∧ num (m + 1) A' = num (m + 1) A ∧ num (m + 1) (shad (m + 1) A') ≤ num (m + 1) (shad (m + 1) A) ∧ ∀ t, t < 2 ^ m → shad m A' t = true → A' (2 ^ m + t) = true := by
  intro n
  induction n with
  | zero =>
    intro A hU hn
    refine ⟨A, hU, rfl, Int.le_refl _, fun t ht hs => ?_⟩
    obtain ⟨i, hi, h1, h2⟩ := shad_iff.1 hs
    exfalso
    have h3 := sumN_lt (n := 2 ^ m) (g := fun _ => 0) (h := fun s => if A s = true then (1 : Int) else 0) (fun s _ => by split <;> omega) (k := t ||| 2 ^ i) (or_lt ht (pow_lt hi)) (by rw [if_pos h2]; omega)
    rw [sumN_zero] at h3
    unfold num at hn
    omega
  | succ n ih =>
    intro A hU hn
    rcases Classical.em (∀ t, t < 2 ^ m → shad m A t = true → A (2 ^ m + t) = true) with hg | hg
    · exact ⟨A, hU, rfl, Int.le_refl _, hg⟩
    · simp only [Classical.not_forall] at hg
      obtain ⟨t, ht, hs, hA⟩ := hg
      obtain ⟨i, hi, h1, h2⟩ := shad_iff.1 hs
      have hne : i ≠ m := by omega
      have him : i < m + 1 := by omega
      have hmm : m < m + 1 := by omega
      have hlow : ∀ s, s < 2 ^ m → shf i m A s = true → A s = true := fun s hs' hA' => by
        have hm := bit_ge hs' (Nat.le_refl m)
        cases hp : s.testBit i
        · rw [shf_same (by rw [hm, hp])] at hA'; exact hA'
        · rw [shf_j hm hp, Bool.and_eq_true] at hA'; exact hA'.1
      have hlt : num m (shf i m A) < num m A := by
        refine sumN_lt (k := t ||| 2 ^ i) (fun s hs' => ?_) (or_lt ht (pow_lt hi)) ?_
        · by_cases c : shf i m A s = true
          · rw [if_pos c, if_pos (hlow s hs' c)]; omega
          · rw [if_neg c]; split <;> omega
        · rw [if_pos h2, if_neg]
          · omega
          · have b1 : (t ||| 2 ^ i).testBit i = true := by rw [Nat.testBit_or, testBit_pow]; simp
            have b2 : (t ||| 2 ^ i).testBit m = false := bit_ge (or_lt ht (pow_lt hi)) (Nat.le_refl m)
            rw [shf_j b2 b1, tau_n' hne h1 (bit_ge ht (Nat.le_refl m)), ← up_eq ht, bool_ne hA]
            simp
      have h0 := num_nonneg m (shf i m A)
      obtain ⟨A', a1, a2, a3, a4⟩ := ih (shf i m A) (hU.shf him hmm) (by omega)
      refine ⟨A', a1, a2.trans (num_shf him hmm hne A), Int.le_trans a3 ?_, a4⟩
      rw [← num_shf him hmm hne (shad (m + 1) A)]
      exact num_le fun s _ h => shad_shf him hmm hne A s h

theorem num_two (m : Nat) (A : Nat → Bool) : num (m + 1) A = num m A + num m (fun t => A (2 ^ m + t)) := sumN_two m _
/-- How many sets of a size there are. -/
def ck (m k : Nat) : Nat := (num m fun s => decide (cnt m s = k)).toNat
theorem Unif.le {m k : Nat} {A : Nat → Bool} (h : Unif m k A) : num m A ≤ ck m k := by
  have h1 := num_le (m := m) (A := A) (B := fun s => decide (cnt m s = k)) fun s hs hA => decide_eq_true (h s hs hA)
  have h2 := num_nonneg m fun s => decide (cnt m s = k)
  unfold ck
  omega
theorem kk_of (T : Nat → Nat → Nat → Nat) (hT0 : ∀ m k, T m k 0 = 0) (hTz : ∀ m a, T m 0 a = 0)
    (hstep : ∀ m k a b, m < 8 → k ≤ 8 → a ≤ ck m (k + 1) → b ≤ ck m k → T m (k + 1) a ≤ b → T (m + 1) (k + 1) (a + b) ≤ b + T m k b) :
    ∀ m, m ≤ 8 → ∀ k A, Unif m (k + 1) A → (T m (k + 1) (num m A).toNat : Int) ≤ num m (shad m A) := by
  intro m
  induction m with
  | zero =>
    intro _ k A hU
    have : num 0 A = 0 := by
      show (0 : Int) + (if A 0 = true then 1 else 0) = 0
      rw [if_neg]
      · rfl
      · intro q
        have := hU 0 (by decide) q
        simp [cnt] at this
    rw [this]
    simp only [Int.toNat_zero, hT0]
    exact num_nonneg _ _
  | succ m ih =>
    intro hm k A hU
    obtain ⟨A', a1, a2, a3, a4⟩ := shifted m (k + 1) _ A hU (Nat.le_refl _)
    rw [← a2]
    refine Int.le_trans ?_ a3
    have hk : k ≤ 8 ∨ 8 < k := by omega
    rcases hk with hk | hk
    rotate_left
    · have : num (m + 1) A' = 0 := by
        have h1 := num_le (m := m + 1) (A := A') (B := fun _ => false) fun s hs hA => by
          have := a1 s hs hA
          have := cnt_le (m + 1) s
          omega
        have h2 := num_nonneg (m + 1) A'
        have h3 : num (m + 1) (fun _ => false) = 0 := by
          unfold num
          rw [sumN_congr (h := fun _ => 0) fun s _ => by simp, sumN_zero]
        omega
      rw [this]
      simp only [Int.toNat_zero, hT0]
      exact num_nonneg _ _
    have u0 : Unif m (k + 1) A' := fun s hs hA => by
      have := a1 s (by rw [Nat.pow_succ]; omega) hA
      rw [cnt, bit_ge hs (Nat.le_refl m)] at this
      simpa using this
    have u1 : Unif m k (fun t => A' (2 ^ m + t)) := fun t ht hA => by
      have := a1 (2 ^ m + t) (by rw [Nat.pow_succ]; omega) hA
      rw [up_eq ht, cnt_add (Nat.lt_succ_self m) (bit_ge ht (Nat.le_refl m)), cnt, bit_ge ht (Nat.le_refl m)] at this
      simpa using this
    have l0 := u0.le
    have l1 := u1.le
    have n0 := num_nonneg m A'
    have n1 := num_nonneg m fun t => A' (2 ^ m + t)
    have i0 := ih (by omega) k A' u0
    have i01 := num_le (m := m) (A := shad m A') (B := fun t => A' (2 ^ m + t)) a4
    have hs := hstep m k (num m A').toNat (num m fun t => A' (2 ^ m + t)).toNat (by omega) hk (by omega) (by omega) (by omega)
    have i1 : (T m k (num m fun t => A' (2 ^ m + t)).toNat : Int) ≤ num m (shad m fun t => A' (2 ^ m + t)) := by
      rcases Nat.eq_zero_or_pos k with rfl | hk0
      · rw [hTz]; exact num_nonneg _ _
      · obtain ⟨k', rfl⟩ : ∃ k', k = k' + 1 := ⟨k - 1, by omega⟩
        exact ih (by omega) k' _ u1
    rw [num_two m A', num_two m (shad (m + 1) A'), show (num m A' + num m fun t => A' (2 ^ m + t)).toNat = (num m A').toNat + (num m fun t => A' (2 ^ m + t)).toNat by omega]
    have s0 := num_le (m := m) (A := fun t => A' (2 ^ m + t)) (B := shad (m + 1) A') fun t ht hA => by
      refine shad_iff.2 ⟨m, by omega, bit_ge ht (Nat.le_refl m), ?_⟩
      rw [← up_eq ht]; exact hA
    have s1 := num_le (m := m) (A := shad m fun t => A' (2 ^ m + t)) (B := fun t => shad (m + 1) A' (2 ^ m + t)) fun t ht hA => by
      obtain ⟨i, hi, h1, h2⟩ := shad_iff.1 hA
      refine shad_iff.2 ⟨i, by omega, ?_, ?_⟩
      · rw [add_bit ht, h1]; simp; omega
      · have e : 2 ^ m + t ||| 2 ^ i = 2 ^ m + (t ||| 2 ^ i) := by
          apply Nat.eq_of_testBit_eq; intro x
          rw [Nat.testBit_or, add_bit ht, add_bit (or_lt ht (pow_lt hi)), Nat.testBit_or, Bool.or_assoc]
        rw [e]; exact h2
    omega
/-- Of so many elements, of a size, so many sets: the least shadow. -/
def KT : List (List (List Nat)) :=
  [[[0, 0]],
  [[0, 0], [0, 1]],
  [[0, 0], [0, 1, 1], [0, 2]],
  [[0, 0], [0, 1, 1, 1], [0, 2, 3, 3], [0, 3]],
  [[0, 0], [0, 1, 1, 1, 1], [0, 2, 3, 3, 4, 4, 4], [0, 3, 5, 6, 6], [0, 4]],
  [[0, 0], [0, 1, 1, 1, 1, 1], [0, 2, 3, 3, 4, 4, 4, 5, 5, 5, 5], [0, 3, 5, 6, 6, 8, 9, 9, 10, 10, 10], [0, 4, 7, 9, 10, 10], [0, 5]],
  [[0, 0], [0, 1, 1, 1, 1, 1, 1], [0, 2, 3, 3, 4, 4, 4, 5, 5, 5, 5, 6, 6, 6, 6, 6], [0, 3, 5, 6, 6, 8, 9, 9, 10, 10, 10, 12, 13, 13, 14, 14, 14, 15, 15, 15, 15], [0, 4, 7, 9, 10, 10, 13, 15, 16, 16, 18, 19, 19, 20, 20, 20], [0, 5, 9, 12, 14, 15, 15], [0, 6]],
  [[0, 0], [0, 1, 1, 1, 1, 1, 1, 1], [0, 2, 3, 3, 4, 4, 4, 5, 5, 5, 5, 6, 6, 6, 6, 6, 7, 7, 7, 7, 7, 7], [0, 3, 5, 6, 6, 8, 9, 9, 10, 10, 10, 12, 13, 13, 14, 14, 14, 15, 15, 15, 15, 17, 18, 18, 19, 19, 19, 20, 20, 20, 20, 21, 21, 21, 21, 21], [0, 4, 7, 9, 10, 10, 13, 15, 16, 16, 18, 19, 19, 20, 20, 20, 23, 25, 26, 26, 28, 29, 29, 30, 30, 30, 32, 33, 33, 34, 34, 34, 35, 35, 35, 35], [0, 5, 9, 12, 14, 15, 15, 19, 22, 24, 25, 25, 28, 30, 31, 31, 33, 34, 34, 35, 35, 35], [0, 6, 11, 15, 18, 20, 21, 21], [0, 7]],
  [[0, 0], [0, 1, 1, 1, 1, 1, 1, 1, 1], [0, 2, 3, 3, 4, 4, 4, 5, 5, 5, 5, 6, 6, 6, 6, 6, 7, 7, 7, 7, 7, 7, 8, 8, 8, 8, 8, 8, 8], [0, 3, 5, 6, 6, 8, 9, 9, 10, 10, 10, 12, 13, 13, 14, 14, 14, 15, 15, 15, 15, 17, 18, 18, 19, 19, 19, 20, 20, 20, 20, 21, 21, 21, 21, 21, 23, 24, 24, 25, 25, 25, 26, 26, 26, 26, 27, 27, 27, 27, 27, 28, 28, 28, 28, 28, 28], [0, 4, 7, 9, 10, 10, 13, 15, 16, 16, 18, 19, 19, 20, 20, 20, 23, 25, 26, 26, 28, 29, 29, 30, 30, 30, 32, 33, 33, 34, 34, 34, 35, 35, 35, 35, 38, 40, 41, 41, 43, 44, 44, 45, 45, 45, 47, 48, 48, 49, 49, 49, 50, 50, 50, 50, 52, 53, 53, 54, 54, 54, 55, 55, 55, 55, 56, 56, 56, 56, 56], [0, 5, 9, 12, 14, 15, 15, 19, 22, 24, 25, 25, 28, 30, 31, 31, 33, 34, 34, 35, 35, 35, 39, 42, 44, 45, 45, 48, 50, 51, 51, 53, 54, 54, 55, 55, 55, 58, 60, 61, 61, 63, 64, 64, 65, 65, 65, 67, 68, 68, 69, 69, 69, 70, 70, 70, 70], [0, 6, 11, 15, 18, 20, 21, 21, 26, 30, 33, 35, 36, 36, 40, 43, 45, 46, 46, 49, 51, 52, 52, 54, 55, 55, 56, 56, 56], [0, 7, 13, 18, 22, 25, 27, 28, 28], [0, 8]]]
def kt (m k a : Nat) : Nat := ((KT.getD m []).getD k []).getD a 0
theorem ck_tab : ∀ m : Fin 9, ∀ k : Fin 10, ck m.val k.val = (((KT.getD m.val []).getD k.val []).length - 1) := of_decide_eq_true (by kernel_rfl)
theorem kt_zero_tab : ∀ m : Fin 9, ∀ k : Fin 9, kt m.val k.val 0 = 0 := of_decide_eq_true (by kernel_rfl)
theorem kt_out {m k : Nat} (h : 9 ≤ m ∨ 9 ≤ k) (a : Nat) : kt m k a = 0 := by
  unfold kt
  rcases Nat.lt_or_ge m 9 with c | c
  · have hk : 9 ≤ k := by omega
    have hl : ∀ m : Fin 9, (KT.getD m.val []).length ≤ 9 := of_decide_eq_true (by kernel_rfl)
    have := hl ⟨m, c⟩
    simp only at this
    rw [List.getD_eq_getElem?_getD (l := KT.getD m []), List.getElem?_eq_none (by omega)]
    simp
  · rw [List.getD_eq_getElem?_getD (l := KT), List.getElem?_eq_none (show KT.length ≤ m from c)]
    simp
theorem kt_zero (m k : Nat) : kt m k 0 = 0 := by
  rcases Nat.lt_or_ge m 9 with c | c
  · rcases Nat.lt_or_ge k 9 with d | d
    · exact kt_zero_tab ⟨m, c⟩ ⟨k, d⟩
    · exact kt_out (.inr d) 0
  · exact kt_out (.inl c) 0
theorem kt_none (m a : Nat) : kt m 0 a = 0 := by
  rcases Nat.lt_or_ge m 9 with c | c
  · rcases Nat.lt_or_ge a 2 with d | d
    · have : ∀ m : Fin 9, ∀ a : Fin 2, kt m.val 0 a.val = 0 := of_decide_eq_true (by kernel_rfl)
      exact this ⟨m, c⟩ ⟨a, d⟩
    · unfold kt
      have hl : ∀ m : Fin 9, ((KT.getD m.val []).getD 0 []).length ≤ 2 := of_decide_eq_true (by kernel_rfl)
      have := hl ⟨m, c⟩
      simp only at this
      rw [List.getD_eq_getElem?_getD (l := (KT.getD m []).getD 0 []), List.getElem?_eq_none (by omega)]
      rfl
  · exact kt_out (.inl c) a
theorem kt_step_tab : ((List.range 8).all fun m => (List.range 9).all fun k => (List.range (((KT.getD m []).getD (k + 1) []).length - 1 + 1)).all fun a => (List.range (((KT.getD m []).getD k []).length - 1 + 1)).all fun b => !Nat.ble (kt m (k + 1) a) b || Nat.ble (kt (m + 1) (k + 1) (a + b)) (b + kt m k b)) = true := by kernel_rfl
theorem kt_step (m k a b : Nat) (hm : m < 8) (hk : k ≤ 8) (ha : a ≤ ck m (k + 1)) (hb : b ≤ ck m k) (h : kt m (k + 1) a ≤ b) : kt (m + 1) (k + 1) (a + b) ≤ b + kt m k b := by
  have c1 := ck_tab ⟨m, by omega⟩ ⟨k + 1, by omega⟩
  have c2 := ck_tab ⟨m, by omega⟩ ⟨k, by omega⟩
  simp only at c1 c2
  have h1 := List.all_eq_true.1 kt_step_tab m (List.mem_range.2 hm)
  have h2 := List.all_eq_true.1 h1 k (List.mem_range.2 (by omega))
  have h3 := List.all_eq_true.1 h2 a (List.mem_range.2 (by omega))
  have h4 := List.all_eq_true.1 h3 b (List.mem_range.2 (by omega))
  rw [Bool.or_eq_true, Bool.not_eq_true'] at h4
  rcases h4 with q | q
  · have := Nat.ble_eq_true_of_le h
    rw [this] at q; cases q
  · exact Nat.le_of_ble_eq_true q
/-- KRUSKAL, KATONA. -/
theorem kk {m : Nat} (hm : m ≤ 8) (k : Nat) (A : Nat → Bool) (h : Unif m (k + 1) A) : (kt m (k + 1) (num m A).toNat : Int) ≤ num m (shad m A) :=
  kk_of kt kt_zero kt_none kt_step m hm k A h
end Go.SH
