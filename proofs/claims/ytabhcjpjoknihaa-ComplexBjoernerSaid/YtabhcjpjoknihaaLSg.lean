/-
  Sums over all sets, with signs: an element turned, sets turned by another one. Conditions: none.
-/
import Derived.Test.YtabhcjpjoknihaaLUq
set_option linter.unusedSimpArgs false
set_option linter.unusedVariables false
namespace Go.SH
open Go Go.AX

theorem sumN_split (a : Nat) (f : Nat → Int) : ∀ b, sumN (a + b) f = sumN a f + sumN b (fun i => f (a + i))
  | 0 => by simp [sumN]
  | b + 1 => by
    rw [← Nat.add_assoc]
    simp only [sumN]
    rw [sumN_split a f b]; omega
theorem sumN_two (m : Nat) (f : Nat → Int) : sumN (2 ^ (m + 1)) f = sumN (2 ^ m) f + sumN (2 ^ m) (fun i => f (2 ^ m + i)) := by
  rw [show 2 ^ (m + 1) = 2 ^ m + 2 ^ m by rw [Nat.pow_succ]; omega, sumN_split]
theorem add_bit {m s : Nat} (h : s < 2 ^ m) (i : Nat) : (2 ^ m + s).testBit i = (decide (i = m) || s.testBit i) := by
  rw [Nat.add_comm, ← Nat.or_eq_add_of_lt h, Nat.testBit_or, testBit_pow, Bool.or_comm]
  congr 1
  exact decide_eq_decide.2 ⟨fun e => e.symm, fun e => e.symm⟩
where
  Nat.or_eq_add_of_lt {m s : Nat} (h : s < 2 ^ m) : s ||| 2 ^ m = s + 2 ^ m := by
    have := Nat.two_pow_add_eq_or_of_lt h 1
    rw [Nat.mul_one] at this
    rw [Nat.or_comm, ← this, Nat.add_comm]
theorem xor_pow_lt {m s e : Nat} (h : s < 2 ^ m) (he : e < m) : s ^^^ 2 ^ e < 2 ^ m := Nat.xor_lt_two_pow h (pow_lt he)
/-- One element turned over: all sets again. -/
theorem sumN_turn : ∀ (m e : Nat) (f : Nat → Int), e < m → sumN (2 ^ m) (fun s => f (s ^^^ 2 ^ e)) = sumN (2 ^ m) f
  | 0, _, _, h => absurd h (Nat.not_lt_zero _)
  | m + 1, e, f, h => by
    rw [sumN_two, sumN_two]
    rcases Nat.lt_succ_iff_lt_or_eq.1 h with c | rfl
    · rw [sumN_turn m e f c]
      congr 1
      rw [← sumN_turn m e (fun i => f (2 ^ m + i)) c]
      refine sumN_congr fun s hs => ?_
      congr 1
      apply Nat.eq_of_testBit_eq; intro i
      rw [Nat.testBit_xor, add_bit hs, add_bit (xor_pow_lt hs c), Nat.testBit_xor, testBit_pow]
      by_cases e1 : i = m
      · subst e1
        have : decide (e = i) = false := by simp; omega
        rw [bit_ge hs (Nat.le_refl _), this]; simp
      · simp [e1]
    · have h1 : sumN (2 ^ e) (fun s => f (s ^^^ 2 ^ e)) = sumN (2 ^ e) (fun i => f (2 ^ e + i)) := sumN_congr fun s hs => by
        congr 1
        apply Nat.eq_of_testBit_eq; intro i
        rw [Nat.testBit_xor, add_bit hs, testBit_pow]
        by_cases e1 : i = e
        · subst e1; rw [bit_ge hs (Nat.le_refl _)]; simp
        · simp [e1, Ne.symm e1]
      have h2 : sumN (2 ^ e) (fun i => f ((2 ^ e + i) ^^^ 2 ^ e)) = sumN (2 ^ e) f := sumN_congr fun s hs => by
        congr 1
        apply Nat.eq_of_testBit_eq; intro i
        rw [Nat.testBit_xor, add_bit hs, testBit_pow]
        by_cases e1 : i = e
        · subst e1; rw [bit_ge hs (Nat.le_refl _)]; simp
        · simp [e1, Ne.symm e1]
      rw [h1, h2, Int.add_comm]
theorem sumN_neg (n : Nat) (g : Nat → Int) : sumN n (fun i => - g i) = - sumN n g := by
  have := sumN_mul n (-1) g
  rw [show (fun i => -1 * g i) = (fun i => - g i) from funext fun i => by omega] at this
  omega
theorem sumN_turned {m e : Nat} {f : Nat → Int} (he : e < m) (h : ∀ s, s < 2 ^ m → f (s ^^^ 2 ^ e) = - f s) : sumN (2 ^ m) f = 0 := by
  have h1 := sumN_turn m e f he
  rw [sumN_congr h, sumN_neg] at h1
  omega
/-- Plus for even, minus for odd. -/
def sg (k : Nat) : Int := if k % 2 = 0 then 1 else -1
theorem sg_succ (k : Nat) : sg (k + 1) = - sg k := by
  unfold sg
  rcases Nat.mod_two_eq_zero_or_one k with c | c
  · rw [if_neg (by omega), if_pos c]
  · rw [if_pos (by omega), if_neg (by omega)]; rfl
/-- All sets turned by one. -/
theorem sumN_xor {m : Nat} {b : Nat} (hb : b < 2 ^ m) : ∀ f : Nat → Int, sumN (2 ^ m) (fun s => f (s ^^^ b)) = sumN (2 ^ m) f := by
  refine set_ind (m := m) (fun b => ∀ f : Nat → Int, sumN (2 ^ m) (fun s => f (s ^^^ b)) = sumN (2 ^ m) f) (fun f => by simp) (fun b i hb hi hn ih f => ?_) b hb
  have e : ∀ s, s ^^^ (b ||| 2 ^ i) = (s ^^^ 2 ^ i) ^^^ b := fun s => Nat.eq_of_testBit_eq fun j => by
    rw [Nat.testBit_xor, Nat.testBit_or, Nat.testBit_xor, Nat.testBit_xor, testBit_pow]
    by_cases c : i = j
    · subst c; simp [hn]
    · simp [c]
  rw [sumN_congr (h := fun s => (fun t => f (t ^^^ b)) (s ^^^ 2 ^ i)) fun s hs => by rw [e], sumN_turn m i (fun t => f (t ^^^ b)) hi, ih f]

/-! ### the powers of x - 1 -/
/-- n over k. -/
def bc : Nat → Nat → Nat
  | _, 0 => 1
  | 0, _ + 1 => 0
  | n + 1, k + 1 => bc n k + bc n (k + 1)
/-- The coefficient at x^i of (x - 1)^a. -/
def tc (a i : Nat) : Int := sg (a + i) * (bc a i : Nat)
theorem sg_two (k : Nat) : sg (k + 2) = sg k := by rw [sg_succ, sg_succ]; omega
theorem tc_zero (a : Nat) : tc a 0 = sg a := by unfold tc; cases a <;> simp [bc]
theorem tc_step0 (a : Nat) : tc (a + 1) 0 = - tc a 0 := by rw [tc_zero, tc_zero, sg_succ]
theorem tc_step (a i : Nat) : tc (a + 1) (i + 1) = tc a i - tc a (i + 1) := by
  unfold tc
  rw [show a + 1 + (i + 1) = a + i + 2 by omega, sg_two, show a + (i + 1) = a + i + 1 by omega, sg_succ]
  show sg (a + i) * ((bc a i + bc a (i + 1) : Nat) : Int) = _
  rw [Int.natCast_add, Int.mul_add, Int.neg_mul]
  omega
theorem tc_base (i : Nat) : tc 0 i = if i = 0 then 1 else 0 := by
  cases i with
  | zero => rfl
  | succ i => simp [tc, bc]
theorem tc_one : ∀ a : Nat, tc a 1 = - (sg a * (a : Nat))
  | 0 => by simp [tc, bc]
  | a + 1 => by
    rw [tc_step, tc_one a, tc_zero, sg_succ, Int.neg_mul, Int.natCast_add, Int.mul_add]
    simp
    omega
/-- What is turned within two sets that have nothing together. -/
theorem tc_sum : ∀ (m : Nat) (p q : Nat) (i j : Nat), (∀ x, p.testBit x = true → q.testBit x = false) → sumN (2 ^ m) (fun t => if (∀ x, x < m → t.testBit x = true → (p ||| q).testBit x = true) then tc (cnt m (t &&& p)) i * tc (cnt m (t &&& q)) j else 0) = if cnt m p = i ∧ cnt m q = j then 1 else 0
  | 0, p, q, i, j, _ => by
    simp only [Nat.pow_zero, sumN, cnt]
    rw [if_pos (fun x hx => absurd hx (Nat.not_lt_zero x)), tc_base, tc_base]
    by_cases c : i = 0 <;> by_cases d : j = 0
    · subst c d; rfl
    · subst c; simp [d, Ne.symm d]
    · simp [c, Ne.symm c]
    · simp [c, d, Ne.symm c]
  | m + 1, p, q, i, j, hd => by
    have ih := fun i j => tc_sum m p q i j hd
    rw [sumN_two]
    have hpm : ∀ s, s < 2 ^ m → s.testBit m = false := fun s hs => bit_ge hs (Nat.le_refl m)
    have up : ∀ s, s < 2 ^ m → ∀ x, x < m → (2 ^ m + s).testBit x = s.testBit x := fun s hs x hx => by
      rw [add_bit hs]; simp; omega
    have upm : ∀ s, s < 2 ^ m → (2 ^ m + s).testBit m = true := fun s hs => by rw [add_bit hs]; simp
    have c1 : ∀ s (u : Nat), s < 2 ^ m → cnt (m + 1) (s &&& u) = cnt m (s &&& u) := fun s u hs => by
      simp only [cnt, Nat.testBit_and, hpm s hs]; simp
    have c2 : ∀ s (u : Nat), s < 2 ^ m → cnt (m + 1) ((2 ^ m + s) &&& u) = cnt m (s &&& u) + if u.testBit m then 1 else 0 := fun s u hs => by
      simp only [cnt, Nat.testBit_and, upm s hs, Bool.true_and]
      rw [cnt_congr (t := s &&& u) fun x hx => by rw [Nat.testBit_and, Nat.testBit_and, up s hs x hx]]
    have a1 : ∀ s, s < 2 ^ m → ((∀ x, x < m + 1 → s.testBit x = true → (p ||| q).testBit x = true) ↔ (∀ x, x < m → s.testBit x = true → (p ||| q).testBit x = true)) := fun s hs => by
      constructor
      · exact fun h x hx => h x (by omega)
      · intro h x hx hb
        exact h x (bit_lt hs hb) hb
    have a2 : ∀ s, s < 2 ^ m → ((∀ x, x < m + 1 → (2 ^ m + s).testBit x = true → (p ||| q).testBit x = true) ↔ ((p ||| q).testBit m = true ∧ ∀ x, x < m → s.testBit x = true → (p ||| q).testBit x = true)) := fun s hs => by
      constructor
      · exact fun h => ⟨h m (by omega) (upm s hs), fun x hx hb => h x (by omega) (by rw [up s hs x hx]; exact hb)⟩
      · rintro ⟨h1, h2⟩ x hx hb
        rcases Nat.lt_succ_iff_lt_or_eq.1 hx with c | c
        · exact h2 x c (by rw [up s hs x c] at hb; exact hb)
        · subst c; exact h1
    rw [sumN_congr (h := fun t => if (∀ x, x < m → t.testBit x = true → (p ||| q).testBit x = true) then tc (cnt m (t &&& p)) i * tc (cnt m (t &&& q)) j else 0) fun s hs => by
      rw [c1 s p hs, c1 s q hs]
      by_cases c : (∀ x, x < m → s.testBit x = true → (p ||| q).testBit x = true)
      · rw [if_pos c, if_pos ((a1 s hs).2 c)]
      · rw [if_neg c, if_neg fun w => c ((a1 s hs).1 w)], ih i j]
    have cs1 : ∀ u : Nat, u.testBit m = true → cnt (m + 1) u = cnt m u + 1 := fun u hu => by simp only [cnt, hu]; simp
    have cs0 : ∀ u : Nat, ¬ u.testBit m = true → cnt (m + 1) u = cnt m u := fun u hu => by simp only [cnt, hu]; simp
    by_cases qp : p.testBit m = true
    · have qq : ¬ q.testBit m = true := by rw [hd m qp]; simp
      have e2 : ∀ s, s < 2 ^ m → (if (∀ x, x < m + 1 → (2 ^ m + s).testBit x = true → (p ||| q).testBit x = true) then tc (cnt (m + 1) ((2 ^ m + s) &&& p)) i * tc (cnt (m + 1) ((2 ^ m + s) &&& q)) j else 0) = if (∀ x, x < m → s.testBit x = true → (p ||| q).testBit x = true) then tc (cnt m (s &&& p) + 1) i * tc (cnt m (s &&& q)) j else 0 := fun s hs => by
        have d1 : cnt (m + 1) ((2 ^ m + s) &&& p) = cnt m (s &&& p) + 1 := by rw [c2 s p hs, if_pos qp]
        have d2 : cnt (m + 1) ((2 ^ m + s) &&& q) = cnt m (s &&& q) := by rw [c2 s q hs, if_neg qq]; rfl
        rw [d1, d2]
        by_cases c : (∀ x, x < m → s.testBit x = true → (p ||| q).testBit x = true)
        · rw [if_pos c, if_pos ((a2 s hs).2 ⟨by rw [Nat.testBit_or, qp]; rfl, c⟩)]
        · rw [if_neg c, if_neg fun w => c ((a2 s hs).1 w).2]
      rw [sumN_congr e2]
      rw [cs1 p qp, cs0 q qq]
      cases i with
      | zero =>
        rw [sumN_congr (h := fun t => - (if (∀ x, x < m → t.testBit x = true → (p ||| q).testBit x = true) then tc (cnt m (t &&& p)) 0 * tc (cnt m (t &&& q)) j else 0)) fun s hs => by
          rw [tc_step0, Int.neg_mul]
          split <;> simp, sumN_neg, ih 0 j, if_neg (show ¬ (cnt m p + 1 = 0 ∧ cnt m q = j) by omega)]
        omega
      | succ i =>
        rw [sumN_congr (h := fun t => (if (∀ x, x < m → t.testBit x = true → (p ||| q).testBit x = true) then tc (cnt m (t &&& p)) i * tc (cnt m (t &&& q)) j else 0) + - (if (∀ x, x < m → t.testBit x = true → (p ||| q).testBit x = true) then tc (cnt m (t &&& p)) (i + 1) * tc (cnt m (t &&& q)) j else 0)) fun s hs => by
          rw [tc_step, Int.sub_mul]
          split
          · omega
          · rfl, sumN_add, sumN_neg, ih i j, ih (i + 1) j]
        have : (cnt m p + 1 = i + 1 ∧ cnt m q = j) ↔ (cnt m p = i ∧ cnt m q = j) := by omega
        simp only [this]
        omega
    · by_cases qq : q.testBit m = true
      · have e2 : ∀ s, s < 2 ^ m → (if (∀ x, x < m + 1 → (2 ^ m + s).testBit x = true → (p ||| q).testBit x = true) then tc (cnt (m + 1) ((2 ^ m + s) &&& p)) i * tc (cnt (m + 1) ((2 ^ m + s) &&& q)) j else 0) = if (∀ x, x < m → s.testBit x = true → (p ||| q).testBit x = true) then tc (cnt m (s &&& p)) i * tc (cnt m (s &&& q) + 1) j else 0 := fun s hs => by
          have d1 : cnt (m + 1) ((2 ^ m + s) &&& p) = cnt m (s &&& p) := by rw [c2 s p hs, if_neg qp]; rfl
          have d2 : cnt (m + 1) ((2 ^ m + s) &&& q) = cnt m (s &&& q) + 1 := by rw [c2 s q hs, if_pos qq]
          rw [d1, d2]
          by_cases c : (∀ x, x < m → s.testBit x = true → (p ||| q).testBit x = true)
          · rw [if_pos c, if_pos ((a2 s hs).2 ⟨by rw [Nat.testBit_or, qq]; simp, c⟩)]
          · rw [if_neg c, if_neg fun w => c ((a2 s hs).1 w).2]
        rw [sumN_congr e2]
        rw [cs0 p qp, cs1 q qq]
        cases j with
        | zero =>
          rw [sumN_congr (h := fun t => - (if (∀ x, x < m → t.testBit x = true → (p ||| q).testBit x = true) then tc (cnt m (t &&& p)) i * tc (cnt m (t &&& q)) 0 else 0)) fun s hs => by
            rw [tc_step0, Int.mul_neg]
            split <;> simp, sumN_neg, ih i 0, if_neg (show ¬ (cnt m p = i ∧ cnt m q + 1 = 0) by omega)]
          omega
        | succ j =>
          rw [sumN_congr (h := fun t => (if (∀ x, x < m → t.testBit x = true → (p ||| q).testBit x = true) then tc (cnt m (t &&& p)) i * tc (cnt m (t &&& q)) j else 0) + - (if (∀ x, x < m → t.testBit x = true → (p ||| q).testBit x = true) then tc (cnt m (t &&& p)) i * tc (cnt m (t &&& q)) (j + 1) else 0)) fun s hs => by
            rw [tc_step, Int.mul_sub]
            split
            · omega
            · rfl, sumN_add, sumN_neg, ih i j, ih i (j + 1)]
          have : (cnt m p = i ∧ cnt m q + 1 = j + 1) ↔ (cnt m p = i ∧ cnt m q = j) := by omega
          simp only [this]
          omega
      · rw [sumN_congr (h := fun _ => (0 : Int)) fun s hs => by
          refine if_neg fun w => ?_
          have := ((a2 s hs).1 w).1
          rw [Nat.testBit_or, Bool.or_eq_true] at this
          exact this.elim qp qq, sumN_zero]
        rw [cs0 p qp, cs0 q qq]
        omega
end Go.SH
