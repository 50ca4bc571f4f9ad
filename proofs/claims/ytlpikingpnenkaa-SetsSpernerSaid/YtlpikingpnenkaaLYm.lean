/-
 LUBELL, YAMAMOTO, MESHALKIN: of sets none of which lies in another, the chains through them are at most all chains. Conditions: none.
-/
import Derived.Test.YtlpikingpnenkaaLsF
set_option linter.unusedSimpArgs false
set_option linter.unusedVariables false
namespace Go.SH
open Go Go.AX
def sy : Nat → (Nat → Int) → Int
 | 0, _ => 0
 | n + 1, f => sy n f + f n
theorem sy_congr {n : Nat} {f g : Nat → Int} (h : ∀ i, i < n → f i = g i) : sy n f = sy n g := by
 induction n with
 | zero => rfl
 | succ n ih => simp only [sy]; rw [ih fun i hi => h i (by omega), h n (by omega)]
theorem sy_zero {n : Nat} {f : Nat → Int} (h : ∀ i, i < n → f i = 0) : sy n f = 0 := by
 induction n with
 | zero => rfl
 | succ n ih => simp only [sy]; rw [ih fun i hi => h i (by omega), h n (by omega)]; rfl
theorem sy_add (n : Nat) (f g : Nat → Int) : sy n (fun i => f i + g i) = sy n f + sy n g := by
 induction n with
 | zero => rfl
 | succ n ih => simp only [sy]; rw [ih]; omega
theorem sy_mul (n : Nat) (f : Nat → Int) (c : Int) : sy n (fun i => f i * c) = sy n f * c := by
 induction n with
 | zero => simp [sy]
 | succ n ih => simp only [sy]; rw [ih, Int.add_mul]
theorem sy_le {n : Nat} {f g : Nat → Int} (h : ∀ i, i < n → f i ≤ g i) : sy n f ≤ sy n g := by
 induction n with
 | zero => exact Int.le_refl _
 | succ n ih => simp only [sy]; have := ih fun i hi => h i (by omega); have := h n (by omega); omega
theorem sy_swap (m n : Nat) (f : Nat → Nat → Int) : sy m (fun i => sy n (f i)) = sy n fun j => sy m fun i => f i j := by
 induction m with
 | zero => exact (sy_zero fun _ _ => rfl).symm
 | succ m ih => simp only [sy]; rw [ih, ← sy_add]
theorem sy_single {n u : Nat} (h : u < n) (c : Int) : sy n (fun i => if i = u then c else 0) = c := by
 induction n with
 | zero => omega
 | succ n ih =>
  simp only [sy]
  by_cases e : u = n
  ·subst e
   rw [sy_zero fun i hi => if_neg (by omega), if_pos rfl]; omega
  ·rw [ih (by omega), if_neg (by omega)]; omega
theorem cnt_eq_of_subY {m s t : Nat} (h : ∀ i, i < m → s.testBit i = true → t.testBit i = true) (hc : cnt m t ≤ cnt m s) : ∀ i, i < m → t.testBit i = s.testBit i := by
 induction m with
 | zero => intro i hi; omega
 | succ m ih =>
  simp only [cnt] at hc
  have h1 := cnt_mono (m := m) fun i hi => h i (by omega)
  have h2 := h m (by omega)
  have h3 : t.testBit m = s.testBit m := by
   cases ht : t.testBit m <;> cases hs : s.testBit m <;> simp_all <;> omega
  intro i hi
  rcases Nat.lt_or_ge i m with q | q
  ·exact ih (fun i hi => h i (by omega)) (by rw [h3] at hc; omega) i q
  ·have : i = m := by omega
   subst this; exact h3
/-- n factorial. -/
def fc : Nat → Int
 | 0 => 1
 | n + 1 => ((n + 1 : Nat) : Int) * fc n
theorem fc_pos (n : Nat) : 0 < fc n := by
 induction n with
 | zero => decide
 | succ n ih => exact Int.mul_pos (by omega) ih
open Classical in
/-- How many chains from a set of k elements down meet A. -/
noncomputable def hitA (n : Nat) (A : Nat → Prop) : Nat → Nat → Int
 | 0, s => if A s then 1 else 0
 | k + 1, s => if A s then fc (k + 1) else sy n fun i => if s.testBit i = true then hitA n A k (dif s (2 ^ i)) else 0
theorem cnt_sy (n s : Nat) : ((cnt n s : Nat) : Int) = sy n fun i => if s.testBit i = true then 1 else 0 := by
 induction n with
 | zero => rfl
 | succ n ih => simp only [cnt, sy]; rw [← ih]; push_cast; split <;> rfl
theorem hit_le {n : Nat} {A : Nat → Prop} : ∀ (k s : Nat), s < 2 ^ n → cnt n s = k → hitA n A k s ≤ fc k := by
 intro k
 induction k with
 | zero => intro s _ _; simp only [hitA, fc]; split <;> omega
 | succ k ih =>
  intro s hs hc
  simp only [hitA]
  split
  ·exact Int.le_refl _
  ·have h1 := sy_le (n := n) (f := fun i => if s.testBit i = true then hitA n A k (dif s (2 ^ i)) else 0) (g := fun i => (if s.testBit i = true then 1 else 0) * fc k) fun i _ => by
    by_cases hb : s.testBit i = true
    ·rw [if_pos hb, if_pos hb, Int.one_mul]
     exact ih _ (dif_lt hs) (by have := cnt_dif hs hb; omega)
    ·rw [if_neg hb, if_neg hb, Int.zero_mul]; exact Int.le_refl _
   rw [sy_mul, ← cnt_sy, hc] at h1
   exact h1
open Classical in
theorem hit_eq {n : Nat} {A : Nat → Prop} (hA : ∀ a b, A a → A b → Inc a b → a = b) : ∀ (k s : Nat), s < 2 ^ n → cnt n s = k →
  hitA n A k s = sy (2 ^ n) fun a => if A a ∧ Inc a s then fc (cnt n a) * fc (k - cnt n a) else 0 := by
 have one : ∀ (k s : Nat), s < 2 ^ n → cnt n s = k → A s → (sy (2 ^ n) fun a => if A a ∧ Inc a s then fc (cnt n a) * fc (k - cnt n a) else 0) = fc k := fun k s hs hc h => by
  rw [sy_congr (g := fun a => if a = s then fc k else 0) fun a _ => ?_, sy_single hs]
  by_cases e : a = s
  ·subst e
   rw [if_pos ⟨h, fun i hi => hi⟩, if_pos rfl, hc, Nat.sub_self, fc, Int.mul_one]
  ·rw [if_neg e, if_neg fun q => e (hA _ _ q.1 h q.2)]
 intro k
 induction k with
 | zero =>
  intro s hs hc
  by_cases h : A s
  ·rw [one 0 s hs hc h]; simp only [hitA]; rw [if_pos h]; rfl
  ·simp only [hitA]
   rw [if_neg h]
   refine (sy_zero fun a _ => if_neg fun q => h ?_).symm
   have hs0 : ∀ i, s.testBit i = false := fun i => by
    cases hb : s.testBit i with
    | false => rfl
    | true => have := cnt_pos hs hb; omega
   have e : a = s := Nat.eq_of_testBit_eq fun i => by
    rw [hs0 i]
    cases hb : a.testBit i with
    | false => rfl
    | true => have := q.2 i hb; rw [hs0 i] at this; cases this
   rw [← e]; exact q.1
 | succ k ih =>
  intro s hs hc
  by_cases h : A s
  ·rw [one (k + 1) s hs hc h]; simp only [hitA]; rw [if_pos h]
  ·simp only [hitA]
   rw [if_neg h]
   have e1 : ∀ i, (if s.testBit i = true then hitA n A k (dif s (2 ^ i)) else 0) = sy (2 ^ n) fun a => if s.testBit i = true ∧ A a ∧ Inc a (dif s (2 ^ i)) then fc (cnt n a) * fc (k - cnt n a) else 0 := fun i => by
    by_cases hb : s.testBit i = true
    ·rw [if_pos hb, ih _ (dif_lt hs) (by have := cnt_dif hs hb; omega)]
     exact sy_congr fun a _ => by simp only [hb, true_and]
    ·rw [if_neg hb]
     exact (sy_zero fun a _ => if_neg fun q => hb q.1).symm
   rw [sy_congr fun i _ => e1 i, sy_swap]
   refine sy_congr fun a ha => ?_
   by_cases c : A a ∧ Inc a s
   ·rw [if_pos c]
    have iff : ∀ i, (s.testBit i = true ∧ A a ∧ Inc a (dif s (2 ^ i))) ↔ (s.testBit i = true ∧ a.testBit i = false) := fun i => by
     constructor
     ·rintro ⟨q1, _, q3⟩
      refine ⟨q1, ?_⟩
      cases hb : a.testBit i with
      | false => rfl
      | true => have := q3 i hb; rw [testBit_dif, Nat.testBit_two_pow_self] at this; simp at this
     ·rintro ⟨q1, q2⟩
      refine ⟨q1, c.1, fun j hj => ?_⟩
      rw [testBit_dif, c.2 j hj, Nat.testBit_two_pow]
      by_cases e : i = j
      ·subst e; rw [q2] at hj; cases hj
      ·rw [decide_eq_false e]; rfl
    have hne : a ≠ s := fun e => h (by rw [← e]; exact c.1)
    have hcs := cnt_sy n s
    have hca := cnt_sy n a
    have hsum : (sy n fun i => if s.testBit i = true ∧ a.testBit i = false then (1 : Int) else 0) + (cnt n a : Int) = cnt n s := by
     rw [hca, hcs, ← sy_add]
     refine sy_congr fun i _ => ?_
     have := c.2 i
     cases h1 : a.testBit i <;> cases h2 : s.testBit i <;> simp_all
    have hlt : cnt n a < cnt n s := by
     rcases Nat.lt_or_ge (cnt n a) (cnt n s) with q | q
     ·exact q
     ·exfalso
      refine hne (Nat.eq_of_testBit_eq fun i => ?_)
      rcases Nat.lt_or_ge i n with w | w
      ·have := cnt_eq_of_subY (m := n) (s := a) (t := s) (fun i _ hi => c.2 i hi) q i w
       exact this.symm
      ·rw [Nat.testBit_lt_two_pow (Nat.lt_of_lt_of_le ha (Nat.pow_le_pow_right (by omega) w)), Nat.testBit_lt_two_pow (Nat.lt_of_lt_of_le hs (Nat.pow_le_pow_right (by omega) w))]
    have e2 : ∀ i, (if s.testBit i = true ∧ A a ∧ Inc a (dif s (2 ^ i)) then fc (cnt n a) * fc (k - cnt n a) else 0) = (if s.testBit i = true ∧ a.testBit i = false then (1 : Int) else 0) * (fc (cnt n a) * fc (k - cnt n a)) := fun i => by
     simp only [iff]
     split
     ·rw [Int.one_mul]
     ·rw [Int.zero_mul]
    rw [sy_congr fun i _ => e2 i, sy_mul]
    have e3 : (sy n fun i => if s.testBit i = true ∧ a.testBit i = false then (1 : Int) else 0) = ((k - cnt n a + 1 : Nat) : Int) := by omega
    have e4 : k + 1 - cnt n a = k - cnt n a + 1 := by omega
    rw [e3, e4, fc, Int.mul_left_comm]
   ·rw [if_neg c]
    refine sy_zero fun i _ => if_neg fun q => c ⟨q.2.1, fun j hj => ?_⟩
    have := q.2.2 j hj
    rw [testBit_dif, Bool.and_eq_true] at this
    exact this.1
open Classical in
/-- LYM. -/
theorem lym {n : Nat} {A : Nat → Prop} (hA : ∀ a b, A a → A b → Inc a b → a = b) : (sy (2 ^ n) fun a => if A a then fc (cnt n a) * fc (n - cnt n a) else 0) ≤ fc n := by
 have hs : 2 ^ n - 1 < 2 ^ n := by have : 0 < 2 ^ n := Nat.pow_pos (by omega); omega
 have full : ∀ i, i < n → (2 ^ n - 1).testBit i = true := fun i hi => by rw [Nat.testBit_two_pow_sub_one]; exact decide_eq_true hi
 have hc : cnt n (2 ^ n - 1) = n := by
  have : ∀ k, k ≤ n → cnt k (2 ^ n - 1) = k := by
   intro k
   induction k with
   | zero => intro _; rfl
   | succ k ih => intro hk; simp only [cnt]; rw [ih (by omega), full k (by omega)]; rfl
  exact this n (Nat.le_refl _)
 have h1 := hit_le (A := A) n _ hs hc
 rw [hit_eq hA n _ hs hc] at h1
 refine Int.le_trans (Int.le_of_eq (sy_congr fun a ha => ?_)) h1
 have : Inc a (2 ^ n - 1) := fun i hi => full i (by
  rcases Nat.lt_or_ge i n with w | w
  ·exact w
  ·rw [Nat.testBit_lt_two_pow (Nat.lt_of_lt_of_le ha (Nat.pow_le_pow_right (by omega) w))] at hi; cases hi)
 simp only [this, and_true]
end Go.SH
