/-
  Chains of sets, counted; the hooks of a forest. Conditions: none.
-/
import Derived.Test.YthmmjfjlnadojaaHS
import Derived.Test.YthmmjfjlnadojaaLM
set_option linter.unusedSimpArgs false
set_option linter.unusedVariables false
namespace Go.SH
open Go Go.AX

theorem sumN_split (a b : Nat) (f : Nat → Int) : sumN (a + b) f = sumN a f + sumN b (fun i => f (a + i)) := by
  induction b with
  | zero => simp [sumN]
  | succ b ih => rw [← Nat.add_assoc]; simp only [sumN]; rw [ih]; omega
theorem add_pow_or {m s : Nat} (h : s < 2 ^ m) : 2 ^ m + s = s ||| 2 ^ m := by
  have := Nat.two_pow_add_eq_or_of_lt h 1
  rw [Nat.mul_one] at this
  rw [this, Nat.or_comm]
/-- Sets with i, or sets without it and i put to them. -/
theorem sum_flip {i : Nat} (g : Nat → Int) : ∀ m, i < m → sumN (2 ^ m) (fun s => if s.testBit i = true then g s else 0) = sumN (2 ^ m) (fun s => if s.testBit i = true then 0 else g (s ||| 2 ^ i)) := by
  intro m
  induction m generalizing g with
  | zero => intro h; omega
  | succ m ih =>
    intro hi
    rw [Nat.pow_succ, Nat.mul_two, sumN_split, sumN_split]
    rcases Nat.lt_succ_iff_lt_or_eq.1 hi with c | rfl
    · rw [ih g c]
      congr 1
      have e1 : sumN (2 ^ m) (fun s => if (2 ^ m + s).testBit i = true then g (2 ^ m + s) else 0) = sumN (2 ^ m) (fun s => if s.testBit i = true then g (2 ^ m + s) else 0) := sumN_congr fun s hs => by
        rw [add_pow_or hs, Nat.testBit_or, testBit_pow]
        have : decide (m = i) = false := by simp; omega
        rw [this, Bool.or_false]
      rw [e1, ih (fun s => g (2 ^ m + s)) c]
      refine sumN_congr fun s hs => ?_
      rw [add_pow_or hs, Nat.testBit_or, testBit_pow, add_pow_or (or_lt hs (pow_lt c))]
      have : decide (m = i) = false := by simp; omega
      rw [this, Bool.or_false]
      have : s ||| 2 ^ i ||| 2 ^ m = s ||| 2 ^ m ||| 2 ^ i := by rw [Nat.or_assoc, Nat.or_comm (2 ^ i), ← Nat.or_assoc]
      rw [this]
    · have e1 : sumN (2 ^ i) (fun s => if s.testBit i = true then g s else 0) = sumN (2 ^ i) (fun _ => 0) := sumN_congr fun s hs => by
        rw [bit_ge hs (Nat.le_refl i)]; rfl
      have e2 : sumN (2 ^ i) (fun s => if (2 ^ i + s).testBit i = true then 0 else g ((2 ^ i + s) ||| 2 ^ i)) = sumN (2 ^ i) (fun _ => 0) := sumN_congr fun s hs => by
        rw [add_pow_or hs, Nat.testBit_or, testBit_pow]; simp
      rw [e1, e2, sumN_zero, Int.zero_add, Int.add_zero]
      refine sumN_congr fun s hs => ?_
      rw [add_pow_or hs, bit_ge hs (Nat.le_refl i), Nat.testBit_or, testBit_pow]; simp

theorem dif_lt_self {s i : Nat} (h : s.testBit i = true) : dif s (2 ^ i) < s := by
  have h1 : dif s (2 ^ i) ≤ s := by
    have := Nat.left_le_or (n := dif s (2 ^ i)) (m := 2 ^ i)
    rwa [dif_or h] at this
  rcases Nat.lt_or_eq_of_le h1 with c | c
  · exact c
  · rw [← c, testBit_dif, testBit_pow] at h; simp at h
/-- In how many ways a set is made, one element after the other, by sets of the kind. -/
def ways (m : Nat) (P : Nat → Bool) (s : Nat) : Int :=
  if s = 0 then 1 else sumN m fun i => if h : s.testBit i = true ∧ P (dif s (2 ^ i)) = true then ways m P (dif s (2 ^ i)) else 0
termination_by s
decreasing_by exact dif_lt_self h.1
theorem ways_zero (m : Nat) (P : Nat → Bool) : ways m P 0 = 1 := by rw [ways]; rfl
theorem ways_ne {m : Nat} {P : Nat → Bool} {s : Nat} (h : s ≠ 0) : ways m P s = sumN m fun i => if s.testBit i = true ∧ P (dif s (2 ^ i)) = true then ways m P (dif s (2 ^ i)) else 0 := by
  rw [ways, if_neg h]
  refine sumN_congr fun i _ => ?_
  by_cases c : s.testBit i = true ∧ P (dif s (2 ^ i)) = true
  · rw [dif_pos c, if_pos c]
  · rw [dif_neg c, if_neg c]
theorem or_dif_self {s i : Nat} (h : s.testBit i = false) : dif (s ||| 2 ^ i) (2 ^ i) = s := by
  apply Nat.eq_of_testBit_eq
  intro j
  rw [testBit_dif, Nat.testBit_or, testBit_pow]
  by_cases c : i = j
  · subst c; simp [h]
  · simp [c]

/-- Ways in, times ways out: the same for each size. -/
theorem ways_level {m : Nat} {P : Nat → Bool} {G : Nat → Int} (hG : ∀ s, s < 2 ^ m → P s = true → cnt m s < m → G s = sumN m fun i => if s.testBit i = false ∧ P (s ||| 2 ^ i) = true then G (s ||| 2 ^ i) else 0) {k : Nat} (hk : k < m) :
    (sumN (2 ^ m) fun s => if P s = true ∧ cnt m s = k + 1 then ways m P s * G s else 0) = sumN (2 ^ m) fun s => if P s = true ∧ cnt m s = k then ways m P s * G s else 0 := by
  have e1 : (sumN (2 ^ m) fun s => if P s = true ∧ cnt m s = k + 1 then ways m P s * G s else 0)
      = sumN (2 ^ m) fun s => sumN m fun i => if s.testBit i = true then (if P s = true ∧ cnt m s = k + 1 ∧ P (dif s (2 ^ i)) = true then ways m P (dif s (2 ^ i)) * G s else 0) else 0 := sumN_congr fun s hs => by
    by_cases c : P s = true ∧ cnt m s = k + 1
    · rw [if_pos c, ways_ne (by intro q; subst q; rw [cnt_zero] at c; omega), Int.mul_comm, ← sumN_mul]
      refine sumN_congr fun i _ => ?_
      by_cases c1 : s.testBit i = true
      · by_cases c2 : P (dif s (2 ^ i)) = true
        · rw [if_pos ⟨c1, c2⟩, if_pos c1, if_pos ⟨c.1, c.2, c2⟩, Int.mul_comm]
        · rw [if_neg fun q => c2 q.2, if_pos c1, if_neg fun q => c2 q.2.2, Int.mul_zero]
      · rw [if_neg fun q => c1 q.1, if_neg c1, Int.mul_zero]
    · rw [if_neg c]
      refine ((sumN_congr fun i _ => ?_).trans (sumN_zero m)).symm
      by_cases c1 : s.testBit i = true
      · rw [if_pos c1, if_neg fun q => c ⟨q.1, q.2.1⟩]
      · rw [if_neg c1]
  rw [e1, sumN_swap]
  have e2 : ∀ i, i < m → sumN (2 ^ m) (fun s => if s.testBit i = true then (if P s = true ∧ cnt m s = k + 1 ∧ P (dif s (2 ^ i)) = true then ways m P (dif s (2 ^ i)) * G s else 0) else 0)
      = sumN (2 ^ m) fun s => if P s = true ∧ cnt m s = k then (if s.testBit i = false ∧ P (s ||| 2 ^ i) = true then ways m P s * G (s ||| 2 ^ i) else 0) else 0 := fun i hi => by
    rw [sum_flip (fun s => if P s = true ∧ cnt m s = k + 1 ∧ P (dif s (2 ^ i)) = true then ways m P (dif s (2 ^ i)) * G s else 0) m hi]
    refine sumN_congr fun s hs => ?_
    cases c : s.testBit i with
    | true => simp
    | false =>
      simp only [Bool.false_eq_true, if_false, or_dif_self c, cnt_add hi c, true_and]
      by_cases c1 : P s = true ∧ cnt m s = k
      · rw [if_pos c1]
        by_cases c2 : P (s ||| 2 ^ i) = true
        · rw [if_pos c2, if_pos ⟨c2, by omega, c1.1⟩]
        · rw [if_neg c2, if_neg fun q => c2 q.1]
      · rw [if_neg c1, if_neg fun q => c1 ⟨q.2.2, by omega⟩]
  rw [sumN_congr e2, sumN_swap]
  refine sumN_congr fun s hs => ?_
  by_cases c1 : P s = true ∧ cnt m s = k
  · simp only [if_pos c1]
    rw [hG s hs c1.1 (by omega), ← sumN_mul]
    refine sumN_congr fun i _ => ?_
    by_cases c2 : s.testBit i = false ∧ P (s ||| 2 ^ i) = true
    · rw [if_pos c2, if_pos c2]
    · rw [if_neg c2, if_neg c2, Int.mul_zero]
  · simp only [if_neg c1]
    exact sumN_zero m

def fac : Nat → Int
  | 0 => 1
  | n + 1 => fac n * ((n : Int) + 1)
/-- The product over a set's elements. -/
def mulS (g : Nat → Int) : Nat → Nat → Int
  | 0, _ => 1
  | k + 1, s => mulS g k s * if s.testBit k then g k else 1
theorem mulS_zero (g : Nat → Int) (k : Nat) : mulS g k 0 = 1 := by
  induction k with
  | zero => rfl
  | succ k ih => simp [mulS, ih]
theorem mulS_ge (g : Nat → Int) {s i : Nat} : ∀ k, k ≤ i → mulS g k (s ||| 2 ^ i) = mulS g k s := by
  intro k
  induction k with
  | zero => intro _; rfl
  | succ k ih =>
    intro h
    simp only [mulS]
    rw [ih (by omega), Nat.testBit_or, testBit_pow]
    have : decide (i = k) = false := by simp; omega
    rw [this, Bool.or_false]
theorem mulS_add (g : Nat → Int) {s i : Nat} (hs : s.testBit i = false) : ∀ k, i < k → mulS g k (s ||| 2 ^ i) = mulS g k s * g i := by
  intro k
  induction k with
  | zero => intro h; omega
  | succ k ih =>
    intro h
    simp only [mulS]
    rw [Nat.testBit_or, testBit_pow]
    rcases Nat.lt_succ_iff_lt_or_eq.1 h with c | rfl
    · have : decide (i = k) = false := by simp; omega
      rw [ih c, this, Bool.or_false, Int.mul_assoc, Int.mul_assoc, Int.mul_comm (g i)]
    · rw [mulS_ge g i (Nat.le_refl i), hs]; simp
theorem cnt_sum (m s : Nat) : (cnt m s : Int) = sumN m fun i => if s.testBit i = true then 1 else 0 := by
  induction m with
  | zero => rfl
  | succ m ih =>
    simp only [cnt, sumN]
    rw [← ih]
    cases s.testBit m <;> simp
theorem sum_one (m : Nat) : sumN m (fun _ => 1) = (m : Int) := by
  induction m with
  | zero => rfl
  | succ m ih => simp only [sumN]; rw [ih]; omega

/-- Each hangs below an earlier one, or below none (itself); 'h': how many each has below it, itself too. -/
structure Forest (n : Nat) (p : Nat → Nat) (h : Nat → Int) : Prop where
  le : ∀ i, i < n → p i ≤ i
  hook : ∀ i, i < n → h i = 1 + sumN n fun j => if p j = i ∧ i < j then h j else 0
/-- With each what it hangs below. -/
def upB (n : Nat) (p : Nat → Nat) (s : Nat) : Bool := (List.range n).all fun i => !s.testBit i || s.testBit (p i)
theorem upB_iff {n : Nat} {p : Nat → Nat} {s : Nat} : upB n p s = true ↔ ∀ i, i < n → s.testBit i = true → s.testBit (p i) = true := by
  unfold upB
  rw [List.all_eq_true]
  constructor
  · intro q i hi hb
    have := q i (List.mem_range.2 hi)
    rw [hb] at this; simpa using this
  · intro q i hi
    cases hb : s.testBit i with
    | false => rfl
    | true => rw [q i (List.mem_range.1 hi) hb]; rfl
section
variable {n : Nat} {p : Nat → Nat} {h : Nat → Int} (hF : Forest n p h)
include hF
theorem Forest.roots {s : Nat} (hs : upB n p s = true) : (sumN n fun i => if s.testBit i = false ∧ upB n p (s ||| 2 ^ i) = true then h i else 0) = (n : Int) - cnt n s := by
  have hs' := upB_iff.1 hs
  have e1 : (sumN n fun i => if s.testBit i = true then 0 else h i) = ((n : Int) - cnt n s) + sumN n fun j => if s.testBit j = false ∧ s.testBit (p j) = false ∧ p j < j then h j else 0 := by
    have q1 : (sumN n fun i => if s.testBit i = true then 0 else h i) = sumN n fun i => (if s.testBit i = true then 0 else 1) + sumN n fun j => if s.testBit i = false ∧ p j = i ∧ i < j then h j else 0 := sumN_congr fun i hi => by
      cases c : s.testBit i with
      | true => simp [sumN_zero]
      | false => simp only [Bool.false_eq_true, if_false, true_and]; exact hF.hook i hi
    rw [q1, sumN_add, sumN_swap]
    have q2 : (sumN n fun i => if s.testBit i = true then (0 : Int) else 1) = (n : Int) - cnt n s := by
      have : (sumN n fun i => (if s.testBit i = true then (0 : Int) else 1) + if s.testBit i = true then 1 else 0) = n := by
        rw [← sum_one n]
        exact sumN_congr fun i _ => by cases s.testBit i <;> simp
      rw [sumN_add, ← cnt_sum] at this
      omega
    rw [q2]
    congr 1
    refine sumN_congr fun j hj => ?_
    have hpj := hF.le j hj
    rcases Nat.lt_or_ge (p j) j with c | c
    · have : (sumN n fun i => if s.testBit i = false ∧ p j = i ∧ i < j then h j else 0) = sumN n fun i => if i = p j then (if s.testBit (p j) = false then h j else 0) else 0 := sumN_congr fun i hi => by
        by_cases c2 : i = p j
        · subst c2
          simp [c]
        · rw [if_neg c2, if_neg fun q => c2 q.2.1.symm]
      rw [this, sumN_single n (p j) _ (by omega)]
      cases c3 : s.testBit (p j) with
      | true => simp
      | false =>
        have : s.testBit j = false := by
          cases c4 : s.testBit j with
          | false => rfl
          | true => rw [hs' j hj c4] at c3; cases c3
        simp [this, c]
    · rw [if_neg fun q => by omega]
      refine (sumN_congr fun i hi => ?_).trans (sumN_zero n)
      rw [if_neg fun q => by omega]
  have e2 : (sumN n fun i => if s.testBit i = true then 0 else h i) = (sumN n fun i => if s.testBit i = false ∧ upB n p (s ||| 2 ^ i) = true then h i else 0) + sumN n fun j => if s.testBit j = false ∧ s.testBit (p j) = false ∧ p j < j then h j else 0 := by
    rw [← sumN_add]
    refine sumN_congr fun i hi => ?_
    cases c : s.testBit i with
    | true => simp
    | false =>
      have hpi := hF.le i hi
      by_cases c2 : s.testBit (p i) = false ∧ p i < i
      · have : ¬ upB n p (s ||| 2 ^ i) = true := fun q => by
          have := upB_iff.1 q i hi (by simp)
          rw [Nat.testBit_or, c2.1, testBit_pow] at this
          have : i = p i := by simpa using this
          omega
        simp [c2, this]
      · have : upB n p (s ||| 2 ^ i) = true := upB_iff.2 fun j hj hb => by
          rw [Nat.testBit_or, testBit_pow, Bool.or_eq_true] at hb ⊢
          rcases hb with q | q
          · exact .inl (hs' j hj q)
          · have : i = j := of_decide_eq_true q
            subst this
            cases c3 : s.testBit (p i) with
            | true => exact .inl rfl
            | false => exact .inr (decide_eq_true (by have : ¬ p i < i := fun q => c2 ⟨c3, q⟩; omega))
        simp only [this, Bool.false_eq_true, if_false, and_self, if_true, true_and, if_neg c2, Int.add_zero]
  omega
/-- KNUTH: ways times hooks are all orders. -/
theorem Forest.count (h0 : upB n p 0 = true) (h1 : upB n p (2 ^ n - 1) = true) : ways n (upB n p) (2 ^ n - 1) * mulS h n (2 ^ n - 1) = fac n := by
  have hG : ∀ s, s < 2 ^ n → upB n p s = true → cnt n s < n → fac (n - cnt n s) * mulS h n s = sumN n fun i => if s.testBit i = false ∧ upB n p (s ||| 2 ^ i) = true then fac (n - cnt n (s ||| 2 ^ i)) * mulS h n (s ||| 2 ^ i) else 0 := fun s hs hu hc => by
    have e : (sumN n fun i => if s.testBit i = false ∧ upB n p (s ||| 2 ^ i) = true then fac (n - cnt n (s ||| 2 ^ i)) * mulS h n (s ||| 2 ^ i) else 0) = sumN n fun i => (fac (n - cnt n s - 1) * mulS h n s) * if s.testBit i = false ∧ upB n p (s ||| 2 ^ i) = true then h i else 0 := sumN_congr fun i hi => by
      by_cases c : s.testBit i = false ∧ upB n p (s ||| 2 ^ i) = true
      · rw [if_pos c, if_pos c, cnt_add hi c.1, mulS_add h c.1 n hi, ← Int.mul_assoc, Nat.sub_add_eq]
      · rw [if_neg c, if_neg c, Int.mul_zero]
    rw [e, sumN_mul, hF.roots hu]
    obtain ⟨d, hd⟩ : ∃ d, n - cnt n s = d + 1 := ⟨n - cnt n s - 1, by omega⟩
    have : (n : Int) - cnt n s = (d : Int) + 1 := by omega
    rw [this, hd]
    simp only [fac, Nat.add_sub_cancel]
    rw [Int.mul_assoc, Int.mul_assoc, Int.mul_comm (mulS h n s)]
  have lev : ∀ k, k ≤ n → (sumN (2 ^ n) fun s => if upB n p s = true ∧ cnt n s = k then ways n (upB n p) s * (fac (n - cnt n s) * mulS h n s) else 0) = fac n := by
    intro k
    induction k with
    | zero =>
      intro _
      have : (sumN (2 ^ n) fun s => if upB n p s = true ∧ cnt n s = 0 then ways n (upB n p) s * (fac (n - cnt n s) * mulS h n s) else 0) = sumN (2 ^ n) fun s => if s = 0 then fac n else 0 := sumN_congr fun s hs => by
        by_cases c : s = 0
        · subst c
          rw [if_pos ⟨h0, cnt_zero n⟩, if_pos rfl, ways_zero, cnt_zero, mulS_zero]; simp
        · rw [if_neg c, if_neg fun q => ?_]
          obtain ⟨i, hi⟩ := exists_bit c
          have := cnt_pos hs hi
          omega
      rw [this]
      exact sumN_single _ 0 _ (Nat.pow_pos (by omega))
    | succ k ih =>
      intro hk
      rw [ways_level (G := fun s => fac (n - cnt n s) * mulS h n s) hG (by omega)]
      exact ih (by omega)
  have := lev n (Nat.le_refl n)
  have hpos : 0 < 2 ^ n := Nat.pow_pos (by omega)
  have e : (sumN (2 ^ n) fun s => if upB n p s = true ∧ cnt n s = n then ways n (upB n p) s * (fac (n - cnt n s) * mulS h n s) else 0) = sumN (2 ^ n) fun s => if s = 2 ^ n - 1 then ways n (upB n p) (2 ^ n - 1) * mulS h n (2 ^ n - 1) else 0 := sumN_congr fun s hs => by
    have hfull : cnt n (2 ^ n - 1) = n := by
      have : (cnt n (2 ^ n - 1) : Int) = n := by
        rw [cnt_sum, ← sum_one n]
        exact sumN_congr fun i hi => by rw [Nat.testBit_two_pow_sub_one]; simp [hi]
      omega
    by_cases c : s = 2 ^ n - 1
    · subst c
      rw [if_pos ⟨h1, hfull⟩, if_pos rfl, hfull, Nat.sub_self]; simp [fac]
    · rw [if_neg c, if_neg fun q => c ?_]
      refine set_ext hs (by omega) fun i hi => ?_
      rw [cnt_full q.2 i hi, Nat.testBit_two_pow_sub_one]; simp [hi]
  rw [e, sumN_single _ _ _ (by omega)] at this
  exact this
end
end Go.SH
