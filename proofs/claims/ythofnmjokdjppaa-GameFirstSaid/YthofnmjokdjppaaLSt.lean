/-
  Orders of the elements, what lies ahead in them; numbers cut in layers. Conditions: numbers from -1000 to 1000.
-/
import Derived.Test.YthofnmjokdjppaaLM
set_option linter.unusedSimpArgs false
set_option linter.unusedVariables false
namespace Go.SH
open Go Go.AX

/-! ### sets by a test -/
def mkset : Nat → (Nat → Bool) → Nat
  | 0, _ => 0
  | m + 1, p => mkset m p ||| (if p m = true then 2 ^ m else 0)
theorem mkset_bit (m : Nat) (p : Nat → Bool) (i : Nat) : (mkset m p).testBit i = (decide (i < m) && p i) := by
  induction m with
  | zero => simp [mkset]
  | succ m ih =>
    rw [mkset, Nat.testBit_or, ih]
    rcases Nat.lt_trichotomy i m with c | c | c
    · have : (if p m = true then 2 ^ m else 0).testBit i = false := by
        split
        · rw [testBit_pow]; simp; omega
        · simp
      rw [this, Bool.or_false]
      simp [c, show i < m + 1 by omega]
    · subst c
      cases h : p i
      · simp
      · simp [testBit_pow]
    · have : (if p m = true then 2 ^ m else 0).testBit i = false := by
        split
        · rw [testBit_pow]; simp; omega
        · simp
      rw [this, Bool.or_false]
      simp [show ¬ i < m by omega, show ¬ i < m + 1 by omega]
theorem mkset_lt (m : Nat) (p : Nat → Bool) : mkset m p < 2 ^ m := lt_of_bits fun i hi => by rw [mkset_bit]; simp; omega
theorem mkset_eq {m s : Nat} (hs : s < 2 ^ m) {p : Nat → Bool} (h : ∀ i, i < m → p i = s.testBit i) : mkset m p = s := set_ext (mkset_lt m p) hs fun i hi => by rw [mkset_bit, h i hi]; simp [hi]

/-! ### layers -/
theorem layer_nat (c : Nat) : ∀ N : Nat, sumN N (fun j => if j < c then 1 else 0) = ((min N c : Nat) : Int) := by
  intro N
  induction N with
  | zero => simp [sumN]
  | succ N ih =>
    rw [sumN, ih]
    by_cases h : N < c
    · rw [if_pos h]; omega
    · rw [if_neg h]; omega
/-- A number from -1000 to 1000 is -1000 and how many of the layers it reaches. -/
theorem layer {x : Int} (h1 : -1000 ≤ x) (h2 : x ≤ 1000) : x = -1000 + sumN 2000 (fun j => if (j : Int) - 999 ≤ x then 1 else 0) := by
  have := layer_nat (x + 1000).toNat 2000
  rw [sumN_congr (n := 2000) (g := fun j : Nat => if (j : Int) - 999 ≤ x then (1 : Int) else 0) (h := fun j => if j < (x + 1000).toNat then 1 else 0) fun j hj => by
    by_cases c : (j : Int) - 999 ≤ x
    · rw [if_pos c, if_pos (by omega)]
    · rw [if_neg c, if_neg (by omega)]]
  rw [this]
  omega
/-- The elements of a layer. -/
def upS (m : Nat) (w : Nat → Int) (j : Nat) : Nat := mkset m fun i => decide ((j : Int) - 999 ≤ w i)
theorem upS_bit {m : Nat} {w : Nat → Int} {j i : Nat} (hi : i < m) : (upS m w j).testBit i = decide ((j : Int) - 999 ≤ w i) := by unfold upS; rw [mkset_bit]; simp [hi]
theorem upS_lt (m : Nat) (w : Nat → Int) (j : Nat) : upS m w j < 2 ^ m := mkset_lt m _
/-- Numbers with weights, by layers. -/
theorem dot_layer {m : Nat} {w x : Nat → Int} (hw : ∀ i, i < m → -1000 ≤ w i ∧ w i ≤ 1000) : sumN m (fun i => x i * w i) = -1000 * sumN m x + sumN 2000 (fun j => wsum m x (upS m w j)) := by
  have e : sumN 2000 (fun j => wsum m x (upS m w j)) = sumN m (fun i => x i * sumN 2000 (fun j => if (j : Int) - 999 ≤ w i then 1 else 0)) := by
    unfold wsum
    rw [sumN_swap]
    refine sumN_congr fun i hi => ?_
    rw [← sumN_mul]
    refine sumN_congr fun j _ => ?_
    rw [upS_bit hi]
    by_cases c : (j : Int) - 999 ≤ w i <;> simp [c]
  rw [e, ← sumN_mul, ← sumN_add]
  refine sumN_congr fun i hi => ?_
  have := layer (hw i hi).1 (hw i hi).2
  generalize sumN 2000 _ = q at this ⊢
  rw [this, Int.mul_add, Int.mul_comm (x i) (-1000)]
theorem wsum_eq (m : Nat) (w : Nat → Int) (s : Nat) : wsum m w s = sumN m (fun i => (if s.testBit i = true then 1 else 0) * w i) := by
  unfold wsum
  refine sumN_congr fun i _ => ?_
  cases s.testBit i <;> simp
theorem cnt_sum (m s : Nat) : ((cnt m s : Nat) : Int) = sumN m (fun i => if s.testBit i = true then 1 else 0) := by
  induction m with
  | zero => rfl
  | succ m ih =>
    rw [cnt, sumN, ← ih]
    cases s.testBit m <;> simp
/-- A set's weight, by layers. -/
theorem wsum_layer {m : Nat} {w : Nat → Int} (hw : ∀ i, i < m → -1000 ≤ w i ∧ w i ≤ 1000) (s : Nat) : wsum m w s = -1000 * (cnt m s : Nat) + sumN 2000 (fun j => ((cnt m (s &&& upS m w j) : Nat) : Int)) := by
  have e : sumN 2000 (fun j => ((cnt m (s &&& upS m w j) : Nat) : Int)) = sumN 2000 (fun j => wsum m (fun i => if s.testBit i = true then 1 else 0) (upS m w j)) := sumN_congr fun j _ => by
    rw [cnt_sum]
    unfold wsum
    refine sumN_congr fun i _ => ?_
    rw [Nat.testBit_and]
    cases h1 : s.testBit i <;> cases (upS m w j).testBit i <;> simp [h1]
  rw [wsum_eq, dot_layer hw, cnt_sum, e]

/-! ### orders of all elements -/
/-- The first k of a list, as a set. -/
def pre (L : List Nat) : Nat → Nat
  | 0 => 0
  | k + 1 => pre L k ||| 2 ^ L.getD k 0
theorem pre_bit (L : List Nat) (k i : Nat) : (pre L k).testBit i = true ↔ ∃ j, j < k ∧ L.getD j 0 = i := by
  induction k with
  | zero => simp [pre]
  | succ k ih =>
    rw [pre, Nat.testBit_or, testBit_pow, Bool.or_eq_true, ih, decide_eq_true_eq]
    constructor
    · rintro (⟨j, h1, h2⟩ | h)
      · exact ⟨j, by omega, h2⟩
      · exact ⟨k, by omega, h⟩
    · rintro ⟨j, h1, h2⟩
      rcases Nat.lt_succ_iff_lt_or_eq.1 h1 with c | rfl
      · exact .inl ⟨j, c, h2⟩
      · exact .inr h2
/-- A list of all elements, each once. -/
structure Ord (m : Nat) (L : List Nat) : Prop where
  len : L.length = m
  lt : ∀ j, j < m → L.getD j 0 < m
  inj : ∀ i j, i < j → j < m → L.getD i 0 ≠ L.getD j 0
  onto : ∀ i, i < m → ∃ j, j < m ∧ L.getD j 0 = i
theorem Ord.of_perm {m : Nat} {L : List Nat} (h : List.Perm L (List.range m)) : Ord m L := by
  have hl : L.length = m := by rw [h.length_eq, List.length_range]
  have get : ∀ j (hj : j < m), L.getD j 0 = L[j]'(by omega) := fun j hj => by rw [List.getD_eq_getElem?_getD, List.getElem?_eq_getElem (by omega)]; rfl
  refine ⟨hl, fun j hj => ?_, fun i j hij hj => ?_, fun i hi => ?_⟩
  · rw [get j hj]
    exact List.mem_range.1 (h.mem_iff.1 (List.getElem_mem _))
  · rw [get j hj, get i (by omega)]
    exact List.pairwise_iff_getElem.1 (h.nodup_iff.2 List.nodup_range) i j (by omega) (by omega) hij
  · obtain ⟨j, hj, e⟩ := List.getElem_of_mem (h.mem_iff.2 (List.mem_range.2 hi))
    exact ⟨j, by omega, by rw [get j (by omega)]; exact e⟩
section
variable {m : Nat} {L : List Nat} (h : Ord m L)
include h
theorem Ord.pre_lt {k : Nat} (hk : k ≤ m) : pre L k < 2 ^ m := lt_of_bits fun i hi => by
  cases hb : (pre L k).testBit i
  · rfl
  · obtain ⟨j, h1, h2⟩ := (pre_bit L k i).1 hb
    have := h.lt j (by omega)
    omega
theorem Ord.pre_new {k : Nat} (hk : k < m) : (pre L k).testBit (L.getD k 0) = false := by
  cases hb : (pre L k).testBit (L.getD k 0)
  · rfl
  · obtain ⟨j, h1, h2⟩ := (pre_bit L k _).1 hb
    exact absurd h2 (h.inj j k h1 hk)
theorem Ord.pre_all : pre L m = 2 ^ m - 1 := by
  refine set_ext (h.pre_lt (Nat.le_refl m)) (by have : 0 < 2 ^ m := Nat.pow_pos (by omega); omega) fun i hi => ?_
  have h1 : (pre L m).testBit i = true := (pre_bit L m i).2 (h.onto i hi)
  rw [h1, Nat.testBit_two_pow_sub_one]
  simp [hi]
/-- What an order adds, place by place. -/
theorem Ord.wsum_pre (x : Nat → Int) (k : Nat) (hk : k ≤ m) : wsum m x (pre L k) = sumN k fun j => x (L.getD j 0) := by
  induction k with
  | zero =>
    simp only [pre, sumN]
    unfold wsum
    rw [sumN_congr (h := fun _ => 0) fun i _ => by simp, sumN_zero]
  | succ k ih =>
    rw [pre, wsum_add (h.lt k (by omega)) (h.pre_new (by omega)), ih (by omega), sumN]
theorem Ord.sum (x : Nat → Int) : sumN m x = sumN m fun j => x (L.getD j 0) := by
  rw [← h.wsum_pre x m (Nat.le_refl m), h.pre_all]
  unfold wsum
  refine sumN_congr fun i hi => ?_
  rw [Nat.testBit_two_pow_sub_one]
  simp [hi]
/-- Where the numbers fall along the order, a layer is what lies ahead of some place. -/
theorem Ord.layer_pre {w : Nat → Int} (hs : ∀ i j, i < j → j < m → w (L.getD j 0) ≤ w (L.getD i 0)) (t : Nat) : ∃ k, k ≤ m ∧ upS m w t = pre L k := by
  have key : ∀ n, n ≤ m → ∃ k, k ≤ n ∧ (∀ j, j < k → (t : Int) - 999 ≤ w (L.getD j 0)) ∧ ∀ j, k ≤ j → j < n → ¬ (t : Int) - 999 ≤ w (L.getD j 0) := by
    intro n
    induction n with
    | zero => intro _; exact ⟨0, Nat.le_refl _, fun j hj => absurd hj (Nat.not_lt_zero j), fun j _ hj => absurd hj (Nat.not_lt_zero j)⟩
    | succ n ih =>
      intro hn
      obtain ⟨k, h1, h2, h3⟩ := ih (by omega)
      by_cases c : (t : Int) - 999 ≤ w (L.getD n 0)
      · have hkn : k = n := by
          rcases Nat.lt_or_ge k n with q | q
          · have := h3 k (Nat.le_refl _) q
            have := hs k n q (by omega)
            omega
          · omega
        subst hkn
        refine ⟨k + 1, Nat.le_refl _, fun j hj => ?_, fun j q1 q2 => by omega⟩
        rcases Nat.lt_succ_iff_lt_or_eq.1 hj with q | rfl
        · exact h2 j q
        · exact c
      · refine ⟨k, by omega, h2, fun j q1 q2 => ?_⟩
        rcases Nat.lt_succ_iff_lt_or_eq.1 q2 with q | rfl
        · exact h3 j q1 q
        · exact c
  obtain ⟨k, h1, h2, h3⟩ := key m (Nat.le_refl _)
  refine ⟨k, h1, set_ext (upS_lt _ _ _) (h.pre_lt h1) fun i hi => ?_⟩
  obtain ⟨j, hj, rfl⟩ := h.onto i hi
  rw [upS_bit hi, Bool.eq_iff_iff, decide_eq_true_eq, pre_bit]
  constructor
  · intro q
    rcases Nat.lt_or_ge j k with c | c
    · exact ⟨j, c, rfl⟩
    · exact absurd q (h3 j c hj)
  · rintro ⟨j', q1, q2⟩
    rw [← q2]; exact h2 j' q1
/-- A function whose numbers are the steps along an order. -/
theorem Ord.steps (g : Nat → Int) : ∃ y : Nat → Int, ∀ j, j < m → y (L.getD j 0) = g j := by
  refine ⟨fun i => sumN m fun j => if L.getD j 0 = i then g j else 0, fun j hj => ?_⟩
  show sumN m (fun j' => if L.getD j' 0 = L.getD j 0 then g j' else 0) = g j
  rw [sumN_congr (h := fun j' => if j' = j then g j else 0) fun j' hj' => ?_, sumN_single m j _ hj]
  by_cases c : j' = j
  · subst c; simp
  · rw [if_neg c, if_neg]
    rcases Nat.lt_or_ge j' j with q | q
    · exact h.inj j' j q hj
    · exact fun e => h.inj j j' (by omega) hj' e.symm
end
theorem tele (f : Nat → Int) (k : Nat) : sumN k (fun j => f (j + 1) - f j) = f k - f 0 := by
  induction k with
  | zero => simp [sumN]
  | succ k ih => rw [sumN, ih]; omega
end Go.SH
