/-
  Matroids by their bases: ranks, and what holds of them. Plain: no program in sight. Conditions: none.
-/
import Derived.Test.YtabhcjpjoknihaaLS
set_option linter.unusedSimpArgs false
set_option linter.unusedVariables false
namespace Go.SH
open Go Go.AX

theorem cnt_or_and (m a b : Nat) : cnt m (a ||| b) + cnt m (a &&& b) = cnt m a + cnt m b := by
  induction m with
  | zero => rfl
  | succ m ih =>
    simp only [cnt, Nat.testBit_or, Nat.testBit_and]
    cases a.testBit m <;> cases b.testBit m <;> simp <;> omega
theorem cnt_split (m a b : Nat) : cnt m a = cnt m (a &&& b) + cnt m (dif a b) := by
  induction m with
  | zero => rfl
  | succ m ih =>
    simp only [cnt, testBit_dif, Nat.testBit_and]
    cases a.testBit m <;> cases b.testBit m <;> simp <;> omega
theorem cnt_le_of_inc {m a b : Nat} (h : Inc a b) : cnt m a ≤ cnt m b := cnt_mono fun i _ hi => h i hi
theorem inc_and_l (a b : Nat) : Inc (a &&& b) a := fun i hi => by rw [Nat.testBit_and, Bool.and_eq_true] at hi; exact hi.1
theorem inc_and_r (a b : Nat) : Inc (a &&& b) b := fun i hi => by rw [Nat.testBit_and, Bool.and_eq_true] at hi; exact hi.2
theorem inc_and {a b c : Nat} (h : Inc c a) (k : Inc c b) : Inc c (a &&& b) := fun i hi => by rw [Nat.testBit_and, h i hi, k i hi]; rfl
theorem inc_or_l (a b : Nat) : Inc a (a ||| b) := fun i hi => by rw [Nat.testBit_or, hi]; rfl
theorem inc_or_r (a b : Nat) : Inc b (a ||| b) := fun i hi => by rw [Nat.testBit_or, hi, Bool.or_true]
theorem inc_or {a b c : Nat} (h : Inc a c) (k : Inc b c) : Inc (a ||| b) c := fun i hi => by
  rw [Nat.testBit_or, Bool.or_eq_true] at hi
  rcases hi with hi | hi
  · exact h i hi
  · exact k i hi
theorem inc_dif (a b : Nat) : Inc (dif a b) a := fun i hi => by rw [testBit_dif] at hi; simp only [Bool.and_eq_true] at hi; exact hi.1
theorem inc_pow {i s : Nat} (h : s.testBit i = true) : Inc (2 ^ i) s := fun j hj => by
  rw [testBit_pow, decide_eq_true_eq] at hj; subst hj; exact h
theorem Inc.refl (a : Nat) : Inc a a := fun _ h => h
theorem inc_zero (a : Nat) : Inc 0 a := fun i hi => by simp at hi
theorem Inc.lt {a b m : Nat} (h : Inc a b) (hb : b < 2 ^ m) : a < 2 ^ m := lt_of_bits fun i hi => by
  cases q : a.testBit i
  · rfl
  · have := bit_lt hb (h i q); omega
theorem not_inc {a b : Nat} (h : ¬ Inc a b) : ∃ i, a.testBit i = true ∧ b.testBit i = false := by
  rcases Classical.em (∃ i, a.testBit i = true ∧ b.testBit i = false) with q | q
  · exact q
  · exfalso; apply h; intro i hi
    cases hb : b.testBit i
    · exact absurd ⟨i, hi, hb⟩ q
    · rfl
theorem cnt_lt_of {m a b i : Nat} (h : Inc a b) (hb : b < 2 ^ m) (h1 : b.testBit i = true) (h2 : a.testBit i = false) : cnt m a < cnt m b := by
  have h3 := cnt_dif hb h1
  have : Inc a (dif b (2 ^ i)) := fun j hj => dif_self_pow (h j hj) (by rintro rfl; rw [hj] at h2; cases h2)
  have := cnt_le_of_inc (m := m) this
  omega
theorem inc_eq_of_cnt {m a b : Nat} (h : Inc a b) (hb : b < 2 ^ m) (hc : cnt m b ≤ cnt m a) : a = b := by
  refine Inc.antisymm h fun i hi => ?_
  cases q : a.testBit i
  · have := cnt_lt_of h hb hi q; omega
  · rfl

/-- A matroid by its bases. -/
structure Mat (m : Nat) (B : List Nat) : Prop extends Fam m B where
  ne : B ≠ []
  eqc : ∀ a, a ∈ B → ∀ b, b ∈ B → cnt m a = cnt m b
  ex : ∀ a, a ∈ B → ∀ b, b ∈ B → ∀ x, a.testBit x = true → b.testBit x = false → ∃ y, b.testBit y = true ∧ a.testBit y = false ∧ dif a (2 ^ x) ||| 2 ^ y ∈ B
/-- Independent: within a basis. -/
def Ind (B : List Nat) (s : Nat) : Prop := ∃ b, b ∈ B ∧ Inc s b
theorem Ind.mono {B : List Nat} {s t : Nat} (h : Ind B t) (hs : Inc s t) : Ind B s := let ⟨b, h1, h2⟩ := h; ⟨b, h1, hs.trans h2⟩
theorem testBit_swap {a x y i : Nat} (hxy : x ≠ y) : (dif a (2 ^ x) ||| 2 ^ y).testBit i = true ↔ (i = y ∨ (a.testBit i = true ∧ i ≠ x)) := by
  rw [Nat.testBit_or, testBit_dif, testBit_pow, testBit_pow]
  simp only [Bool.or_eq_true, Bool.and_eq_true, Bool.not_eq_true', decide_eq_true_eq, decide_eq_false_iff_not]
  constructor
  · rintro (⟨h1, h2⟩ | rfl)
    · exact .inr ⟨h1, fun e => h2 e.symm⟩
    · exact .inl rfl
  · rintro (rfl | ⟨h1, h2⟩)
    · exact .inr rfl
    · exact .inl ⟨h1, fun e => h2 e.symm⟩

section
variable {m : Nat} {B : List Nat} (h : Mat m B)
include h
theorem Mat.ind_lt {s : Nat} (hs : Ind B s) : s < 2 ^ m := let ⟨b, h1, h2⟩ := hs; h2.lt (h.lt b h1)
theorem Mat.aug_aux : ∀ (d : Nat) (b1 b2 I J : Nat), b1 ∈ B → b2 ∈ B → Inc I b1 → Inc J b2 → cnt m (dif b2 (J ||| b1)) ≤ d → cnt m I < cnt m J → ∃ y, J.testBit y = true ∧ I.testBit y = false ∧ Ind B (I ||| 2 ^ y) := by
  intro d
  induction d with
  | zero =>
    intro b1 b2 I J h1 h2 hI hJ hd hc
    have hb1 := h.lt b1 h1
    have hb2 := h.lt b2 h2
    have e0 : Inc b2 (J ||| b1) := by
      rw [← sub_iff_dif]
      rcases Classical.em (dif b2 (J ||| b1) = 0) with q | q
      · exact q
      · obtain ⟨i, hi⟩ := exists_bit q
        have := cnt_pos (dif_lt hb2) hi
        omega
    rcases Classical.em (Inc b1 (I ||| b2)) with q | q
    · rcases Classical.em (∃ y, J.testBit y = true ∧ b1.testBit y = true ∧ I.testBit y = false) with r | r
      · obtain ⟨y, r1, r2, r3⟩ := r
        exact ⟨y, r1, r3, b1, h1, inc_or hI (inc_pow r2)⟩
      · exfalso
        have k1 : Inc (dif J I) (dif b2 b1) := fun i hi => by
          rw [testBit_dif] at hi ⊢
          simp only [Bool.and_eq_true, Bool.not_eq_true'] at hi ⊢
          refine ⟨hJ i hi.1, ?_⟩
          cases hb : b1.testBit i
          · rfl
          · exact absurd ⟨i, hi.1, hb, hi.2⟩ r
        have k2 : Inc (dif b1 b2) (dif I J) := fun i hi => by
          rw [testBit_dif] at hi ⊢
          simp only [Bool.and_eq_true, Bool.not_eq_true'] at hi ⊢
          have := q i hi.1
          rw [Nat.testBit_or, hi.2, Bool.or_false] at this
          refine ⟨this, ?_⟩
          cases hb : J.testBit i
          · rfl
          · rw [hJ i hb] at hi; cases hi.2
        have c1 := cnt_le_of_inc (m := m) k1
        have c2 := cnt_le_of_inc (m := m) k2
        have c3 := h.eqc b1 h1 b2 h2
        have c4 := cnt_split m b1 b2
        have c5 := cnt_split m b2 b1
        rw [Nat.and_comm] at c5
        have c6 := cnt_split m I J
        have c7 := cnt_split m J I
        rw [Nat.and_comm] at c7
        omega
    · obtain ⟨x, q1, q2⟩ := not_inc q
      rw [Nat.testBit_or, Bool.or_eq_false_iff] at q2
      obtain ⟨y, r1, r2, r3⟩ := h.ex b1 h1 b2 h2 x q1 q2.2
      have hxy : x ≠ y := by rintro rfl; rw [q1] at r2; cases r2
      have hJy : J.testBit y = true := by
        have := e0 y r1
        rw [Nat.testBit_or, r2, Bool.or_false] at this; exact this
      have hIy : I.testBit y = false := by
        cases hb : I.testBit y
        · rfl
        · rw [hI y hb] at r2; cases r2
      refine ⟨y, hJy, hIy, _, r3, fun i hi => (testBit_swap hxy).2 ?_⟩
      rw [Nat.testBit_or, testBit_pow, Bool.or_eq_true, decide_eq_true_eq] at hi
      rcases hi with hi | rfl
      · exact .inr ⟨hI i hi, by rintro rfl; rw [hi] at q2; cases q2.1⟩
      · exact .inl rfl
  | succ d ih =>
    intro b1 b2 I J h1 h2 hI hJ hd hc
    have hb2 := h.lt b2 h2
    rcases Classical.em (dif b2 (J ||| b1) = 0) with q | q
    · exact ih b1 b2 I J h1 h2 hI hJ (by rw [q, cnt_zero]; omega) hc
    · obtain ⟨x, hx⟩ := exists_bit q
      have hx' := hx
      rw [testBit_dif, Nat.testBit_or] at hx'
      simp only [Bool.and_eq_true, Bool.not_eq_true', Bool.or_eq_false_iff] at hx'
      obtain ⟨hx1, hx2, hx3⟩ := hx'
      obtain ⟨y, r1, r2, r3⟩ := h.ex b2 h2 b1 h1 x hx1 hx3
      have hxy : x ≠ y := by rintro rfl; rw [hx1] at r2; cases r2
      refine ih b1 _ I J h1 r3 hI (fun i hi => (testBit_swap hxy).2 (.inr ⟨hJ i hi, by rintro rfl; rw [hi] at hx2; cases hx2⟩)) ?_ hc
      have : Inc (dif (dif b2 (2 ^ x) ||| 2 ^ y) (J ||| b1)) (dif b2 (J ||| b1)) := fun i hi => by
        rw [testBit_dif] at hi ⊢
        simp only [Bool.and_eq_true, Bool.not_eq_true'] at hi ⊢
        refine ⟨?_, hi.2⟩
        rcases (testBit_swap hxy).1 hi.1 with rfl | ⟨q1, _⟩
        · have := hi.2
          rw [Nat.testBit_or, r1, Bool.or_true] at this; cases this
        · exact q1
      have := cnt_lt_of this (dif_lt hb2) hx (by
        rw [testBit_dif]
        have : (dif b2 (2 ^ x) ||| 2 ^ y).testBit x = false := by
          cases hb : (dif b2 (2 ^ x) ||| 2 ^ y).testBit x
          · rfl
          · rcases (testBit_swap hxy).1 hb with e | ⟨_, e⟩
            · exact absurd e hxy
            · exact absurd rfl e
        rw [this]; rfl)
      omega
/-- The smaller of two independent sets grows by an element of the greater one. -/
theorem Mat.aug {I J : Nat} (hI : Ind B I) (hJ : Ind B J) (hc : cnt m I < cnt m J) : ∃ y, J.testBit y = true ∧ I.testBit y = false ∧ Ind B (I ||| 2 ^ y) := by
  obtain ⟨b1, h1, k1⟩ := hI
  obtain ⟨b2, h2, k2⟩ := hJ
  exact h.aug_aux _ b1 b2 I J h1 h2 k1 k2 (Nat.le_refl _) hc
end

/-- How much of a basis lies in a set at most. -/
def rk (m : Nat) (B : List Nat) (s : Nat) : Nat := B.foldl (fun r b => max r (cnt m (s &&& b))) 0
theorem foldl_max_le {B : List Nat} {f : Nat → Nat} {a k : Nat} : B.foldl (fun r b => max r (f b)) a ≤ k ↔ a ≤ k ∧ ∀ b, b ∈ B → f b ≤ k := by
  induction B generalizing a with
  | nil => simp
  | cons c B ih =>
    rw [List.foldl_cons, ih]
    constructor
    · rintro ⟨h1, h2⟩
      refine ⟨by omega, fun b hb => ?_⟩
      rcases List.mem_cons.1 hb with rfl | hb
      · omega
      · exact h2 b hb
    · rintro ⟨h1, h2⟩
      have := h2 c (by simp)
      exact ⟨by omega, fun b hb => h2 b (by simp [hb])⟩
theorem foldl_max_mem {B : List Nat} {f : Nat → Nat} {a : Nat} : B.foldl (fun r b => max r (f b)) a = a ∨ ∃ b, b ∈ B ∧ B.foldl (fun r b => max r (f b)) a = f b := by
  induction B generalizing a with
  | nil => exact .inl rfl
  | cons c B ih =>
    rw [List.foldl_cons]
    rcases ih (a := max a (f c)) with q | ⟨b, q1, q2⟩
    · rw [q]
      rcases Nat.le_total a (f c) with r | r
      · exact .inr ⟨c, by simp, by omega⟩
      · left; omega
    · exact .inr ⟨b, by simp [q1], q2⟩
theorem rk_le {m : Nat} {B : List Nat} {s k : Nat} : rk m B s ≤ k ↔ ∀ b, b ∈ B → cnt m (s &&& b) ≤ k := by
  unfold rk; rw [foldl_max_le]; simp
theorem le_rk {m : Nat} {B : List Nat} {s b : Nat} (hb : b ∈ B) : cnt m (s &&& b) ≤ rk m B s := rk_le.1 (Nat.le_refl _) b hb
section
variable {m : Nat} {B : List Nat} (h : Mat m B)
include h
theorem Mat.exists_basis : ∃ b, b ∈ B := by
  cases hB : B with
  | nil => exact absurd hB h.ne
  | cons b r => exact ⟨b, by simp⟩
theorem Mat.rk_mem (s : Nat) : ∃ b, b ∈ B ∧ rk m B s = cnt m (s &&& b) := by
  unfold rk
  rcases foldl_max_mem (B := B) (f := fun b => cnt m (s &&& b)) (a := 0) with q | q
  · obtain ⟨b, hb⟩ := h.exists_basis
    have := rk_le (m := m) (B := B) (s := s) (k := 0)
    unfold rk at this
    have h0 := (this.1 (by omega)) b hb
    exact ⟨b, hb, by omega⟩
  · exact q
/-- The rank is the size of a greatest independent set within. -/
theorem Mat.rk_ind {s : Nat} : ∃ I, Ind B I ∧ Inc I s ∧ cnt m I = rk m B s := by
  obtain ⟨b, h1, h2⟩ := h.rk_mem s
  exact ⟨s &&& b, ⟨b, h1, inc_and_r s b⟩, inc_and_l s b, h2.symm⟩
theorem Mat.ind_le {I s : Nat} (hI : Ind B I) (hs : Inc I s) : cnt m I ≤ rk m B s := by
  have _ := h
  obtain ⟨b, h1, h2⟩ := hI
  exact Nat.le_trans (cnt_le_of_inc (inc_and hs h2)) (le_rk h1)
/-- An independent set in another one grows to a greatest one. -/
theorem Mat.extend {u : Nat} : ∀ (k : Nat) (I : Nat), rk m B u - cnt m I ≤ k → Ind B I → Inc I u → ∃ J, Ind B J ∧ Inc I J ∧ Inc J u ∧ cnt m J = rk m B u := by
  intro k
  induction k with
  | zero =>
    intro I hk hI hs
    have := h.ind_le hI hs
    exact ⟨I, hI, Inc.refl I, hs, by omega⟩
  | succ k ih =>
    intro I hk hI hs
    rcases Nat.lt_or_ge (cnt m I) (rk m B u) with q | q
    · obtain ⟨J, j1, j2, j3⟩ := h.rk_ind (s := u)
      obtain ⟨y, y1, y2, y3⟩ := h.aug hI j1 (by omega)
      have hy : y < m := bit_lt (h.ind_lt j1) y1
      obtain ⟨J', k1, k2, k3, k4⟩ := ih (I ||| 2 ^ y) (by rw [cnt_add hy y2]; omega) y3 (inc_or hs (inc_pow (j2 y y1)))
      exact ⟨J', k1, (inc_or_l _ _).trans k2, k3, k4⟩
    · have := h.ind_le hI hs
      exact ⟨I, hI, Inc.refl I, hs, by omega⟩
theorem Mat.rk_mono {s t : Nat} (hs : Inc s t) : rk m B s ≤ rk m B t := by
  obtain ⟨I, h1, h2, h3⟩ := h.rk_ind (s := s)
  rw [← h3]; exact h.ind_le h1 (h2.trans hs)
theorem Mat.rk_size (s : Nat) : rk m B s ≤ cnt m s := have _ := h; rk_le.2 fun b _ => cnt_le_of_inc (inc_and_l s b)
theorem Mat.rk_zero : rk m B 0 = 0 := by have := h.rk_size 0; rw [cnt_zero] at this; omega
theorem Mat.ind_iff {s : Nat} (hs : s < 2 ^ m) : Ind B s ↔ rk m B s = cnt m s := by
  constructor
  · intro hI; exact Nat.le_antisymm (h.rk_size s) (h.ind_le hI (Inc.refl s))
  · intro e
    obtain ⟨I, h1, h2, h3⟩ := h.rk_ind (s := s)
    have := inc_eq_of_cnt (m := m) h2 hs (by omega)
    rw [← this]; exact h1
/-- SUBMODULAR. -/
theorem Mat.rk_sub (s t : Nat) : rk m B (s ||| t) + rk m B (s &&& t) ≤ rk m B s + rk m B t := by
  obtain ⟨I, i1, i2, i3⟩ := h.rk_ind (s := s &&& t)
  obtain ⟨J, j1, j2, j3, j4⟩ := h.extend (u := s ||| t) _ I (Nat.le_refl _) i1 (i2.trans ((inc_and_l s t).trans (inc_or_l s t)))
  have a1 : cnt m (J &&& s) ≤ rk m B s := h.ind_le (j1.mono (inc_and_l J s)) (inc_and_r J s)
  have a2 : cnt m (J &&& t) ≤ rk m B t := h.ind_le (j1.mono (inc_and_l J t)) (inc_and_r J t)
  have a3 := cnt_or_and m (J &&& s) (J &&& t)
  have a4 : cnt m J ≤ cnt m (J &&& s ||| J &&& t) := cnt_le_of_inc fun i hi => by
    have := j3 i hi
    rw [Nat.testBit_or, Bool.or_eq_true] at this
    rw [Nat.testBit_or, Nat.testBit_and, Nat.testBit_and, hi]
    simpa using this
  have a5 : cnt m I ≤ cnt m (J &&& s &&& (J &&& t)) := cnt_le_of_inc fun i hi => by
    have q1 := j2 i hi
    have q2 := i2 i hi
    rw [Nat.testBit_and, Bool.and_eq_true] at q2
    simp only [Nat.testBit_and, q1, q2.1, q2.2]; rfl
  omega
/-- One element more: one more at most. -/
theorem Mat.rk_step (s : Nat) {i : Nat} (hi : i < m) : rk m B (s ||| 2 ^ i) ≤ rk m B s + 1 := by
  have h1 := h.rk_sub s (2 ^ i)
  have h2 := h.rk_size (2 ^ i)
  have h3 : cnt m (2 ^ i) = 1 := by
    have := cnt_add (m := m) (s := 0) hi (by simp)
    rw [Nat.zero_or, cnt_zero] at this; exact this
  omega
/-- What single elements do not make more, together they do not. -/
theorem Mat.rk_all {s t : Nat} (ht : t < 2 ^ m) (h1 : ∀ i, t.testBit i = true → rk m B (s ||| 2 ^ i) = rk m B s) : rk m B (s ||| t) = rk m B s := by
  refine set_ind (m := m) (fun t => (∀ i, t.testBit i = true → rk m B (s ||| 2 ^ i) = rk m B s) → rk m B (s ||| t) = rk m B s) (fun _ => by rw [Nat.or_zero]) ?_ t ht h1
  intro t i ht hi hti ih hall
  have e1 := ih fun j hj => hall j (by rw [Nat.testBit_or, hj]; rfl)
  have e2 := hall i (by rw [Nat.testBit_or, testBit_pow]; simp)
  have e3 := h.rk_sub (s ||| t) (s ||| 2 ^ i)
  have e4 : s ||| t ||| (s ||| 2 ^ i) = s ||| (t ||| 2 ^ i) := by
    apply Nat.eq_of_testBit_eq; intro j
    simp only [Nat.testBit_or]
    cases s.testBit j <;> simp
  rw [e4] at e3
  have e5 : rk m B s ≤ rk m B ((s ||| t) &&& (s ||| 2 ^ i)) := h.rk_mono (inc_and (inc_or_l s t) (inc_or_l s _))
  have e6 : rk m B s ≤ rk m B (s ||| (t ||| 2 ^ i)) := h.rk_mono (inc_or_l s _)
  omega
end
end Go.SH
