/-
  EDMONDS: two rank functions, and the largest set that is independent in both; what can be parted into an independent set of each. Conditions: at most eight elements.
-/
import Derived.Test.YthofnmjokdjppaaLM
set_option linter.unusedSimpArgs false
set_option linter.unusedVariables false
namespace Go.SH
open Go Go.AX

/-- A rank function on sets. -/
structure RkF (r : Nat → Nat) : Prop where
  zero : r 0 = 0
  mono : ∀ s t, Inc s t → r s ≤ r t
  step : ∀ s i, r (s ||| 2 ^ i) ≤ r s + 1
  sub : ∀ s t, r (s ||| t) + r (s &&& t) ≤ r s + r t

theorem bx {a b : Nat} (h : ∀ j, a.testBit j = b.testBit j) : a = b := Nat.eq_of_testBit_eq h
theorem dif_inc_lt {G A : Nat} (hG : G < 256) : dif G A < 256 := dif_lt (n := 8) hG
theorem pow_sep {i j : Nat} : decide (i = j) = true ↔ i = j := decide_eq_true_iff

theorem RkF.add {r : Nat → Nat} (h : RkF r) (a : Nat) : ∀ b, b < 2 ^ 8 → r (a ||| b) ≤ r a + cnt 8 b := by
  refine set_ind (m := 8) _ ?_ ?_
  · simp
  · intro s i hs hi hb ih
    have e : a ||| (s ||| 2 ^ i) = (a ||| s) ||| 2 ^ i := (Nat.or_assoc _ _ _).symm
    rw [e, cnt_add hi hb]
    have := h.step (a ||| s) i
    omega
theorem RkF.le {r : Nat → Nat} (h : RkF r) {b : Nat} (hb : b < 2 ^ 8) : r b ≤ cnt 8 b := by
  have := h.add 0 b hb
  rw [Nat.zero_or, h.zero] at this
  omega
theorem RkF.loop {r : Nat → Nat} (h : RkF r) {e : Nat} (he : r (2 ^ e) = 0) (s : Nat) : r (s ||| 2 ^ e) = r s := by
  have h1 := h.sub s (2 ^ e)
  have h2 := h.mono s (s ||| 2 ^ e) (inc_or_l _ _)
  omega
/-- With an element contracted. -/
theorem RkF.contract {r : Nat → Nat} (h : RkF r) {e : Nat} (he : r (2 ^ e) = 1) : RkF (fun s => r (s ||| 2 ^ e) - 1) := by
  have pos : ∀ s, 1 ≤ r (s ||| 2 ^ e) := fun s => by rw [← he]; exact h.mono _ _ (inc_or_r _ _)
  refine ⟨?_, fun s t hs => ?_, fun s i => ?_, fun s t => ?_⟩
  · simp [he]
  · have := h.mono (s ||| 2 ^ e) (t ||| 2 ^ e) (inc_or (hs.trans (inc_or_l _ _)) (inc_or_r _ _))
    show _ - 1 ≤ _ - 1
    omega
  · have e1 : s ||| 2 ^ i ||| 2 ^ e = s ||| 2 ^ e ||| 2 ^ i := by rw [Nat.or_assoc, Nat.or_comm (2 ^ i), Nat.or_assoc]
    have := h.step (s ||| 2 ^ e) i
    have := pos s
    show _ - 1 ≤ _ - 1 + 1
    rw [e1]
    omega
  · have e1 : (s ||| 2 ^ e) ||| (t ||| 2 ^ e) = s ||| t ||| 2 ^ e := bx fun j => by
      simp only [Nat.testBit_or]; cases s.testBit j <;> cases t.testBit j <;> cases (2 ^ e).testBit j <;> rfl
    have e2 : (s ||| 2 ^ e) &&& (t ||| 2 ^ e) = s &&& t ||| 2 ^ e := bx fun j => by
      simp only [Nat.testBit_or, Nat.testBit_and]; cases s.testBit j <;> cases t.testBit j <;> cases (2 ^ e).testBit j <;> rfl
    have h1 := h.sub (s ||| 2 ^ e) (t ||| 2 ^ e)
    rw [e1, e2] at h1
    have := pos s
    have := pos t
    have := pos (s ||| t)
    have := pos (s &&& t)
    show _ - 1 + (_ - 1) ≤ _ - 1 + (_ - 1)
    omega

/-- EDMONDS: a set that is independent in both, as large as all sets let it be. -/
theorem edmonds : ∀ (n k E : Nat) (r1 r2 : Nat → Nat), cnt 8 E ≤ n → E < 2 ^ 8 → RkF r1 → RkF r2 → (∀ A, Inc A E → k ≤ r1 A + r2 (dif E A)) →
    ∃ I, Inc I E ∧ k ≤ cnt 8 I ∧ r1 I = cnt 8 I ∧ r2 I = cnt 8 I := by
  intro n
  induction n with
  | zero =>
    intro k E r1 r2 hn hE h1 h2 hk
    have e0 : E = 0 := by
      rcases Nat.eq_zero_or_pos E with c | c
      · exact c
      · obtain ⟨i, hi⟩ := exists_bit (show E ≠ 0 by omega)
        have := cnt_pos hE hi
        omega
    subst e0
    have := hk 0 (inc_zero 0)
    have e1 : dif 0 0 = 0 := rfl
    rw [e1, h1.zero, h2.zero] at this
    exact ⟨0, inc_zero 0, by omega, by rw [h1.zero, cnt_zero], by rw [h2.zero, cnt_zero]⟩
  | succ n ih =>
    intro k E r1 r2 hn hE h1 h2 hk
    rcases Nat.eq_zero_or_pos E with rfl | c
    · have := hk 0 (inc_zero 0)
      have e1 : dif 0 0 = 0 := rfl
      rw [e1, h1.zero, h2.zero] at this
      exact ⟨0, inc_zero 0, by omega, by rw [h1.zero, cnt_zero], by rw [h2.zero, cnt_zero]⟩
    obtain ⟨e, he⟩ := exists_bit (show E ≠ 0 by omega)
    have hcnt := cnt_dif hE he
    have hDE : Inc (dif E (2 ^ e)) E := inc_dif _ _
    have hDlt : dif E (2 ^ e) < 2 ^ 8 := dif_lt hE
    have nb : ∀ A, Inc A (dif E (2 ^ e)) → A.testBit e = false := fun A hA => by
      cases hb : A.testBit e
      · rfl
      · have := hA e hb
        rw [testBit_dif, testBit_pow] at this
        simp at this
    have up : ∀ {I}, Inc I (dif E (2 ^ e)) → Inc I E := fun h => h.trans hDE
    -- the set without e
    have eD : ∀ A, dif (dif E (2 ^ e)) A = dif E (A ||| 2 ^ e) := fun A => bx fun j => by
      simp only [testBit_dif, Nat.testBit_or]; cases E.testBit j <;> cases A.testBit j <;> cases (2 ^ e).testBit j <;> rfl
    rcases Classical.em (∀ A, Inc A (dif E (2 ^ e)) → k ≤ r1 A + r2 (dif (dif E (2 ^ e)) A)) with hd | hd
    · obtain ⟨I, i1, i2⟩ := ih k _ r1 r2 (by omega) hDlt h1 h2 hd
      exact ⟨I, up i1, i2⟩
    -- e is no loop
    have hA1 : ∀ A, Inc A (dif E (2 ^ e)) → Inc (A ||| 2 ^ e) E := fun A hA => inc_or (up hA) (inc_pow he)
    have n1 : r1 (2 ^ e) = 1 := by
      have := h1.step 0 e
      rw [Nat.zero_or, h1.zero] at this
      rcases Nat.eq_zero_or_pos (r1 (2 ^ e)) with c | c
      · exact absurd (fun A hA => by
          have := hk (A ||| 2 ^ e) (hA1 A hA)
          rw [h1.loop c] at this
          rw [eD]; exact this) hd
      · omega
    have eA : ∀ A, Inc A (dif E (2 ^ e)) → dif E (A ||| 2 ^ e) ||| 2 ^ e = dif E A := fun A hA => bx fun j => by
      rw [Nat.testBit_or, testBit_dif, testBit_dif, Nat.testBit_or, testBit_pow]
      by_cases q : e = j
      · subst q; simp [he, nb A hA]
      · simp [q]
    have n2 : r2 (2 ^ e) = 1 := by
      have := h2.step 0 e
      rw [Nat.zero_or, h2.zero] at this
      rcases Nat.eq_zero_or_pos (r2 (2 ^ e)) with c | c
      · exact absurd (fun A hA => by
          have := hk A (up hA)
          rw [← eA A hA, h2.loop c] at this
          rw [eD]; exact this) hd
      · omega
    simp only [Classical.not_forall] at hd
    obtain ⟨X, hX, hXk⟩ := hd
    have hk1 : 1 ≤ k := by omega
    obtain ⟨I, i1, i2, i3, i4⟩ := ih (k - 1) (dif E (2 ^ e)) _ _ (by omega) hDlt (h1.contract n1) (h2.contract n2) (fun Y hY => by
      show k - 1 ≤ (r1 (Y ||| 2 ^ e) - 1) + (r2 (dif (dif E (2 ^ e)) Y ||| 2 ^ e) - 1)
      rw [eD, eA Y hY]
      have p1 : 1 ≤ r1 (Y ||| 2 ^ e) := by rw [← n1]; exact h1.mono _ _ (inc_or_r _ _)
      have p2 : 1 ≤ r2 (dif E Y) := by
        rw [← n2]
        refine h2.mono _ _ (inc_pow ?_)
        rw [testBit_dif, he, nb Y hY]; rfl
      rw [eD] at hXk
      have s1 := h1.sub X (Y ||| 2 ^ e)
      have s2 := h2.sub (dif E (X ||| 2 ^ e)) (dif E Y)
      have e1 : X &&& (Y ||| 2 ^ e) = X &&& Y := bx fun j => by
        rw [Nat.testBit_and, Nat.testBit_or, Nat.testBit_and, testBit_pow]
        by_cases q : e = j
        · subst q; simp [nb X hX]
        · simp [q]
      have e2 : dif E (X ||| 2 ^ e) ||| dif E Y = dif E (X &&& Y) := bx fun j => by
        simp only [testBit_dif, Nat.testBit_or, Nat.testBit_and, testBit_pow]
        by_cases q : e = j
        · subst q; simp [nb X hX, nb Y hY]
        · simp [q]; cases E.testBit j <;> cases X.testBit j <;> cases Y.testBit j <;> rfl
      have e3 : dif E (X ||| 2 ^ e) &&& dif E Y = dif E (X ||| (Y ||| 2 ^ e)) := bx fun j => by
        simp only [testBit_dif, Nat.testBit_or, Nat.testBit_and, testBit_pow]
        cases E.testBit j <;> cases X.testBit j <;> cases Y.testBit j <;> cases decide (e = j) <;> rfl
      rw [e1] at s1
      rw [e2, e3] at s2
      have k1 := hk (X &&& Y) ((inc_and_l _ _).trans (up hX))
      have k2 := hk (X ||| (Y ||| 2 ^ e)) (inc_or (up hX) (hA1 Y hY))
      omega)
    have i3' : r1 (I ||| 2 ^ e) - 1 = cnt 8 I := i3
    have i4' : r2 (I ||| 2 ^ e) - 1 = cnt 8 I := i4
    have hc := cnt_add (m := 8) (bit_lt hE he) (nb I i1)
    have p1 : 1 ≤ r1 (I ||| 2 ^ e) := by rw [← n1]; exact h1.mono _ _ (inc_or_r _ _)
    have p2 : 1 ≤ r2 (I ||| 2 ^ e) := by rw [← n2]; exact h2.mono _ _ (inc_or_r _ _)
    exact ⟨I ||| 2 ^ e, hA1 I i1, by omega, by omega, by omega⟩

theorem cnt_disj {m a b : Nat} (h : a &&& b = 0) : cnt m (a ||| b) = cnt m a + cnt m b := by
  have := cnt_or_and m a b
  rw [h, cnt_zero] at this
  omega
theorem RkF.dual_aux {r : Nat → Nat} (h : RkF r) {G : Nat} (hG : G < 2 ^ 8) {s t : Nat} (hs : Inc s t) : r (dif G s) + cnt 8 (s &&& G) ≤ r (dif G t) + cnt 8 (t &&& G) := by
  have e : dif G s = dif G t ||| (dif t s &&& G) := bx fun j => by
    have := hs j
    simp only [testBit_dif, Nat.testBit_or, Nat.testBit_and]
    cases h1 : G.testBit j <;> cases h2 : s.testBit j <;> cases h3 : t.testBit j <;> simp_all
  have h1 := h.add (dif G t) (dif t s &&& G) (by rw [Nat.and_comm]; exact and_lt hG)
  rw [← e] at h1
  have h2 : cnt 8 (t &&& G) = cnt 8 (s &&& G) + cnt 8 (dif t s &&& G) := by
    rw [← cnt_disj]
    · congr 1
      refine bx fun j => ?_
      have := hs j
      simp only [testBit_dif, Nat.testBit_or, Nat.testBit_and]
      cases h1 : G.testBit j <;> cases h2 : s.testBit j <;> cases h3 : t.testBit j <;> simp_all
    · refine bx fun j => ?_
      simp only [testBit_dif, Nat.testBit_and, Nat.zero_testBit]
      cases h1 : G.testBit j <;> cases h2 : s.testBit j <;> cases h3 : t.testBit j <;> rfl
  omega
/-- The dual's rank function, on a ground set. -/
def rdual (G : Nat) (r : Nat → Nat) (Z : Nat) : Nat := cnt 8 (Z &&& G) + r (dif G Z) - r G
theorem dif_zero (G : Nat) : dif G 0 = G := bx fun j => by rw [testBit_dif]; simp
theorem RkF.rdual {r : Nat → Nat} (h : RkF r) {G : Nat} (hG : G < 2 ^ 8) : RkF (rdual G r) ∧ ∀ Z, rdual G r Z + r G = cnt 8 (Z &&& G) + r (dif G Z) := by
  have base : ∀ Z, r G ≤ cnt 8 (Z &&& G) + r (dif G Z) := fun Z => by
    have := h.dual_aux hG (inc_zero Z)
    rw [Nat.zero_and, cnt_zero, dif_zero] at this
    omega
  have key : ∀ Z, SH.rdual G r Z + r G = cnt 8 (Z &&& G) + r (dif G Z) := fun Z => by
    have := base Z
    unfold SH.rdual
    omega
  refine ⟨⟨?_, fun s t hs => ?_, fun s i => ?_, fun s t => ?_⟩, key⟩
  · have := key 0
    rw [Nat.zero_and, cnt_zero, dif_zero] at this
    omega
  · have := key s; have := key t; have := h.dual_aux hG hs
    omega
  · have k1 := key s; have k2 := key (s ||| 2 ^ i)
    have h1 : cnt 8 ((s ||| 2 ^ i) &&& G) ≤ cnt 8 (s &&& G) + 1 := by
      have e : (s ||| 2 ^ i) &&& G = (s &&& G) ||| (2 ^ i &&& G) := bx fun j => by
        simp only [Nat.testBit_or, Nat.testBit_and]; cases s.testBit j <;> cases G.testBit j <;> cases (2 ^ i).testBit j <;> rfl
      rw [e]
      have h2 := cnt_or_and 8 (s &&& G) (2 ^ i &&& G)
      have h3 : cnt 8 (2 ^ i &&& G) ≤ cnt 8 (2 ^ i) := cnt_le_of_inc (inc_and_l _ _)
      have h4 : cnt 8 (2 ^ i) ≤ 1 := by
        rcases Nat.lt_or_ge i 8 with c | c
        · have := cnt_add (m := 8) (s := 0) c (by simp)
          rw [Nat.zero_or, cnt_zero] at this
          omega
        · have : cnt 8 (2 ^ i) = cnt 8 0 := cnt_congr fun j hj => by rw [testBit_pow, Nat.zero_testBit]; simp; omega
          rw [this, cnt_zero]; omega
      omega
    have h5 : r (dif G (s ||| 2 ^ i)) ≤ r (dif G s) := h.mono _ _ fun j hj => by
      rw [testBit_dif, Nat.testBit_or] at hj
      rw [testBit_dif]
      cases h1 : G.testBit j <;> cases h2 : s.testBit j <;> simp_all
    omega
  · have k1 := key s; have k2 := key t; have k3 := key (s ||| t); have k4 := key (s &&& t)
    have h1 := h.sub (dif G s) (dif G t)
    have e1 : dif G s ||| dif G t = dif G (s &&& t) := bx fun j => by
      simp only [testBit_dif, Nat.testBit_or, Nat.testBit_and]; cases s.testBit j <;> cases G.testBit j <;> cases t.testBit j <;> rfl
    have e2 : dif G s &&& dif G t = dif G (s ||| t) := bx fun j => by
      simp only [testBit_dif, Nat.testBit_or, Nat.testBit_and]; cases s.testBit j <;> cases G.testBit j <;> cases t.testBit j <;> rfl
    have h2 := cnt_or_and 8 (s &&& G) (t &&& G)
    have e3 : (s &&& G) ||| (t &&& G) = (s ||| t) &&& G := bx fun j => by
      simp only [Nat.testBit_or, Nat.testBit_and]; cases s.testBit j <;> cases G.testBit j <;> cases t.testBit j <;> rfl
    have e4 : (s &&& G) &&& (t &&& G) = (s &&& t) &&& G := bx fun j => by
      simp only [Nat.testBit_or, Nat.testBit_and]; cases s.testBit j <;> cases G.testBit j <;> cases t.testBit j <;> rfl
    rw [e1, e2] at h1
    rw [e3, e4] at h2
    omega
theorem inc_and_self {a G : Nat} (h : Inc a G) : a &&& G = a := (sub_iff_and a G).2 h
/-- What can be had of two, side by side. -/
theorem union_two {G k : Nat} {r1 r2 : Nat → Nat} (hG : G < 2 ^ 8) (h1 : RkF r1) (h2 : RkF r2) (hc : ∀ A, Inc A G → k ≤ r1 A + r2 A + cnt 8 (dif G A)) :
    ∃ I, Inc I G ∧ r1 I = cnt 8 I ∧ r2 (dif G I) = r2 G ∧ k ≤ cnt 8 I + r2 G := by
  obtain ⟨hd, key⟩ := h2.rdual hG
  obtain ⟨I, i1, i2, i3, i4⟩ := edmonds (cnt 8 G) (k - r2 G) G r1 (rdual G r2) (Nat.le_refl _) hG h1 hd (fun A hA => by
    have k1 := key (dif G A)
    have e1 : dif G (dif G A) = A := bx fun j => by
      have := hA j
      simp only [testBit_dif]
      cases h1 : G.testBit j <;> cases h2 : A.testBit j <;> simp_all
    rw [inc_and_self (inc_dif G A), e1] at k1
    have := hc A hA
    omega)
  have k1 := key I
  rw [inc_and_self i1] at k1
  exact ⟨I, i1, i3, by omega, by omega⟩
/-- Where no set is too large for both, all falls into an independent set of each. -/
theorem parted {G : Nat} {r1 r2 : Nat → Nat} (hG : G < 2 ^ 8) (h1 : RkF r1) (h2 : RkF r2) (hc : ∀ A, Inc A G → cnt 8 A ≤ r1 A + r2 A) :
    ∃ I, Inc I G ∧ r1 I = cnt 8 I ∧ r2 (dif G I) = cnt 8 (dif G I) := by
  have split : ∀ A, Inc A G → cnt 8 G = cnt 8 A + cnt 8 (dif G A) := fun A hA => by
    have := cnt_split 8 G A
    rw [Nat.and_comm, inc_and_self hA] at this
    exact this
  obtain ⟨I, i1, i2, i3, i4⟩ := union_two (k := cnt 8 G) hG h1 h2 (fun A hA => by have := hc A hA; have := split A hA; omega)
  have h3 := split I i1
  have h4 := h2.le (dif_lt (b := I) hG)
  exact ⟨I, i1, i2, by omega⟩
end Go.SH
