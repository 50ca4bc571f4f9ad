/-
  EDMONDS: two rank functions, and the largest set that is independent in both; what can be parted into an independent set of each. A matroid's ranks. A rank function's free sets are a matroid's.  Conditions: none.
-/
import Derived.Test.YtabhcjpjoknihaaLM

set_option linter.unusedSimpArgs false
set_option linter.unusedVariables false
namespace Go.SH
open Go Go.AX

/-- A rank function on sets. -/
structure RkF (r : Nat → Nat) : Prop where
  zero : r 0 = 0
  mono : ∀ s t, Inc s t → r s ≤ r t
  step : ∀ s i, r (s ||| 2 ^ i) ≤ r s + 1
  sub : ∀ s t, r (s ||| t) + r (s &&& t) ≤ r s + r t

theorem bx {a b : Nat} (h : ∀ j, a.testBit j = b.testBit j) : a = b := Nat.eq_of_testBit_eq h
theorem dif_inc_lt {G A : Nat} (hG : G < 256) : dif G A < 256 := dif_lt (n := 8) hG
theorem pow_sep {i j : Nat} : decide (i = j) = true ↔ i = j := decide_eq_true_iff

theorem RkF.add {r : Nat → Nat} (h : RkF r) (a : Nat) : ∀ b, b < 2 ^ 8 → r (a ||| b) ≤ r a + cnt 8 b := by
  refine set_ind (m := 8) _ ?_ ?_
  · simp
  · intro s i hs hi hb ih
    have e : a ||| (s ||| 2 ^ i) = (a ||| s) ||| 2 ^ i := (Nat.or_assoc _ _ _).symm
    rw [e, cnt_add hi hb]
    have := h.step (a ||| s) i
    omega
theorem RkF.le {r : Nat → Nat} (h : RkF r) {b : Nat} (hb : b < 2 ^ 8) : r b ≤ cnt 8 b := by
  have := h.add 0 b hb
  rw [Nat.zero_or, h.zero] at this
  omega
theorem RkF.loop {r : Nat → Nat} (h : RkF r) {e : Nat} (he : r (2 ^ e) = 0) (s : Nat) : r (s ||| 2 ^ e) = r s := by
  have h1 := h.sub s (2 ^ e)
  have h2 := h.mono s (s ||| 2 ^ e) (inc_or_l _ _)
  omega
/-- With an element contracted. -/
theorem RkF.contract {r : Nat → Nat} (h : RkF r) {e : Nat} (he : r (2 ^ e) = 1) : RkF (fun s => r (s ||| 2 ^ e) - 1) := by
  have pos : ∀ s, 1 ≤ r (s ||| 2 ^ e) := fun s => by rw [← he]; exact h.mono _ _ (inc_or_r _ _)
  refine ⟨?_, fun s t hs => ?_, fun s i => ?_, fun s t => ?_⟩
  · simp [he]
  · have := h.mono (s ||| 2 ^ e) (t ||| 2 ^ e) (inc_or (hs.trans (inc_or_l _ _)) (inc_or_r _ _))
    show _ - 1 ≤ _ - 1
    omega
  · have e1 : s ||| 2 ^ i ||| 2 ^ e = s ||| 2 ^ e ||| 2 ^ i := by rw [Nat.or_assoc, Nat.or_comm (2 ^ i), Nat.or_assoc]
    have := h.step (s ||| 2 ^ e) i
    have := pos s
    show _ - 1 ≤ _ - 1 + 1
    rw [e1]
    omega
  · have e1 : (s ||| 2 ^ e) ||| (t ||| 2 ^ e) = s ||| t ||| 2 ^ e := bx fun j => by
      simp only [Nat.testBit_or]; cases s.testBit j <;> cases t.testBit j <;> cases (2 ^ e).testBit j <;> rfl
    have e2 : (s ||| 2 ^ e) &&& (t ||| 2 ^ e) = s &&& t ||| 2 ^ e := bx fun j => by
      simp only [Nat.testBit_or, Nat.testBit_and]; cases s.testBit j <;> cases t.testBit j <;> cases (2 ^ e).testBit j <;> rfl
    have h1 := h.sub (s ||| 2 ^ e) (t ||| 2 ^ e)
    rw [e1, e2] at h1
    have := pos s
    have := pos t
    have := pos (s ||| t)
    have := pos (s &&& t)
    show _ - 1 + (_ - 1) ≤ _ - 1 + (_ - 1)
    omega

/-- EDMONDS: a set that is independent in both, as large as all sets let it be. -/
theorem edmonds : ∀ (n k E : Nat) (r1 r2 : Nat → Nat), cnt 8 E ≤ n → E < 2 ^ 8 → RkF r1 → RkF r2 → (∀ A, Inc A E → k ≤ r1 A + r2 (dif E A)) →
    ∃ I, Inc I E ∧ k ≤ cnt 8 I ∧ r1 I = cnt 8 I ∧ r2 I = cnt 8 I := by
  intro n
  induction n with
  | zero =>
    intro k E r1 r2 hn hE h1 h2 hk
    have e0 : E = 0 := by
      rcases Nat.eq_zero_or_pos E with c | c
      · exact c
      · obtain ⟨i, hi⟩ := exists_bit (show E ≠ 0 by omega)
        have := cnt_pos hE hi
        omega
    subst e0
    have := hk 0 (inc_zero 0)
    have e1 : dif 0 0 = 0 := rfl
    rw [e1, h1.zero, h2.zero] at this
    exact ⟨0, inc_zero 0, by omega, by rw [h1.zero, cnt_zero], by rw [h2.zero, cnt_zero]⟩
  | succ n ih =>
    intro k E r1 r2 hn hE h1 h2 hk
    rcases Nat.eq_zero_or_pos E with rfl | c
    · have := hk 0 (inc_zero 0)
      have e1 : dif 0 0 = 0 := rfl
      rw [e1, h1.zero, h2.zero] at this
      exact ⟨0, inc_zero 0, by omega, by rw [h1.zero, cnt_zero], by rw [h2.zero, cnt_zero]⟩
    obtain ⟨e, he⟩ := exists_bit (show E ≠ 0 by omega)
    have hcnt := cnt_dif hE he
    have hDE : Inc (dif E (2 ^ e)) E := inc_dif _ _
    have hDlt : dif E (2 ^ e) < 2 ^ 8 := dif_lt hE
    have nb : ∀ A, Inc A (dif E (2 ^ e)) → A.testBit e = false := fun A hA => by
      cases hb : A.testBit e
      · rfl
      · have := hA e hb
        rw [testBit_dif, testBit_pow] at this
        simp at this
    have up : ∀ {I}, Inc I (dif E (2 ^ e)) → Inc I E := fun h => h.trans hDE
    -- the set without e
    have eD : ∀ A, dif (dif E (2 ^ e)) A = dif E (A ||| 2 ^ e) := fun A => bx fun j => by
      simp only [testBit_dif, Nat.testBit_or]; cases E.testBit j <;> cases A.testBit j <;> cases (2 ^ e).testBit j <;> rfl
    rcases Classical.em (∀ A, Inc A (dif E (2 ^ e)) → k ≤ r1 A + r2 (dif (dif E (2 ^ e)) A)) with hd | hd
    · obtain ⟨I, i1, i2⟩ := ih k _ r1 r2 (by omega) hDlt h1 h2 hd
      exact ⟨I, up i1, i2⟩
    -- e is no loop
    have hA1 : ∀ A, Inc A (dif E (2 ^ e)) → Inc (A ||| 2 ^ e) E := fun A hA => inc_or (up hA) (inc_pow he)
    have n1 : r1 (2 ^ e) = 1 := by
      have := h1.step 0 e
      rw [Nat.zero_or, h1.zero] at this
      rcases Nat.eq_zero_or_pos (r1 (2 ^ e)) with c | c
      · exact absurd (fun A hA => by
          have := hk (A ||| 2 ^ e) (hA1 A hA)
          rw [h1.loop c] at this
          rw [eD]; exact this) hd
      · omega
    have eA : ∀ A, Inc A (dif E (2 ^ e)) → dif E (A ||| 2 ^ e) ||| 2 ^ e = dif E A := fun A hA => bx fun j => by
      rw [Nat.testBit_or, testBit_dif, testBit_dif, Nat.testBit_or, testBit_pow]
      by_cases q : e = j
      · subst q; simp [he, nb A hA]
      · simp [q]
    have n2 : r2 (2 ^ e) = 1 := by
      have := h2.step 0 e
      rw [Nat.zero_or, h2.zero] at this
      rcases Nat.eq_zero_or_pos (r2 (2 ^ e)) with c | c
      · exact absurd (fun A hA => by
          have := hk A (up hA)
          rw [← eA A hA, h2.loop c] at this
          rw [eD]; exact this) hd
      · omega
    simp only [Classical.not_forall] at hd
    obtain ⟨X, hX, hXk⟩ := hd
    have hk1 : 1 ≤ k := by omega
    obtain ⟨I, i1, i2, i3, i4⟩ := ih (k - 1) (dif E (2 ^ e)) _ _ (by omega) hDlt (h1.contract n1) (h2.contract n2) (fun Y hY => by
      show k - 1 ≤ (r1 (Y ||| 2 ^ e) - 1) + (r2 (dif (dif E (2 ^ e)) Y ||| 2 ^ e) - 1)
      rw [eD, eA Y hY]
      have p1 : 1 ≤ r1 (Y ||| 2 ^ e) := by rw [← n1]; exact h1.mono _ _ (inc_or_r _ _)
      have p2 : 1 ≤ r2 (dif E Y) := by
        rw [← n2]
        refine h2.mono _ _ (inc_pow ?_)
        rw [testBit_dif, he, nb Y hY]; rfl
      rw [eD] at hXk
      have s1 := h1.sub X (Y ||| 2 ^ e)
      have s2 := h2.sub (dif E (X ||| 2 ^ e)) (dif E Y)
      have e1 : X &&& (Y ||| 2 ^ e) = X &&& Y := bx fun j => by
        rw [Nat.testBit_and, Nat.testBit_or, Nat.testBit_and, testBit_pow]
        by_cases q : e = j
        · subst q; simp [nb X hX]
        · simp [q]
      have e2 : dif E (X ||| 2 ^ e) ||| dif E Y = dif E (X &&& Y) := bx fun j => by
        simp only [testBit_dif, Nat.testBit_or, Nat.testBit_and, testBit_pow]
        by_cases q : e = j
        · subst q; simp [nb X hX, nb Y hY]
        · simp [q]; cases E.testBit j <;> cases X.testBit j <;> cases Y.testBit j <;> rfl
      have e3 : dif E (X ||| 2 ^ e) &&& dif E Y = dif E (X ||| (Y ||| 2 ^ e)) := bx fun j => by
        simp only [testBit_dif, Nat.testBit_or, Nat.testBit_and, testBit_pow]
        cases E.testBit j <;> cases X.testBit j <;> cases Y.testBit j <;> cases decide (e = j) <;> rfl
      rw [e1] at s1
      rw [e2, e3] at s2
      have k1 := hk (X &&& Y) ((inc_and_l _ _).trans (up hX))
      have k2 := hk (X ||| (Y ||| 2 ^ e)) (inc_or (up hX) (hA1 Y hY))
      omega)
    have i3' : r1 (I ||| 2 ^ e) - 1 = cnt 8 I := i3
    have i4' : r2 (I ||| 2 ^ e) - 1 = cnt 8 I := i4
    have hc := cnt_add (m := 8) (bit_lt hE he) (nb I i1)
    have p1 : 1 ≤ r1 (I ||| 2 ^ e) := by rw [← n1]; exact h1.mono _ _ (inc_or_r _ _)
    have p2 : 1 ≤ r2 (I ||| 2 ^ e) := by rw [← n2]; exact h2.mono _ _ (inc_or_r _ _)
    exact ⟨I ||| 2 ^ e, hA1 I i1, by omega, by omega, by omega⟩

theorem cnt_disj {m a b : Nat} (h : a &&& b = 0) : cnt m (a ||| b) = cnt m a + cnt m b := by
  have := cnt_or_and m a b
  rw [h, cnt_zero] at this
  omega
theorem RkF.dual_aux {r : Nat → Nat} (h : RkF r) {G : Nat} (hG : G < 2 ^ 8) {s t : Nat} (hs : Inc s t) : r (dif G s) + cnt 8 (s &&& G) ≤ r (dif G t) + cnt 8 (t &&& G) := by
  have e : dif G s = dif G t ||| (dif t s &&& G) := bx fun j => by
    have := hs j
    simp only [testBit_dif, Nat.testBit_or, Nat.testBit_and]
    cases h1 : G.testBit j <;> cases h2 : s.testBit j <;> cases h3 : t.testBit j <;> simp_all
  have h1 := h.add (dif G t) (dif t s &&& G) (by rw [Nat.and_comm]; exact and_lt hG)
  rw [← e] at h1
  have h2 : cnt 8 (t &&& G) = cnt 8 (s &&& G) + cnt 8 (dif t s &&& G) := by
    rw [← cnt_disj]
    · congr 1
      refine bx fun j => ?_
      have := hs j
      simp only [testBit_dif, Nat.testBit_or, Nat.testBit_and]
      cases h1 : G.testBit j <;> cases h2 : s.testBit j <;> cases h3 : t.testBit j <;> simp_all
    · refine bx fun j => ?_
      simp only [testBit_dif, Nat.testBit_and, Nat.zero_testBit]
      cases h1 : G.testBit j <;> cases h2 : s.testBit j <;> cases h3 : t.testBit j <;> rfl
  omega
/-- The dual's rank function, on a ground set. -/
def rdual (G : Nat) (r : Nat → Nat) (Z : Nat) : Nat := cnt 8 (Z &&& G) + r (dif G Z) - r G
theorem dif_zero (G : Nat) : dif G 0 = G := bx fun j => by rw [testBit_dif]; simp
theorem RkF.rdual {r : Nat → Nat} (h : RkF r) {G : Nat} (hG : G < 2 ^ 8) : RkF (rdual G r) ∧ ∀ Z, rdual G r Z + r G = cnt 8 (Z &&& G) + r (dif G Z) := by
  have base : ∀ Z, r G ≤ cnt 8 (Z &&& G) + r (dif G Z) := fun Z => by
    have := h.dual_aux hG (inc_zero Z)
    rw [Nat.zero_and, cnt_zero, dif_zero] at this
    omega
  have key : ∀ Z, SH.rdual G r Z + r G = cnt 8 (Z &&& G) + r (dif G Z) := fun Z => by
    have := base Z
    unfold SH.rdual
    omega
  refine ⟨⟨?_, fun s t hs => ?_, fun s i => ?_, fun s t => ?_⟩, key⟩
  · have := key 0
    rw [Nat.zero_and, cnt_zero, dif_zero] at this
    omega
  · have := key s; have := key t; have := h.dual_aux hG hs
    omega
  · have k1 := key s; have k2 := key (s ||| 2 ^ i)
    have h1 : cnt 8 ((s ||| 2 ^ i) &&& G) ≤ cnt 8 (s &&& G) + 1 := by
      have e : (s ||| 2 ^ i) &&& G = (s &&& G) ||| (2 ^ i &&& G) := bx fun j => by
        simp only [Nat.testBit_or, Nat.testBit_and]; cases s.testBit j <;> cases G.testBit j <;> cases (2 ^ i).testBit j <;> rfl
      rw [e]
      have h2 := cnt_or_and 8 (s &&& G) (2 ^ i &&& G)
      have h3 : cnt 8 (2 ^ i &&& G) ≤ cnt 8 (2 ^ i) := cnt_le_of_inc (inc_and_l _ _)
      have h4 : cnt 8 (2 ^ i) ≤ 1 := by
        rcases Nat.lt_or_ge i 8 with c | c
        · have := cnt_add (m := 8) (s := 0) c (by simp)
          rw [Nat.zero_or, cnt_zero] at this
          omega
        · have : cnt 8 (2 ^ i) = cnt 8 0 := cnt_congr fun j hj => by rw [testBit_pow, Nat.zero_testBit]; simp; omega
          rw [this, cnt_zero]; omega
      omega
    have h5 : r (dif G (s ||| 2 ^ i)) ≤ r (dif G s) := h.mono _ _ fun j hj => by
      rw [testBit_dif, Nat.testBit_or] at hj
      rw [testBit_dif]
      cases h1 : G.testBit j <;> cases h2 : s.testBit j <;> simp_all
    omega
  · have k1 := key s; have k2 := key t; have k3 := key (s ||| t); have k4 := key (s &&& t)
    have h1 := h.sub (dif G s) (dif G t)
    have e1 : dif G s ||| dif G t = dif G (s &&& t) := bx fun j => by
      simp only [testBit_dif, Nat.testBit_or, Nat.testBit_and]; cases s.testBit j <;> cases G.testBit j <;> cases t.testBit j <;> rfl
    have e2 : dif G s &&& dif G t = dif G (s ||| t) := bx fun j => by
      simp only [testBit_dif, Nat.testBit_or, Nat.testBit_and]; cases s.testBit j <;> cases G.testBit j <;> cases t.testBit j <;> rfl
    have h2 := cnt_or_and 8 (s &&& G) (t &&& G)
    have e3 : (s &&& G) ||| (t &&& G) = (s ||| t) &&& G := bx fun j => by
      simp only [Nat.testBit_or, Nat.testBit_and]; cases s.testBit j <;> cases G.testBit j <;> cases t.testBit j <;> rfl
    have e4 : (s &&& G) &&& (t &&& G) = (s &&& t) &&& G := bx fun j => by
      simp only [Nat.testBit_or, Nat.testBit_and]; cases s.testBit j <;> cases G.testBit j <;> cases t.testBit j <;> rfl
    rw [e1, e2] at h1
    rw [e3, e4] at h2
    omega
theorem inc_and_self {a G : Nat} (h : Inc a G) : a &&& G = a := (sub_iff_and a G).2 h
/-- What can be had of two, side by side. -/
theorem union_two {G k : Nat} {r1 r2 : Nat → Nat} (hG : G < 2 ^ 8) (h1 : RkF r1) (h2 : RkF r2) (hc : ∀ A, Inc A G → k ≤ r1 A + r2 A + cnt 8 (dif G A)) :
    ∃ I, Inc I G ∧ r1 I = cnt 8 I ∧ r2 (dif G I) = r2 G ∧ k ≤ cnt 8 I + r2 G := by
  obtain ⟨hd, key⟩ := h2.rdual hG
  obtain ⟨I, i1, i2, i3, i4⟩ := edmonds (cnt 8 G) (k - r2 G) G r1 (rdual G r2) (Nat.le_refl _) hG h1 hd (fun A hA => by
    have k1 := key (dif G A)
    have e1 : dif G (dif G A) = A := bx fun j => by
      have := hA j
      simp only [testBit_dif]
      cases h1 : G.testBit j <;> cases h2 : A.testBit j <;> simp_all
    rw [inc_and_self (inc_dif G A), e1] at k1
    have := hc A hA
    omega)
  have k1 := key I
  rw [inc_and_self i1] at k1
  exact ⟨I, i1, i3, by omega, by omega⟩
/-- Where no set is too large for both, all falls into an independent set of each. -/
theorem parted {G : Nat} {r1 r2 : Nat → Nat} (hG : G < 2 ^ 8) (h1 : RkF r1) (h2 : RkF r2) (hc : ∀ A, Inc A G → cnt 8 A ≤ r1 A + r2 A) :
    ∃ I, Inc I G ∧ r1 I = cnt 8 I ∧ r2 (dif G I) = cnt 8 (dif G I) := by
  have split : ∀ A, Inc A G → cnt 8 G = cnt 8 A + cnt 8 (dif G A) := fun A hA => by
    have := cnt_split 8 G A
    rw [Nat.and_comm, inc_and_self hA] at this
    exact this
  obtain ⟨I, i1, i2, i3, i4⟩ := union_two (k := cnt 8 G) hG h1 h2 (fun A hA => by have := hc A hA; have := split A hA; omega)
  have h3 := split I i1
  have h4 := h2.le (dif_lt (b := I) hG)
  exact ⟨I, i1, i2, by omega⟩
end Go.SH

set_option linter.unusedSimpArgs false
set_option linter.unusedVariables false
namespace Go.SH
open Go Go.AX
theorem Mat.rkF {m : Nat} {B : List Nat} (h : Mat m B) : RkF (rk m B) where
  zero := h.rk_zero
  mono := fun s t hs => h.rk_mono hs
  step := fun s i => by
    rcases Nat.lt_or_ge i m with c | c
    · exact h.rk_step s c
    · refine rk_le.2 fun b hb => ?_
      have e : cnt m ((s ||| 2 ^ i) &&& b) = cnt m (s &&& b) := cnt_congr fun j hj => by
        rw [Nat.testBit_and, Nat.testBit_or, Nat.testBit_and, testBit_pow, decide_eq_false (by omega), Bool.or_false]
      rw [e]
      have := le_rk (m := m) (s := s) hb
      omega
  sub := h.rk_sub
theorem cnt8 {m s : Nat} (h8 : m ≤ 8) (hs : s < 2 ^ m) : cnt 8 s = cnt m s := cnt_of_lt hs h8
def cpl (m s : Nat) : Nat := dif (2 ^ m - 1) s
theorem full_bit (m i : Nat) : (2 ^ m - 1).testBit i = decide (i < m) := Nat.testBit_two_pow_sub_one m i
theorem cpl_bit (m s i : Nat) : (cpl m s).testBit i = (decide (i < m) && !s.testBit i) := by rw [cpl, testBit_dif, full_bit]
theorem full_lt (m : Nat) : 2 ^ m - 1 < 2 ^ m := by have : 0 < 2 ^ m := Nat.pow_pos (by omega); omega
theorem cpl_lt (m s : Nat) : cpl m s < 2 ^ m := dif_lt (full_lt m)
theorem cpl_cpl {m s : Nat} (h : s < 2 ^ m) : cpl m (cpl m s) = s := set_ext (cpl_lt _ _) h fun i hi => by
  rw [cpl_bit, cpl_bit]; simp [hi]
theorem cpl_cnt {m s : Nat} : cnt m (cpl m s) + cnt m s = m := by
  have h1 := cnt_split m (2 ^ m - 1) s
  have h2 : cnt m (2 ^ m - 1 &&& s) = cnt m s := cnt_congr fun i hi => by rw [Nat.testBit_and, full_bit]; simp [hi]
  have h3 : cnt m (2 ^ m - 1) = m := by
    have : ∀ k, k ≤ m → cnt k (2 ^ m - 1) = k := fun k => by
      induction k with
      | zero => intro _; rfl
      | succ k ih => intro hk; simp only [cnt]; rw [ih (by omega), full_bit]; simp [show k < m by omega]
    exact this m (Nat.le_refl _)
  unfold cpl
  omega
theorem and_cpl {m b s : Nat} (hb : b < 2 ^ m) : b &&& cpl m s = dif b s := by
  apply Nat.eq_of_testBit_eq; intro i
  rw [Nat.testBit_and, cpl_bit, testBit_dif]
  cases hi : b.testBit i with
  | false => rfl
  | true => simp [bit_lt hb hi]
theorem cpl_mono {m s t : Nat} (h : Inc s t) : Inc (cpl m t) (cpl m s) := fun i hi => by
  rw [cpl_bit, Bool.and_eq_true, Bool.not_eq_true'] at hi ⊢
  refine ⟨hi.1, ?_⟩
  cases q : s.testBit i with
  | false => rfl
  | true => rw [h i q] at hi; exact absurd hi.2 (by simp)
end Go.SH

set_option linter.unusedSimpArgs false
set_option linter.unusedVariables false
namespace Go.SH
open Go Go.AX
section
variable {r : Nat → Nat} (h : RkF r)
include h
theorem RkF.free_in {I J : Nat} (hJ : J < 2 ^ 8) (hf : r J = cnt 8 J) (hI : Inc I J) : r I = cnt 8 I := by
  have h1 := h.add I (dif J I) (dif_lt hJ)
  have e : I ||| dif J I = J := Nat.eq_of_testBit_eq fun i => by
    rw [Nat.testBit_or, testBit_dif]
    cases p : I.testBit i with
    | true => rw [hI i p]; rfl
    | false => simp
  have h2 := cnt_split 8 J I
  have e2 : J &&& I = I := by rw [Nat.and_comm]; exact (sub_iff_and _ _).2 hI
  rw [e2] at h2
  rw [e] at h1
  have := h.le (hI.lt hJ)
  omega
end
section
variable {u : Nat → Nat} (h : RkF u)
include h
theorem RkF.sameJ {A C : Nat} (hA : Inc A C) (e : u A = u C) (i : Nat) : u (A ||| 2 ^ i) = u (C ||| 2 ^ i) := by
  have h1 := h.sub (A ||| 2 ^ i) C
  have e1 : A ||| 2 ^ i ||| C = C ||| 2 ^ i := by rw [Nat.or_assoc, Nat.or_comm (2 ^ i), ← Nat.or_assoc, (or_eq_iff A C).2 hA]
  have h2 := h.mono A ((A ||| 2 ^ i) &&& C) (inc_and (inc_or_l _ _) hA)
  have h3 := h.mono (A ||| 2 ^ i) (C ||| 2 ^ i) (inc_or (hA.trans (inc_or_l _ _)) (inc_or_r _ _))
  rw [e1] at h1
  omega
theorem RkF.allJ {s : Nat} : ∀ t, t < 2 ^ 8 → (∀ i, t.testBit i = true → u (s ||| 2 ^ i) = u s) → u (s ||| t) = u s := by
  refine set_ind (m := 8) (fun t => (∀ i, t.testBit i = true → u (s ||| 2 ^ i) = u s) → u (s ||| t) = u s) (fun _ => by rw [Nat.or_zero]) ?_
  intro t i ht hi hb ih hall
  have h1 := ih fun j hj => hall j (by rw [Nat.testBit_or, hj]; rfl)
  have h2 := hall i (by rw [Nat.testBit_or, testBit_pow]; simp)
  have h3 := h.sameJ (inc_or_l s t) h1.symm i
  rw [← Nat.or_assoc, ← h3, h2]
theorem RkF.grow {I : Nat} (hf : u I = cnt 8 I) : ∀ G, G < 2 ^ 8 → ∃ J, Inc I J ∧ Inc J (I ||| G) ∧ u J = cnt 8 J ∧ u J = u (I ||| G) := by
  refine set_ind (m := 8) (fun G => ∃ J, Inc I J ∧ Inc J (I ||| G) ∧ u J = cnt 8 J ∧ u J = u (I ||| G)) ⟨I, Inc.refl I, inc_or_l _ _, hf, by rw [Nat.or_zero]⟩ ?_
  rintro s i hs hi hb ⟨J, j1, j2, j3, j4⟩
  rw [← Nat.or_assoc]
  have st := h.step (I ||| s) i
  have mo := h.mono (I ||| s) (I ||| s ||| 2 ^ i) (inc_or_l _ _)
  rcases Nat.lt_or_ge (u (I ||| s)) (u (I ||| s ||| 2 ^ i)) with c | c
  · have hJb : J.testBit i = false := by
      cases q : J.testBit i with
      | false => rfl
      | true =>
        have e : I ||| s ||| 2 ^ i = I ||| s := by rw [Nat.or_comm]; exact (or_eq_iff _ _).2 (inc_pow (j2 i q))
        rw [e] at c
        exact absurd c (Nat.lt_irrefl _)
    have sm := h.sameJ j2 j4 i
    have ca := cnt_add hi hJb
    exact ⟨J ||| 2 ^ i, j1.trans (inc_or_l _ _), inc_or (j2.trans (inc_or_l _ _)) (inc_or_r _ _), by omega, sm⟩
  · exact ⟨J, j1, j2.trans (inc_or_l _ _), j3, by omega⟩
/-- The free sets of the full rank are a matroid's bases. -/
theorem RkF.mat {m : Nat} (h8 : m ≤ 8) {K : List Nat} (hK : Fam m K) (hm : ∀ s, s ∈ K ↔ s < 2 ^ m ∧ u s = cnt m s ∧ u s = u (2 ^ m - 1)) : Mat m K ∧ ∀ s, s < 2 ^ m → rk m K s = u s := by
  have hp8 : 2 ^ m ≤ 2 ^ 8 := Nat.pow_le_pow_right (by omega) h8
  have hp2 : 0 < 2 ^ m := Nat.pow_pos (by omega)
  have hfl := full_lt m
  have big : ∀ {I : Nat}, I < 2 ^ m → u I = cnt 8 I → ∃ b, b ∈ K ∧ Inc I b := fun {I} hI hf => by
    obtain ⟨J, j1, j2, j3, j4⟩ := h.grow hf (2 ^ m - 1) (by omega)
    have e : I ||| (2 ^ m - 1) = 2 ^ m - 1 := (or_eq_iff _ _).2 fun i hi => by rw [full_bit, decide_eq_true_eq]; exact bit_lt hI hi
    rw [e] at j2 j4
    have hJ := j2.lt hfl
    exact ⟨J, (hm J).2 ⟨hJ, by rw [j3, cnt8 h8 hJ], j4⟩, j1⟩
  refine ⟨⟨hK, ?_, fun a ha b hb => ?_, fun a ha b hb x hx hx' => ?_⟩, fun s hs => Nat.le_antisymm (rk_le.2 fun b hb => ?_) ?_⟩
  · obtain ⟨b, hb, _⟩ := big (I := 0) hp2 (by rw [h.zero, cnt_zero])
    intro e; rw [e] at hb; cases hb
  · have := (hm a).1 ha
    have := (hm b).1 hb
    omega
  · obtain ⟨a1, a2, a3⟩ := (hm a).1 ha
    obtain ⟨b1, b2, b3⟩ := (hm b).1 hb
    have hI : u (dif a (2 ^ x)) = cnt 8 (dif a (2 ^ x)) := h.free_in (J := a) (by omega) (by rw [a2, cnt8 h8 a1]) (inc_dif _ _)
    have hIl : dif a (2 ^ x) < 2 ^ m := dif_lt a1
    have hIc := cnt_dif a1 hx
    rw [cnt8 h8 hIl] at hI
    have hex : ∃ y, b.testBit y = true ∧ u (dif a (2 ^ x) ||| 2 ^ y) ≠ u (dif a (2 ^ x)) := by
      rcases Classical.em (∃ y, b.testBit y = true ∧ u (dif a (2 ^ x) ||| 2 ^ y) ≠ u (dif a (2 ^ x))) with c | c
      · exact c
      · have := h.allJ (s := dif a (2 ^ x)) b (by omega) fun i hi => by
          rcases Classical.em (u (dif a (2 ^ x) ||| 2 ^ i) = u (dif a (2 ^ x))) with d | d
          · exact d
          · exact absurd ⟨i, hi, d⟩ c
        have := h.mono b (dif a (2 ^ x) ||| b) (inc_or_r _ _)
        omega
    obtain ⟨y, y1, y2⟩ := hex
    have hyI : (dif a (2 ^ x)).testBit y = false := by
      cases q : (dif a (2 ^ x)).testBit y with
      | false => rfl
      | true =>
        have e : dif a (2 ^ x) ||| 2 ^ y = dif a (2 ^ x) := by rw [Nat.or_comm]; exact (or_eq_iff _ _).2 (inc_pow q)
        exact absurd (by rw [e]) y2
    have hya : a.testBit y = false := by
      cases q : a.testBit y with
      | false => rfl
      | true =>
        rw [testBit_dif, q, testBit_pow, Bool.true_and, Bool.not_eq_false', decide_eq_true_eq] at hyI
        rw [hyI, y1] at hx'; cases hx'
    have hym := bit_lt b1 y1
    have ca := cnt_add hym hyI
    have st := h.step (dif a (2 ^ x)) y
    have mo := h.mono (dif a (2 ^ x)) (dif a (2 ^ x) ||| 2 ^ y) (inc_or_l _ _)
    exact ⟨y, y1, hya, (hm _).2 ⟨or_lt hIl (pow_lt hym), by omega, by omega⟩⟩
  · obtain ⟨b1, b2, b3⟩ := (hm b).1 hb
    have q := h.free_in (J := b) (by omega) (by rw [b2, cnt8 h8 b1]) (inc_and_r s b)
    rw [cnt8 h8 (and_lt hs)] at q
    have := h.mono (s &&& b) s (inc_and_l _ _)
    omega
  · obtain ⟨J, j1, j2, j3, j4⟩ := h.grow (I := 0) (by rw [h.zero, cnt_zero]) s (by omega)
    rw [Nat.zero_or] at j2 j4
    have hJ := j2.lt hs
    obtain ⟨b, hb, hJb⟩ := big hJ j3
    have q1 := le_rk (m := m) (s := s) hb
    have q2 := cnt_le_of_inc (m := m) (a := J) (b := s &&& b) (inc_and j2 hJb)
    rw [cnt8 h8 hJ] at j3
    omega
end

/-- A set that is free and of the full rank. -/
theorem RkF.basis {r : Nat → Nat} (h : RkF r) {G : Nat} (hG : G < 2 ^ 8) : ∃ I, Inc I G ∧ r I = cnt 8 I ∧ r I = r G := by
  refine set_ind (m := 8) (fun G => ∃ I, Inc I G ∧ r I = cnt 8 I ∧ r I = r G) ⟨0, Inc.refl 0, by rw [h.zero, cnt_zero], rfl⟩ ?_ G hG
  rintro s i hs hi hb ⟨I, i1, i2, i3⟩
  have st := h.step s i
  have mo := h.mono s (s ||| 2 ^ i) (inc_or_l _ _)
  rcases Nat.lt_or_ge (r s) (r (s ||| 2 ^ i)) with c | c
  · have hIb : I.testBit i = false := by
      cases q : I.testBit i with
      | false => rfl
      | true => rw [i1 i q] at hb; cases hb
    have hsub := h.sub (I ||| 2 ^ i) s
    have e1 : I ||| 2 ^ i ||| s = s ||| 2 ^ i := by
      rw [Nat.or_assoc, Nat.or_comm (2 ^ i), ← Nat.or_assoc, (or_eq_iff I s).2 i1]
    have e2 := h.mono I ((I ||| 2 ^ i) &&& s) (inc_and (inc_or_l _ _) i1)
    have e3 := h.step I i
    have e4 : cnt 8 (I ||| 2 ^ i) = cnt 8 I + 1 := cnt_add hi hIb
    rw [e1] at hsub
    exact ⟨I ||| 2 ^ i, inc_or (i1.trans (inc_or_l _ _)) (inc_or_r _ _), by omega, by omega⟩
  · exact ⟨I, i1.trans (inc_or_l _ _), i2, by omega⟩

end Go.SH
