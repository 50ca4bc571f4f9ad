/-
  A rank function's free sets are a matroid's. Conditions: at most eight elements.
-/
import Derived.Test.YthofnmjokdjppaaLRj
set_option linter.unusedSimpArgs false
set_option linter.unusedVariables false
namespace Go.SH
open Go Go.AX
section
variable {r : Nat → Nat} (h : RkF r)
include h
theorem RkF.free_in {I J : Nat} (hJ : J < 2 ^ 8) (hf : r J = cnt 8 J) (hI : Inc I J) : r I = cnt 8 I := by
  have h1 := h.add I (dif J I) (dif_lt hJ)
  have e : I ||| dif J I = J := Nat.eq_of_testBit_eq fun i => by
    rw [Nat.testBit_or, testBit_dif]
    cases p : I.testBit i with
    | true => rw [hI i p]; rfl
    | false => simp
  have h2 := cnt_split 8 J I
  have e2 : J &&& I = I := by rw [Nat.and_comm]; exact (sub_iff_and _ _).2 hI
  rw [e2] at h2
  rw [e] at h1
  have := h.le (hI.lt hJ)
  omega
end
section
variable {u : Nat → Nat} (h : RkF u)
include h
theorem RkF.sameJ {A C : Nat} (hA : Inc A C) (e : u A = u C) (i : Nat) : u (A ||| 2 ^ i) = u (C ||| 2 ^ i) := by
  have h1 := h.sub (A ||| 2 ^ i) C
  have e1 : A ||| 2 ^ i ||| C = C ||| 2 ^ i := by rw [Nat.or_assoc, Nat.or_comm (2 ^ i), ← Nat.or_assoc, (or_eq_iff A C).2 hA]
  have h2 := h.mono A ((A ||| 2 ^ i) &&& C) (inc_and (inc_or_l _ _) hA)
  have h3 := h.mono (A ||| 2 ^ i) (C ||| 2 ^ i) (inc_or (hA.trans (inc_or_l _ _)) (inc_or_r _ _))
  rw [e1] at h1
  omega
theorem RkF.allJ {s : Nat} : ∀ t, t < 2 ^ 8 → (∀ i, t.testBit i = true → u (s ||| 2 ^ i) = u s) → u (s ||| t) = u s := by
  refine set_ind (m := 8) (fun t => (∀ i, t.testBit i = true → u (s ||| 2 ^ i) = u s) → u (s ||| t) = u s) (fun _ => by rw [Nat.or_zero]) ?_
  intro t i ht hi hb ih hall
  have h1 := ih fun j hj => hall j (by rw [Nat.testBit_or, hj]; rfl)
  have h2 := hall i (by rw [Nat.testBit_or, testBit_pow]; simp)
  have h3 := h.sameJ (inc_or_l s t) h1.symm i
  rw [← Nat.or_assoc, ← h3, h2]
theorem RkF.grow {I : Nat} (hf : u I = cnt 8 I) : ∀ G, G < 2 ^ 8 → ∃ J, Inc I J ∧ Inc J (I ||| G) ∧ u J = cnt 8 J ∧ u J = u (I ||| G) := by
  refine set_ind (m := 8) (fun G => ∃ J, Inc I J ∧ Inc J (I ||| G) ∧ u J = cnt 8 J ∧ u J = u (I ||| G)) ⟨I, Inc.refl I, inc_or_l _ _, hf, by rw [Nat.or_zero]⟩ ?_
  rintro s i hs hi hb ⟨J, j1, j2, j3, j4⟩
  rw [← Nat.or_assoc]
  have st := h.step (I ||| s) i
  have mo := h.mono (I ||| s) (I ||| s ||| 2 ^ i) (inc_or_l _ _)
  rcases Nat.lt_or_ge (u (I ||| s)) (u (I ||| s ||| 2 ^ i)) with c | c
  · have hJb : J.testBit i = false := by
      cases q : J.testBit i with
      | false => rfl
      | true =>
        have e : I ||| s ||| 2 ^ i = I ||| s := by rw [Nat.or_comm]; exact (or_eq_iff _ _).2 (inc_pow (j2 i q))
        rw [e] at c
        exact absurd c (Nat.lt_irrefl _)
    have sm := h.sameJ j2 j4 i
    have ca := cnt_add hi hJb
    exact ⟨J ||| 2 ^ i, j1.trans (inc_or_l _ _), inc_or (j2.trans (inc_or_l _ _)) (inc_or_r _ _), by omega, sm⟩
  · exact ⟨J, j1, j2.trans (inc_or_l _ _), j3, by omega⟩
/-- The free sets of the full rank are a matroid's bases. -/
theorem RkF.mat {m : Nat} (h8 : m ≤ 8) {K : List Nat} (hK : Fam m K) (hm : ∀ s, s ∈ K ↔ s < 2 ^ m ∧ u s = cnt m s ∧ u s = u (2 ^ m - 1)) : Mat m K ∧ ∀ s, s < 2 ^ m → rk m K s = u s := by
  have hp8 : 2 ^ m ≤ 2 ^ 8 := Nat.pow_le_pow_right (by omega) h8
  have hp2 : 0 < 2 ^ m := Nat.pow_pos (by omega)
  have hfl := full_lt m
  have big : ∀ {I : Nat}, I < 2 ^ m → u I = cnt 8 I → ∃ b, b ∈ K ∧ Inc I b := fun {I} hI hf => by
    obtain ⟨J, j1, j2, j3, j4⟩ := h.grow hf (2 ^ m - 1) (by omega)
    have e : I ||| (2 ^ m - 1) = 2 ^ m - 1 := (or_eq_iff _ _).2 fun i hi => by rw [full_bit, decide_eq_true_eq]; exact bit_lt hI hi
    rw [e] at j2 j4
    have hJ := j2.lt hfl
    exact ⟨J, (hm J).2 ⟨hJ, by rw [j3, cnt8 h8 hJ], j4⟩, j1⟩
  refine ⟨⟨hK, ?_, fun a ha b hb => ?_, fun a ha b hb x hx hx' => ?_⟩, fun s hs => Nat.le_antisymm (rk_le.2 fun b hb => ?_) ?_⟩
  · obtain ⟨b, hb, _⟩ := big (I := 0) hp2 (by rw [h.zero, cnt_zero])
    intro e; rw [e] at hb; cases hb
  · have := (hm a).1 ha
    have := (hm b).1 hb
    omega
  · obtain ⟨a1, a2, a3⟩ := (hm a).1 ha
    obtain ⟨b1, b2, b3⟩ := (hm b).1 hb
    have hI : u (dif a (2 ^ x)) = cnt 8 (dif a (2 ^ x)) := h.free_in (J := a) (by omega) (by rw [a2, cnt8 h8 a1]) (inc_dif _ _)
    have hIl : dif a (2 ^ x) < 2 ^ m := dif_lt a1
    have hIc := cnt_dif a1 hx
    rw [cnt8 h8 hIl] at hI
    have hex : ∃ y, b.testBit y = true ∧ u (dif a (2 ^ x) ||| 2 ^ y) ≠ u (dif a (2 ^ x)) := by
      rcases Classical.em (∃ y, b.testBit y = true ∧ u (dif a (2 ^ x) ||| 2 ^ y) ≠ u (dif a (2 ^ x))) with c | c
      · exact c
      · have := h.allJ (s := dif a (2 ^ x)) b (by omega) fun i hi => by
          rcases Classical.em (u (dif a (2 ^ x) ||| 2 ^ i) = u (dif a (2 ^ x))) with d | d
          · exact d
          · exact absurd ⟨i, hi, d⟩ c
        have := h.mono b (dif a (2 ^ x) ||| b) (inc_or_r _ _)
        omega
    obtain ⟨y, y1, y2⟩ := hex
    have hyI : (dif a (2 ^ x)).testBit y = false := by
      cases q : (dif a (2 ^ x)).testBit y with
      | false => rfl
      | true =>
        have e : dif a (2 ^ x) ||| 2 ^ y = dif a (2 ^ x) := by rw [Nat.or_comm]; exact (or_eq_iff _ _).2 (inc_pow q)
        exact absurd (by rw [e]) y2
    have hya : a.testBit y = false := by
      cases q : a.testBit y with
      | false => rfl
      | true =>
        rw [testBit_dif, q, testBit_pow, Bool.true_and, Bool.not_eq_false', decide_eq_true_eq] at hyI
        rw [hyI, y1] at hx'; cases hx'
    have hym := bit_lt b1 y1
    have ca := cnt_add hym hyI
    have st := h.step (dif a (2 ^ x)) y
    have mo := h.mono (dif a (2 ^ x)) (dif a (2 ^ x) ||| 2 ^ y) (inc_or_l _ _)
    exact ⟨y, y1, hya, (hm _).2 ⟨or_lt hIl (pow_lt hym), by omega, by omega⟩⟩
  · obtain ⟨b1, b2, b3⟩ := (hm b).1 hb
    have q := h.free_in (J := b) (by omega) (by rw [b2, cnt8 h8 b1]) (inc_and_r s b)
    rw [cnt8 h8 (and_lt hs)] at q
    have := h.mono (s &&& b) s (inc_and_l _ _)
    omega
  · obtain ⟨J, j1, j2, j3, j4⟩ := h.grow (I := 0) (by rw [h.zero, cnt_zero]) s (by omega)
    rw [Nat.zero_or] at j2 j4
    have hJ := j2.lt hs
    obtain ⟨b, hb, hJb⟩ := big hJ j3
    have q1 := le_rk (m := m) (s := s) hb
    have q2 := cnt_le_of_inc (m := m) (a := J) (b := s &&& b) (inc_and j2 hJb)
    rw [cnt8 h8 hJ] at j3
    omega
end

/-- A set that is free and of the full rank. -/
theorem RkF.basis {r : Nat → Nat} (h : RkF r) {G : Nat} (hG : G < 2 ^ 8) : ∃ I, Inc I G ∧ r I = cnt 8 I ∧ r I = r G := by
  refine set_ind (m := 8) (fun G => ∃ I, Inc I G ∧ r I = cnt 8 I ∧ r I = r G) ⟨0, Inc.refl 0, by rw [h.zero, cnt_zero], rfl⟩ ?_ G hG
  rintro s i hs hi hb ⟨I, i1, i2, i3⟩
  have st := h.step s i
  have mo := h.mono s (s ||| 2 ^ i) (inc_or_l _ _)
  rcases Nat.lt_or_ge (r s) (r (s ||| 2 ^ i)) with c | c
  · have hIb : I.testBit i = false := by
      cases q : I.testBit i with
      | false => rfl
      | true => rw [i1 i q] at hb; cases hb
    have hsub := h.sub (I ||| 2 ^ i) s
    have e1 : I ||| 2 ^ i ||| s = s ||| 2 ^ i := by
      rw [Nat.or_assoc, Nat.or_comm (2 ^ i), ← Nat.or_assoc, (or_eq_iff I s).2 i1]
    have e2 := h.mono I ((I ||| 2 ^ i) &&& s) (inc_and (inc_or_l _ _) i1)
    have e3 := h.step I i
    have e4 : cnt 8 (I ||| 2 ^ i) = cnt 8 I + 1 := cnt_add hi hIb
    rw [e1] at hsub
    exact ⟨I ||| 2 ^ i, inc_or (i1.trans (inc_or_l _ _)) (inc_or_r _ _), by omega, by omega⟩
  · exact ⟨I, i1.trans (inc_or_l _ _), i2, by omega⟩

end Go.SH
