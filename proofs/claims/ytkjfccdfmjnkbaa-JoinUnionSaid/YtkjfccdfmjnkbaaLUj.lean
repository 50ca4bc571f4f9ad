/-
  The union of two matroids is one; with itself so often: what so many free sets cover. Conditions: at most eight elements.
-/
import Derived.Test.YtkjfccdfmjnkbaaLCv
set_option linter.unusedSimpArgs false
set_option linter.unusedVariables false
namespace Go.SH
open Go Go.AX

section
variable {u : Nat → Nat} (h : RkF u)
include h
theorem RkF.sameJ {A C : Nat} (hA : Inc A C) (e : u A = u C) (i : Nat) : u (A ||| 2 ^ i) = u (C ||| 2 ^ i) := by
  have h1 := h.sub (A ||| 2 ^ i) C
  have e1 : A ||| 2 ^ i ||| C = C ||| 2 ^ i := by rw [Nat.or_assoc, Nat.or_comm (2 ^ i), ← Nat.or_assoc, (or_eq_iff A C).2 hA]
  have h2 := h.mono A ((A ||| 2 ^ i) &&& C) (inc_and (inc_or_l _ _) hA)
  have h3 := h.mono (A ||| 2 ^ i) (C ||| 2 ^ i) (inc_or (hA.trans (inc_or_l _ _)) (inc_or_r _ _))
  rw [e1] at h1
  omega
theorem RkF.allJ {s : Nat} : ∀ t, t < 2 ^ 8 → (∀ i, t.testBit i = true → u (s ||| 2 ^ i) = u s) → u (s ||| t) = u s := by
  refine set_ind (m := 8) (fun t => (∀ i, t.testBit i = true → u (s ||| 2 ^ i) = u s) → u (s ||| t) = u s) (fun _ => by rw [Nat.or_zero]) ?_
  intro t i ht hi hb ih hall
  have h1 := ih fun j hj => hall j (by rw [Nat.testBit_or, hj]; rfl)
  have h2 := hall i (by rw [Nat.testBit_or, testBit_pow]; simp)
  have h3 := h.sameJ (inc_or_l s t) h1.symm i
  rw [← Nat.or_assoc, ← h3, h2]
theorem RkF.grow {I : Nat} (hf : u I = cnt 8 I) : ∀ G, G < 2 ^ 8 → ∃ J, Inc I J ∧ Inc J (I ||| G) ∧ u J = cnt 8 J ∧ u J = u (I ||| G) := by
  refine set_ind (m := 8) (fun G => ∃ J, Inc I J ∧ Inc J (I ||| G) ∧ u J = cnt 8 J ∧ u J = u (I ||| G)) ⟨I, Inc.refl I, inc_or_l _ _, hf, by rw [Nat.or_zero]⟩ ?_
  rintro s i hs hi hb ⟨J, j1, j2, j3, j4⟩
  rw [← Nat.or_assoc]
  have st := h.step (I ||| s) i
  have mo := h.mono (I ||| s) (I ||| s ||| 2 ^ i) (inc_or_l _ _)
  rcases Nat.lt_or_ge (u (I ||| s)) (u (I ||| s ||| 2 ^ i)) with c | c
  · have hJb : J.testBit i = false := by
      cases q : J.testBit i with
      | false => rfl
      | true =>
        have e : I ||| s ||| 2 ^ i = I ||| s := by rw [Nat.or_comm]; exact (or_eq_iff _ _).2 (inc_pow (j2 i q))
        rw [e] at c
        exact absurd c (Nat.lt_irrefl _)
    have sm := h.sameJ j2 j4 i
    have ca := cnt_add hi hJb
    exact ⟨J ||| 2 ^ i, j1.trans (inc_or_l _ _), inc_or (j2.trans (inc_or_l _ _)) (inc_or_r _ _), by omega, sm⟩
  · exact ⟨J, j1, j2.trans (inc_or_l _ _), j3, by omega⟩
/-- The free sets of the full rank are a matroid's bases. -/
theorem RkF.mat {m : Nat} (h8 : m ≤ 8) {K : List Nat} (hK : Fam m K) (hm : ∀ s, s ∈ K ↔ s < 2 ^ m ∧ u s = cnt m s ∧ u s = u (2 ^ m - 1)) : Mat m K ∧ ∀ s, s < 2 ^ m → rk m K s = u s := by
  have hp8 : 2 ^ m ≤ 2 ^ 8 := Nat.pow_le_pow_right (by omega) h8
  have hp2 : 0 < 2 ^ m := Nat.pow_pos (by omega)
  have hfl := full_lt m
  have big : ∀ {I : Nat}, I < 2 ^ m → u I = cnt 8 I → ∃ b, b ∈ K ∧ Inc I b := fun {I} hI hf => by
    obtain ⟨J, j1, j2, j3, j4⟩ := h.grow hf (2 ^ m - 1) (by omega)
    have e : I ||| (2 ^ m - 1) = 2 ^ m - 1 := (or_eq_iff _ _).2 fun i hi => by rw [full_bit, decide_eq_true_eq]; exact bit_lt hI hi
    rw [e] at j2 j4
    have hJ := j2.lt hfl
    exact ⟨J, (hm J).2 ⟨hJ, by rw [j3, cnt8 h8 hJ], j4⟩, j1⟩
  refine ⟨⟨hK, ?_, fun a ha b hb => ?_, fun a ha b hb x hx hx' => ?_⟩, fun s hs => Nat.le_antisymm (rk_le.2 fun b hb => ?_) ?_⟩
  · obtain ⟨b, hb, _⟩ := big (I := 0) hp2 (by rw [h.zero, cnt_zero])
    intro e; rw [e] at hb; cases hb
  · have := (hm a).1 ha
    have := (hm b).1 hb
    omega
  · obtain ⟨a1, a2, a3⟩ := (hm a).1 ha
    obtain ⟨b1, b2, b3⟩ := (hm b).1 hb
    have hI : u (dif a (2 ^ x)) = cnt 8 (dif a (2 ^ x)) := h.free_in (J := a) (by omega) (by rw [a2, cnt8 h8 a1]) (inc_dif _ _)
    have hIl : dif a (2 ^ x) < 2 ^ m := dif_lt a1
    have hIc := cnt_dif a1 hx
    rw [cnt8 h8 hIl] at hI
    have hex : ∃ y, b.testBit y = true ∧ u (dif a (2 ^ x) ||| 2 ^ y) ≠ u (dif a (2 ^ x)) := by
      rcases Classical.em (∃ y, b.testBit y = true ∧ u (dif a (2 ^ x) ||| 2 ^ y) ≠ u (dif a (2 ^ x))) with c | c
      · exact c
      · have := h.allJ (s := dif a (2 ^ x)) b (by omega) fun i hi => by
          rcases Classical.em (u (dif a (2 ^ x) ||| 2 ^ i) = u (dif a (2 ^ x))) with d | d
          · exact d
          · exact absurd ⟨i, hi, d⟩ c
        have := h.mono b (dif a (2 ^ x) ||| b) (inc_or_r _ _)
        omega
    obtain ⟨y, y1, y2⟩ := hex
    have hyI : (dif a (2 ^ x)).testBit y = false := by
      cases q : (dif a (2 ^ x)).testBit y with
      | false => rfl
      | true =>
        have e : dif a (2 ^ x) ||| 2 ^ y = dif a (2 ^ x) := by rw [Nat.or_comm]; exact (or_eq_iff _ _).2 (inc_pow q)
        exact absurd (by rw [e]) y2
    have hya : a.testBit y = false := by
      cases q : a.testBit y with
      | false => rfl
      | true =>
        rw [testBit_dif, q, testBit_pow, Bool.true_and, Bool.not_eq_false', decide_eq_true_eq] at hyI
        rw [hyI, y1] at hx'; cases hx'
    have hym := bit_lt b1 y1
    have ca := cnt_add hym hyI
    have st := h.step (dif a (2 ^ x)) y
    have mo := h.mono (dif a (2 ^ x)) (dif a (2 ^ x) ||| 2 ^ y) (inc_or_l _ _)
    exact ⟨y, y1, hya, (hm _).2 ⟨or_lt hIl (pow_lt hym), by omega, by omega⟩⟩
  · obtain ⟨b1, b2, b3⟩ := (hm b).1 hb
    have q := h.free_in (J := b) (by omega) (by rw [b2, cnt8 h8 b1]) (inc_and_r s b)
    rw [cnt8 h8 (and_lt hs)] at q
    have := h.mono (s &&& b) s (inc_and_l _ _)
    omega
  · obtain ⟨J, j1, j2, j3, j4⟩ := h.grow (I := 0) (by rw [h.zero, cnt_zero]) s (by omega)
    rw [Nat.zero_or] at j2 j4
    have hJ := j2.lt hs
    obtain ⟨b, hb, hJb⟩ := big hJ j3
    have q1 := le_rk (m := m) (s := s) hb
    have q2 := cnt_le_of_inc (m := m) (a := J) (b := s &&& b) (inc_and j2 hJb)
    rw [cnt8 h8 hJ] at j3
    omega
end

theorem union_mat {m : Nat} {A B : List Nat} (hA : Mat m A) (hB : Mat m B) {K : List Nat} {best : Nat} (hK : Fam m K) (hL : Largest m (fun s => ∃ a b, a ∈ A ∧ b ∈ B ∧ s = a ||| b) best K) :
    Mat m K ∧ ∀ s, s < 2 ^ m → (rk m K s = cnt m s ↔ ∀ S, Inc S s → cnt m S ≤ rk m A S + rk m B S) := by
  have h8 := hA.m8
  have hp8 : 2 ^ m ≤ 2 ^ 8 := Nat.pow_le_pow_right (by omega) h8
  have hp2 : 0 < 2 ^ m := Nat.pow_pos (by omega)
  have hfl := full_lt m
  obtain ⟨u, hu, u1⟩ := join_ex hA.rkF hB.rkF
  have F1 : ∀ s, s < 2 ^ m → (u s = cnt m s ↔ ∀ S, Inc S s → cnt m S ≤ rk m A S + rk m B S) := fun s hs => by
    have sp : ∀ S, Inc S s → cnt m s = cnt m S + cnt 8 (dif s S) := fun S hS => by
      have c := cnt_split m s S
      rw [Nat.and_comm, (sub_iff_and _ _).2 hS] at c
      rw [cnt8 h8 (dif_lt hs)]; exact c
    constructor
    · intro e S hS
      have := (u1 s (by omega)).2 S hS
      have := sp S hS
      omega
    · intro hc
      obtain ⟨S, hS, e⟩ := (u1 s (by omega)).1
      have := sp S hS
      have := hc S hS
      have := hu.le (b := s) (by omega)
      rw [cnt8 h8 hs] at this
      omega
  have low : ∀ a b, a ∈ A → b ∈ B → u (a ||| b) = cnt m (a ||| b) := fun a b ha hb => by
    refine (F1 _ (or_lt (hA.lt a ha) (hB.lt b hb))).2 fun S hS => ?_
    have c1 := cnt_split m S a
    have c2 := le_rk (m := m) (s := S) ha
    have c3 := le_rk (m := m) (s := S) hb
    have c4 := cnt_le_of_inc (m := m) (a := dif S a) (b := S &&& b) fun i hi => by
      rw [testBit_dif, Bool.and_eq_true, Bool.not_eq_true'] at hi
      have := hS i hi.1
      rw [Nat.testBit_or, hi.2, Bool.false_or] at this
      rw [Nat.testBit_and, hi.1, this]; rfl
    omega
  have up : ∀ a b, a ∈ A → b ∈ B → cnt m (a ||| b) ≤ u (2 ^ m - 1) := fun a b ha hb => by
    have hl := or_lt (hA.lt a ha) (hB.lt b hb)
    have := low a b ha hb
    have := hu.mono (a ||| b) (2 ^ m - 1) fun i hi => by rw [full_bit, decide_eq_true_eq]; exact bit_lt hl hi
    omega
  have hbest : best = u (2 ^ m - 1) := by
    obtain ⟨a, b, ha, hb, hle⟩ := union_rank hA hB (μ := u (2 ^ m - 1)) fun s hs => by
      have q := (u1 (2 ^ m - 1) (by omega)).2 s fun i hi => by rw [full_bit, decide_eq_true_eq]; exact bit_lt hs hi
      have q2 : cnt 8 (dif (2 ^ m - 1) s) = cnt m (cpl m s) := cnt8 h8 (cpl_lt m s)
      have q3 := cpl_cnt (m := m) (s := s)
      omega
    have h1 := hL.le (a ||| b) ⟨a, b, ha, hb, rfl⟩
    obtain ⟨t, ht⟩ := hL.some (s := a ||| b) ⟨a, b, ha, hb, rfl⟩
    obtain ⟨⟨a', b', ha', hb', rfl⟩, h2⟩ := (hL.mem t).1 ht
    have := up a' b' ha' hb'
    omega
  obtain ⟨k1, k2⟩ := hu.mat h8 hK fun s => by
    constructor
    · intro hs
      obtain ⟨⟨a, b, ha, hb, rfl⟩, h2⟩ := (hL.mem s).1 hs
      have := low a b ha hb
      exact ⟨or_lt (hA.lt a ha) (hB.lt b hb), this, by omega⟩
    · rintro ⟨s1, s2, s3⟩
      obtain ⟨I, i1, i2, i3⟩ := parted (G := s) (by omega) hA.rkF hB.rkF fun S hS => by
        have := (F1 s s1).1 s2 S hS
        rw [cnt8 h8 (hS.lt s1)]; exact this
      have hIl := i1.lt s1
      have hDl : dif s I < 2 ^ m := dif_lt s1
      obtain ⟨a, ha, hIa⟩ := (hA.ind_iff hIl).2 (by rw [i2, cnt8 h8 hIl])
      obtain ⟨b, hb, hJb⟩ := (hB.ind_iff hDl).2 (by rw [i3, cnt8 h8 hDl])
      have hin : Inc s (a ||| b) := fun i hi => by
        rw [Nat.testBit_or]
        cases q : I.testBit i with
        | true => rw [hIa i q]; rfl
        | false => rw [hJb i (by rw [testBit_dif, hi, q]; rfl)]; simp
      have hle := hL.le (a ||| b) ⟨a, b, ha, hb, rfl⟩
      have e := inc_eq_of_cnt (m := m) hin (or_lt (hA.lt a ha) (hB.lt b hb)) (by omega)
      exact (hL.mem s).2 ⟨⟨a, b, ha, hb, e⟩, by omega⟩
  exact ⟨k1, fun s hs => by rw [k2 s hs]; exact F1 s hs⟩

/-- The k-fold union: what k free sets cover is free there. -/
def FoldU (m : Nat) (A : List Nat) (k : Nat) (K : List Nat) : Prop := Mat m K ∧ ∀ s, s < 2 ^ m → (rk m K s = cnt m s ↔ Cv (rk m A) s k)
theorem FoldU.one {m : Nat} {A : List Nat} (h : Mat m A) : FoldU m A 1 A := by
  have h8 := h.m8
  have hp8 : 2 ^ m ≤ 2 ^ 8 := Nat.pow_le_pow_right (by omega) h8
  refine ⟨h, fun s hs => ⟨fun e => ⟨[s], Nat.le_refl _, fun t ht => ?_, fun i hi => ⟨s, List.mem_cons_self .., hi⟩⟩, fun hc => ?_⟩⟩
  · rcases List.mem_cons.1 ht with rfl | ht
    · exact ⟨by rw [e, cnt8 h8 hs], by omega⟩
    · cases ht
  · have := Cv.bound h.rkF (s := s) (by omega) hc (Inc.refl s)
    have := h.rk_size s
    rw [cnt8 h8 hs] at *
    omega
theorem FoldU.next {m : Nat} {A K K' : List Nat} {k : Nat} (h : Mat m A) (hk : FoldU m A k K) (hM : Mat m K') (hm : ∀ s, s < 2 ^ m → (rk m K' s = cnt m s ↔ ∀ S, Inc S s → cnt m S ≤ rk m K S + rk m A S)) : FoldU m A (k + 1) K' := by
  have h8 := h.m8
  have hp8 : 2 ^ m ≤ 2 ^ 8 := Nat.pow_le_pow_right (by omega) h8
  obtain ⟨hKM, hKc⟩ := hk
  refine ⟨hM, fun s hs => ?_⟩
  rw [hm s hs]
  constructor
  · intro hc
    obtain ⟨I, i1, i2, i3⟩ := parted (G := s) (by omega) hKM.rkF h.rkF fun S hS => by
      have := hc S hS
      rw [cnt8 h8 (hS.lt hs)]; exact this
    have hIl := i1.lt hs
    obtain ⟨P, p1, p2, p3⟩ := (hKc I hIl).1 (by rw [i2, cnt8 h8 hIl])
    refine ⟨dif s I :: P, by rw [List.length_cons]; omega, fun t ht => ?_, fun i hi => ?_⟩
    · rcases List.mem_cons.1 ht with rfl | ht
      · exact ⟨i3, Nat.lt_of_lt_of_le (dif_lt hs) hp8⟩
      · exact p2 t ht
    · cases q : I.testBit i with
      | true => obtain ⟨t, t1, t2⟩ := p3 i q; exact ⟨t, List.mem_cons_of_mem _ t1, t2⟩
      | false => exact ⟨_, List.mem_cons_self .., by rw [testBit_dif, hi, q]; rfl⟩
  · rintro ⟨P, p1, p2, p3⟩ S hS
    have hSl := hS.lt hs
    cases P with
    | nil =>
      have : S = 0 := by
        rcases Classical.em (S = 0) with c | c
        · exact c
        · obtain ⟨i, hi⟩ := exists_bit c
          obtain ⟨t, ht, _⟩ := p3 i (hS i hi)
          cases ht
      rw [this, cnt_zero]; exact Nat.zero_le _
    | cons t P =>
      have hdl : dif S t < 2 ^ m := dif_lt hSl
      have hcv : Cv (rk m A) (dif S t) k := ⟨P, by rw [List.length_cons] at p1; omega, fun u hu => p2 u (List.mem_cons_of_mem _ hu), fun i hi => by
        rw [testBit_dif, Bool.and_eq_true] at hi
        obtain ⟨u, u1, u2⟩ := p3 i (hS i hi.1)
        rcases List.mem_cons.1 u1 with rfl | u1
        · rw [u2] at hi; simp at hi
        · exact ⟨u, u1, u2⟩⟩
      have q1 := (hKc _ hdl).2 hcv
      have q2 := hKM.rk_mono (inc_dif S t)
      have ht := p2 t (List.mem_cons_self ..)
      have q3 := h.rkF.free_in ht.2 ht.1 (inc_and_r S t)
      rw [cnt8 h8 (and_lt hSl)] at q3
      have q4 := h.rk_mono (inc_and_l S t)
      have q5 := cnt_split m S t
      omega
/-- All is a basis just where so many cover all. -/
theorem FoldU.full {m : Nat} {A K : List Nat} {k : Nat} (hk : FoldU m A k K) : K.getD 0 0 = 2 ^ m - 1 ↔ Cv (rk m A) (2 ^ m - 1) k := by
  obtain ⟨hM, hc⟩ := hk
  have hfl := full_lt m
  have hpos : 0 < K.length := List.length_pos_iff.2 hM.ne
  have hg : K.getD 0 0 ∈ K := mem_getD.2 ⟨0, hpos, rfl⟩
  rw [← hc _ hfl]
  constructor
  · intro e
    rw [e] at hg
    exact (hM.ind_iff hfl).1 ⟨_, hg, Inc.refl _⟩
  · intro e
    obtain ⟨b, hb, hi⟩ := (hM.ind_iff hfl).2 e
    have e1 := hM.eqc _ hg _ hb
    have e2 := cnt_le_of_inc (m := m) hi
    have hgl := hM.lt _ hg
    exact inc_eq_of_cnt (m := m) (fun i hi => by rw [full_bit, decide_eq_true_eq]; exact bit_lt hgl hi) hfl (by omega)
end Go.SH
