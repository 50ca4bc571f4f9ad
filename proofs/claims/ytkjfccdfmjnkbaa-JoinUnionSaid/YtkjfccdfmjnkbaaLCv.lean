/-
  EDMONDS: as few free sets cover all as the densest set needs; the program's search for them. Conditions: at most eight elements.
-/
import Derived.Test.YtkjfccdfmjnkbaaLPk
import Derived.Test.YtkjfccdfmjnkbaaLJu
import Derived.Test.YtkjfccdfmjnkbaaSpjoinc
set_option linter.unusedSimpArgs false
set_option linter.unusedVariables false
namespace Go.SH
open Go Go.AX

/-- So many free sets cover s. -/
def Cv (r : Nat → Nat) (s k : Nat) : Prop := ∃ P : List Nat, P.length ≤ k ∧ (∀ t, t ∈ P → r t = cnt 8 t ∧ t < 2 ^ 8) ∧ ∀ i, s.testBit i = true → ∃ t, t ∈ P ∧ t.testBit i = true
/-- s, cut into free sets. -/
def Parts (r : Nat → Nat) : Nat → List Nat → Prop
  | s, [] => s = 0
  | s, t :: P => t ≠ 0 ∧ Inc t s ∧ r t = cnt 8 t ∧ Parts r (dif s t) P
theorem dif_inc {t s : Nat} : dif t s = 0 ↔ Inc t s := by
  constructor
  · intro h i hi
    cases q : s.testBit i with
    | true => rfl
    | false =>
      have : (dif t s).testBit i = true := by rw [testBit_dif, hi, q]; rfl
      rw [h] at this; simp at this
  · intro h
    refine Nat.eq_of_testBit_eq fun i => ?_
    rw [testBit_dif, Nat.zero_testBit]
    cases p : t.testBit i with
    | false => rfl
    | true => rw [h i p]; rfl
theorem cnt8_zero {s : Nat} (hs : s < 2 ^ 8) (h : cnt 8 s = 0) : s = 0 := by
  rcases Classical.em (s = 0) with c | c
  · exact c
  · obtain ⟨i, hi⟩ := exists_bit c
    have := cnt_pos hs hi
    omega
section
variable {r : Nat → Nat} (h : RkF r)
include h
theorem RkF.free_in {I J : Nat} (hJ : J < 2 ^ 8) (hf : r J = cnt 8 J) (hI : Inc I J) : r I = cnt 8 I := by
  have h1 := h.add I (dif J I) (dif_lt hJ)
  have e : I ||| dif J I = J := Nat.eq_of_testBit_eq fun i => by
    rw [Nat.testBit_or, testBit_dif]
    cases p : I.testBit i with
    | true => rw [hI i p]; rfl
    | false => simp
  have h2 := cnt_split 8 J I
  have e2 : J &&& I = I := by rw [Nat.and_comm]; exact (sub_iff_and _ _).2 hI
  rw [e2] at h2
  rw [e] at h1
  have := h.le (hI.lt hJ)
  omega
theorem Cv.bound {s k : Nat} (hs : s < 2 ^ 8) (hc : Cv r s k) {S : Nat} (hS : Inc S s) : cnt 8 S ≤ k * r S := by
  obtain ⟨P, p1, p2, p3⟩ := hc
  have gen : ∀ (P : List Nat) (S' : Nat), (∀ t, t ∈ P → r t = cnt 8 t ∧ t < 2 ^ 8) → Inc S' S → (∀ i, S'.testBit i = true → ∃ t, t ∈ P ∧ t.testBit i = true) → cnt 8 S' ≤ P.length * r S := by
    intro P
    induction P with
    | nil =>
      intro S' _ h2 h3
      have : S' = 0 := by
        rcases Classical.em (S' = 0) with c | c
        · exact c
        · obtain ⟨i, hi⟩ := exists_bit c
          obtain ⟨t, ht, _⟩ := h3 i hi
          cases ht
      rw [this, cnt_zero]; exact Nat.zero_le _
    | cons t P ih =>
      intro S' h1 h2 h3
      have ht := h1 t (List.mem_cons_self ..)
      have q := ih (dif S' t) (fun u hu => h1 u (List.mem_cons_of_mem _ hu)) ((inc_dif _ _).trans h2) fun i hi => by
        rw [testBit_dif, Bool.and_eq_true] at hi
        obtain ⟨u, u1, u2⟩ := h3 i hi.1
        rcases List.mem_cons.1 u1 with rfl | u1
        · rw [u2] at hi; simp at hi
        · exact ⟨u, u1, u2⟩
      have c1 := cnt_split 8 S' t
      have c2 := h.free_in ht.2 ht.1 (inc_and_r S' t)
      have c3 := h.mono (S' &&& t) S ((inc_and_l _ _).trans h2)
      rw [List.length_cons, Nat.add_mul, Nat.one_mul]
      omega
  have q := gen P S p2 (Inc.refl S) fun i hi => p3 i (hS i hi)
  exact Nat.le_trans q (Nat.mul_le_mul_right _ p1)
theorem Cv.step {s k i0 : Nat} (hs : s < 2 ^ 8) (hb : s.testBit i0 = true) (hc : Cv r s k) : ∃ t k', Inc t s ∧ t.testBit i0 = true ∧ r t = cnt 8 t ∧ k = k' + 1 ∧ Cv r (dif s t) k' := by
  obtain ⟨P, p1, p2, p3⟩ := hc
  obtain ⟨t0, t1, t2⟩ := p3 i0 hb
  have hl := List.length_pos_of_mem t1
  have he := List.length_erase_of_mem t1
  refine ⟨t0 &&& s, k - 1, inc_and_r _ _, by rw [Nat.testBit_and, t2, hb]; rfl, h.free_in (p2 t0 t1).2 (p2 t0 t1).1 (inc_and_l _ _), by omega, P.erase t0, by omega, fun t ht => p2 t (List.mem_of_mem_erase ht), fun i hi => ?_⟩
  rw [testBit_dif, Nat.testBit_and] at hi
  have hsi : s.testBit i = true := by
    cases q : s.testBit i with
    | true => rfl
    | false => rw [q] at hi; simp at hi
  obtain ⟨t, q1, q2⟩ := p3 i hsi
  refine ⟨t, (List.mem_erase_of_ne fun e => ?_).2 q1, q2⟩
  subst e
  rw [hsi, q2] at hi; simp at hi
theorem Cv.zero {s : Nat} (h0 : s ≠ 0) : ¬ Cv r s 0 := by
  have _ := h
  rintro ⟨P, p1, _, p3⟩
  obtain ⟨i, hi⟩ := exists_bit h0
  obtain ⟨t, ht, _⟩ := p3 i hi
  have := List.length_pos_of_mem ht
  omega
/-- EDMONDS. -/
theorem Cv.of {s k : Nat} (hs : s < 2 ^ 8) (hk : ∀ S, Inc S s → cnt 8 S ≤ k * r S) : Cv r s k := by
  obtain ⟨u, hu, u1, u2⟩ := fold_ex h k
  obtain ⟨S, hS, e⟩ := u1 s hs
  have c1 := cnt_split 8 s S
  have d1 : s &&& S = S := by rw [Nat.and_comm]; exact (sub_iff_and _ _).2 hS
  rw [d1] at c1
  have c2 := hk S hS
  have c3 := hu.le hs
  obtain ⟨P, p1, p2, p3⟩ := u2 s hs (by omega)
  have gen : ∀ (P : List Nat) (A : Nat), A < 2 ^ 8 → Apart r A P → tot P = cnt 8 A → (∀ t, t ∈ P → r t = cnt 8 t ∧ t < 2 ^ 8) ∧ ∀ i, A.testBit i = true → ∃ t, t ∈ P ∧ t.testBit i = true := by
    intro P
    induction P with
    | nil =>
      intro A hA _ ht
      have : A = 0 := cnt8_zero hA (by simp only [tot] at ht; omega)
      exact ⟨fun t ht => (by cases ht), fun i hi => by rw [this] at hi; simp at hi⟩
    | cons I P ih =>
      intro A hA ⟨a1, a2, a3⟩ ht
      simp only [tot] at ht
      have c1 := cnt_split 8 A I
      have d1 : A &&& I = I := by rw [Nat.and_comm]; exact (sub_iff_and _ _).2 a1
      rw [d1] at c1
      obtain ⟨q1, q2⟩ := ih (dif A I) (dif_lt hA) a3 (by omega)
      refine ⟨fun t ht => ?_, fun i hi => ?_⟩
      · rcases List.mem_cons.1 ht with rfl | ht
        · exact ⟨a2, a1.lt hA⟩
        · exact q1 t ht
      · cases p : I.testBit i with
        | true => exact ⟨I, List.mem_cons_self .., p⟩
        | false =>
          obtain ⟨u, w1, w2⟩ := q2 i (by rw [testBit_dif, hi, p]; rfl)
          exact ⟨u, List.mem_cons_of_mem _ w1, w2⟩
  obtain ⟨q1, q2⟩ := gen P s hs p2 p3
  exact ⟨P, by omega, q1, q2⟩
end
theorem Parts.cv {r : Nat → Nat} : ∀ {P : List Nat} {s : Nat}, s < 2 ^ 8 → Parts r s P → Cv r s P.length
  | [], s, hs, hp => ⟨[], Nat.le_refl _, fun t ht => (by cases ht), fun i hi => by
      have : s = 0 := hp
      rw [this] at hi; simp at hi⟩
  | t :: P, s, hs, ⟨h1, h2, h3, h4⟩ => by
    obtain ⟨Q, q1, q2, q3⟩ := Parts.cv (dif_lt hs) h4
    refine ⟨t :: Q, by rw [List.length_cons, List.length_cons]; omega, fun u hu => ?_, fun i hi => ?_⟩
    · rcases List.mem_cons.1 hu with rfl | hu
      · exact ⟨h3, h2.lt hs⟩
      · exact q2 u hu
    · cases p : t.testBit i with
      | true => exact ⟨t, List.mem_cons_self .., p⟩
      | false =>
        obtain ⟨u, u1, u2⟩ := q3 i (by rw [testBit_dif, hi, p]; rfl)
        exact ⟨u, List.mem_cons_of_mem _ u1, u2⟩
theorem low_bit {s : Nat} (hs : s < 256) (h0 : s ≠ 0) : ∃ i, i < 8 ∧ s.testBit i = true ∧ iand (s : Int) (-(s : Int)) = ((2 ^ i : Nat) : Int) := by
  have h1 := low_tab ⟨s, hs⟩ h0
  exact ⟨lo1 s, bit_lt (m := 8) hs h1.2.2.1, h1.2.2.1, h1.1⟩
theorem and_pow_ne {t i : Nat} : t &&& 2 ^ i ≠ 0 ↔ t.testBit i = true := by
  constructor
  · intro h
    obtain ⟨j, hj⟩ := exists_bit h
    rw [Nat.testBit_and, testBit_pow, Bool.and_eq_true, decide_eq_true_eq] at hj
    rw [hj.2]; exact hj.1
  · intro h e
    have : (t &&& 2 ^ i).testBit i = true := by rw [Nat.testBit_and, h, testBit_pow]; simp
    rw [e] at this; simp at this

theorem optM_none {α β : Type} (a : Option β) (b : α → Option β) : optM none a b = a := rfl
theorem optM_some {α β : Type} (x : α) (a : Option β) (b : α → Option β) : optM (some x) a b = b x := rfl
theorem split_spec {m : Nat} {B : List Nat} (h : Mat m B) (fuel : Nat) : ∀ (s k : Nat), s < 2 ^ m → cnt 8 s < fuel → k ≤ 8 →
    Gets (join_split fuel (cs (rkL m B)) s k) (fun y => (∃ P, y = some (cs P) ∧ Parts (rk m B) s P ∧ P.length ≤ k) ∨ (y = none ∧ ¬ Cv (rk m B) s k)) := by
  induction fuel with
  | zero => intro s k _ hf _; omega
  | succ fuel ih =>
    intro s k hs hf hk
    have h8 := h.m8
    have h256 := pow_le8 h8
    have hs8 : s < 2 ^ 8 := by omega
    rw [join_split.eq_2]
    refine gIte (fun h0 => gSome (.inl ⟨[], rfl, (by have : s = 0 := by omega
                                                     exact this), Nat.zero_le _⟩)) fun h0 => ?_
    have hs0 : s ≠ 0 := by omega
    refine gIte (fun hk0 => gSome (.inr ⟨rfl, by
      have : k = 0 := by omega
      rw [this]; exact Cv.zero h.rkF hs0⟩)) fun hk0 => ?_
    obtain ⟨i0, hi8, hb, he⟩ := low_bit (by omega) hs0
    rw [he]
    have hpl : 2 ^ i0 ≤ s := Nat.ge_two_pow_of_testBit hb
    refine gChk (by omega) ?_
    refine gBind (R := fun z => match z with | .inl _ => ¬ Cv (rk m B) s k | .inr y => (∃ P, y = some (cs P) ∧ Parts (rk m B) s P ∧ P.length ≤ k) ∨ (y = none ∧ ¬ Cv (rk m B) s k))
      (gFor (s + 1) (fun t (x : Int) => x = (t : Int) ∧ ∀ t' : Nat, t' < t → Inc t' s → t'.testBit i0 = true → rk m B t' = cnt 8 t' → ¬ Cv (rk m B) (dif s t') (k - 1)) (k0 := 2 ^ i0) (by omega) ⟨rfl, fun t' h1 _ h3 => ?_⟩ ?_) ?_
    · have := Nat.ge_two_pow_of_testBit h3
      omega
    · rintro t _ ht ⟨rfl, hI⟩
      have nxt : (¬ (Inc t s ∧ t.testBit i0 = true ∧ rk m B t = cnt 8 t) ∨ ¬ Cv (rk m B) (dif s t) (k - 1)) → ∀ t' : Nat, t' < t + 1 → Inc t' s → t'.testBit i0 = true → rk m B t' = cnt 8 t' → ¬ Cv (rk m B) (dif s t') (k - 1) := fun hn t' h1 h2 h3 h4 => by
        rcases Nat.lt_succ_iff_lt_or_eq.1 h1 with c | c
        · exact hI t' c h2 h3 h4
        · subst c
          rcases hn with hn | hn
          · exact absurd ⟨h2, h3, h4⟩ hn
          · exact hn
      simp only [dif_nat, and_nat, toNat_nat, cs_len, rkL_len]
      refine gIte (fun h1 => ?_) fun h1 => gSome fun hc => ?_
      · have hts : t ≤ s := by omega
        have htm : t < 2 ^ m := by omega
        rw [cs_get, rkL_get m B htm]
        have hc : (((dif t s : Nat) : Int) = 0 ∧ ((t &&& 2 ^ i0 : Nat) : Int) ≠ 0) ↔ (Inc t s ∧ t.testBit i0 = true) := by
          rw [← dif_inc, ← and_pow_ne]; omega
        refine gChk (fun _ => by omega) ?_
        have hsz : size t = cnt 8 t := rfl
        by_cases hcc : Inc t s ∧ t.testBit i0 = true
        · rw [if_pos (hc.2 hcc), join_size_nat (by omega), Option.bind_some, hsz]
          refine gIte (fun q => ?_) fun q => gChk (by omega) (gSome ⟨by omega, by simp, nxt (.inl fun z => q ⟨hc.2 hcc, by rw [z.2.2]⟩)⟩)
          have hfr : rk m B t = cnt 8 t := by have := q.2; omega
          refine gChk (by omega) ?_
          rw [show ((k : Int) - 1) = ((k - 1 : Nat) : Int) by omega]
          have hlt : cnt 8 (dif s t) < cnt 8 s := cnt_lt_of (inc_dif _ _) hs8 hb (by rw [testBit_dif, hcc.2]; simp)
          refine gBind (ih (dif s t) (k - 1) (dif_lt hs) (by omega) (by omega)) ?_
          rintro y (⟨P, rfl, p1, p2⟩ | ⟨rfl, hn⟩)
          · rw [optM_some]
            have ecs : [(t : Int)] ++ cs P = cs (t :: P) := rfl
            rw [ecs]
            refine gChk (by rw [cs_len, List.length_cons]; omega) (gSome (.inl ⟨t :: P, rfl, ⟨fun e => ?_, hcc.1, hfr, p1⟩, by rw [List.length_cons]; omega⟩))
            have := hcc.2
            rw [e] at this; simp at this
          · rw [optM_none]
            exact gChk (by omega) (gSome ⟨by omega, by simp, nxt (.inr hn)⟩)
        · rw [if_neg (fun q => hcc (hc.1 q)), Option.bind_some]
          refine gIte (fun q => absurd (hc.1 q.1) hcc) fun q => gChk (by omega) (gSome ⟨by omega, by simp, nxt (.inl fun z => hcc ⟨z.1, z.2.1⟩)⟩)
      · obtain ⟨t', k', c1, c2, c3, c4, c5⟩ := Cv.step h.rkF hs8 hb hc
        have : t' ≤ s := by
          have e := (sub_iff_and _ _).2 c1
          rw [← e]; exact Nat.and_le_right
        refine hI t' (by omega) c1 c2 c3 ?_
        rw [show k - 1 = k' by omega]; exact c5
    · rintro (u | rr) hz
      · exact gSome (.inr ⟨rfl, hz⟩)
      · exact gSome hz
end Go.SH
