/-
  EDMONDS, NASH-WILLIAMS: rank functions joined again and again: as many bases that have nothing together as the weakest set lets. Conditions: at most eight elements.
-/
import Derived.Test.YtkjfccdfmjnkbaaLRk
set_option linter.unusedSimpArgs false
set_option linter.unusedVariables false
namespace Go.SH
open Go Go.AX

theorem min_ex (P : Nat → Prop) (h : ∃ v, P v) : ∃ v, P v ∧ ∀ w, P w → v ≤ w := by
  obtain ⟨v, hv⟩ := h
  induction v using Nat.strongRecOn with
  | ind v ih =>
    rcases Classical.em (∃ w, P w ∧ w < v) with c | c
    · obtain ⟨w, w1, w2⟩ := c
      exact ih w w2 w1
    · exact ⟨v, hv, fun w hw => Nat.le_of_not_lt fun q => c ⟨w, hw, q⟩⟩
/-- The rank function of a union. -/
theorem join_ex {r1 r2 : Nat → Nat} (h1 : RkF r1) (h2 : RkF r2) : ∃ u : Nat → Nat, RkF u ∧ (∀ A, A < 2 ^ 8 → (∃ S, Inc S A ∧ u A = r1 S + r2 S + cnt 8 (dif A S)) ∧ ∀ S, Inc S A → u A ≤ r1 S + r2 S + cnt 8 (dif A S)) := by
  have key : ∀ A : Nat, ∃ v, (∃ S, Inc S A ∧ v = r1 S + r2 S + cnt 8 (dif A S)) ∧ ∀ S, Inc S A → v ≤ r1 S + r2 S + cnt 8 (dif A S) := fun A => by
    obtain ⟨v, hv, hm⟩ := min_ex (fun v => ∃ S, Inc S A ∧ v = r1 S + r2 S + cnt 8 (dif A S)) ⟨_, A, Inc.refl A, rfl⟩
    exact ⟨v, hv, fun S hS => hm _ ⟨S, hS, rfl⟩⟩
  obtain ⟨u, hu⟩ := Classical.axiomOfChoice key
  refine ⟨u, ⟨?_, fun A A' hA => ?_, fun A i => ?_, fun A A' => ?_⟩, fun A _ => hu A⟩
  · have := (hu 0).2 0 (Inc.refl 0)
    rw [h1.zero, h2.zero] at this
    have e : dif 0 0 = 0 := rfl
    rw [e, cnt_zero] at this
    omega
  · obtain ⟨S, hS, e⟩ := (hu A').1
    have := (hu A).2 (S &&& A) (inc_and_r _ _)
    have := h1.mono (S &&& A) S (inc_and_l _ _)
    have := h2.mono (S &&& A) S (inc_and_l _ _)
    have := cnt_le_of_inc (m := 8) (a := dif A (S &&& A)) (b := dif A' S) fun i hi => by
      rw [testBit_dif, Nat.testBit_and] at hi
      rw [testBit_dif]
      cases p : A.testBit i with
      | false => rw [p] at hi; cases hi
      | true =>
        rw [hA i p]
        rw [p] at hi
        simpa using hi
    omega
  · obtain ⟨S, hS, e⟩ := (hu A).1
    have := (hu (A ||| 2 ^ i)).2 S (hS.trans (inc_or_l _ _))
    have : cnt 8 (dif (A ||| 2 ^ i) S) ≤ cnt 8 (dif A S) + 1 := by
      have h3 := cnt_or_and 8 (dif A S) (2 ^ i)
      have h4 : cnt 8 (dif (A ||| 2 ^ i) S) ≤ cnt 8 (dif A S ||| 2 ^ i) := cnt_le_of_inc fun j hj => by
        rw [testBit_dif, Nat.testBit_or] at hj
        rw [Nat.testBit_or, testBit_dif]
        cases p : A.testBit j <;> cases q : (2 ^ i).testBit j <;> cases z : S.testBit j <;> simp_all
      have h5 : cnt 8 (2 ^ i) ≤ 1 := by
        rcases Nat.lt_or_ge i 8 with c | c
        · have := cnt_add (m := 8) (s := 0) c (by simp)
          rw [cnt_zero, Nat.zero_or] at this; omega
        · have : cnt 8 (2 ^ i) = 0 := by
            rw [← cnt_zero 8]
            exact cnt_congr fun j hj => by rw [testBit_pow, decide_eq_false (by omega)]; simp
          omega
      omega
    omega
  · obtain ⟨S, hS, e⟩ := (hu A).1
    obtain ⟨T, hT, e'⟩ := (hu A').1
    have q1 := (hu (A ||| A')).2 (S ||| T) (inc_or (hS.trans (inc_or_l _ _)) (hT.trans (inc_or_r _ _)))
    have q2 := (hu (A &&& A')).2 (S &&& T) (inc_and ((inc_and_l _ _).trans hS) ((inc_and_r _ _).trans hT))
    have q3 := h1.sub S T
    have q4 := h2.sub S T
    have c1 := cnt_split 8 (A ||| A') (S ||| T)
    have c2 := cnt_split 8 (A &&& A') (S &&& T)
    have c3 := cnt_split 8 A S
    have c4 := cnt_split 8 A' T
    have c5 := cnt_or_and 8 A A'
    have c6 := cnt_or_and 8 S T
    have d1 : (A ||| A') &&& (S ||| T) = S ||| T := by
      rw [Nat.and_comm]; exact (sub_iff_and _ _).2 (inc_or (hS.trans (inc_or_l _ _)) (hT.trans (inc_or_r _ _)))
    have d2 : (A &&& A') &&& (S &&& T) = S &&& T := by
      rw [Nat.and_comm]; exact (sub_iff_and _ _).2 (inc_and ((inc_and_l _ _).trans hS) ((inc_and_r _ _).trans hT))
    have d3 : A &&& S = S := by rw [Nat.and_comm]; exact (sub_iff_and _ _).2 hS
    have d4 : A' &&& T = T := by rw [Nat.and_comm]; exact (sub_iff_and _ _).2 hT
    rw [d1] at c1; rw [d2] at c2; rw [d3] at c3; rw [d4] at c4
    omega
/-- A set that is free and of the full rank. -/
theorem RkF.basis {r : Nat → Nat} (h : RkF r) {G : Nat} (hG : G < 2 ^ 8) : ∃ I, Inc I G ∧ r I = cnt 8 I ∧ r I = r G := by
  refine set_ind (m := 8) (fun G => ∃ I, Inc I G ∧ r I = cnt 8 I ∧ r I = r G) ⟨0, Inc.refl 0, by rw [h.zero, cnt_zero], rfl⟩ ?_ G hG
  rintro s i hs hi hb ⟨I, i1, i2, i3⟩
  have st := h.step s i
  have mo := h.mono s (s ||| 2 ^ i) (inc_or_l _ _)
  rcases Nat.lt_or_ge (r s) (r (s ||| 2 ^ i)) with c | c
  · have hIb : I.testBit i = false := by
      cases q : I.testBit i with
      | false => rfl
      | true => rw [i1 i q] at hb; cases hb
    have hsub := h.sub (I ||| 2 ^ i) s
    have e1 : I ||| 2 ^ i ||| s = s ||| 2 ^ i := by
      rw [Nat.or_assoc, Nat.or_comm (2 ^ i), ← Nat.or_assoc, (or_eq_iff I s).2 i1]
    have e2 := h.mono I ((I ||| 2 ^ i) &&& s) (inc_and (inc_or_l _ _) i1)
    have e3 := h.step I i
    have e4 : cnt 8 (I ||| 2 ^ i) = cnt 8 I + 1 := cnt_add hi hIb
    rw [e1] at hsub
    exact ⟨I ||| 2 ^ i, inc_or (i1.trans (inc_or_l _ _)) (inc_or_r _ _), by omega, by omega⟩
  · exact ⟨I, i1.trans (inc_or_l _ _), i2, by omega⟩

/-- Free sets, nothing together, within A. -/
def Apart (r : Nat → Nat) : Nat → List Nat → Prop
  | A, [] => True
  | A, I :: P => Inc I A ∧ r I = cnt 8 I ∧ Apart r (dif A I) P
def tot : List Nat → Nat
  | [] => 0
  | I :: P => cnt 8 I + tot P
theorem Apart.mono {r : Nat → Nat} : ∀ {P : List Nat} {A A' : Nat}, Inc A A' → Apart r A P → Apart r A' P
  | [], _, _, _, _ => trivial
  | I :: P, A, A', h, ⟨h1, h2, h3⟩ => ⟨h1.trans h, h2, h3.mono fun i hi => by
      rw [testBit_dif] at hi ⊢
      cases p : A.testBit i with
      | false => rw [p] at hi; cases hi
      | true => rw [h i p]; rw [p] at hi; exact hi⟩
/-- The k-fold union. -/
theorem fold_ex {r : Nat → Nat} (h : RkF r) : ∀ k : Nat, ∃ u : Nat → Nat, RkF u ∧ (∀ A, A < 2 ^ 8 → ∃ S, Inc S A ∧ k * r S + cnt 8 (dif A S) ≤ u A) ∧ (∀ I, I < 2 ^ 8 → u I = cnt 8 I → ∃ P, P.length = k ∧ Apart r I P ∧ tot P = cnt 8 I)
  | 0 => ⟨fun _ => 0, ⟨rfl, fun _ _ _ => Nat.le_refl _, fun _ _ => by omega, fun _ _ => Nat.le_refl _⟩, fun A _ => ⟨A, Inc.refl A, by
      have : dif A A = 0 := Nat.eq_of_testBit_eq fun i => by rw [testBit_dif]; cases A.testBit i <;> simp
      rw [this, cnt_zero]; omega⟩, fun I _ hI => ⟨[], rfl, trivial, by simp only [tot]; exact hI⟩⟩
  | k + 1 => by
    obtain ⟨u, hu, u1, u2⟩ := fold_ex h k
    obtain ⟨v, hv, v1⟩ := join_ex hu h
    refine ⟨v, hv, fun A hA => ?_, fun I hI hvI => ?_⟩
    · obtain ⟨⟨S, hS, e⟩, _⟩ := v1 A hA
      obtain ⟨S', hS', e'⟩ := u1 S (hS.lt hA)
      refine ⟨S', hS'.trans hS, ?_⟩
      have q1 := h.mono S' S hS'
      have c1 := cnt_split 8 A S
      have c2 := cnt_split 8 S S'
      have c3 := cnt_split 8 A S'
      have d1 : A &&& S = S := by rw [Nat.and_comm]; exact (sub_iff_and _ _).2 hS
      have d2 : S &&& S' = S' := by rw [Nat.and_comm]; exact (sub_iff_and _ _).2 hS'
      have d3 : A &&& S' = S' := by rw [Nat.and_comm]; exact (sub_iff_and _ _).2 (hS'.trans hS)
      rw [d1] at c1; rw [d2] at c2; rw [d3] at c3
      rw [Nat.add_mul, Nat.one_mul]
      omega
    · obtain ⟨J, j1, j2, j3⟩ := parted hI hu h (fun A hA => by
        have := (v1 I hI).2 A hA
        have c1 := cnt_split 8 I A
        have d1 : I &&& A = A := by rw [Nat.and_comm]; exact (sub_iff_and _ _).2 hA
        rw [d1] at c1
        omega)
      obtain ⟨P, p1, p2, p3⟩ := u2 J (j1.lt hI) j2
      refine ⟨dif I J :: P, by rw [List.length_cons, p1], ⟨inc_dif _ _, j3, p2.mono fun i hi => ?_⟩, ?_⟩
      · rw [testBit_dif, testBit_dif, j1 i hi, hi]; rfl
      · have c1 := cnt_split 8 I J
        have d1 : I &&& J = J := by rw [Nat.and_comm]; exact (sub_iff_and _ _).2 j1
        rw [d1] at c1
        simp only [tot]
        omega
/-- NASH-WILLIAMS: k of the full rank. -/
theorem pack_ex {r : Nat → Nat} (h : RkF r) {G : Nat} (hG : G < 2 ^ 8) {k : Nat} (hk : ∀ S, Inc S G → k * r G ≤ k * r S + cnt 8 (dif G S)) : ∃ P, P.length = k ∧ Apart r G P ∧ ∀ I, I ∈ P → cnt 8 I = r G := by
  obtain ⟨u, hu, u1, u2⟩ := fold_ex h k
  obtain ⟨S, hS, e⟩ := u1 G hG
  obtain ⟨I, i1, i2, i3⟩ := hu.basis hG
  obtain ⟨P, p1, p2, p3⟩ := u2 I (i1.lt hG) i2
  have hge : k * r G ≤ tot P := by have := hk S hS; omega
  have p4 := p2.mono i1
  refine ⟨P, p1, p4, ?_⟩
  have gen : ∀ (P : List Nat) (A : Nat), Inc A G → Apart r A P → tot P ≤ P.length * r G ∧ (P.length * r G ≤ tot P → ∀ I, I ∈ P → cnt 8 I = r G) := by
    intro P
    induction P with
    | nil => intro A _ _; exact ⟨by simp [tot], fun _ I hI => by cases hI⟩
    | cons J P ih =>
      intro A hA ⟨a1, a2, a3⟩
      obtain ⟨q1, q2⟩ := ih (dif A J) ((inc_dif _ _).trans hA) a3
      have hJ := h.mono J G (a1.trans hA)
      have e1 : (J :: P).length * r G = P.length * r G + r G := by rw [List.length_cons, Nat.add_mul, Nat.one_mul]
      refine ⟨by rw [e1]; simp only [tot]; omega, fun hle => ?_⟩
      rw [e1] at hle
      simp only [tot] at hle
      intro I hI
      rcases List.mem_cons.1 hI with rfl | hI
      · omega
      · exact q2 (by omega) I hI
  exact (gen P G (Inc.refl G) p4).2 (by rw [p1]; exact hge)
end Go.SH
