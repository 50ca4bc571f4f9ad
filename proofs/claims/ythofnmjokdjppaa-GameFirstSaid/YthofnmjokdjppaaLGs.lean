/-
  LEHMAN, the other way: where the joiner wins, some set is as dense as any, and the last element hangs on it. Conditions: at most eight elements.
-/
import Derived.Test.YthofnmjokdjppaaLGr
set_option linter.unusedSimpArgs false
set_option linter.unusedVariables false
namespace Go.SH
open Go Go.AX

theorem exists_max (p : Nat → Prop) (f : Nat → Nat) (M : Nat) (h0 : ∃ s, p s) (hM : ∀ s, p s → f s ≤ M) : ∃ s, p s ∧ ∀ t, p t → f t ≤ f s := by
  induction M with
  | zero =>
    obtain ⟨s, hs⟩ := h0
    exact ⟨s, hs, fun t ht => by have := hM t ht; omega⟩
  | succ M ih =>
    by_cases c : ∃ s, p s ∧ f s = M + 1
    · obtain ⟨s, hs, e⟩ := c
      exact ⟨s, hs, fun t ht => by rw [e]; exact hM t ht⟩
    · refine ih fun s hs => ?_
      have := hM s hs
      have : f s ≠ M + 1 := fun e => c ⟨s, hs, e⟩
      omega

section
variable {R : Nat → Nat} {m : Nat}

theorem or_J (S T J : Nat) : (S ||| J) ||| (T ||| J) = S ||| T ||| J := bx fun j => by
  simp only [Nat.testBit_or]; cases S.testBit j <;> cases T.testBit j <;> cases J.testBit j <;> rfl
theorem and_J (S T J : Nat) : (S ||| J) &&& (T ||| J) = S &&& T ||| J := bx fun j => by
  simp only [Nat.testBit_or, Nat.testBit_and]; cases S.testBit j <;> cases T.testBit j <;> cases J.testBit j <;> rfl

/-- As dense as any, and the last element hangs on it. -/
def Den (R : Nat → Nat) (m J F S : Nat) : Prop := Inc S F ∧ ∀ T, Inc T F → cnt m T + 2 * R (S ||| J ||| 2 ^ m) ≤ cnt m S + 2 * R (T ||| J)

theorem leh2 (hR : RkF R) (h8 : m ≤ 8) : ∀ (k J C : Nat), cnt m (Fr m J C) = k → J < 2 ^ m → (∀ i, J.testBit i = true → C.testBit i = false) → Win (HR R m) m k J C false → ∃ S, Den R m J (Fr m J C) S := by
  intro k
  induction k using Nat.strongRecOn with
  | ind k ih =>
    intro J C hk hJ hd hW
    have hFl := Fr_lt m J C
    have lt8 : ∀ {X : Nat}, Inc X (Fr m J C) → X < 2 ^ m := fun {X} hX => lt_of_bits fun i hi => by
      cases b : X.testBit i with
      | false => rfl
      | true => have := hX i b; rw [bit_ge hFl (by omega)] at this; cases this
    have Rle : ∀ {X Y : Nat}, Inc X Y → R (X ||| J) ≤ R (Y ||| J) := fun {X Y} h => hR.mono _ _ fun i hi => by
      rw [Nat.testBit_or, Bool.or_eq_true] at hi ⊢
      exact hi.imp (h i) id
    have cle : ∀ {X : Nat}, cnt m X ≤ 8 := fun {X} => by have := cnt_le m X; omega
    -- the densest set, and of these the largest
    obtain ⟨K, hK, hmax⟩ := exists_max (fun S => Inc S (Fr m J C)) (fun S => 9 * (cnt m S + 2 * R (Fr m J C ||| J) - 2 * R (S ||| J)) + cnt m S) (9 * (8 + 2 * R (Fr m J C ||| J)) + 8) ⟨0, fun i hi => by rw [Nat.zero_testBit] at hi; cases hi⟩ (fun S hS => by
      have := cle (X := S)
      try simp only
      omega)
    have k1 : ∀ T, Inc T (Fr m J C) → cnt m T + 2 * R (K ||| J) ≤ cnt m K + 2 * R (T ||| J) := fun T hT => by
      have h1 := hmax T hT
      try simp only at h1
      have h2 := Rle hT
      have h3 := Rle hK
      have h4 := cle (X := T)
      have h5 := cle (X := K)
      omega
    have ksame : ∀ T, Inc T (Fr m J C) → cnt m T + 2 * R (K ||| J) = cnt m K + 2 * R (T ||| J) → cnt m T ≤ cnt m K := fun T hT e => by
      have h1 := hmax T hT
      try simp only at h1
      have h2 := Rle hT
      have h3 := Rle hK
      omega
    have k2 : ∀ T, Inc T (Fr m J C) → cnt m T + 2 * R (K ||| J) = cnt m K + 2 * R (T ||| J) → Inc T K := fun T hT e => by
      have hU : Inc (T ||| K) (Fr m J C) := inc_or hT hK
      have hI : Inc (T &&& K) (Fr m J C) := (inc_and_l _ _).trans hT
      have s1 := hR.sub (T ||| J) (K ||| J)
      rw [or_J, and_J] at s1
      have s2 := k1 _ hU
      have s3 := k1 _ hI
      have s4 := cnt_or_and m T K
      have s5 := ksame _ hU (by omega)
      intro i hi
      cases c : K.testBit i with
      | true => rfl
      | false =>
        have := cnt_lt_of (m := m) (inc_or_r T K) (lt8 hU) (i := i) (by rw [Nat.testBit_or, hi]; rfl) c
        omega
    by_cases he0 : R (K ||| J ||| 2 ^ m) = R (K ||| J)
    · exact ⟨K, hK, fun T hT => by rw [he0]; exact k1 T hT⟩
    have hstep := hR.step (K ||| J) m
    have hge := hR.mono (K ||| J) (K ||| J ||| 2 ^ m) (inc_or_l _ _)
    have hnH : ¬ HR R m J := fun h => he0 (hR.clM (2 ^ m) (inc_or_r K J) h)
    -- no set has more than one less, with the last element
    have d0 : ∀ S, Inc S (Fr m J C) → cnt m S + 2 * R (K ||| J) + 1 ≤ cnt m K + 2 * R (S ||| J ||| 2 ^ m) := fun S hS => by
      have h1 := k1 S hS
      have h2 := hR.mono (S ||| J) (S ||| J ||| 2 ^ m) (inc_or_l _ _)
      by_cases c : cnt m S + 2 * R (K ||| J) = cnt m K + 2 * R (S ||| J)
      · have hSK := k2 S hS c
        have : R (S ||| J ||| 2 ^ m) ≠ R (S ||| J) := fun e => he0 (hR.clM (2 ^ m) (fun i hi => by
          rw [Nat.testBit_or, Bool.or_eq_true] at hi ⊢
          exact hi.imp (hSK i) id) e)
        omega
      · omega
    -- what is to be cut
    obtain ⟨e, he, heK, heT⟩ : ∃ e, (Fr m J C).testBit e = true ∧ K.testBit e = false ∧ ∀ S, Inc S (Fr m J C) → cnt m S + 2 * R (K ||| J) + 1 = cnt m K + 2 * R (S ||| J ||| 2 ^ m) → S.testBit e = true := by
      by_cases c : ∃ S, Inc S (Fr m J C) ∧ cnt m S + 2 * R (K ||| J) + 1 = cnt m K + 2 * R (S ||| J ||| 2 ^ m)
      · obtain ⟨S0, ⟨hS0, eS0⟩, hmin⟩ := exists_max (fun S => Inc S (Fr m J C) ∧ cnt m S + 2 * R (K ||| J) + 1 = cnt m K + 2 * R (S ||| J ||| 2 ^ m)) (fun S => 8 - cnt m S) 8 c (fun S _ => by omega)
        have hnK : ¬ Inc S0 K := fun hSK => by
          have h1 := k1 S0 hS0
          have : R (S0 ||| J ||| 2 ^ m) ≠ R (S0 ||| J) := fun e => he0 (hR.clM (2 ^ m) (fun i hi => by
            rw [Nat.testBit_or, Bool.or_eq_true] at hi ⊢
            exact hi.imp (hSK i) id) e)
          have h2 := hR.mono (S0 ||| J) (S0 ||| J ||| 2 ^ m) (inc_or_l _ _)
          omega
        obtain ⟨e, h1, h2⟩ : ∃ e, S0.testBit e = true ∧ K.testBit e = false := Classical.byContradiction fun c => hnK fun i hi => by
          cases b : K.testBit i with
          | true => rfl
          | false => exact absurd ⟨i, hi, b⟩ c
        refine ⟨e, hS0 e h1, h2, fun S hS eS => ?_⟩
        have hU : Inc (S ||| S0) (Fr m J C) := inc_or hS hS0
        have hI : Inc (S &&& S0) (Fr m J C) := (inc_and_l _ _).trans hS
        have s1 := hR.sub (S ||| J ||| 2 ^ m) (S0 ||| J ||| 2 ^ m)
        rw [or_J, and_J, or_J, and_J] at s1
        have s2 := d0 _ hU
        have s3 := d0 _ hI
        have s4 := cnt_or_and m S S0
        have s5 := hmin (S &&& S0) ⟨hI, by omega⟩
        try simp only at s5
        have s6 := cle (X := S0)
        have s7 := cnt_eq_of_sub (m := m) (s := S &&& S0) (t := S0) (fun i _ hi => inc_and_r S S0 i hi) (by have := cle (X := S &&& S0); omega) e (bit_lt (lt8 hS0) h1)
        rw [h1] at s7
        exact inc_and_l S S0 e s7.symm
      · obtain ⟨e, h1, h2⟩ : ∃ e, (Fr m J C).testBit e = true ∧ K.testBit e = false := Classical.byContradiction fun c2 => by
          have hFK : Inc (Fr m J C) K := fun i hi => by
            cases b : K.testBit i with
            | true => rfl
            | false => exact absurd ⟨i, hi, b⟩ c2
          have eK : K = Fr m J C := Inc.antisymm hK hFK
          have hH : HR R m (dif (2 ^ m - 1) C) := by
            cases k with
            | zero => exact absurd hW hnH
            | succ k =>
              rcases hW with h | h
              · exact absurd h hnH
              · exact h.1
          rw [Fr_all hJ hd, ← eK] at hH
          exact he0 hH
        exact ⟨e, h1, h2, fun S hS eS => absurd ⟨S, hS, eS⟩ c⟩
    -- and what is joined then
    cases k with
    | zero => exact absurd hW hnH
    | succ k =>
      rcases hW with h | ⟨hA, hall⟩
      · exact absurd h hnH
      have hw := hall e he
      have hkC := Fr_cC he hk
      cases k with
      | zero => exact absurd hw hnH
      | succ k =>
        rcases hw with h | ⟨_, f, hf, hw⟩
        · exact absurd h hnH
        have hF : Fr m J (C ||| 2 ^ e) = dif (Fr m J C) (2 ^ e) := Fr_C m J C e
        have hF2 : Fr m (J ||| 2 ^ f) (C ||| 2 ^ e) = dif (Fr m J (C ||| 2 ^ e)) (2 ^ f) := Fr_J m J _ f
        have hfm : f < m := bit_lt (Fr_lt m J (C ||| 2 ^ e)) hf
        have hf0 := hf
        rw [hF] at hf0
        obtain ⟨hfF, hef⟩ := Fr_sub hf0
        have hdf : ∀ i, (J ||| 2 ^ f).testBit i = true → (C ||| 2 ^ e).testBit i = false := fun i hi => by
          rw [Nat.testBit_or, Bool.or_eq_true] at hi
          rw [Nat.testBit_or, Bool.or_eq_false_iff]
          rcases hi with hi | hi
          · refine ⟨hd i hi, ?_⟩
            rw [testBit_pow, decide_eq_false_iff_not]
            rintro rfl
            rw [testBit_Fr, hi] at he
            simp at he
          · rw [testBit_pow, decide_eq_true_eq] at hi
            subst hi
            refine ⟨?_, by rw [testBit_pow]; simp [hef]⟩
            rw [testBit_Fr] at hfF
            cases c : C.testBit f <;> simp [c] at hfF ⊢
        obtain ⟨S, hS, hmx⟩ := ih k (by omega) (J ||| 2 ^ f) (C ||| 2 ^ e) (Fr_cJ hf hkC) (or_lt hJ (pow_lt hfm)) hdf hw
        rw [hF2, hF] at hS
        have hSF : ∀ i, S.testBit i = true → (Fr m J C).testBit i = true ∧ e ≠ i ∧ f ≠ i := fun i hi => by
          obtain ⟨h1, h2⟩ := Fr_sub (m := m) (J := J) (C := C ||| 2 ^ e) (i := f) (j := i) (by rw [hF]; exact hS i hi)
          rw [hF] at h1
          obtain ⟨h3, h4⟩ := Fr_sub h1
          exact ⟨h3, h4, h2⟩
        have hSf : Inc (S ||| 2 ^ f) (Fr m J C) := inc_or (fun i hi => (hSF i hi).1) fun i hi => by
          rw [testBit_pow, decide_eq_true_eq] at hi
          subst hi; exact hfF
        have c1 : cnt m (S ||| 2 ^ f) = cnt m S + 1 := cnt_add hfm (by
          cases b : S.testBit f with
          | false => rfl
          | true => exact absurd rfl (hSF f b).2.2)
        have e1 : S ||| (J ||| 2 ^ f) ||| 2 ^ m = S ||| 2 ^ f ||| J ||| 2 ^ m := by rw [Nat.or_comm J, ← Nat.or_assoc]
        rw [e1] at hmx
        have hd0 := d0 _ hSf
        by_cases hfK : K.testBit f = true
        · have h1 := hmx (dif K (2 ^ f)) fun i hi => by
            rw [testBit_dif, Bool.and_eq_true] at hi
            rw [hF2, hF, testBit_dif, hi.2, Bool.and_true]
            exact Fr_keep (hK i hi.1) (by rintro rfl; rw [heK] at hi; cases hi.1)
          have e2 : dif K (2 ^ f) ||| (J ||| 2 ^ f) = K ||| J := by rw [Nat.or_comm J, ← Nat.or_assoc, dif_or hfK]
          rw [e2] at h1
          have c2 := cnt_dif (lt8 hK) hfK
          omega
        · have h1 := hmx K fun i hi => by
            rw [hF2, hF]
            exact dif_self_pow (Fr_keep (hK i hi) (by rintro rfl; rw [heK] at hi; cases hi)) (by rintro rfl; exact hfK hi)
          have s1 := hR.step (K ||| J) f
          rw [← Nat.or_assoc] at h1
          have := heT (S ||| 2 ^ f) hSf (by omega)
          rw [Nat.testBit_or, testBit_pow, Bool.or_eq_true] at this
          rcases this with h | h
          · exact absurd rfl (hSF e h).2.1
          · rw [decide_eq_true_eq] at h
            exact absurd h.symm hef

/-- Two sets side by side, out of a dense one. -/
theorem Den.two (hR : RkF R) (h8 : m ≤ 8) {F S : Nat} (hF : F < 2 ^ m) (h : Den R m 0 F S) : ∃ A B, Two R m 0 F A B := by
  have hS8 : S < 2 ^ 8 := Nat.lt_of_lt_of_le (lt_of_bits fun i hi => by
    cases b : S.testBit i with
    | false => rfl
    | true => have := h.1 i b; rw [bit_ge hF hi] at this; cases this) (Nat.pow_le_pow_right (by omega) h8)
  have c8 : ∀ {X : Nat}, Inc X S → cnt 8 X = cnt m X := fun {X} hX => cnt_of_lt (lt_of_bits fun i hi => by
    cases b : X.testBit i with
    | false => rfl
    | true => have := h.1 i (hX i b); rw [bit_ge hF hi] at this; cases this) h8
  have hmax := h.2
  simp only [Nat.or_zero] at hmax
  have hm0 := hR.mono S (S ||| 2 ^ m) (inc_or_l _ _)
  obtain ⟨I, i1, i2, i3, i4⟩ := union_two (k := 2 * R (S ||| 2 ^ m)) hS8 hR hR fun A hA => by
    have h1 := hmax A (hA.trans h.1)
    have h2 := cnt_split 8 S A
    rw [Nat.and_comm, inc_and_self hA, c8 hA, c8 (fun i hi => hi)] at h2
    omega
  have j1 := hR.mono I S i1
  refine ⟨I, dif S I, i1.trans h.1, (inc_dif S I).trans h.1, fun i hi => by rw [testBit_dif, hi]; simp, ?_, ?_⟩
  all_goals
    have e : I ||| dif S I = S := bx fun j => by
      have := i1 j
      rw [Nat.testBit_or, testBit_dif]
      cases a : I.testBit j <;> cases b : S.testBit j <;> simp_all
    simp only [Nat.or_zero]
    rw [e]
    omega
end
end Go.SH
