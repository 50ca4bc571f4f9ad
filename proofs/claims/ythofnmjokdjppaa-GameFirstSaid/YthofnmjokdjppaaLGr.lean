/-
  LEHMAN: who wins the game of joining and cutting, by a rank function. Conditions: at most eight elements.
-/
import Derived.Test.YthofnmjokdjppaaLGm
import Derived.Test.YthofnmjokdjppaaLRm
set_option linter.unusedSimpArgs false
set_option linter.unusedVariables false
namespace Go.SH
open Go Go.AX

section
variable {R : Nat → Nat} {m : Nat}

theorem RkF.clM (h : RkF R) {X Y : Nat} (e : Nat) (hXY : Inc X Y) (hX : R (X ||| e) = R X) : R (Y ||| e) = R Y := by
  have h1 := h.sub Y (X ||| e)
  have e1 : Y ||| (X ||| e) = Y ||| e := bx fun j => by
    have := hXY j
    simp only [Nat.testBit_or]
    cases a : X.testBit j <;> cases b : Y.testBit j <;> simp_all
  have h2 := h.mono X (Y &&& (X ||| e)) fun i hi => by rw [Nat.testBit_and, Nat.testBit_or, hi, hXY i hi]; rfl
  have h3 := h.mono Y (Y ||| e) fun i hi => by rw [Nat.testBit_or, hi]; rfl
  rw [e1] at h1
  omega
theorem RkF.clA (h : RkF R) (X : Nat) : ∀ B, B < 2 ^ 8 → (∀ f, B.testBit f = true → R (X ||| 2 ^ f) = R X) → R (X ||| B) = R X := by
  refine set_ind (m := 8) _ ?_ ?_
  · intro _; rw [Nat.or_zero]
  · intro s i hs hi hb ih hall
    have h1 := ih fun f hf => hall f (by rw [Nat.testBit_or, hf]; rfl)
    have h2 := hall i (by rw [Nat.testBit_or, testBit_pow]; simp)
    have h3 := h.clM (Y := X ||| s) (2 ^ i) (fun j hj => by rw [Nat.testBit_or, hj]; rfl) h2
    rw [← Nat.or_assoc, h3, h1]

/-- The game's end, by ranks: the last element hangs on those. -/
def HR (R : Nat → Nat) (m J : Nat) : Prop := R (J ||| 2 ^ m) = R J
theorem HR_mono (h : RkF R) (a b : Nat) (hab : Inc a b) (ha : HR R m a) : HR R m b := h.clM _ hab ha

theorem Fr_all {m J C : Nat} (hJ : J < 2 ^ m) (hd : ∀ i, J.testBit i = true → C.testBit i = false) : dif (2 ^ m - 1) C = Fr m J C ||| J := bx fun j => by
  rw [testBit_dif, Nat.testBit_two_pow_sub_one, Nat.testBit_or, testBit_Fr]
  have h1 := hd j
  have h2 : J.testBit j = true → j < m := fun c => bit_lt hJ c
  cases a : J.testBit j <;> cases b : C.testBit j <;> simp_all

/-- Two sets, side by side, on each of which all hangs. -/
structure Two (R : Nat → Nat) (m J F A B : Nat) : Prop where
  a : Inc A F
  b : Inc B F
  ab : ∀ i, A.testBit i = true → B.testBit i = false
  ra : R (A ||| J) = R (A ||| B ||| J ||| 2 ^ m)
  rb : R (B ||| J) = R (A ||| B ||| J ||| 2 ^ m)
theorem Two.swap {J F A B : Nat} (h : Two R m J F A B) : Two R m J F B A := by
  have e : B ||| A = A ||| B := Nat.or_comm _ _
  refine ⟨h.b, h.a, fun i hi => ?_, by rw [e]; exact h.rb, by rw [e]; exact h.ra⟩
  cases c : A.testBit i with
  | false => rfl
  | true => rw [h.ab i c] at hi; cases hi

theorem leh1 (hR : RkF R) (h8 : m ≤ 8) : ∀ (k J C A B : Nat), cnt m (Fr m J C) = k → J < 2 ^ m → (∀ i, J.testBit i = true → C.testBit i = false) → Two R m J (Fr m J C) A B → Win (HR R m) m k J C false := by
  intro k
  induction k using Nat.strongRecOn with
  | ind k ih =>
    intro J C A B hk hJ hd hT
    have hFl := Fr_lt m J C
    have lt8 : ∀ {X : Nat}, Inc X (Fr m J C) → X < 2 ^ 8 := fun {X} hX => lt_of_bits fun i hi => by
      cases b : X.testBit i with
      | false => rfl
      | true => have := hX i b; rw [bit_ge hFl (by omega)] at this; cases this
    cases k with
    | zero =>
      have z : ∀ {X : Nat}, Inc X (Fr m J C) → X = 0 := fun {X} hX => Classical.byContradiction fun c => by
        obtain ⟨i, hi⟩ := exists_bit c
        have := cnt_pos hFl (hX i hi)
        omega
      have h1 := hT.ra
      rw [z hT.a, z hT.b] at h1
      simp only [Nat.zero_or] at h1
      exact h1.symm
    | succ k =>
      have hall := Fr_all hJ hd
      -- what hangs on some of those that are left
      have hang : ∀ {A B J' C' : Nat}, J' < 2 ^ m → (∀ i, J'.testBit i = true → C'.testBit i = false) → Two R m J' (Fr m J' C') A B → HR R m (dif (2 ^ m - 1) C') := fun {A B J' C'} hJ' hd' hT' => by
        rw [Fr_all hJ' hd']
        have h1 : HR R m (A ||| J') := by
          have m1 := hR.mono (A ||| J') (A ||| J' ||| 2 ^ m) (inc_or_l _ _)
          have m2 := hR.mono (A ||| J' ||| 2 ^ m) (A ||| B ||| J' ||| 2 ^ m) fun i hi => by
            simp only [Nat.testBit_or, Bool.or_eq_true] at hi ⊢
            rcases hi with (hi | hi) | hi
            · exact .inl (.inl (.inl hi))
            · exact .inl (.inr hi)
            · exact .inr hi
          have := hT'.ra
          show R _ = R _
          omega
        refine HR_mono hR _ _ (fun i hi => ?_) h1
        simp only [Nat.testBit_or, Bool.or_eq_true] at hi ⊢
        exact hi.imp (hT'.a i) id
      have hboth := fun J' C' => win_both (m := m) (H := HR R m) (HR_mono hR) _ J' C' rfl
      refine .inr ⟨hang hJ hd hT, fun e he => ?_⟩
      have hdC : ∀ i, J.testBit i = true → (C ||| 2 ^ e).testBit i = false := fun i hi => by
        rw [Nat.testBit_or, hd i hi, testBit_pow, Bool.false_or, decide_eq_false_iff_not]
        rintro rfl
        rw [testBit_Fr, hi] at he
        simp at he
      have hkC := Fr_cC he hk
      have hF : Fr m J (C ||| 2 ^ e) = dif (Fr m J C) (2 ^ e) := Fr_C m J C e
      have easy : ∀ {A B : Nat}, Two R m J (Fr m J (C ||| 2 ^ e)) A B → Win (HR R m) m k J (C ||| 2 ^ e) true := fun {A B} hT' => by
        have := ih k (by omega) J (C ||| 2 ^ e) A B hkC hJ hdC hT'
        have hb := (hboth J (C ||| 2 ^ e)).2
        rw [hkC] at hb
        exact hb this
      -- where one of the two is hit
      have hit : ∀ {A B : Nat}, Two R m J (Fr m J C) A B → A.testBit e = true → Win (HR R m) m k J (C ||| 2 ^ e) true := fun {A B} hT hA => by
        have hBe := hT.ab e hA
        have eA : dif A (2 ^ e) ||| 2 ^ e = A := dif_or hA
        have a' : Inc (dif A (2 ^ e)) (Fr m J (C ||| 2 ^ e)) := fun i hi => by
          rw [hF]
          rw [testBit_dif, Bool.and_eq_true] at hi
          rw [testBit_dif, hT.a i hi.1, hi.2]; rfl
        have b' : Inc B (Fr m J (C ||| 2 ^ e)) := fun i hi => by
          rw [hF]
          exact Fr_keep (hT.b i hi) (by rintro rfl; rw [hBe] at hi; cases hi)
        have ab' : ∀ i, (dif A (2 ^ e)).testBit i = true → B.testBit i = false := fun i hi => hT.ab i (by rw [testBit_dif, Bool.and_eq_true] at hi; exact hi.1)
        have w1 := hR.mono (B ||| J) (dif A (2 ^ e) ||| B ||| J ||| 2 ^ m) fun i hi => by
          simp only [Nat.testBit_or, Bool.or_eq_true] at hi ⊢
          rcases hi with hi | hi
          · exact .inl (.inl (.inr hi))
          · exact .inl (.inr hi)
        have w2 := hR.mono (dif A (2 ^ e) ||| B ||| J ||| 2 ^ m) (A ||| B ||| J ||| 2 ^ m) fun i hi => by
          simp only [Nat.testBit_or, Bool.or_eq_true, testBit_dif, Bool.and_eq_true] at hi ⊢
          rcases hi with ((hi | hi) | hi) | hi
          · exact .inl (.inl (.inl hi.1))
          · exact .inl (.inl (.inr hi))
          · exact .inl (.inr hi)
          · exact .inr hi
        have ra := hT.ra
        have rb := hT.rb
        by_cases hr : R (dif A (2 ^ e) ||| J) = R (A ||| J)
        · exact easy ⟨a', b', ab', by omega, by omega⟩
        · obtain ⟨f, hf, hfr⟩ : ∃ f, B.testBit f = true ∧ R (dif A (2 ^ e) ||| J ||| 2 ^ f) ≠ R (dif A (2 ^ e) ||| J) := Classical.byContradiction fun c => by
            have hcl := hR.clA (dif A (2 ^ e) ||| J) B (lt8 hT.b) fun f hf => Classical.byContradiction fun c2 => c ⟨f, hf, c2⟩
            have m1 := hR.mono (B ||| J) (dif A (2 ^ e) ||| J ||| B) fun i hi => by
              simp only [Nat.testBit_or, Bool.or_eq_true] at hi ⊢
              rcases hi with hi | hi
              · exact .inr hi
              · exact .inl (.inr hi)
            have m2 := hR.mono (dif A (2 ^ e) ||| J) (A ||| J) fun i hi => by
              simp only [Nat.testBit_or, Bool.or_eq_true, testBit_dif, Bool.and_eq_true] at hi ⊢
              exact hi.imp (fun q => q.1) id
            omega
          have hfF := b' f hf
          obtain ⟨k', rfl⟩ : ∃ k', k = k' + 1 := ⟨k - 1, by have := cnt_pos (Fr_lt m J (C ||| 2 ^ e)) hfF; omega⟩
          have hfm : f < m := bit_lt (Fr_lt m J (C ||| 2 ^ e)) hfF
          have hef : e ≠ f := by rintro rfl; rw [hBe] at hf; cases hf
          have hJf : J ||| 2 ^ f < 2 ^ m := or_lt hJ (pow_lt hfm)
          have hdf : ∀ i, (J ||| 2 ^ f).testBit i = true → (C ||| 2 ^ e).testBit i = false := fun i hi => by
            rw [Nat.testBit_or, Bool.or_eq_true] at hi
            rcases hi with hi | hi
            · exact hdC i hi
            · rw [testBit_pow, decide_eq_true_eq] at hi
              subst hi
              rw [testBit_Fr] at hfF
              cases c : (C ||| 2 ^ e).testBit f <;> simp [c] at hfF ⊢
          have hF2 : Fr m (J ||| 2 ^ f) (C ||| 2 ^ e) = dif (Fr m J (C ||| 2 ^ e)) (2 ^ f) := Fr_J m J _ f
          have hAf : (dif A (2 ^ e)).testBit f = false := by
            cases c : (dif A (2 ^ e)).testBit f with
            | false => rfl
            | true => rw [ab' f c] at hf; cases hf
          have eB : dif B (2 ^ f) ||| 2 ^ f = B := dif_or hf
          have e1 : dif A (2 ^ e) ||| (J ||| 2 ^ f) = dif A (2 ^ e) ||| J ||| 2 ^ f := (Nat.or_assoc _ _ _).symm
          have e2 : dif B (2 ^ f) ||| (J ||| 2 ^ f) = B ||| J := by
            rw [show dif B (2 ^ f) ||| (J ||| 2 ^ f) = dif B (2 ^ f) ||| 2 ^ f ||| J by rw [Nat.or_comm J, ← Nat.or_assoc], eB]
          have e3 : dif A (2 ^ e) ||| dif B (2 ^ f) ||| (J ||| 2 ^ f) ||| 2 ^ m = dif A (2 ^ e) ||| B ||| J ||| 2 ^ m := by
            rw [Nat.or_assoc (dif A (2 ^ e)), e2, ← Nat.or_assoc]
          have s1 := hR.step (dif A (2 ^ e) ||| J) f
          have s2 := hR.mono (dif A (2 ^ e) ||| J) (dif A (2 ^ e) ||| J ||| 2 ^ f) (inc_or_l _ _)
          have s3 : R (A ||| J) ≤ R (dif A (2 ^ e) ||| J) + 1 := by
            have := hR.step (dif A (2 ^ e) ||| J) e
            rwa [show dif A (2 ^ e) ||| J ||| 2 ^ e = A ||| J by rw [Nat.or_assoc, Nat.or_comm J, ← Nat.or_assoc, eA]] at this
          have s4 := hR.mono (dif A (2 ^ e) ||| J ||| 2 ^ f) (A ||| B ||| J ||| 2 ^ m) fun i hi => by
            simp only [Nat.testBit_or, Bool.or_eq_true, testBit_dif, Bool.and_eq_true, testBit_pow, decide_eq_true_eq] at hi ⊢
            rcases hi with (hi | hi) | hi
            · exact .inl (.inl (.inl hi.1))
            · exact .inl (.inr hi)
            · subst hi; exact .inl (.inl (.inr hf))
          have hT2 : Two R m (J ||| 2 ^ f) (Fr m (J ||| 2 ^ f) (C ||| 2 ^ e)) (dif A (2 ^ e)) (dif B (2 ^ f)) := by
            refine ⟨fun i hi => ?_, fun i hi => ?_, fun i hi => ?_, ?_, ?_⟩
            · rw [hF2]
              exact Fr_keep (a' i hi) (by rintro rfl; rw [hAf] at hi; cases hi)
            · rw [hF2]
              rw [testBit_dif, Bool.and_eq_true] at hi
              rw [testBit_dif, b' i hi.1, hi.2]; rfl
            · rw [testBit_dif, ab' i hi]; rfl
            · rw [e1, e3]; omega
            · rw [e2, e3]; omega
          exact .inr ⟨by have := hang hJf hdf hT2; exact this, f, hfF, ih k' (by omega) _ _ _ _ (Fr_cJ hfF hkC) hJf hdf hT2⟩
      by_cases hA : A.testBit e = true
      · exact hit hT hA
      · by_cases hB : B.testBit e = true
        · exact hit hT.swap hB
        · refine easy (A := A) (B := B) ⟨fun i hi => ?_, fun i hi => ?_, hT.ab, hT.ra, hT.rb⟩
          · rw [hF]; exact Fr_keep (hT.a i hi) (by rintro rfl; exact hA hi)
          · rw [hF]; exact Fr_keep (hT.b i hi) (by rintro rfl; exact hB hi)
end
end Go.SH
