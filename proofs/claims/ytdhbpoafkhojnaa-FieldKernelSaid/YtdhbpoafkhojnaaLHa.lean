/-
  Families of sets that grow are matroids. Conditions: none.
-/
import Derived.Test.YtdhbpoafkhojnaaLA
import Derived.Test.YtdhbpoafkhojnaaLGg
set_option linter.unusedSimpArgs false
set_option linter.unusedVariables false
namespace Go.SH
open Go Go.AX

theorem swap_lt {m a x y : Nat} (ha : a < 2 ^ m) (hy : y < m) : dif a (2 ^ x) ||| 2 ^ y < 2 ^ m := or_lt (dif_lt ha) (Nat.pow_lt_pow_right (by omega) hy)
/-- The greatest sets of a family that can be grown. -/
theorem aug_mat {n : Nat} (h8 : n ≤ 8) {p : Nat → Prop} {K : List Nat} (hF : Fam n K) (hK : ∀ s, s ∈ K ↔ s < 2 ^ n ∧ p s ∧ ∀ t, t < 2 ^ n → p t → cnt n t ≤ cnt n s) (h0 : p 0)
    (hsub : ∀ s t, Inc s t → p t → p s) (haug : ∀ I J, I < 2 ^ n → J < 2 ^ n → p I → p J → cnt n I < cnt n J → ∃ e, J.testBit e = true ∧ I.testBit e = false ∧ p (I ||| 2 ^ e)) : Mat n K := by
  have best : ∀ d s, s < 2 ^ n → p s → n ≤ cnt n s + d → ∃ b, b ∈ K := by
    intro d
    induction d with
    | zero => exact fun s hs hp hd => ⟨s, (hK s).2 ⟨hs, hp, fun t _ _ => by have := cnt_le n t; omega⟩⟩
    | succ d ih =>
      intro s hs hp hd
      by_cases q : ∀ t, t < 2 ^ n → p t → cnt n t ≤ cnt n s
      · exact ⟨s, (hK s).2 ⟨hs, hp, q⟩⟩
      · have : ∃ t, t < 2 ^ n ∧ p t ∧ cnt n s < cnt n t := by
          apply Classical.byContradiction
          intro hno
          exact q fun t h1 h2 => Nat.le_of_not_lt fun h3 => hno ⟨t, h1, h2, h3⟩
        obtain ⟨t, h1, h2, h3⟩ := this
        exact ih t h1 h2 (by omega)
  refine { hF with ne := ?_, eqc := ?_, ex := ?_ }
  · obtain ⟨b, hb⟩ := best n 0 (Nat.pow_pos (by omega)) h0 (by omega)
    intro e; rw [e] at hb; cases hb
  · intro a ha b hb
    obtain ⟨a1, a2, a3⟩ := (hK a).1 ha
    obtain ⟨b1, b2, b3⟩ := (hK b).1 hb
    have := a3 b b1 b2; have := b3 a a1 a2; omega
  · intro a ha b hb x hax hbx
    obtain ⟨a1, a2, a3⟩ := (hK a).1 ha
    obtain ⟨b1, b2, b3⟩ := (hK b).1 hb
    have hc := cnt_dif (m := n) a1 hax
    have hab := a3 b b1 b2
    have hba := b3 a a1 a2
    obtain ⟨e, e1, e2, e3⟩ := haug (dif a (2 ^ x)) b (dif_lt a1) b1 (hsub _ _ (inc_dif _ _) a2) b2 (by omega)
    have hex : e ≠ x := fun q => by subst q; rw [hbx] at e1; cases e1
    have hae : a.testBit e = false := by
      rw [testBit_dif, testBit_pow] at e2
      have : decide (x = e) = false := decide_eq_false fun q => hex q.symm
      simpa [this] using e2
    have hen := bit_lt b1 e1
    refine ⟨e, e1, hae, (hK _).2 ⟨swap_lt a1 hen, e3, fun t h1 h2 => ?_⟩⟩
    rw [cnt_add hen e2]
    have := a3 t h1 h2
    omega

theorem setof (p : Nat → Prop) : ∀ n, ∃ D, D < 2 ^ n ∧ ∀ x, D.testBit x = true ↔ x < n ∧ p x
  | 0 => ⟨0, by simp, fun x => by simp⟩
  | n + 1 => by
    obtain ⟨D, d1, d2⟩ := setof p n
    by_cases q : p n
    · refine ⟨D ||| 2 ^ n, or_lt (Nat.lt_of_lt_of_le d1 (Nat.pow_le_pow_right (by omega) (by omega))) (Nat.pow_lt_pow_right (by omega) (by omega)), fun x => ?_⟩
      rw [Nat.testBit_or, testBit_pow, Bool.or_eq_true, d2, decide_eq_true_eq]
      constructor
      · rintro (⟨h1, h2⟩ | rfl)
        · exact ⟨by omega, h2⟩
        · exact ⟨by omega, q⟩
      · rintro ⟨h1, h2⟩
        by_cases c : x = n
        · exact .inr c.symm
        · exact .inl ⟨by omega, h2⟩
    · refine ⟨D, Nat.lt_of_lt_of_le d1 (Nat.pow_le_pow_right (by omega) (by omega)), fun x => ?_⟩
      rw [d2]
      constructor
      · rintro ⟨h1, h2⟩; exact ⟨by omega, h2⟩
      · rintro ⟨h1, h2⟩
        by_cases c : x = n
        · subst c; exact absurd h2 q
        · exact ⟨by omega, h2⟩
/-- The set of what f gives on s. -/
theorem image_ex {n : Nat} (f : Nat → Nat) (b : Nat) : ∀ s, s < 2 ^ n → (∀ x, s.testBit x = true → f x < b) → (∀ x y, s.testBit x = true → s.testBit y = true → f x = f y → x = y) → ∃ N, N < 2 ^ b ∧ cnt b N = cnt n s ∧ ∀ j, N.testBit j = true ↔ ∃ x, s.testBit x = true ∧ f x = j := by
  refine set_ind (m := n) (fun s => (∀ x, s.testBit x = true → f x < b) → (∀ x y, s.testBit x = true → s.testBit y = true → f x = f y → x = y) → ∃ N, N < 2 ^ b ∧ cnt b N = cnt n s ∧ ∀ j, N.testBit j = true ↔ ∃ x, s.testBit x = true ∧ f x = j) (fun _ _ => ⟨0, Nat.pow_pos (by omega), by rw [cnt_zero, cnt_zero], fun j => by simp⟩) ?_
  intro s i hs hi hb ih h1 h2
  have bi : (s ||| 2 ^ i).testBit i = true := by rw [Nat.testBit_or, testBit_pow]; simp
  have bv : ∀ v, s.testBit v = true → (s ||| 2 ^ i).testBit v = true := fun v hv => by rw [Nat.testBit_or, hv]; rfl
  obtain ⟨N, n1, n2, n3⟩ := ih (fun x hx => h1 x (bv x hx)) fun x y hx hy => h2 x y (bv x hx) (bv y hy)
  have hno : N.testBit (f i) = false := by
    cases q : N.testBit (f i) with
    | false => rfl
    | true =>
      obtain ⟨x, x1, x2⟩ := (n3 _).1 q
      have := h2 x i (bv x x1) bi x2
      subst this
      rw [hb] at x1; cases x1
  refine ⟨N ||| 2 ^ f i, or_lt n1 (Nat.pow_lt_pow_right (by omega) (h1 i bi)), by rw [cnt_add (h1 i bi) hno, cnt_add hi hb, n2], fun j => ?_⟩
  rw [Nat.testBit_or, testBit_pow, Bool.or_eq_true, n3, decide_eq_true_eq]
  constructor
  · rintro (⟨x, x1, x2⟩ | rfl)
    · exact ⟨x, bv x x1, x2⟩
    · exact ⟨i, bi, rfl⟩
  · rintro ⟨x, x1, x2⟩
    rw [Nat.testBit_or, testBit_pow, Bool.or_eq_true, decide_eq_true_eq] at x1
    rcases x1 with x1 | rfl
    · exact .inl ⟨x, x1, x2⟩
    · exact .inr x2
/-- What the makers of matroids give. -/
def Made (r : Int × List Int × Int) : Prop := (r.2.2 = 0 ∧ axioms_Check r.1 r.2.1 = some 0) ∨ (r.2.2 ≠ 0 ∧ r.1 = 0 ∧ r.2.1 = [])
end Go.SH
