/-
  Three sums of two numbers each, of bases that split four elements: the greatest is there twice. Plain: no program in sight. Conditions: none.
-/
import Derived.Test.YtdfclknhgpkghaaHS
set_option linter.unusedSimpArgs false
set_option linter.unusedVariables false
namespace Go.SH
open Go Go.AX

/-- A set and two elements. -/
def two2 (s x y : Nat) : Nat := s ||| (2 ^ x ||| 2 ^ y)
theorem testBit_two2 (s x y i : Nat) : (two2 s x y).testBit i = true ↔ s.testBit i = true ∨ i = x ∨ i = y := by
  unfold two2
  simp only [Nat.testBit_or, testBit_pow, Bool.or_eq_true, decide_eq_true_eq]
  constructor
  · rintro (h | rfl | rfl)
    · exact .inl h
    · exact .inr (.inl rfl)
    · exact .inr (.inr rfl)
  · rintro (h | rfl | rfl)
    · exact .inl h
    · exact .inr (.inl rfl)
    · exact .inr (.inr rfl)
theorem two2_swap {s x k y : Nat} (hx : s.testBit x = false) (hxk : x ≠ k) : dif (two2 s x k) (2 ^ x) ||| 2 ^ y = two2 s k y := by
  apply Nat.eq_of_testBit_eq; intro i
  rw [Bool.eq_iff_iff, testBit_two2, Nat.testBit_or, testBit_dif, testBit_pow, testBit_pow]
  simp only [Bool.or_eq_true, Bool.and_eq_true, Bool.not_eq_true', decide_eq_true_eq, decide_eq_false_iff_not, testBit_two2]
  constructor
  · rintro (⟨h1 | rfl | rfl, h2⟩ | rfl)
    · exact .inl h1
    · exact absurd rfl h2
    · exact .inr (.inl rfl)
    · exact .inr (.inr rfl)
  · rintro (h | rfl | rfl)
    · exact .inl ⟨.inl h, by rintro rfl; rw [hx] at h; cases h⟩
    · exact .inl ⟨.inr (.inr rfl), hxk⟩
    · exact .inr rfl
theorem two2_comm (s x y : Nat) : two2 s x y = two2 s y x := by unfold two2; rw [Nat.or_comm (2 ^ x)]
theorem two2_dif {s q x k y z : Nat} (hq : ∀ i, q.testBit i = true ↔ i = x ∨ i = k ∨ i = y ∨ i = z) (h1 : x ≠ y) (h2 : x ≠ z) (h3 : k ≠ y) (h4 : k ≠ z) : s ||| dif q (2 ^ x ||| 2 ^ k) = two2 s y z := by
  apply Nat.eq_of_testBit_eq; intro i
  rw [Bool.eq_iff_iff, testBit_two2, Nat.testBit_or, testBit_dif, Nat.testBit_or, testBit_pow, testBit_pow]
  simp only [Bool.or_eq_true, Bool.and_eq_true, Bool.not_eq_true', Bool.or_eq_false_iff, decide_eq_true_eq, decide_eq_false_iff_not, hq]
  constructor
  · rintro (h | ⟨rfl | rfl | rfl | rfl, h5, h6⟩)
    · exact .inl h
    · exact absurd rfl h5
    · exact absurd rfl h6
    · exact .inr (.inl rfl)
    · exact .inr (.inr rfl)
  · rintro (h | rfl | rfl)
    · exact .inl h
    · exact .inr ⟨.inr (.inr (.inl rfl)), h1, h3⟩
    · exact .inr ⟨.inr (.inr (.inr rfl)), h2, h4⟩

/-- What is asked of numbers of bases. -/
def Exv (V : List (Nat × Int)) : Prop := ∀ a, a ∈ V → ∀ b, b ∈ V → ∀ x, a.1.testBit x = true → b.1.testBit x = false → ∃ y p q, b.1.testBit y = true ∧ a.1.testBit y = false ∧ (dif a.1 (2 ^ x) ||| 2 ^ y, p) ∈ V ∧ (dif b.1 (2 ^ y) ||| 2 ^ x, q) ∈ V ∧ a.2 + b.2 ≤ p + q

theorem Exv.split {V : List (Nat × Int)} (h : Exv V) {s x k y z : Nat} {p r : Int} (hx : s.testBit x = false) (hk : s.testBit k = false) (hy : s.testBit y = false) (hz : s.testBit z = false)
    (xk : x ≠ k) (xy : x ≠ y) (xz : x ≠ z) (ky : k ≠ y) (kz : k ≠ z) (yz : y ≠ z) (h1 : (two2 s x k, p) ∈ V) (h2 : (two2 s y z, r) ∈ V) :
    (∃ p' r', (two2 s x z, p') ∈ V ∧ (two2 s k y, r') ∈ V ∧ p + r ≤ p' + r') ∨ (∃ p' r', (two2 s x y, p') ∈ V ∧ (two2 s k z, r') ∈ V ∧ p + r ≤ p' + r') := by
  obtain ⟨w, p', q', w1, w2, w3, w4, w5⟩ := h _ h1 _ h2 x ((testBit_two2 ..).2 (.inr (.inl rfl))) (by
    cases e : (two2 s y z).testBit x
    · rfl
    · rcases (testBit_two2 ..).1 e with q | q | q
      · rw [hx] at q; cases q
      · exact absurd q xy
      · exact absurd q xz)
  simp only at w1 w2 w3 w4 w5
  rw [two2_swap hx xk] at w3
  rcases (testBit_two2 ..).1 w1 with q | rfl | rfl
  · have : (two2 s x k).testBit w = true := (testBit_two2 ..).2 (.inl q)
    rw [w2] at this; cases this
  · rw [two2_swap hy yz, two2_comm s z x] at w4
    exact .inl ⟨q', p', w4, w3, by omega⟩
  · rw [two2_comm s y w, two2_swap hz (fun e => yz e.symm), two2_comm s y x] at w4
    exact .inr ⟨q', p', w4, w3, by omega⟩

/-- The round of the loop. -/
def vstep (bt : Int × Int) (v : Option Int) : Int × Int := match v with
  | none => bt
  | some v => if bt.2 = 0 ∨ bt.1 < v then (v, 1) else if v = bt.1 then (bt.1, bt.2 + 1) else bt
theorem vsteps {a b c : Option Int} (ha : ∀ v, a = some v → ∃ w, v ≤ w ∧ (b = some w ∨ c = some w)) (hb : ∀ v, b = some v → ∃ w, v ≤ w ∧ (a = some w ∨ c = some w)) (hc : ∀ v, c = some v → ∃ w, v ≤ w ∧ (a = some w ∨ b = some w)) :
    (vstep (vstep (vstep (0, 0) a) b) c).2 ≠ 1 := by
  cases a with
  | none =>
    cases b with
    | none =>
      cases c with
      | none => simp [vstep]
      | some c => obtain ⟨w, _, h | h⟩ := hc c rfl <;> cases h
    | some b =>
      obtain ⟨w, h1, h | h⟩ := hb b rfl
      · cases h
      · subst h
        obtain ⟨w', h2, h | h⟩ := hc w rfl
        · cases h
        · cases h
          have : b = w := by omega
          subst this; simp [vstep]
  | some a =>
    cases b with
    | none =>
      obtain ⟨w, h1, h | h⟩ := ha a rfl
      · cases h
      · subst h
        obtain ⟨w', h2, h | h⟩ := hc w rfl
        · cases h
          have : a = w := by omega
          subst this; simp [vstep]
        · cases h
    | some b =>
      cases c with
      | none =>
        obtain ⟨w, h1, h | h⟩ := ha a rfl
        · cases h
          obtain ⟨w', h2, h | h⟩ := hb b rfl
          · cases h
            have : a = b := by omega
            subst this; simp [vstep]
          · cases h
        · cases h
      | some c =>
        have h1 : a ≤ b ∨ a ≤ c := by
          obtain ⟨w, h1, h | h⟩ := ha a rfl <;> cases h
          · exact .inl h1
          · exact .inr h1
        have h2 : b ≤ a ∨ b ≤ c := by
          obtain ⟨w, h1, h | h⟩ := hb b rfl <;> cases h
          · exact .inl h1
          · exact .inr h1
        have h3 : c ≤ a ∨ c ≤ b := by
          obtain ⟨w, h1, h | h⟩ := hc c rfl <;> cases h
          · exact .inl h1
          · exact .inr h1
        simp only [vstep]
        simp only [true_or, if_true]
        by_cases e1 : a < b
        · have : b = c := by omega
          subst this
          simp [e1]
        · by_cases e2 : b = a
          · subst e2
            simp
            split
            · omega
            · split <;> simp
          · simp [e1, e2]
            have : ¬ a < c := by omega
            have : c = a := by omega
            subst this; simp
end Go.SH
