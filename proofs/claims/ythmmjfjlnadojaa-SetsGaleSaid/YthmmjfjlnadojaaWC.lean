/-
  Gale's order on sets: reflexive errors, antisymmetric, transitive. Conditions: none.
-/
import Derived.Test.YthmmjfjlnadojaaW4
set_option linter.unusedSimpArgs false
set_option linter.unusedVariables false
namespace Go.AX.Try
open Go Go.AX Go.Proofs

/-- How many of the first elements stand in a set. -/
def sm (a : Int) : Nat → Int
  | 0 => 0
  | k + 1 => sm a k + iand (a / 2 ^ k) 1
theorem belGo_iff (a b : Int) : ∀ (f k : Nat), belGo a b f k (sm a k - sm b k) = true ↔ ∀ j, k < j → j ≤ k + f → sm b j ≤ sm a j
  | 0, k => by simp only [belGo, true_iff]; intro j h1 h2; omega
  | f + 1, k => by
    rw [belGo]
    have e : sm a k - sm b k + (iand (a / 2 ^ k) 1 - iand (b / 2 ^ k) 1) = sm a (k + 1) - sm b (k + 1) := by simp only [sm]; omega
    rw [e]
    split
    · rename_i h
      constructor
      · intro q; cases q
      · intro q; have := q (k + 1) (by omega) (by omega); omega
    · rename_i h
      rw [belGo_iff a b f (k + 1)]
      constructor
      · intro q j h1 h2
        by_cases hj : j = k + 1
        · subst hj; omega
        · exact q j (by omega) (by omega)
      · intro q j h1 h2; exact q j (by omega) (by omega)
theorem bel_iff (a b : Int) : belGo a b 8 0 0 = true ↔ ∀ j, 0 < j → j ≤ 8 → sm b j ≤ sm a j := by
  have := belGo_iff a b 8 0
  simpa [sm] using this
theorem bits8 : ∀ s : Fin 256, (s.val : Int) = (List.range 8).foldl (fun t i => t + (sm s.val (i + 1) - sm s.val i) * 2 ^ i) 0 := of_decide_eq_true (by kernel_rfl)
theorem sm_inj {a b : Int} (ha : 0 ≤ a ∧ a < 256) (hb : 0 ≤ b ∧ b < 256) (h : ∀ j, j ≤ 8 → sm a j = sm b j) : a = b := by
  have h1 := bits8 ⟨a.toNat, by omega⟩
  have h2 := bits8 ⟨b.toNat, by omega⟩
  have ea : ((a.toNat : Nat) : Int) = a := by omega
  have eb : ((b.toNat : Nat) : Int) = b := by omega
  simp only [ea, eb] at h1 h2
  have hr : List.range 8 = [0, 1, 2, 3, 4, 5, 6, 7] := rfl
  rw [hr] at h1 h2
  simp only [List.foldl_cons, List.foldl_nil] at h1 h2
  rw [h1, h2, h 0 (by omega), h (0 + 1) (by omega), h (1 + 1) (by omega), h (2 + 1) (by omega), h (3 + 1) (by omega), h (4 + 1) (by omega), h (5 + 1) (by omega), h (6 + 1) (by omega), h (7 + 1) (by omega)]
  try rfl
theorem belC_iff (a b : Int) : belC a b = 0 ↔ (chk 8 a = 0 ∧ chk 8 b = 0 ∧ oc a = oc b) := by
  unfold belC
  split
  · rename_i h; constructor
    · intro q; cases q
    · rintro ⟨h1, h2, h3⟩; rcases h with h | h <;> contradiction
  · rename_i h
    split
    · rename_i h'; constructor
      · intro q; cases q
      · rintro ⟨_, _, h3⟩; contradiction
    · rename_i h'
      exact ⟨fun _ => ⟨by omega, by omega, by omega⟩, fun _ => rfl⟩
theorem bel35 : belC 3 5 = 0 ∧ belB 3 5 = true := of_decide_eq_true (by kernel_rfl)
theorem belB_bad {a b : Int} (h : ¬ belC a b = 0) : belB a b = false := if_neg h
theorem belB_ok {a b : Int} (h : belC a b = 0) : belB a b = true ↔ ∀ j, 0 < j → j ≤ 8 → sm b j ≤ sm a j := by
  unfold belB; rw [if_pos h]; exact bel_iff a b
theorem gale_anti {a b : Int} (h : belC a b = 0) (h' : belC b a = 0) (h1 : belB a b = true) (h2 : belB b a = true) : a = b := by
  have q1 := (belB_ok h).1 h1
  have q2 := (belB_ok h').1 h2
  have hc := (belC_iff a b).1 h
  refine sm_inj (chk8 hc.1) (chk8 hc.2.1) fun j hj => ?_
  by_cases hz : j = 0
  · subst hz; rfl
  · have := q1 j (by omega) hj
    have := q2 j (by omega) hj
    omega
theorem belC_symm {a b : Int} (h : belC a b = 0) : belC b a = 0 := by
  rw [belC_iff] at h ⊢; exact ⟨h.2.1, h.1, h.2.2.symm⟩
theorem belC_trans {a b c : Int} (h : belC a b = 0) (h' : belC b c = 0) : belC a c = 0 := by
  rw [belC_iff] at h h' ⊢; exact ⟨h.1, h'.2.1, h.2.2.trans h'.2.2⟩
theorem gale_trans {a b c : Int} (h : belC a b = 0) (h' : belC b c = 0) (h1 : belB a b = true) (h2 : belB b c = true) : belB a c = true := by
  rw [belB_ok (belC_trans h h')]
  intro j hj hj'
  have := (belB_ok h).1 h1 j hj hj'
  have := (belB_ok h').1 h2 j hj hj'
  omega
theorem gale_last {a b c : Int} (h : belC a b = 0) : true = (!decide (belC b c = 0) || decide (belC a c = 0) && (!belB a b || !belB b c || belB a c)) := by
  by_cases hb : belC b c = 0
  · have hc := belC_trans h hb
    cases h1 : belB a b with
    | false => simp [hb, hc]
    | true =>
      cases h2 : belB b c with
      | false => simp [hb, hc]
      | true => simp [hb, hc, gale_trans h hb h1 h2]
  · simp [hb]
end Go.AX.Try
