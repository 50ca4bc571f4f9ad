/-
  The predicate that minors.Truncate hands to DeleteFunc: it reads, may draw, and answers; the rule's contract. Conditions: none.
-/
import Derived.Test.YtkjfccdfmjnkbaaShelfD
import Derived.Test.YtkjfccdfmjnkbaaDelA
import Derived.Test.YtkjfccdfmjnkbaaSpminors
import Derived.Test.YtkjfccdfmjnkbaaWpbits
import Derived.Test.YtkjfccdfmjnkbaaAxZ
import Derived.WalkKit
import Derived.Deep.QuietTactic
import Derived.Lib.Meet
set_option linter.unusedSimpArgs false
set_option linter.unusedVariables false
namespace Go.Proofs
open Go.Shelf Go.RowKit Go.Lib Go.Sort

set_option maxHeartbeats 4000000 in
theorem Try.oc64 (x : Int) : ∃ v, ∀ W, Calls Try.prog 106 #[.int .u64 x] W fun e w' => e = .returned v ∧ w' = W := by
  apply Exists.intro
  intro W
  go_enter Try.func106, Try.ntmps106
  go_wp2
  go_ret
  exact ⟨rfl, rfl⟩
set_option maxHeartbeats 4000000 in
theorem Try.ocP {x : Int} {v : Value} (h : ∀ W, Calls Try.prog 106 #[.int .u64 x] W fun e w' => e = .returned v ∧ w' = W) (W : World) : Calls Try.prog 89 #[.int .u64 x] W fun e w' => e = .returned v ∧ w' = W := by
  go_enter Try.func89, Try.ntmps89
  go_wp2_with (go_at_call 106; refine (h _).mono ?_; rintro e w' ⟨rfl, rfl⟩)
  go_ret
  exact ⟨rfl, rfl⟩
set_option maxHeartbeats 4000000 in
theorem Try.szP {x : Int} {v : Value} (h0 : 0 ≤ x) (h1 : x ≤ 9223372036854775807) (h : ∀ W, Calls Try.prog 89 #[.int .u64 x] W fun e w' => e = .returned v ∧ w' = W) (W : World) : Calls Try.prog 68 #[.int .i64 x] W fun e w' => e = .returned v ∧ w' = W := by
  go_enter Try.func68, Try.ntmps68
  go_wp2_with (first | (go_at_call 89; refine (h _).mono ?_; rintro e w' ⟨rfl, rfl⟩))
  go_ret
  exact ⟨rfl, rfl⟩
set_option maxHeartbeats 4000000 in
theorem Try.clo70 {x r : Int} {B o : Nat} {y : Int} (h : ∀ W, Calls Try.prog 68 #[.int .i64 x] W fun e w' => e = .returned (.int .i64 y) ∧ w' = W) (W : World) (h0 : W.cell? ⟨B, o, none⟩ = some (.int .i64 r)) :
    Calls Try.prog 70 #[.int .i64 x, .pointer (some ⟨B, o, none⟩)] W fun e w' => e = .returned (.bool (!decide (y = r))) ∧ ∃ q, w' = W.drewN q := by
  go_enter Try.func70, Try.ntmps70
  go_wp2
  go_quiet (first | (go_at_call 68; refine Calls.quiet_of_same (h _)))
  go_wp2
  go_ret
  exact ⟨rfl, nq, rfl⟩
end Go.Proofs
namespace Go.SH
open Go Go.AX Go.AX.Try Go.Proofs Go.RowKit

theorem intp_inv {F : Fz} {c : Int} {v : Value} (h : RepV F φ0 (.intp .i64 c) v) {W : World} (hag : Agree F W) : ∃ B o, v = .pointer (some ⟨B, o, none⟩) ∧ W.cell? ⟨B, o, none⟩ = some (.int .i64 c) := by
  cases h with
  | intp _ _ _ r0 =>
    cases r0 with
    | immp _ ad u h1 h2 =>
      have c0 := agree_cellZ hag (h1 0 _ rfl).1
      have r1 := h2 0 _ rfl
      have e0 : ad.add 0 = ad := rfl
      rw [e0] at c0
      have hp := addr_plainZ c0
      obtain ⟨e1, _⟩ := int_inv r1
      rw [e1] at c0
      exact ⟨ad.block, ad.off, by rw [← hp], by rw [← hp]; exact c0⟩
theorem oc_val {x : Int} (h0 : 0 ≤ x) (h1 : x ≤ 9223372036854775807) (W : World) : ∀ W, Calls Try.prog 89 #[.int .u64 x] W fun e w' => e = .returned (.int .i64 (oc x)) ∧ w' = W := by
  obtain ⟨v, hv⟩ := Go.Proofs.Try.oc64 x
  have h89 := Go.Proofs.Try.ocP hv
  have hp := bits_OnesCountP x W (fun _ => none) #[.int .u64 x] (fun b o h => by cases h) rfl (fun i z u hz hu => by
    match i, hz, hu with
    | 0, hz, hu =>
      have e1 : z = .int .u64 x := by simpa using hz.symm
      have e2 : u = Value.int .u64 x := by simpa using hu.symm
      subst e1 e2
      exact .int _ _ (by simp [lo]; omega) (by simp [hi]; omega)
    | i + 1, hz, hu => simp at hz)
  obtain ⟨u, w', q1, q2⟩ := Go.Lib.meet (Q₁ := fun u _ => u = .int .i64 (oc x)) (Q₂ := fun u _ => u = v) (by kernel_rfl) (hp.mono fun e w' ⟨u, F', φ', he, _, _, hr, _⟩ => ⟨u, he, (int_inv hr).1⟩) ((h89 W).mono fun e w' ⟨he, _⟩ => ⟨v, he, rfl⟩)
  rw [← q1, q2]
  exact h89
theorem WB_minors_Truncate_1 {x c : Int} {r : Bool} (h : minors_Truncate_1 x c = some r) : PureB Try.prog 70 ([.int .i64 x] ++ [.intp .i64 c]) r := by
  intro W F vs hag hlen hargs
  simp at hlen
  obtain ⟨v0, v1, rfl⟩ : ∃ v0 v1, vs = #[v0, v1] := ⟨vs[0], vs[1], by
    apply Array.ext
    · simp; omega
    · intro k h1 h2
      have : k = 0 ∨ k = 1 := by simp at h2; omega
      rcases this with rfl | rfl <;> rfl⟩
  have r0 := hargs 0 _ _ rfl rfl
  have r1 := hargs 1 _ _ rfl rfl
  obtain ⟨rfl, hb⟩ := int_inv r0
  obtain ⟨B, o, rfl, hc⟩ := intp_inv r1 hag
  unfold minors_Truncate_1 minors_size at h
  have key : 0 ≤ x ∧ r = decide (oc x ≠ c) := by
    by_cases c1 : (0 ≤ x ∧ x ≤ 18446744073709551615)
    · rw [chk_pos c1] at h
      simp [bits_OnesCount] at h
      exact ⟨c1.1, by rw [show decide (oc x ≠ c) = !decide (oc x = c) by simp, h, Bool.not_not]⟩
    · unfold chk at h
      rw [if_neg c1] at h
      simp at h
  obtain ⟨hx, rfl⟩ := key
  have hx1 : x ≤ 9223372036854775807 := by have := hb.2; simp [hi] at this; exact this
  have := Go.Proofs.Try.clo70 (Go.Proofs.Try.szP hx hx1 (oc_val hx hx1 W)) W hc
  have e : (decide (oc x ≠ c)) = (!decide (oc x = c)) := by simp
  rw [e]
  exact this
end Go.SH
