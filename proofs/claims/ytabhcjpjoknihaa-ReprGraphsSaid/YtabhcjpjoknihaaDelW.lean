/-
  The predicate that kinds.without hands to DeleteFunc: it reads, and answers; the rule's contract. Conditions: none.
-/
import Derived.Test.YtabhcjpjoknihaaShelfD
import Derived.Test.YtabhcjpjoknihaaShelfC
import Derived.Test.YtabhcjpjoknihaaDelA
import Derived.Test.YtabhcjpjoknihaaSp
import Derived.Test.YtabhcjpjoknihaaWpslices
import Derived.Test.YtabhcjpjoknihaaAxZ
import Derived.WalkKit
import Derived.Lib.Meet
import Derived.Shelf.Slices.Turned
set_option linter.unusedSimpArgs false
set_option linter.unusedVariables false
namespace Go.Proofs
open Go.Shelf Go.RowKit Go.Lib Go.Sort

set_option maxHeartbeats 4000000 in
theorem Try.cloW {x : Int} {B o : Nat} {u : Value} {b : Bool} (W : World) (h0 : W.cell? ⟨B, o, none⟩ = some u) (h1 : u.oneCell' = true) (h : Calls Try.prog 168 #[u, .int .i64 x] W fun e w' => e = .returned (.bool b) ∧ w' = W) :
    Calls Try.prog 167 #[.int .i64 x, .pointer (some ⟨B, o, none⟩)] W fun e w' => e = .returned (.bool b) ∧ w' = W := by
  go_enter Try.func167, Try.ntmps167
  go_wp2_with (go_at_call 168; refine h.mono ?_; rintro e w' ⟨rfl, rfl⟩)
  go_ret
  exact ⟨rfl, rfl⟩
end Go.Proofs
namespace Go.SH
open Go Go.AX Go.AX.Try Go.Proofs Go.RowKit

theorem immp_inv {F : Fz} {x : AVal} {v : Value} (h : RepV F φ0 (.immp [x]) v) {W : World} (hag : Agree F W) : ∃ B o u, v = .pointer (some ⟨B, o, none⟩) ∧ W.cell? ⟨B, o, none⟩ = some u ∧ u.oneCell' = true ∧ RepV F φ0 x u := by
  cases h with
  | immp _ ad u h1 h2 =>
    have c0 := agree_cellZ hag.1 (h1 0 _ rfl).1
    have e0 : ad.add 0 = ad := rfl
    rw [e0] at c0
    have hp := addr_plainZ c0
    exact ⟨ad.block, ad.off, u 0, by rw [← hp], by rw [← hp]; exact c0, (h1 0 _ rfl).2, h2 0 _ rfl⟩
theorem WB_kinds_without_1 {x : Int} {c0 : List Int} {r : Bool} (h : kinds_without_1 x c0 = some r) : PureB Try.prog 167 ([.int .i64 x] ++ [.immp [.ints .i64 c0]]) r := by
  intro W F vs hag hlen hargs
  simp at hlen
  obtain ⟨v0, v1, rfl⟩ : ∃ v0 v1, vs = #[v0, v1] := ⟨vs[0], vs[1], by
    apply Array.ext
    · simp; omega
    · intro k h1 h2
      have : k = 0 ∨ k = 1 := by simp at h2; omega
      rcases this with rfl | rfl <;> rfl⟩
  have r0 := hargs 0 _ _ rfl rfl
  have r1 := hargs 1 _ _ rfl rfl
  obtain ⟨rfl, hb⟩ := int_inv r0
  obtain ⟨B, o, u, rfl, hc, hu, hr⟩ := immp_inv r1 hag
  have hH : RelH F φ0 0 [] W := ⟨hag.1, fun _ _ => rfl, fun id b q => by simp at q, fun i j bi bj g q => by simp at q, hag.2, fun j i l q => by simp at q⟩
  obtain ⟨b, hC⟩ : ∃ b, Calls Try.prog 168 #[u, .int .i64 x] W fun e w' => e = .returned (.bool b) ∧ w' = W := by
    rcases ints_cells hH hr with ⟨A, c, rfl, _⟩ | ⟨bb, oo, c, rfl, hc1, hc2, hc3⟩
    · exact ⟨_, Any.slices_Contains_int_empty Try.lays107 A c x W⟩
    · exact ⟨_, Any.slices_Contains_int Try.lays107 bb oo c0.length c c0 x W (Nat.le_refl _) (by unfold maxLen at hc2; omega) fun j hj => (hc3 j hj).1⟩
  have h2 := Go.Proofs.Try.cloW W hc hu hC
  have hq : slices_Contains_int_int c0 x = some r := by
    unfold kinds_without_1 at h
    obtain ⟨y, hy, he⟩ := bind_s h
    cases he
    exact hy
  have hp := W_slices_Contains_int_int hq W F #[u, .int .i64 x] hag (by simp) fun i z v hz hv => by
    match i, hz, hv with
    | 0, hz, hv =>
      have e1 : z = .ints .i64 c0 := by simpa using hz.symm
      have e2 : v = u := by simpa using hv.symm
      subst e1 e2
      exact hr
    | 1, hz, hv =>
      have e1 : z = .int .i64 x := by simpa using hz.symm
      have e2 : v = Value.int .i64 x := by simpa using hv.symm
      subst e1 e2
      exact .int _ _ hb.1 hb.2
    | i + 2, hz, hv => simp at hz
  obtain ⟨z, w', q1, q2⟩ := Go.Lib.meet (Q₁ := fun z _ => z = .bool r) (Q₂ := fun z w' => z = .bool b) (by kernel_rfl) (hp.mono fun e w' ⟨z, F', φ', he, _, _, hz, _⟩ => ⟨z, he, by cases hz; rfl⟩) (hC.mono fun e w' ⟨he, _⟩ => ⟨_, he, rfl⟩)
  have e : b = r := by rw [q1] at q2; cases q2; rfl
  rw [← e]
  exact h2.mono fun e w' ⟨he, hw⟩ => ⟨he, 0, hw⟩
end Go.SH
