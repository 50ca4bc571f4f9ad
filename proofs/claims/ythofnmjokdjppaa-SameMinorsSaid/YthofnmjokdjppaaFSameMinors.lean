/-
  THE STATEMENT 'Rows.SameMinorsSaid': rota/rotakeep.SameMinors answers true at every input of the statement. Conditions: the statement's own.
-/
import Derived.Test.YthofnmjokdjppaaRows
import Derived.WalkKit
import Derived.ProofKit
import Derived.OpenShut
import Derived.ShutString
import Derived.ChangeSlices
import Derived.ChangeOld
import Derived.Below
import Derived.Lib.SmallJoins
import Derived.Test.YthofnmjokdjppaaAxM
import Derived.Test.YthofnmjokdjppaaWkSameMinors
import Derived.Test.YthofnmjokdjppaaLSr
set_option linter.unusedSimpArgs false
set_option linter.unusedVariables false
/-- By what the code computes, and by the plain law. -/
theorem Go.AX.Try.sameMinors (x0n : Int) (x0l : List Int) (x1n : Int) (x1l : List Int) (x2 : Int) (x3 : Int) : Go.AX.Pure Go.Proofs.Try.prog 4 [.agg [.int .i64 x0n, .ints .i64 x0l], .agg [.int .i64 x1n, .ints .i64 x1l], .int .i64 x2, .int .i64 x3] (.bool true) [] :=
  Go.SH.Pure_of_facts fun hfact => Go.SH.W_rotakeep_SameMinors (Go.SH.rotakeep_SameMinors_law x0n x0l x1n x1l x2 x3 (by have := hfact.1.2.1.1; simpa [Go.AX.fact0, maxLen] using this) (by have := hfact.2.1.2.1.1; simpa [Go.AX.fact0, maxLen] using this))

namespace Go.Proofs.Ythofnmjokdjppaa.sameMinors
open Go.ChangeShapes Go.WideShapes Go.ChangeAt Go.RowKit
open Go.ChangeMaps (open_string shut_string)

theorem own : ownKnob Try.prog.godebug = none := by kernel_rfl
theorem laidOut : laidOutB Try.prog = true := by kernel_rfl

set_option maxRecDepth 100000 in
theorem lifted (os : Os) (started : os.Started) (H : Type) (enc : TypeId × Value → H) :
    ReturnsInHanded {} Try.checked os 4 .any (Rows.sameMinorsSpec.pre6 enc Try.prog Try.f4 Rows.sameMinorsRow.domain false) (Rows.sameMinorsSpec.post enc Try.prog Try.f4 false true false false) := by
  refine returnsInHanded_of_change (C := Try.checked) own started (by kernel_rfl) Try.func4
    (ChangeSpec.witness6 (enc := enc) (C := Try.checked) false ⟨#[], #[.agg #[.int .i64 0, .slice none 0 0], .agg #[.int .i64 0, .slice none 0 0], .int .i64 0, .int .i64 0], []⟩ 8 (by kernel_rfl) (by kernel_rfl) (by kernel_rfl) (by kernel_rfl)) ?_
  intro W base args ds gs before hval0 hW hcnd _
  have hval : ∀ (j : Nat) t v, Try.f4.params[j]? = some t → args[j]? = some v → Value.okWide Try.prog W .any base t v := hval0
  have hW' := hW
  obtain ⟨p, q, hA0, hV, rfl, hfz, hnd⟩ := hW
  have hA : DataW.TrodAll enc Try.prog W 0 (fun _ => true) true Try.f4.params.toList args.toList ds p := hA0
  rw [Try.params4] at hA hval
  obtain ⟨v0, vs0, d0, ds0, p0, q0, hargs, rfl, rfl, h0, r0⟩ := trodAll_cons hA
  obtain ⟨v1, vs1, d1, ds1, p1, q1, rfl, rfl, rfl, h1, r1⟩ := trodAll_cons r0
  obtain ⟨v2, vs2, d2, ds2, p2, q2, rfl, rfl, rfl, h2, r2⟩ := trodAll_cons r1
  obtain ⟨v3, vs3, d3, ds3, p3, q3, rfl, rfl, rfl, h3, r3⟩ := trodAll_cons r2
  obtain ⟨rfl, rfl, rfl⟩ := trodAll_nil r3
  obtain rfl : args = #[v0, v1, v2, v3] := by cases args; simp_all
  obtain ⟨rfl, rfl⟩ := trodVars_none hV
  have k0 := h0
  have lt0 : ∀ x ∈ p0, x.block < W.heap.size := by obtain ⟨m, hm⟩ := k0; exact DataW.trod_lt m _ _ _ hm
  obtain ⟨c0, b0, y0, u0, m0, rfl, rfl, rfl, e0, f0⟩ := Go.Joins.open_agg2 Try.underlying24 (by kernel_rfl) (by kernel_rfl) (hval 0 24 v0 rfl rfl) h0
  obtain ⟨n0, g0, rfl, w0⟩ := DataW.trod_int Try.underlying3 e0
  simp at g0
  subst g0
  obtain ⟨a0, len0, cap0, z0, rfl, l0⟩ : ∃ a len cap zs, b0 = .slice a len cap ∧ Go.AX.InRow .i64 W a len cap zs := by
    rcases open_ints Try.underlying22 Try.underlying3 (by kernel_rfl) f0 with ⟨hcs, _⟩ | ⟨x, l, c, zs, hcs, _, hl, hm, hz, _, hcell, hwz⟩
    · simp at hcs
      exact ⟨_, _, _, [], hcs, .inl ⟨rfl, rfl, rfl, rfl⟩⟩
    · simp at hcs
      exact ⟨_, _, _, zs, hcs, .inr ⟨_, rfl, hl, hm, by simpa using hz, hcell, hwz⟩⟩
  have k1 := h1
  have lt1 : ∀ x ∈ p1, x.block < W.heap.size := by obtain ⟨m, hm⟩ := k1; exact DataW.trod_lt m _ _ _ hm
  obtain ⟨c1, b1, y1, u1, m1, rfl, rfl, rfl, e1, f1⟩ := Go.Joins.open_agg2 Try.underlying24 (by kernel_rfl) (by kernel_rfl) (hval 1 24 v1 rfl rfl) h1
  obtain ⟨n1, g1, rfl, w1⟩ := DataW.trod_int Try.underlying3 e1
  simp at g1
  subst g1
  obtain ⟨a1, len1, cap1, z1, rfl, l1⟩ : ∃ a len cap zs, b1 = .slice a len cap ∧ Go.AX.InRow .i64 W a len cap zs := by
    rcases open_ints Try.underlying22 Try.underlying3 (by kernel_rfl) f1 with ⟨hcs, _⟩ | ⟨x, l, c, zs, hcs, _, hl, hm, hz, _, hcell, hwz⟩
    · simp at hcs
      exact ⟨_, _, _, [], hcs, .inl ⟨rfl, rfl, rfl, rfl⟩⟩
    · simp at hcs
      exact ⟨_, _, _, zs, hcs, .inr ⟨_, rfl, hl, hm, by simpa using hz, hcell, hwz⟩⟩
  obtain ⟨a2, rfl, rfl, rfl, w2⟩ := open_int Try.underlying3 (hval 2 3 v2 rfl rfl) h2
  obtain ⟨a3, rfl, rfl, rfl, w3⟩ := open_int Try.underlying3 (hval 3 3 v3 rfl rfl) h3
  clear hA0 hval0
  refine (Go.AX.Pure.walk (Go.AX.Try.sameMinors n0 (z0.take len0) n1 (z1.take len1) a2 a3) (w := W) trivial (vs := #[.agg #[.int .i64 n0, .slice a0 len0 cap0], .agg #[.int .i64 n1, .slice a1 len1 cap1], .int .i64 a2, .int .i64 a3]) ⟨Go.AX.rep_agg2 (Go.AX.rep_int w0) (Go.AX.rep_ints l0) rfl rfl, Go.AX.rep_agg2 (Go.AX.rep_int w1) (Go.AX.rep_ints l1) rfl rfl, Go.AX.rep_int w2, Go.AX.rep_int w3, trivial⟩).mono fun e W' ⟨he, bel⟩ => ?_
  subst he
  exact ⟨_, rfl, _, _, _, [], _, [], hW', trodAll_mk1 (shut_bool Try.underlying4 _), (trodAll_cons_mk (Below.trod laidOut (by kernel_rfl) (of_decide_eq_true (by kernel_rfl)) k0 bel lt0) (trodAll_cons_mk (Below.trod laidOut (by kernel_rfl) (of_decide_eq_true (by kernel_rfl)) k1 bel lt1) (trodAll_cons_mk (shut_int Try.underlying3 w2) (trodAll_cons_mk (shut_int Try.underlying3 w3) trodAll_mk0)))), rfl, bel.frame _, fun h => by cases h⟩

theorem over : Rows.sameMinorsRow.holds Try.pinned (OpenSpec.ofChange Rows.sameMinorsSpec) :=
  OpenClaim.holds_of_wide 4 Try.f4 rfl rfl rfl rfl rfl rfl rfl ⟨rfl, rfl, rfl, rfl, rfl⟩ rfl rfl rfl rfl rfl (by kernel_rfl) Try.func4 (by kernel_rfl)
    (of_decide_eq_true (by kernel_rfl)) (by unfold Func.isWrapper; first | (rw [if_pos (by decide +kernel)]; kernel_rfl) | (rw [if_neg (by decide +kernel)]; exact ⟨rfl, rfl⟩))
    (fun os started H enc _ => lifted os started H enc)

theorem proved : Rows.SameMinorsSaid := over
#print axioms proved
end Go.Proofs.Ythofnmjokdjppaa.sameMinors
