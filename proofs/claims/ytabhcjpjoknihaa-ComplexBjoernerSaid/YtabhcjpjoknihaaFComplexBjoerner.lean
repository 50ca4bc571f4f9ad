/-
  THE STATEMENT 'Rows.ComplexBjoernerSaid': rota/rotakeep.ComplexBjoerner answers true at every input of the statement. Conditions: the statement's own.
-/
import Derived.Test.YtabhcjpjoknihaaRows
import Derived.WalkKit
import Derived.ProofKit
import Derived.OpenShut
import Derived.ShutString
import Derived.ChangeSlices
import Derived.ChangeOld
import Derived.Below
import Derived.Lib.SmallJoins
import Derived.Test.YtabhcjpjoknihaaAxM
import Derived.Test.YtabhcjpjoknihaaWkComplexBjoerner
import Derived.Test.YtabhcjpjoknihaaLxD
set_option linter.unusedSimpArgs false
set_option linter.unusedVariables false
/-- By what the code computes, and by the plain law. -/
theorem Go.AX.Try.complexBjoerner (x0n : Int) (x0l : List Int) : Go.AX.Pure Go.Proofs.Try.prog 13 [.agg [.int .i64 x0n, .ints .i64 x0l]] (.bool true) [] :=
  Go.SH.Pure_of_facts fun hfact => Go.SH.W_rotakeep_ComplexBjoerner (Go.SH.rotakeep_ComplexBjoerner_law x0n x0l (by have := hfact.1.2.1.1; simpa [Go.AX.fact0, maxLen] using this))

namespace Go.Proofs.Ytabhcjpjoknihaa.complexBjoerner
open Go.ChangeShapes Go.WideShapes Go.ChangeAt Go.RowKit
open Go.ChangeMaps (open_string shut_string)

theorem own : ownKnob Try.prog.godebug = none := by kernel_rfl
theorem laidOut : laidOutB Try.prog = true := by kernel_rfl

set_option maxRecDepth 100000 in
theorem lifted (os : Os) (started : os.Started) (H : Type) (enc : TypeId × Value → H) :
    ReturnsInHanded {} Try.checked os 13 .any (Rows.complexBjoernerSpec.pre6 enc Try.prog Try.f13 Rows.complexBjoernerRow.domain false) (Rows.complexBjoernerSpec.post enc Try.prog Try.f13 false true false false) := by
  refine returnsInHanded_of_change (C := Try.checked) own started (by kernel_rfl) Try.func13
    (ChangeSpec.witness6 (enc := enc) (C := Try.checked) false ⟨#[], #[.agg #[.int .i64 0, .slice none 0 0]], []⟩ 8 (by kernel_rfl) (by kernel_rfl) (by kernel_rfl) (by kernel_rfl)) ?_
  intro W base args ds gs before hval0 hW hcnd _
  have hval : ∀ (j : Nat) t v, Try.f13.params[j]? = some t → args[j]? = some v → Value.okWide Try.prog W .any base t v := hval0
  have hW' := hW
  obtain ⟨p, q, hA0, hV, rfl, hfz, hnd⟩ := hW
  have hA : DataW.TrodAll enc Try.prog W 0 (fun _ => true) true Try.f13.params.toList args.toList ds p := hA0
  rw [Try.params13] at hA hval
  obtain ⟨v0, vs0, d0, ds0, p0, q0, hargs, rfl, rfl, h0, r0⟩ := trodAll_cons hA
  obtain ⟨rfl, rfl, rfl⟩ := trodAll_nil r0
  obtain rfl : args = #[v0] := by cases args; simp_all
  obtain ⟨rfl, rfl⟩ := trodVars_none hV
  have k0 := h0
  have lt0 : ∀ x ∈ p0, x.block < W.heap.size := by obtain ⟨m, hm⟩ := k0; exact DataW.trod_lt m _ _ _ hm
  obtain ⟨c0, b0, y0, u0, m0, rfl, rfl, rfl, e0, f0⟩ := Go.Joins.open_agg2 Try.underlying46 (by kernel_rfl) (by kernel_rfl) (hval 0 46 v0 rfl rfl) h0
  obtain ⟨n0, g0, rfl, w0⟩ := DataW.trod_int Try.underlying3 e0
  simp at g0
  subst g0
  obtain ⟨a0, len0, cap0, z0, rfl, l0⟩ : ∃ a len cap zs, b0 = .slice a len cap ∧ Go.AX.InRow .i64 W a len cap zs := by
    rcases open_ints Try.underlying35 Try.underlying3 (by kernel_rfl) f0 with ⟨hcs, _⟩ | ⟨x, l, c, zs, hcs, _, hl, hm, hz, _, hcell, hwz⟩
    · simp at hcs
      exact ⟨_, _, _, [], hcs, .inl ⟨rfl, rfl, rfl, rfl⟩⟩
    · simp at hcs
      exact ⟨_, _, _, zs, hcs, .inr ⟨_, rfl, hl, hm, by simpa using hz, hcell, hwz⟩⟩
  clear hA0 hval0
  refine (Go.AX.Pure.walk (Go.AX.Try.complexBjoerner n0 (z0.take len0)) (w := W) trivial (vs := #[.agg #[.int .i64 n0, .slice a0 len0 cap0]]) ⟨Go.AX.rep_agg2 (Go.AX.rep_int w0) (Go.AX.rep_ints l0) rfl rfl, trivial⟩).mono fun e W' ⟨he, bel⟩ => ?_
  subst he
  exact ⟨_, rfl, _, _, _, [], _, [], hW', trodAll_mk1 (shut_bool Try.underlying4 _), (trodAll_cons_mk (Below.trod laidOut (by kernel_rfl) (of_decide_eq_true (by kernel_rfl)) k0 bel lt0) trodAll_mk0), rfl, bel.frame _, fun h => by cases h⟩

theorem over : Rows.complexBjoernerRow.holds Try.pinned (OpenSpec.ofChange Rows.complexBjoernerSpec) :=
  OpenClaim.holds_of_wide 13 Try.f13 rfl rfl rfl rfl rfl rfl rfl ⟨rfl, rfl, rfl, rfl, rfl⟩ rfl rfl rfl rfl rfl (by kernel_rfl) Try.func13 (by kernel_rfl)
    (of_decide_eq_true (by kernel_rfl)) (by unfold Func.isWrapper; first | (rw [if_pos (by decide +kernel)]; kernel_rfl) | (rw [if_neg (by decide +kernel)]; exact ⟨rfl, rfl⟩))
    (fun os started H enc _ => lifted os started H enc)

theorem proved : Rows.ComplexBjoernerSaid := over
#print axioms proved
end Go.Proofs.Ytabhcjpjoknihaa.complexBjoerner
