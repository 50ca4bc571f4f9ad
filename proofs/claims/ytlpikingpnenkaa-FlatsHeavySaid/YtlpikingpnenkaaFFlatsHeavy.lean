/-
  THE STATEMENT 'Rows.FlatsHeavySaid': rota/rotakeep.FlatsHeavy answers true at every input of the statement. Conditions: the statement's own.
-/
import Derived.Test.YtlpikingpnenkaaRows
import Derived.WalkKit
import Derived.ProofKit
import Derived.OpenShut
import Derived.ShutString
import Derived.ChangeSlices
import Derived.ChangeOld
import Derived.Below
import Derived.Lib.SmallJoins
import Derived.Test.YtlpikingpnenkaaAxM
import Derived.Test.YtlpikingpnenkaaWkFlatsHeavy
import Derived.Test.YtlpikingpnenkaaLhZ
set_option linter.unusedSimpArgs false
set_option linter.unusedVariables false
/-- By what the code computes, and by the plain law. -/
theorem Go.AX.Try.flatsHeavy (x0n : Int) (x0l : List Int) : Go.AX.Pure Go.Proofs.Try.prog 5 [.agg [.int .i64 x0n, .ints .i64 x0l]] (.bool true) [] :=
  Go.SH.Pure_of_facts fun hfact => Go.SH.W_rotakeep_FlatsHeavy (Go.SH.rotakeep_FlatsHeavy_law x0n x0l (by have := hfact.1.2.1.1; simpa [Go.AX.fact0, maxLen] using this))

namespace Go.Proofs.Ytlpikingpnenkaa.flatsHeavy
open Go.ChangeShapes Go.WideShapes Go.ChangeAt Go.RowKit
open Go.ChangeMaps (open_string shut_string)

theorem own : ownKnob Try.prog.godebug = none := by kernel_rfl
theorem laidOut : laidOutB Try.prog = true := by kernel_rfl

set_option maxRecDepth 100000 in
theorem lifted (os : Os) (started : os.Started) (H : Type) (enc : TypeId × Value → H) :
    ReturnsInHanded {} Try.checked os 5 .any (Rows.flatsHeavySpec.pre6 enc Try.prog Try.f5 Rows.flatsHeavyRow.domain false) (Rows.flatsHeavySpec.post enc Try.prog Try.f5 false true false false) := by
  refine returnsInHanded_of_change (C := Try.checked) own started (by kernel_rfl) Try.func5
    (ChangeSpec.witness6 (enc := enc) (C := Try.checked) false ⟨#[], #[.agg #[.int .i64 0, .slice none 0 0]], []⟩ 8 (by kernel_rfl) (by kernel_rfl) (by kernel_rfl) (by kernel_rfl)) ?_
  intro W base args ds gs before hval0 hW hcnd _
  have hval : ∀ (j : Nat) t v, Try.f5.params[j]? = some t → args[j]? = some v → Value.okWide Try.prog W .any base t v := hval0
  have hW' := hW
  obtain ⟨p, q, hA0, hV, rfl, hfz, hnd⟩ := hW
  have hA : DataW.TrodAll enc Try.prog W 0 (fun _ => true) true Try.f5.params.toList args.toList ds p := hA0
  rw [Try.params5] at hA hval
  obtain ⟨v0, vs0, d0, ds0, p0, q0, hargs, rfl, rfl, h0, r0⟩ := trodAll_cons hA
  obtain ⟨rfl, rfl, rfl⟩ := trodAll_nil r0
  obtain rfl : args = #[v0] := by cases args; simp_all
  obtain ⟨rfl, rfl⟩ := trodVars_none hV
  have k0 := h0
  have lt0 : ∀ x ∈ p0, x.block < W.heap.size := by obtain ⟨m, hm⟩ := k0; exact DataW.trod_lt m _ _ _ hm
  obtain ⟨c0, b0, y0, u0, m0, rfl, rfl, rfl, e0, f0⟩ := Go.Joins.open_agg2 Try.underlying56 (by kernel_rfl) (by kernel_rfl) (hval 0 56 v0 rfl rfl) h0
  obtain ⟨n0, g0, rfl, w0⟩ := DataW.trod_int Try.underlying3 e0
  simp at g0
  subst g0
  obtain ⟨a0, len0, cap0, z0, rfl, l0⟩ : ∃ a len cap zs, b0 = .slice a len cap ∧ Go.AX.InRow .i64 W a len cap zs := by
    rcases open_ints Try.underlying22 Try.underlying3 (by kernel_rfl) f0 with ⟨hcs, _⟩ | ⟨x, l, c, zs, hcs, _, hl, hm, hz, _, hcell, hwz⟩
    · simp at hcs
      exact ⟨_, _, _, [], hcs, .inl ⟨rfl, rfl, rfl, rfl⟩⟩
    · simp at hcs
      exact ⟨_, _, _, zs, hcs, .inr ⟨_, rfl, hl, hm, by simpa using hz, hcell, hwz⟩⟩
  clear hA0 hval0
  refine (Go.AX.Pure.walk (Go.AX.Try.flatsHeavy n0 (z0.take len0)) (w := W) trivial (vs := #[.agg #[.int .i64 n0, .slice a0 len0 cap0]]) ⟨Go.AX.rep_agg2 (Go.AX.rep_int w0) (Go.AX.rep_ints l0) rfl rfl, trivial⟩).mono fun e W' ⟨he, bel⟩ => ?_
  subst he
  exact ⟨_, rfl, _, _, _, [], _, [], hW', trodAll_mk1 (shut_bool Try.underlying4 _), (trodAll_cons_mk (Below.trod laidOut (by kernel_rfl) (of_decide_eq_true (by kernel_rfl)) k0 bel lt0) trodAll_mk0), rfl, bel.frame _, fun h => by cases h⟩

theorem over : Rows.flatsHeavyRow.holds Try.pinned (OpenSpec.ofChange Rows.flatsHeavySpec) :=
  OpenClaim.holds_of_wide 5 Try.f5 rfl rfl rfl rfl rfl rfl rfl ⟨rfl, rfl, rfl, rfl, rfl⟩ rfl rfl rfl rfl rfl (by kernel_rfl) Try.func5 (by kernel_rfl)
    (of_decide_eq_true (by kernel_rfl)) (by unfold Func.isWrapper; first | (rw [if_pos (by decide +kernel)]; kernel_rfl) | (rw [if_neg (by decide +kernel)]; exact ⟨rfl, rfl⟩))
    (fun os started H enc _ => lifted os started H enc)

theorem proved : Rows.FlatsHeavySaid := over
#print axioms proved
end Go.Proofs.Ytlpikingpnenkaa.flatsHeavy
