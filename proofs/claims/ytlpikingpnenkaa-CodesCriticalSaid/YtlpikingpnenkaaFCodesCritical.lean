/-
  THE STATEMENT 'Rows.CodesCriticalSaid': rota/rotakeep.CodesCritical answers true at every input of the statement. Conditions: the statement's own.
-/
import Derived.Test.YtlpikingpnenkaaRows
import Derived.WalkKit
import Derived.ProofKit
import Derived.OpenShut
import Derived.ShutString
import Derived.ChangeSlices
import Derived.ChangeOld
import Derived.Below
import Derived.Lib.SmallJoins
import Derived.Test.YtlpikingpnenkaaAxM
import Derived.Test.YtlpikingpnenkaaAxMx
import Derived.Test.YtlpikingpnenkaaWkCodesCritical
import Derived.Test.YtlpikingpnenkaaLcD
set_option linter.unusedSimpArgs false
set_option linter.unusedVariables false
/-- By what the code computes, and by the plain law. -/
theorem Go.AX.Try.codesCritical (x0p : Int) (x0c : Int) (x0l : List (List Int)) : Go.AX.Pure Go.Proofs.Try.prog 7 [.agg [.int .i64 x0p, .int .i64 x0c, .fn 1 x0l.length (fun i => [.ints .i64 (x0l.getD i [])])]] (.bool true) [] :=
  Go.SH.Pure_of_facts fun hfact => Go.SH.W_rotakeep_CodesCritical (Go.SH.rotakeep_CodesCritical_law x0p x0c x0l)

namespace Go.Proofs.Ytlpikingpnenkaa.codesCritical
open Go.ChangeShapes Go.WideShapes Go.ChangeAt Go.RowKit
open Go.ChangeMaps (open_string shut_string)

theorem own : ownKnob Try.prog.godebug = none := by kernel_rfl
theorem laidOut : laidOutB Try.prog = true := by kernel_rfl

set_option maxRecDepth 100000 in
theorem lifted (os : Os) (started : os.Started) (H : Type) (enc : TypeId × Value → H) :
    ReturnsInHanded {} Try.checked os 7 .any (Rows.codesCriticalSpec.pre6 enc Try.prog Try.f7 Rows.codesCriticalRow.domain false) (Rows.codesCriticalSpec.post enc Try.prog Try.f7 false true false false) := by
  refine returnsInHanded_of_change (C := Try.checked) own started (by kernel_rfl) Try.func7
    (ChangeSpec.witness6 (enc := enc) (C := Try.checked) false ⟨#[], #[.agg #[.int .i64 0, .int .i64 0, .slice none 0 0]], []⟩ 8 (by kernel_rfl) (by kernel_rfl) (by kernel_rfl) (by kernel_rfl)) ?_
  intro W base args ds gs before hval0 hW hcnd _
  have hval : ∀ (j : Nat) t v, Try.f7.params[j]? = some t → args[j]? = some v → Value.okWide Try.prog W .any base t v := hval0
  have hW' := hW
  obtain ⟨p, q, hA0, hV, rfl, hfz, hnd⟩ := hW
  have hA : DataW.TrodAll enc Try.prog W 0 (fun _ => true) true Try.f7.params.toList args.toList ds p := hA0
  rw [Try.params7] at hA hval
  obtain ⟨v0, vs0, d0, ds0, p0, q0, hargs, rfl, rfl, h0, r0⟩ := trodAll_cons hA
  obtain ⟨rfl, rfl, rfl⟩ := trodAll_nil r0
  obtain rfl : args = #[v0] := by cases args; simp_all
  obtain ⟨rfl, rfl⟩ := trodVars_none hV
  have k0 := h0
  have lt0 : ∀ x ∈ p0, x.block < W.heap.size := by obtain ⟨m, hm⟩ := k0; exact DataW.trod_lt m _ _ _ hm
  obtain ⟨c0, b0, bb0, y0, u0, uu0, m0, rfl, rfl, rfl, e0, f0, ff0⟩ := Go.Joins.open_agg3 Try.underlying65 (by kernel_rfl) (by kernel_rfl) (hval 0 65 v0 rfl rfl) h0
  obtain ⟨n0, g0, rfl, w0⟩ := DataW.trod_int Try.underlying3 e0
  simp at g0
  subst g0
  obtain ⟨nn0, gg0, rfl, ww0⟩ := DataW.trod_int Try.underlying3 f0
  simp at gg0
  subst gg0
  obtain ⟨a0, len0, cap0, z0, rfl, l0⟩ := Go.AX.rows_in Try.underlying47 Try.underlying22 Try.underlying3 (by kernel_rfl) (by kernel_rfl) ff0
  clear hA0 hval0
  refine (Go.AX.Pure.walk (Go.AX.Try.codesCritical n0 nn0 z0) (w := W) trivial (vs := #[.agg #[.int .i64 n0, .int .i64 nn0, .slice a0 len0 cap0]]) ⟨Go.AX.rep_agg3 (Go.AX.rep_int w0) (Go.AX.rep_int ww0) (Go.AX.rep_rows l0) rfl rfl rfl, trivial⟩).mono fun e W' ⟨he, bel⟩ => ?_
  subst he
  exact ⟨_, rfl, _, _, _, [], _, [], hW', trodAll_mk1 (shut_bool Try.underlying4 _), (trodAll_cons_mk (Below.trod laidOut (by kernel_rfl) (of_decide_eq_true (by kernel_rfl)) k0 bel lt0) trodAll_mk0), rfl, bel.frame _, fun h => by cases h⟩

theorem over : Rows.codesCriticalRow.holds Try.pinned (OpenSpec.ofChange Rows.codesCriticalSpec) :=
  OpenClaim.holds_of_wide 7 Try.f7 rfl rfl rfl rfl rfl rfl rfl ⟨rfl, rfl, rfl, rfl, rfl⟩ rfl rfl rfl rfl rfl (by kernel_rfl) Try.func7 (by kernel_rfl)
    (of_decide_eq_true (by kernel_rfl)) (by unfold Func.isWrapper; first | (rw [if_pos (by decide +kernel)]; kernel_rfl) | (rw [if_neg (by decide +kernel)]; exact ⟨rfl, rfl⟩))
    (fun os started H enc _ => lifted os started H enc)

theorem proved : Rows.CodesCriticalSaid := over
#print axioms proved
end Go.Proofs.Ytlpikingpnenkaa.codesCritical
