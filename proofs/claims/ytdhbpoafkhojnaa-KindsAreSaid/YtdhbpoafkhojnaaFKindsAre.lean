/-
  THE STATEMENT 'Rows.KindsAreSaid': rota/rotakeep.KindsAre answers true at every input of the statement. Conditions: the statement's own.
-/
import Derived.Test.YtdhbpoafkhojnaaRows
import Derived.WalkKit
import Derived.ProofKit
import Derived.OpenShut
import Derived.ShutString
import Derived.ChangeSlices
import Derived.ChangeOld
import Derived.Below
import Derived.Lib.SmallJoins
import Derived.Test.YtdhbpoafkhojnaaAxM
import Derived.Test.YtdhbpoafkhojnaaAxO
import Derived.Test.YtdhbpoafkhojnaaAxMx
import Derived.Test.YtdhbpoafkhojnaaWkKindsAre
import Derived.Test.YtdhbpoafkhojnaaLKx
set_option linter.unusedSimpArgs false
set_option linter.unusedVariables false
/-- By what the code computes, and by the plain law. -/
theorem Go.AX.Try.kindsAre (x0n : Int) (x0l : List (Int × Int)) (x1p : Int) (x1c : Int) (x1l : List (List Int)) (x2 : Int) (x3 : List Int) (x4 : List Int) : Go.AX.Pure Go.Proofs.Try.prog 11 [.agg [.int .i64 x0n, .fn 2 x0l.length (fun i => [.int .i64 (x0l.getD i (0, 0)).1, .int .i64 (x0l.getD i (0, 0)).2])], .agg [.int .i64 x1p, .int .i64 x1c, .fn 1 x1l.length (fun i => [.ints .i64 (x1l.getD i [])])], .int .i64 x2, .ints .i64 x3, .ints .i64 x4] (.bool true) [] :=
  Go.SH.Pure_of_facts fun hfact => Go.SH.W_rotakeep_KindsAre (Go.SH.rotakeep_KindsAre_law x0n x0l x1p x1c x1l x2 x3 x4 (by have h := hfact.2.2.2.1; simp only [Go.AX.fact1, Go.AX.fact0] at h; exact Nat.le_trans h.1 (by decide)))

namespace Go.Proofs.Ytdhbpoafkhojnaa.kindsAre
open Go.ChangeShapes Go.WideShapes Go.ChangeAt Go.RowKit
open Go.ChangeMaps (open_string shut_string)

theorem own : ownKnob Try.prog.godebug = none := by kernel_rfl
theorem laidOut : laidOutB Try.prog = true := by kernel_rfl

set_option maxRecDepth 100000 in
theorem lifted (os : Os) (started : os.Started) (H : Type) (enc : TypeId × Value → H) :
    ReturnsInHanded {} Try.checked os 11 .any (Rows.kindsAreSpec.pre6 enc Try.prog Try.f11 Rows.kindsAreRow.domain false) (Rows.kindsAreSpec.post enc Try.prog Try.f11 false true false false) := by
  refine returnsInHanded_of_change (C := Try.checked) own started (by kernel_rfl) Try.func11
    (ChangeSpec.witness6 (enc := enc) (C := Try.checked) false ⟨#[], #[.agg #[.int .i64 0, .slice none 0 0], .agg #[.int .i64 0, .int .i64 0, .slice none 0 0], .int .i64 0, .slice none 0 0, .slice none 0 0], []⟩ 8 (by kernel_rfl) (by kernel_rfl) (by kernel_rfl) (by kernel_rfl)) ?_
  intro W base args ds gs before hval0 hW hcnd _
  have hval : ∀ (j : Nat) t v, Try.f11.params[j]? = some t → args[j]? = some v → Value.okWide Try.prog W .any base t v := hval0
  have hW' := hW
  obtain ⟨p, q, hA0, hV, rfl, hfz, hnd⟩ := hW
  have hA : DataW.TrodAll enc Try.prog W 0 (fun _ => true) true Try.f11.params.toList args.toList ds p := hA0
  rw [Try.params11] at hA hval
  obtain ⟨v0, vs0, d0, ds0, p0, q0, hargs, rfl, rfl, h0, r0⟩ := trodAll_cons hA
  obtain ⟨v1, vs1, d1, ds1, p1, q1, rfl, rfl, rfl, h1, r1⟩ := trodAll_cons r0
  obtain ⟨v2, vs2, d2, ds2, p2, q2, rfl, rfl, rfl, h2, r2⟩ := trodAll_cons r1
  obtain ⟨v3, vs3, d3, ds3, p3, q3, rfl, rfl, rfl, h3, r3⟩ := trodAll_cons r2
  obtain ⟨v4, vs4, d4, ds4, p4, q4, rfl, rfl, rfl, h4, r4⟩ := trodAll_cons r3
  obtain ⟨rfl, rfl, rfl⟩ := trodAll_nil r4
  obtain rfl : args = #[v0, v1, v2, v3, v4] := by cases args; simp_all
  obtain ⟨rfl, rfl⟩ := trodVars_none hV
  have k0 := h0
  have lt0 : ∀ x ∈ p0, x.block < W.heap.size := by obtain ⟨m, hm⟩ := k0; exact DataW.trod_lt m _ _ _ hm
  obtain ⟨c0, b0, y0, u0, m0, rfl, rfl, rfl, e0, f0⟩ := Go.Joins.open_agg2 Try.underlying39 (by kernel_rfl) (by kernel_rfl) (hval 0 39 v0 rfl rfl) h0
  obtain ⟨n0, g0, rfl, w0⟩ := DataW.trod_int Try.underlying3 e0
  simp at g0
  subst g0
  obtain ⟨a0, len0, cap0, z0, rfl, l0, d0⟩ := Go.AX.pairs_in Try.underlying37 Try.underlying46 (by kernel_rfl) rfl rfl (by kernel_rfl) (by kernel_rfl) Try.underlying3 Try.underlying3 f0
  have k1 := h1
  have lt1 : ∀ x ∈ p1, x.block < W.heap.size := by obtain ⟨m, hm⟩ := k1; exact DataW.trod_lt m _ _ _ hm
  obtain ⟨c1, b1, bb1, y1, u1, uu1, m1, rfl, rfl, rfl, e1, f1, ff1⟩ := Go.Joins.open_agg3 Try.underlying44 (by kernel_rfl) (by kernel_rfl) (hval 1 44 v1 rfl rfl) h1
  obtain ⟨n1, g1, rfl, w1⟩ := DataW.trod_int Try.underlying3 e1
  simp at g1
  subst g1
  obtain ⟨nn1, gg1, rfl, ww1⟩ := DataW.trod_int Try.underlying3 f1
  simp at gg1
  subst gg1
  obtain ⟨a1, len1, cap1, z1, rfl, l1⟩ := Go.AX.rows_in Try.underlying28 Try.underlying22 Try.underlying3 (by kernel_rfl) (by kernel_rfl) ff1
  obtain ⟨a2, rfl, rfl, rfl, w2⟩ := open_int Try.underlying3 (hval 2 3 v2 rfl rfl) h2
  obtain ⟨a3, len3, cap3, rfl⟩ := okWide_slice Try.underlying22 (hval 3 22 v3 rfl rfl)
  have k3 := h3
  have lt3 : ∀ x ∈ p3, x.block < W.heap.size := by obtain ⟨m, hm⟩ := k3; exact DataW.trod_lt m _ _ _ hm
  obtain ⟨z3, w3⟩ : ∃ zs, Go.AX.InRow .i64 W a3 len3 cap3 zs := by
    obtain ⟨fuel, hf⟩ := h3
    rcases open_ints Try.underlying22 Try.underlying3 (by kernel_rfl) hf with ⟨hcs, _⟩ | ⟨x, l, c, zs, hcs, _, hl, hm, hz, _, hcell, hwz⟩
    · simp [Value.cells] at hcs
      obtain ⟨rfl, rfl, rfl⟩ := hcs
      exact ⟨[], .inl ⟨rfl, rfl, rfl, rfl⟩⟩
    · simp [Value.cells] at hcs
      obtain ⟨rfl, rfl, rfl⟩ := hcs
      exact ⟨zs, .inr ⟨_, rfl, hl, hm, by simpa using hz, hcell, hwz⟩⟩
  obtain ⟨a4, len4, cap4, rfl⟩ := okWide_slice Try.underlying22 (hval 4 22 v4 rfl rfl)
  have k4 := h4
  have lt4 : ∀ x ∈ p4, x.block < W.heap.size := by obtain ⟨m, hm⟩ := k4; exact DataW.trod_lt m _ _ _ hm
  obtain ⟨z4, w4⟩ : ∃ zs, Go.AX.InRow .i64 W a4 len4 cap4 zs := by
    obtain ⟨fuel, hf⟩ := h4
    rcases open_ints Try.underlying22 Try.underlying3 (by kernel_rfl) hf with ⟨hcs, _⟩ | ⟨x, l, c, zs, hcs, _, hl, hm, hz, _, hcell, hwz⟩
    · simp [Value.cells] at hcs
      obtain ⟨rfl, rfl, rfl⟩ := hcs
      exact ⟨[], .inl ⟨rfl, rfl, rfl, rfl⟩⟩
    · simp [Value.cells] at hcs
      obtain ⟨rfl, rfl, rfl⟩ := hcs
      exact ⟨zs, .inr ⟨_, rfl, hl, hm, by simpa using hz, hcell, hwz⟩⟩
  clear hA0 hval0
  refine (Go.AX.Pure.walk (Go.AX.Try.kindsAre n0 z0 n1 nn1 z1 a2 (z3.take len3) (z4.take len4)) (w := W) trivial (vs := #[.agg #[.int .i64 n0, .slice a0 len0 cap0], .agg #[.int .i64 n1, .int .i64 nn1, .slice a1 len1 cap1], .int .i64 a2, .slice a3 len3 cap3, .slice a4 len4 cap4]) ⟨Go.AX.rep_agg2 (Go.AX.rep_int w0) (Go.AX.rep_pairs l0) rfl rfl, Go.AX.rep_agg3 (Go.AX.rep_int w1) (Go.AX.rep_int ww1) (Go.AX.rep_rows l1) rfl rfl rfl, Go.AX.rep_int w2, Go.AX.rep_ints w3, Go.AX.rep_ints w4, trivial⟩).mono fun e W' ⟨he, bel⟩ => ?_
  subst he
  exact ⟨_, rfl, _, _, _, [], _, [], hW', trodAll_mk1 (shut_bool Try.underlying4 _), (trodAll_cons_mk (Below.trod laidOut (by kernel_rfl) (of_decide_eq_true (by kernel_rfl)) k0 bel lt0) (trodAll_cons_mk (Below.trod laidOut (by kernel_rfl) (of_decide_eq_true (by kernel_rfl)) k1 bel lt1) (trodAll_cons_mk (shut_int Try.underlying3 w2) (trodAll_cons_mk (Below.trod laidOut (by kernel_rfl) (of_decide_eq_true (by kernel_rfl)) k3 bel lt3) (trodAll_cons_mk (Below.trod laidOut (by kernel_rfl) (of_decide_eq_true (by kernel_rfl)) k4 bel lt4) trodAll_mk0))))), rfl, bel.frame _, fun h => by cases h⟩

theorem over : Rows.kindsAreRow.holds Try.pinned (OpenSpec.ofChange Rows.kindsAreSpec) :=
  OpenClaim.holds_of_wide 11 Try.f11 rfl rfl rfl rfl rfl rfl rfl ⟨rfl, rfl, rfl, rfl, rfl⟩ rfl rfl rfl rfl rfl (by kernel_rfl) Try.func11 (by kernel_rfl)
    (of_decide_eq_true (by kernel_rfl)) (by unfold Func.isWrapper; first | (rw [if_pos (by decide +kernel)]; kernel_rfl) | (rw [if_neg (by decide +kernel)]; exact ⟨rfl, rfl⟩))
    (fun os started H enc _ => lifted os started H enc)

theorem proved : Rows.KindsAreSaid := over
#print axioms proved
end Go.Proofs.Ytdhbpoafkhojnaa.kindsAre
