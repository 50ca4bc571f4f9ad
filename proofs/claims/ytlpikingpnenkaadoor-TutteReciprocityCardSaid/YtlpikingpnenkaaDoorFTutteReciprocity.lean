/-
  THE STATEMENT 'Rows.TutteReciprocitySaid': rota/rotakeep.TutteReciprocity answers true at every input of the statement. Conditions: the statement's own.
-/
import Derived.Test.YtlpikingpnenkaaDoorRows
import Derived.Test.YtlpikingpnenkaaDoorTie
import Derived.Test.YtlpikingpnenkaaDoorCards
import Derived.Test.YtlpikingpnenkaaDoorLaidD
import Derived.SevenTiedAt
import Derived.WalkKit
import Derived.ProofKit
import Derived.OpenShut
import Derived.ShutString
import Derived.ChangeSlices
import Derived.ChangeOld
import Derived.Below
import Derived.Lib.SmallJoins
import Derived.Test.YtlpikingpnenkaaDoorAxM
import Derived.Test.YtlpikingpnenkaaDoorAxO
import Derived.Test.YtlpikingpnenkaaDoorWkTutteReciprocity
import Derived.Test.YtlpikingpnenkaaDoorLrD
set_option linter.unusedSimpArgs false
set_option linter.unusedVariables false
/-- By what the code computes, and by the plain law. -/
theorem Go.AX.Tryd.tutteReciprocity (x0n : Int) (x0l : List (Int × Int)) (x1 : Int) : Go.AX.Pure Go.Proofs.Tryd.prog 3 [.agg [.int .i64 x0n, .fn 2 x0l.length (fun i => [.int .i64 (x0l.getD i (0, 0)).1, .int .i64 (x0l.getD i (0, 0)).2])], .int .i64 x1] (.bool true) [] :=
  Go.SH.Pure_of_facts fun hfact => Go.SH.W_rotakeep_TutteReciprocity (Go.SH.rotakeep_TutteReciprocity_law x0n x0l x1 (by simp only [Go.AX.factL1, Go.AX.fact1, Go.AX.fact0, Go.AX.factL0, Go.AX.lo, Go.AX.hi] at hfact; omega) (by simp only [Go.AX.factL1, Go.AX.fact1, Go.AX.fact0, Go.AX.factL0, Go.AX.lo, Go.AX.hi] at hfact; omega))

namespace Go.Proofs.YtlpikingpnenkaaDoor.tutteReciprocity
open Go.ChangeShapes Go.WideShapes Go.ChangeAt Go.RowKit
open Go.ChangeMaps (open_string shut_string)

theorem own : ownKnob Tryd.prog.godebug = none := by kernel_rfl
theorem laidOut : laidOutB Tryd.prog = true := by kernel_rfl

set_option maxRecDepth 100000 in
theorem lifted (os : Os) (started : os.Started) (H : Type) (enc : TypeId × Value → H) :
    ReturnsInHanded {} Tryd.checked os 3 .any (fun w args => (Rows.tutteReciprocitySpec.pre enc Tryd.prog Tryd.f3 [] false w args ∧ laidMetH Tryd.prog laid2 w) ∧ sizedMet enc Tryd.prog Tryd.f3 (OpenSpec.ofChange Rows.tutteReciprocitySpec) false w args) (Rows.tutteReciprocitySpec.post enc Tryd.prog Tryd.f3 false true false false) := by
  refine returnsInHanded_of_change_and (C := Tryd.checked) (X := fun w _ => laidMetH Tryd.prog laid2 w) (fun _ _ _ hh h => h.of_heap hh) own started (by kernel_rfl) Tryd.func3
    (ChangeSpec.witness_shaped (enc := enc) (C := Tryd.checked) (os := os) (X := fun w _ => laidMetH Tryd.prog laid2 w) false (World.doorLaid Tryd.prog 19 os) #[.agg #[.int .i64 0, .slice none 0 0], .int .i64 0] 8 rfl (World.shaped_of_RefB (by kernel_rfl) (by kernel_rfl)) (by kernel_rfl) (by kernel_rfl) (by kernel_rfl) (door_met os _)) ?_
  intro W base args ds gs before hval0 hW hcnd hsz hL _
  have hgood := good_of_laid hL
  have hval : ∀ (j : Nat) t v, Tryd.f3.params[j]? = some t → args[j]? = some v → Value.okWide Tryd.prog W .any base t v := hval0
  have hW' := hW
  obtain ⟨p, q, hA0, hV, rfl, hfz, hnd⟩ := hW
  have hA : DataW.TrodAll enc Tryd.prog W 0 (fun _ => true) true Tryd.f3.params.toList args.toList ds p := hA0
  rw [Tryd.params3] at hA hval
  obtain ⟨v0, vs0, d0, ds0, p0, q0, hargs, rfl, rfl, h0, r0⟩ := trodAll_cons hA
  obtain ⟨v1, vs1, d1, ds1, p1, q1, rfl, rfl, rfl, h1, r1⟩ := trodAll_cons r0
  obtain ⟨rfl, rfl, rfl⟩ := trodAll_nil r1
  obtain rfl : args = #[v0, v1] := by cases args; simp_all
  obtain ⟨rfl, rfl⟩ := trodVars_none hV
  have k0 := h0
  have lt0 : ∀ x ∈ p0, x.block < W.heap.size := by obtain ⟨m, hm⟩ := k0; exact DataW.trod_lt m _ _ _ hm
  obtain ⟨c0, b0, y0, u0, m0, rfl, rfl, rfl, e0, f0⟩ := Go.Joins.open_agg2 Tryd.underlying24 (by kernel_rfl) (by kernel_rfl) (hval 0 24 v0 rfl rfl) h0
  obtain ⟨n0, g0, rfl, w0⟩ := DataW.trod_int Tryd.underlying3 e0
  simp at g0
  subst g0
  obtain ⟨a0, len0, cap0, z0, rfl, l0, d0⟩ := Go.AX.pairs_in Tryd.underlying22 Tryd.underlying32 (by kernel_rfl) rfl rfl (by kernel_rfl) (by kernel_rfl) Tryd.underlying3 Tryd.underlying3 f0
  obtain ⟨a1, rfl, rfl, rfl, w1⟩ := open_int Tryd.underlying3 (hval 1 3 v1 rfl rfl) h1
  clear hA0 hval0
  refine (Go.AX.Pure.walk (Go.AX.Tryd.tutteReciprocity n0 z0 a1) (w := W) hgood (vs := #[.agg #[.int .i64 n0, .slice a0 len0 cap0], .int .i64 a1]) ⟨Go.AX.rep_agg2 (Go.AX.rep_int w0) (Go.AX.rep_pairs l0) rfl rfl, Go.AX.rep_int w1, trivial⟩).mono fun e W' ⟨he, bel⟩ => ?_
  subst he
  exact ⟨_, rfl, _, _, _, [], _, [], hW', trodAll_mk1 (shut_bool Tryd.underlying4 _), (trodAll_cons_mk (Below.trod laidOut (by kernel_rfl) (of_decide_eq_true (by kernel_rfl)) k0 bel lt0) (trodAll_cons_mk (shut_int Tryd.underlying3 w1) trodAll_mk0)), rfl, bel.frame _, fun h => by cases h⟩

theorem over : Rows.tutteReciprocityRow.holds Tryd.pinned (OpenSpec.ofChange Rows.tutteReciprocitySpec) :=
  OpenClaim.holds_of_wide 3 Tryd.f3 rfl rfl rfl rfl rfl rfl rfl ⟨rfl, rfl, rfl, rfl, rfl⟩ rfl rfl rfl rfl rfl (by kernel_rfl) Tryd.func3 (by kernel_rfl)
    (of_decide_eq_true (by kernel_rfl)) (by unfold Func.isWrapper; first | (rw [if_pos (by decide +kernel)]; kernel_rfl) | (rw [if_neg (by decide +kernel)]; exact ⟨rfl, rfl⟩))
    (fun os started H enc _ => lifted os started H enc)

theorem proved : Rows.TutteReciprocityCardSaid :=
  Claim7.holds_tied_plain_at .later [] [.data, .data, .data] true (true, "01c333a4be78a566f4e19342a624d2b55aa47b6eb145e14bc276bedf4946fe5b") false
    over (fun _ h => by cases h) (by kernel_rfl) (fun _ h => by cases h) tutteReciprocity_row_tie rfl ⟨rfl, rfl⟩ (by kernel_rfl) rfl
    (fun f fn hf hfn => by
      obtain rfl : f = 3 := Option.some.inj ((show Tryd.prog.funcNamed "rota/rotakeep.TutteReciprocity" = some 3 by kernel_rfl).symm.trans hf) |>.symm
      obtain rfl : fn = Tryd.f3 := (Option.some.inj (Tryd.func3.symm.trans hfn)).symm
      exact ⟨by kernel_rfl, fun j t ht => by
        rw [Tryd.params3] at ht
        have hm : t ∈ [24, 3] := by
          have := Array.mem_of_getElem? ht
          simp at this ⊢
          omega
        have hall : ([24, 3].all fun u => !Tryd.prog.wantsStandIn u) = true := by kernel_rfl
        exact (show Tryd.prog.wantsStandIn t = false by simpa using List.all_eq_true.1 hall t hm)⟩)
    (by kernel_rfl)
#print axioms proved
end Go.Proofs.YtlpikingpnenkaaDoor.tutteReciprocity
