/-
  THE STATEMENT 'Rows.ValuesPlueckerSaid': rota/rotakeep.ValuesPluecker answers true at every input of the statement. Conditions: the statement's own.
-/
import Derived.Test.YtdfclknhgpkghaaRows
import Derived.WalkKit
import Derived.ProofKit
import Derived.OpenShut
import Derived.ShutString
import Derived.ChangeSlices
import Derived.ChangeOld
import Derived.Below
import Derived.Test.YtdfclknhgpkghaaAxM
import Derived.Test.YtdfclknhgpkghaaAxO
import Derived.Test.YtdfclknhgpkghaaWkValuesPluecker
import Derived.Test.YtdfclknhgpkghaaLVL
set_option linter.unusedSimpArgs false
set_option linter.unusedVariables false
/-- By what the code computes, and by the plain law. -/
theorem Go.AX.Try.valuesPluecker (x0 : Int) (x1 : List (Int × Int)) (hx1 : x1.length ≤ 8796093022208) : Go.AX.Pure Go.Proofs.Try.prog 3 [.int .i64 x0, .fn 2 x1.length (fun i => [.int .i64 (x1.getD i (0, 0)).1, .int .i64 (x1.getD i (0, 0)).2])] (.bool true) [] :=
  Go.SH.Pure_of_facts fun hfact => Go.SH.W_rotakeep_ValuesPluecker (Go.SH.rotakeep_ValuesPluecker_law x0 x1 hx1)

namespace Go.Proofs.Ytdfclknhgpkghaa.valuesPluecker
open Go.ChangeShapes Go.WideShapes Go.ChangeAt Go.RowKit
open Go.ChangeMaps (open_string shut_string)

theorem own : ownKnob Try.prog.godebug = none := by kernel_rfl
theorem laidOut : laidOutB Try.prog = true := by kernel_rfl
theorem bytes27 : Try.prog.bytesOf 27 = 16 := by kernel_rfl

set_option maxRecDepth 100000 in
theorem lifted (os : Os) (started : os.Started) (H : Type) (enc : TypeId × Value → H) :
    ReturnsInHanded {} Try.checked os 3 .any (Rows.valuesPlueckerSpec.pre6 enc Try.prog Try.f3 Rows.valuesPlueckerRow.domain false) (Rows.valuesPlueckerSpec.post enc Try.prog Try.f3 false true false false) := by
  refine returnsInHanded_of_change_sized (C := Try.checked) own started (by kernel_rfl) Try.func3
    (ChangeSpec.witness6 (enc := enc) (C := Try.checked) false ⟨#[], #[.int .i64 0, .slice none 0 0], []⟩ 8 (by kernel_rfl) (by kernel_rfl) (by kernel_rfl) (by kernel_rfl)) ?_
  intro W base args ds gs before hval0 hW hcnd hsz _
  have hval : ∀ (j : Nat) t v, Try.f3.params[j]? = some t → args[j]? = some v → Value.okWide Try.prog W .any base t v := hval0
  have hW' := hW
  obtain ⟨p, q, hA0, hV, rfl, hfz, hnd⟩ := hW
  have hA : DataW.TrodAll enc Try.prog W 0 (fun _ => true) true Try.f3.params.toList args.toList ds p := hA0
  rw [Try.params3] at hA hval
  obtain ⟨v0, vs0, d0, ds0, p0, q0, hargs, rfl, rfl, h0, r0⟩ := trodAll_cons hA
  obtain ⟨v1, vs1, d1, ds1, p1, q1, rfl, rfl, rfl, h1, r1⟩ := trodAll_cons r0
  obtain ⟨rfl, rfl, rfl⟩ := trodAll_nil r1
  obtain rfl : args = #[v0, v1] := by cases args; simp_all
  obtain ⟨rfl, rfl⟩ := trodVars_none hV
  obtain ⟨a0, rfl, rfl, rfl, w0⟩ := open_int Try.underlying3 (hval 0 3 v0 rfl rfl) h0
  have k1 := h1
  have lt1 : ∀ x ∈ p1, x.block < W.heap.size := by obtain ⟨m, hm⟩ := k1; exact DataW.trod_lt m _ _ _ hm
  obtain ⟨a1, len1, cap1, rfl⟩ := okWide_slice Try.underlying22 (hval 1 22 v1 rfl rfl)
  obtain ⟨z1, l1, s1⟩ : ∃ zs, Go.AX.InPairs W a1 len1 cap1 zs ∧ zs.length ≤ 8796093022208 := by
    obtain ⟨fuel, hf⟩ := h1
    obtain ⟨a', len', cap', zs, hc, hp, hd⟩ := Go.AX.pairs_in Try.underlying22 Try.underlying27 (by kernel_rfl) rfl rfl (by kernel_rfl) (by kernel_rfl) Try.underlying3 Try.underlying3 hf
    cases hc
    have hl := hp.len
    refine ⟨zs, hp, ?_⟩
    rcases hd with hd | ⟨es, sp, hd, he⟩
    · omega
    · have := sized_slice hsz (j := 1) (t := 22) (e := 27) rfl (by rw [← hd]; rfl) Try.underlying22
      change _ * Try.prog.bytesOf 27 ≤ _ at this
      rw [bytes27] at this
      simp only [reachBytes] at this
      omega
  clear hA0 hval0
  refine (Go.AX.Pure.walk (Go.AX.Try.valuesPluecker a0 z1 s1) (w := W) (vs := #[.int .i64 a0, .slice a1 len1 cap1]) ⟨Go.AX.rep_int w0, Go.AX.rep_pairs l1, trivial⟩).mono fun e W' ⟨he, bel⟩ => ?_
  subst he
  exact ⟨_, rfl, _, _, _, [], _, [], hW', trodAll_mk1 (shut_bool Try.underlying4 _), (trodAll_cons_mk (shut_int Try.underlying3 w0) (trodAll_cons_mk (Below.trod laidOut (by kernel_rfl) (of_decide_eq_true (by kernel_rfl)) k1 bel lt1) trodAll_mk0)), rfl, bel.frame _, fun h => by cases h⟩

theorem over : Rows.valuesPlueckerRow.holds Try.pinned (OpenSpec.ofChange Rows.valuesPlueckerSpec) :=
  OpenClaim.holds_of_wide 3 Try.f3 rfl rfl rfl rfl rfl rfl rfl ⟨rfl, rfl, rfl, rfl, rfl⟩ rfl rfl rfl rfl rfl (by kernel_rfl) Try.func3 (by kernel_rfl)
    (of_decide_eq_true (by kernel_rfl)) (by unfold Func.isWrapper; first | (rw [if_pos (by decide +kernel)]; kernel_rfl) | (rw [if_neg (by decide +kernel)]; exact ⟨rfl, rfl⟩))
    (fun os started H enc _ => lifted os started H enc)

theorem proved : Rows.ValuesPlueckerSaid := over
#print axioms proved
end Go.Proofs.Ytdfclknhgpkghaa.valuesPluecker
