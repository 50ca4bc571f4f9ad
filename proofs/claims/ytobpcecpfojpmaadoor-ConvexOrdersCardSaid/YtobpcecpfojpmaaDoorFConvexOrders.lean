/-
  THE STATEMENT 'Rows.ConvexOrdersSaid': rota/rotakeep.ConvexOrders answers true at every input of the statement. Conditions: the statement's own.
-/
import Derived.Test.YtobpcecpfojpmaaDoorRows
import Derived.Test.YtobpcecpfojpmaaDoorTie
import Derived.Test.YtobpcecpfojpmaaDoorCards
import Derived.Test.YtobpcecpfojpmaaDoorLaidD
import Derived.SevenTiedAt
import Derived.WalkKit
import Derived.ProofKit
import Derived.OpenShut
import Derived.ShutString
import Derived.ChangeSlices
import Derived.ChangeOld
import Derived.Below
import Derived.Lib.SmallJoins
import Derived.Test.YtobpcecpfojpmaaDoorAxM
import Derived.Test.YtobpcecpfojpmaaDoorAxO
import Derived.Test.YtobpcecpfojpmaaDoorWkConvexOrders
import Derived.Test.YtobpcecpfojpmaaDoorLCo
set_option linter.unusedSimpArgs false
set_option linter.unusedVariables false
/-- By what the code computes, and by the plain law. -/
theorem Go.AX.Tryd.convexOrders (x0 : Int) (x1 : List Int) (x2 : List (Int × Int)) (hx2 : x2.length ≤ 8796093022208) (x3n : Int) (x3l : List (Int × Int)) : Go.AX.Pure Go.Proofs.Tryd.prog 5 [.int .i64 x0, .ints .i64 x1, .fn 2 x2.length (fun i => [.int .i64 (x2.getD i (0, 0)).1, .int .i64 (x2.getD i (0, 0)).2]), .agg [.int .i64 x3n, .fn 2 x3l.length (fun i => [.int .i64 (x3l.getD i (0, 0)).1, .int .i64 (x3l.getD i (0, 0)).2])]] (.bool true) [] :=
  Go.SH.Pure_of_facts fun hfact => Go.SH.W_rotakeep_ConvexOrders (Go.SH.rotakeep_ConvexOrders_law x0 x1 x2 x3n x3l (by have := hfact.2.1.1; simpa [Go.AX.fact0, maxLen] using this) hx2)

namespace Go.Proofs.YtobpcecpfojpmaaDoor.convexOrders
open Go.ChangeShapes Go.WideShapes Go.ChangeAt Go.RowKit
open Go.ChangeMaps (open_string shut_string)

theorem own : ownKnob Tryd.prog.godebug = none := by kernel_rfl
theorem laidOut : laidOutB Tryd.prog = true := by kernel_rfl

theorem bytes58 : Tryd.prog.bytesOf 58 = 16 := by kernel_rfl

set_option maxRecDepth 100000 in
theorem lifted (os : Os) (started : os.Started) (H : Type) (enc : TypeId × Value → H) :
    ReturnsInHanded {} Tryd.checked os 5 .any (fun w args => (Rows.convexOrdersSpec.pre enc Tryd.prog Tryd.f5 [] false w args ∧ laidMetH Tryd.prog laid2 w) ∧ sizedMet enc Tryd.prog Tryd.f5 (OpenSpec.ofChange Rows.convexOrdersSpec) false w args) (Rows.convexOrdersSpec.post enc Tryd.prog Tryd.f5 false true false false) := by
  refine returnsInHanded_of_change_and (C := Tryd.checked) (X := fun w _ => laidMetH Tryd.prog laid2 w) (fun _ _ _ hh h => h.of_heap hh) own started (by kernel_rfl) Tryd.func5
    (ChangeSpec.witness_shaped (enc := enc) (C := Tryd.checked) (os := os) (X := fun w _ => laidMetH Tryd.prog laid2 w) false (World.doorLaid Tryd.prog 19 os) #[.int .i64 0, .slice none 0 0, .slice none 0 0, .agg #[.int .i64 0, .slice none 0 0]] 8 rfl (World.shaped_of_RefB (by kernel_rfl) (by kernel_rfl)) (by kernel_rfl) (by kernel_rfl) (by kernel_rfl) (door_met os _)) ?_
  intro W base args ds gs before hval0 hW hcnd hsz hL _
  have hgood := good_of_laid hL
  have hval : ∀ (j : Nat) t v, Tryd.f5.params[j]? = some t → args[j]? = some v → Value.okWide Tryd.prog W .any base t v := hval0
  have hW' := hW
  obtain ⟨p, q, hA0, hV, rfl, hfz, hnd⟩ := hW
  have hA : DataW.TrodAll enc Tryd.prog W 0 (fun _ => true) true Tryd.f5.params.toList args.toList ds p := hA0
  rw [Tryd.params5] at hA hval
  obtain ⟨v0, vs0, d0, ds0, p0, q0, hargs, rfl, rfl, h0, r0⟩ := trodAll_cons hA
  obtain ⟨v1, vs1, d1, ds1, p1, q1, rfl, rfl, rfl, h1, r1⟩ := trodAll_cons r0
  obtain ⟨v2, vs2, d2, ds2, p2, q2, rfl, rfl, rfl, h2, r2⟩ := trodAll_cons r1
  obtain ⟨v3, vs3, d3, ds3, p3, q3, rfl, rfl, rfl, h3, r3⟩ := trodAll_cons r2
  obtain ⟨rfl, rfl, rfl⟩ := trodAll_nil r3
  obtain rfl : args = #[v0, v1, v2, v3] := by cases args; simp_all
  obtain ⟨rfl, rfl⟩ := trodVars_none hV
  obtain ⟨a0, rfl, rfl, rfl, w0⟩ := open_int Tryd.underlying3 (hval 0 3 v0 rfl rfl) h0
  obtain ⟨a1, len1, cap1, rfl⟩ := okWide_slice Tryd.underlying22 (hval 1 22 v1 rfl rfl)
  have k1 := h1
  have lt1 : ∀ x ∈ p1, x.block < W.heap.size := by obtain ⟨m, hm⟩ := k1; exact DataW.trod_lt m _ _ _ hm
  obtain ⟨z1, w1⟩ : ∃ zs, Go.AX.InRow .i64 W a1 len1 cap1 zs := by
    obtain ⟨fuel, hf⟩ := h1
    rcases open_ints Tryd.underlying22 Tryd.underlying3 (by kernel_rfl) hf with ⟨hcs, _⟩ | ⟨x, l, c, zs, hcs, _, hl, hm, hz, _, hcell, hwz⟩
    · simp [Value.cells] at hcs
      obtain ⟨rfl, rfl, rfl⟩ := hcs
      exact ⟨[], .inl ⟨rfl, rfl, rfl, rfl⟩⟩
    · simp [Value.cells] at hcs
      obtain ⟨rfl, rfl, rfl⟩ := hcs
      exact ⟨zs, .inr ⟨_, rfl, hl, hm, by simpa using hz, hcell, hwz⟩⟩
  have k2 := h2
  have lt2 : ∀ x ∈ p2, x.block < W.heap.size := by obtain ⟨m, hm⟩ := k2; exact DataW.trod_lt m _ _ _ hm
  obtain ⟨a2, len2, cap2, rfl⟩ := okWide_slice Tryd.underlying34 (hval 2 34 v2 rfl rfl)
  obtain ⟨z2, l2, s2⟩ : ∃ zs, Go.AX.InPairs W a2 len2 cap2 zs ∧ zs.length ≤ 8796093022208 := by
    obtain ⟨fuel, hf⟩ := h2
    obtain ⟨a', len', cap', zs, hc, hp, hd⟩ := Go.AX.pairs_in Tryd.underlying34 Tryd.underlying58 (by kernel_rfl) rfl rfl (by kernel_rfl) (by kernel_rfl) Tryd.underlying3 Tryd.underlying3 hf
    cases hc
    have hl := hp.len
    refine ⟨zs, hp, ?_⟩
    rcases hd with hd | ⟨es, sp, hd, he⟩
    · omega
    · have := sized_slice hsz (j := 2) (t := 34) (e := 58) rfl (by rw [← hd]; rfl) Tryd.underlying34
      change _ * Tryd.prog.bytesOf 58 ≤ _ at this
      rw [bytes58] at this
      simp only [reachBytes] at this
      omega
  have k3 := h3
  have lt3 : ∀ x ∈ p3, x.block < W.heap.size := by obtain ⟨m, hm⟩ := k3; exact DataW.trod_lt m _ _ _ hm
  obtain ⟨c3, b3, y3, u3, m3, rfl, rfl, rfl, e3, f3⟩ := Go.Joins.open_agg2 Tryd.underlying36 (by kernel_rfl) (by kernel_rfl) (hval 3 36 v3 rfl rfl) h3
  obtain ⟨n3, g3, rfl, w3⟩ := DataW.trod_int Tryd.underlying3 e3
  simp at g3
  subst g3
  obtain ⟨a3, len3, cap3, z3, rfl, l3, d3⟩ := Go.AX.pairs_in Tryd.underlying34 Tryd.underlying58 (by kernel_rfl) rfl rfl (by kernel_rfl) (by kernel_rfl) Tryd.underlying3 Tryd.underlying3 f3
  clear hA0 hval0
  refine (Go.AX.Pure.walk (Go.AX.Tryd.convexOrders a0 (z1.take len1) z2 s2 n3 z3) (w := W) hgood (vs := #[.int .i64 a0, .slice a1 len1 cap1, .slice a2 len2 cap2, .agg #[.int .i64 n3, .slice a3 len3 cap3]]) ⟨Go.AX.rep_int w0, Go.AX.rep_ints w1, Go.AX.rep_pairs l2, Go.AX.rep_agg2 (Go.AX.rep_int w3) (Go.AX.rep_pairs l3) rfl rfl, trivial⟩).mono fun e W' ⟨he, bel⟩ => ?_
  subst he
  exact ⟨_, rfl, _, _, _, [], _, [], hW', trodAll_mk1 (shut_bool Tryd.underlying4 _), (trodAll_cons_mk (shut_int Tryd.underlying3 w0) (trodAll_cons_mk (Below.trod laidOut (by kernel_rfl) (of_decide_eq_true (by kernel_rfl)) k1 bel lt1) (trodAll_cons_mk (Below.trod laidOut (by kernel_rfl) (of_decide_eq_true (by kernel_rfl)) k2 bel lt2) (trodAll_cons_mk (Below.trod laidOut (by kernel_rfl) (of_decide_eq_true (by kernel_rfl)) k3 bel lt3) trodAll_mk0)))), rfl, bel.frame _, fun h => by cases h⟩

theorem over : Rows.convexOrdersRow.holds Tryd.pinned (OpenSpec.ofChange Rows.convexOrdersSpec) :=
  OpenClaim.holds_of_wide 5 Tryd.f5 rfl rfl rfl rfl rfl rfl rfl ⟨rfl, rfl, rfl, rfl, rfl⟩ rfl rfl rfl rfl rfl (by kernel_rfl) Tryd.func5 (by kernel_rfl)
    (of_decide_eq_true (by kernel_rfl)) (by unfold Func.isWrapper; first | (rw [if_pos (by decide +kernel)]; kernel_rfl) | (rw [if_neg (by decide +kernel)]; exact ⟨rfl, rfl⟩))
    (fun os started H enc _ => lifted os started H enc)

theorem proved : Rows.ConvexOrdersCardSaid :=
  Claim7.holds_tied_plain_at .later [] [.data, .data] true (true, "3056c9c57501ed75931edee0b8ad02eabf0bca0999a39f95aa2fbe9ed71972f9") false
    over (fun _ h => by cases h) (by kernel_rfl) (fun _ h => by cases h) convexOrders_row_tie rfl ⟨rfl, rfl⟩ (by kernel_rfl) rfl
    (fun f fn hf hfn => by
      obtain rfl : f = 5 := Option.some.inj ((show Tryd.prog.funcNamed "rota/rotakeep.ConvexOrders" = some 5 by kernel_rfl).symm.trans hf) |>.symm
      obtain rfl : fn = Tryd.f5 := (Option.some.inj (Tryd.func5.symm.trans hfn)).symm
      exact ⟨by kernel_rfl, fun j t ht => by
        rw [Tryd.params5] at ht
        have hm : t ∈ [3, 22, 34, 36] := by
          have := Array.mem_of_getElem? ht
          simp at this ⊢
          omega
        have hall : ([3, 22, 34, 36].all fun u => !Tryd.prog.wantsStandIn u) = true := by kernel_rfl
        exact (show Tryd.prog.wantsStandIn t = false by simpa using List.all_eq_true.1 hall t hm)⟩)
    (by kernel_rfl)
#print axioms proved
end Go.Proofs.YtobpcecpfojpmaaDoor.convexOrders
