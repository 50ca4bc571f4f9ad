/-
  That the code computes these functions: field_Kernel. By a program of mine (shal.py). Conditions: none.
-/
import Derived.Test.YtdhbpoafkhojnaaAxT
import Derived.Test.YtdhbpoafkhojnaaAxR
import Derived.Test.YtdhbpoafkhojnaaAxRx
import Derived.Test.YtdhbpoafkhojnaaSp
import Derived.Test.YtdhbpoafkhojnaaWpfield
import Derived.Test.YtdhbpoafkhojnaaWpfieldm
import Derived.Test.YtdhbpoafkhojnaaWpkindsm
import Derived.Test.YtdhbpoafkhojnaaWpslices
set_option linter.unusedVariables false
set_option linter.unusedSimpArgs false
namespace Go.SH
open Go Go.AX Go.AX.Try Go.Proofs

set_option maxRecDepth 8000 in
set_option maxHeartbeats 4000000 in
theorem W_field_Kernel {x_0 : Int} {x_1 : Int} {x_2 : List (List Int)} {r : Int × Int × List (List Int) × Int} (hK : field_Kernel x_0 x_1 x_2 = some r) : Pure Try.prog 36 [.agg [.int .i64 x_0, .int .i64 x_1, .fn 1 x_2.length (fun i => [.ints .i64 (x_2.getD i [])])]] (.tup [.agg [.int .i64 r.1, .int .i64 r.2.1, .own 0 r.2.2.1.length], .int .i64 r.2.2.2]) [(.outs 22 1 r.2.2.1.length idO (lenO r.2.2.1)), (.rows 3 .i64 r.2.2.1)] := by
  refine Pure_introF tab_ok (n := 81) (l := [.cell 2 44, .tmp 3]) Try.func36 rfl rfl rfl (by simp) fun hfact w0 => ?_
  simp only [factL1, fact1, fact0, factL0, lo, hi, maxLen, and_true] at hfact
  unfold field_Kernel at hK
  refine AWP_seq ?_
  -- region 0
  refine AWP_rg tab_ok [1, 2] fun c st' hr => ?_
  simp only [go_sem, reduceIte, reduceCtorEq, Nat.reduceEqDiff, Nat.reduceLT, Nat.reduceLeDiff, Nat.reduceBEq, Nat.reduceAdd, Nat.reduceMul, Nat.reduceSub, Nat.reducePow, Int.reduceLE, Int.reduceLT, Int.reduceNeg, Int.reduceToNat, Int.reduceAdd, Int.reduceSub, idO_app, lenO_app, lenO_app2, lenO_eta] at hr
  obtain ⟨rfl, rfl⟩ := hr
  refine ⟨vc, ?_⟩
  with_reducible refine thenC_normal ?_
  refine AWP_gs' (gs_rows0 3 .i64) fun st' hr => ?_
  simp only [go_sem, reduceIte, reduceCtorEq, Nat.reduceEqDiff, Nat.reduceLT, Nat.reduceLeDiff, Nat.reduceBEq, Nat.reduceAdd, Nat.reduceMul, Nat.reduceSub, Nat.reducePow, Int.reduceLE, Int.reduceLT, Int.reduceNeg, Int.reduceToNat, Int.reduceAdd, Int.reduceSub, idO_app, lenO_app, lenO_app2, lenO_eta, List.cons_append, List.nil_append] at hr
  subst hr
  refine AWP_ownH 1 2 (.outs 22 2 0 idO (lenO [])) rfl rfl rfl fun st' hr => ?_
  simp only [go_sem, reduceIte, reduceCtorEq, Nat.reduceEqDiff, Nat.reduceLT, Nat.reduceLeDiff, Nat.reduceBEq, Nat.reduceAdd, Nat.reduceMul, Nat.reduceSub, Nat.reducePow, Int.reduceLE, Int.reduceLT, Int.reduceNeg, Int.reduceToNat, Int.reduceAdd, Int.reduceSub, idO_app, lenO_app, lenO_app2, lenO_eta] at hr
  subst hr
  refine AWP_seq ?_
  refine AWP_seq ?_
  -- region 1
  refine AWP_rl ?_
  refine AWPL_rn tab_ok 1 [1, 2, 12] fun c st' hr => ?_
  simp only [go_sem, reduceIte, reduceCtorEq, Nat.reduceEqDiff, Nat.reduceLT, Nat.reduceLeDiff, Nat.reduceBEq, Nat.reduceAdd, Nat.reduceMul, Nat.reduceSub, Nat.reducePow, Int.reduceLE, Int.reduceLT, Int.reduceNeg, Int.reduceToNat, Int.reduceAdd, Int.reduceSub, idO_app, lenO_app, lenO_app2, lenO_eta] at hr
  obtain ⟨rfl, rfl⟩ := hr
  refine ⟨vc, ?_⟩
  replace hK := bind_s hK
  obtain ⟨y, hy, hK⟩ := hK
  refine AWPL_callK [1, 2, 13] (W_kinds_CheckMatrix hy) rfl rfl pcT rfl Try.call78 (.cons (.agg _ _ rfl (ArgsOk.get (.cons (.atom _ rfl) (.cons (.atom _ rfl) (.cons (.atom _ rfl) .nil)))).2) .nil) (hscG trivial) (of_decide_eq_true rfl) (by first | rfl | simp [nI, nI1, nI0]) (by first | rfl | simp [nIB, nI0]) fun st' hr => ?_
  simp only [go_sem, reduceIte, reduceCtorEq, Nat.reduceEqDiff, Nat.reduceLT, Nat.reduceLeDiff, Nat.reduceBEq, Nat.reduceAdd, Nat.reduceMul, Nat.reduceSub, Nat.reducePow, Int.reduceLE, Int.reduceLT, Int.reduceNeg, Int.reduceToNat, Int.reduceAdd, Int.reduceSub, idO_app, lenO_app, lenO_app2, lenO_eta] at hr
  subst hr
  clear hy
  refine AWPL_rn tab_ok 1 [1, 2, 4] fun c st' hr => ?_
  simp only [go_sem, reduceIte, reduceCtorEq, Nat.reduceEqDiff, Nat.reduceLT, Nat.reduceLeDiff, Nat.reduceBEq, Nat.reduceAdd, Nat.reduceMul, Nat.reduceSub, Nat.reducePow, Int.reduceLE, Int.reduceLT, Int.reduceNeg, Int.reduceToNat, Int.reduceAdd, Int.reduceSub, idO_app, lenO_app, lenO_app2, lenO_eta] at hr
  obtain ⟨rfl, rfl⟩ := hr
  refine ⟨vc, ?_⟩
  refine AWPL_nil ?_
  with_reducible refine thenC_normal ?_
  refine AWP_seq ?_
  -- region 2
  refine AWP_rg tab_ok [1, 2, 4, 15] fun c st' hr => ?_
  simp only [go_sem, reduceIte, reduceCtorEq, Nat.reduceEqDiff, Nat.reduceLT, Nat.reduceLeDiff, Nat.reduceBEq, Nat.reduceAdd, Nat.reduceMul, Nat.reduceSub, Nat.reducePow, Int.reduceLE, Int.reduceLT, Int.reduceNeg, Int.reduceToNat, Int.reduceAdd, Int.reduceSub, idO_app, lenO_app, lenO_app2, lenO_eta] at hr
  obtain ⟨rfl, rfl⟩ := hr
  refine ⟨vc, ?_⟩
  with_reducible refine thenC_normal ?_
  refine AWP_condP (y ≠ 0) rfl bd (fun hb => ?_) (fun hb => ?_)
  · replace hK := ite_t hK hb
    refine AWP_seq ?_
    -- region 3
    refine AWP_rg tab_ok [2, 3] fun c st' hr => ?_
    simp only [go_sem, reduceIte, reduceCtorEq, Nat.reduceEqDiff, Nat.reduceLT, Nat.reduceLeDiff, Nat.reduceBEq, Nat.reduceAdd, Nat.reduceMul, Nat.reduceSub, Nat.reducePow, Int.reduceLE, Int.reduceLT, Int.reduceNeg, Int.reduceToNat, Int.reduceAdd, Int.reduceSub, idO_app, lenO_app, lenO_app2, lenO_eta] at hr
    obtain ⟨rfl, rfl⟩ := hr
    refine ⟨vc, ?_⟩
    with_reducible refine thenC_normal ?_
    refine AWP_gs' (gs_rows0 3 .i64) fun st' hr => ?_
    simp only [go_sem, reduceIte, reduceCtorEq, Nat.reduceEqDiff, Nat.reduceLT, Nat.reduceLeDiff, Nat.reduceBEq, Nat.reduceAdd, Nat.reduceMul, Nat.reduceSub, Nat.reducePow, Int.reduceLE, Int.reduceLT, Int.reduceNeg, Int.reduceToNat, Int.reduceAdd, Int.reduceSub, idO_app, lenO_app, lenO_app2, lenO_eta, List.cons_append, List.nil_append] at hr
    subst hr
    refine AWP_ownH 1 2 (.outs 22 4 0 idO (lenO [])) rfl rfl rfl fun st' hr => ?_
    simp only [go_sem, reduceIte, reduceCtorEq, Nat.reduceEqDiff, Nat.reduceLT, Nat.reduceLeDiff, Nat.reduceBEq, Nat.reduceAdd, Nat.reduceMul, Nat.reduceSub, Nat.reducePow, Int.reduceLE, Int.reduceLT, Int.reduceNeg, Int.reduceToNat, Int.reduceAdd, Int.reduceSub, idO_app, lenO_app, lenO_app2, lenO_eta] at hr
    subst hr
    refine AWP_ret ?_
    with_reducible refine thenC_ret ?_
    cases hK
    refine EndsRW [5, 4] (.inl rfl) (of_decide_eq_true rfl) (by simp) rfl (fun c x hr => ?_) endHR
    simp only [go_sem, reduceIte, reduceCtorEq, Nat.reduceEqDiff, Nat.reduceLT, Nat.reduceLeDiff, Nat.reduceBEq, Nat.reduceAdd, Nat.reduceMul, Nat.reduceSub, Nat.reducePow, Int.reduceLE, Int.reduceLT, Int.reduceNeg, Int.reduceToNat, Int.reduceAdd, Int.reduceSub, idO_app, lenO_app, lenO_app2, lenO_eta] at hr
    obtain ⟨rfl, rfl⟩ := hr
    exact ⟨rfl, endR⟩
  · replace hK := ite_f hK hb
    refine AWP_skip ?_
    with_reducible refine thenC_normal ?_
    refine AWP_seq ?_
    -- region 4
    refine AWP_rl ?_
    refine AWPL_rn tab_ok 1 [1, 2, 18] fun c st' hr => ?_
    simp only [go_sem, reduceIte, reduceCtorEq, Nat.reduceEqDiff, Nat.reduceLT, Nat.reduceLeDiff, Nat.reduceBEq, Nat.reduceAdd, Nat.reduceMul, Nat.reduceSub, Nat.reducePow, Int.reduceLE, Int.reduceLT, Int.reduceNeg, Int.reduceToNat, Int.reduceAdd, Int.reduceSub, idO_app, lenO_app, lenO_app2, lenO_eta] at hr
    obtain ⟨rfl, rfl⟩ := hr
    refine ⟨vc, ?_⟩
    replace hK := bind_s hK
    obtain ⟨y1, hy, hK⟩ := hK
    refine AWPL_callK [1, 2, 19] (W_field_twin hy) rfl rfl pcT rfl Try.call82 (.cons (.agg _ _ rfl (ArgsOk.get (.cons (.atom _ rfl) (.cons (.atom _ rfl) (.cons (.atom _ rfl) .nil)))).2) .nil) (hscG trivial) (of_decide_eq_true rfl) (by first | rfl | simp [nI, nI1, nI0]) (by first | rfl | simp [nIB, nI0]) fun st' hr => ?_
    simp only [go_sem, reduceIte, reduceCtorEq, Nat.reduceEqDiff, Nat.reduceLT, Nat.reduceLeDiff, Nat.reduceBEq, Nat.reduceAdd, Nat.reduceMul, Nat.reduceSub, Nat.reducePow, Int.reduceLE, Int.reduceLT, Int.reduceNeg, Int.reduceToNat, Int.reduceAdd, Int.reduceSub, idO_app, lenO_app, lenO_app2, lenO_eta] at hr
    subst hr
    clear hy
    refine AWPL_rn tab_ok 2 [1, 2, 5] fun c st' hr => ?_
    simp only [go_sem, reduceIte, reduceCtorEq, Nat.reduceEqDiff, Nat.reduceLT, Nat.reduceLeDiff, Nat.reduceBEq, Nat.reduceAdd, Nat.reduceMul, Nat.reduceSub, Nat.reducePow, Int.reduceLE, Int.reduceLT, Int.reduceNeg, Int.reduceToNat, Int.reduceAdd, Int.reduceSub, idO_app, lenO_app, lenO_app2, lenO_eta] at hr
    obtain ⟨rfl, rfl⟩ := hr
    refine ⟨vc, ?_⟩
    refine AWPL_nil ?_
    with_reducible refine thenC_normal ?_
    refine AWP_seq ?_
    -- region 5
    refine AWP_rl ?_
    replace hK := bind_s hK
    obtain ⟨y2, hy, hK⟩ := hK
    refine AWPL_gR [1, 2, 5, 20] [6, 4, 5] [.ptr 0 0 0] [some (.gen 44 3 [[.int .i64 x_0, .int .i64 x_1, .fn 1 x_2.length (fun i => [.ints .i64 (x_2.getD i [])])]]), some (.gen 44 3 [[.int .i64 0, .int .i64 0, .own 3 0]]), some (.rows 3 .i64 ([] : List (List Int))), some (.outs 22 2 0 idO (lenO ([] : List (List Int)))), none, none, some (.gen 44 3 [[.int .i64 y2.2.1, .int .i64 y2.2.2.1, .own 7 y2.2.2.2.length]]), some (.outs 22 8 y2.2.2.2.length idO (lenO y2.2.2.2)), some (.rows 3 .i64 y2.2.2.2), some (.ints 3 .i64 y2.1)] (r' := .own 9 y2.1.length) (W_field_reduced hy) rfl rfl pcT rfl Try.call84 (of_decide_eq_true rfl) ⟨rfl, rfl, rfl, trivial⟩ rfl (hscG trivial) (of_decide_eq_true rfl) rfl rfl rfl (of_decide_eq_true rfl) rfl fun st' hr => ?_
    simp only [go_sem, reduceIte, reduceCtorEq, Nat.reduceEqDiff, Nat.reduceLT, Nat.reduceLeDiff, Nat.reduceBEq, Nat.reduceAdd, Nat.reduceMul, Nat.reduceSub, Nat.reducePow, Int.reduceLE, Int.reduceLT, Int.reduceNeg, Int.reduceToNat, Int.reduceAdd, Int.reduceSub, idO_app, lenO_app, lenO_app2, lenO_eta] at hr
    subst hr
    clear hy
    refine AWPL_rn tab_ok 1 [1, 2, 5, 6] fun c st' hr => ?_
    simp only [go_sem, reduceIte, reduceCtorEq, Nat.reduceEqDiff, Nat.reduceLT, Nat.reduceLeDiff, Nat.reduceBEq, Nat.reduceAdd, Nat.reduceMul, Nat.reduceSub, Nat.reducePow, Int.reduceLE, Int.reduceLT, Int.reduceNeg, Int.reduceToNat, Int.reduceAdd, Int.reduceSub, idO_app, lenO_app, lenO_app2, lenO_eta] at hr
    obtain ⟨rfl, rfl⟩ := hr
    refine ⟨vc, ?_⟩
    refine AWPL_nil ?_
    with_reducible refine thenC_normal ?_
    refine AWP_seq ?_
    refine AWP_seq ?_
    -- region 6
    replace hK := chk_some hK
    obtain ⟨h1, hK⟩ := hK
    refine AWP_rg tab_ok [1, 2, 5, 6, 26] fun c st' hr => ?_
    simp only [go_sem, reduceIte, reduceCtorEq, Nat.reduceEqDiff, Nat.reduceLT, Nat.reduceLeDiff, Nat.reduceBEq, Nat.reduceAdd, Nat.reduceMul, Nat.reduceSub, Nat.reducePow, Int.reduceLE, Int.reduceLT, Int.reduceNeg, Int.reduceToNat, Int.reduceAdd, Int.reduceSub, idO_app, lenO_app, lenO_app2, lenO_eta] at hr
    obtain ⟨rfl, rfl⟩ := hr
    refine ⟨vc, ?_⟩
    with_reducible refine thenC_normal ?_
    refine AWP_condP (6 < x_1 - (y2.1.length : Int)) rfl bd (fun hb1 => ?_) (fun hb1 => ?_)
    · replace hK := ite_t hK hb1
      refine AWP_seq ?_
      -- region 7
      refine AWP_rg tab_ok [2, 3] fun c st' hr => ?_
      simp only [go_sem, reduceIte, reduceCtorEq, Nat.reduceEqDiff, Nat.reduceLT, Nat.reduceLeDiff, Nat.reduceBEq, Nat.reduceAdd, Nat.reduceMul, Nat.reduceSub, Nat.reducePow, Int.reduceLE, Int.reduceLT, Int.reduceNeg, Int.reduceToNat, Int.reduceAdd, Int.reduceSub, idO_app, lenO_app, lenO_app2, lenO_eta] at hr
      obtain ⟨rfl, rfl⟩ := hr
      refine ⟨vc, ?_⟩
      with_reducible refine thenC_normal ?_
      refine AWP_gs' (gs_rows0 3 .i64) fun st' hr => ?_
      simp only [go_sem, reduceIte, reduceCtorEq, Nat.reduceEqDiff, Nat.reduceLT, Nat.reduceLeDiff, Nat.reduceBEq, Nat.reduceAdd, Nat.reduceMul, Nat.reduceSub, Nat.reducePow, Int.reduceLE, Int.reduceLT, Int.reduceNeg, Int.reduceToNat, Int.reduceAdd, Int.reduceSub, idO_app, lenO_app, lenO_app2, lenO_eta, List.cons_append, List.nil_append] at hr
      subst hr
      refine AWP_ownH 1 2 (.outs 22 10 0 idO (lenO [])) rfl rfl rfl fun st' hr => ?_
      simp only [go_sem, reduceIte, reduceCtorEq, Nat.reduceEqDiff, Nat.reduceLT, Nat.reduceLeDiff, Nat.reduceBEq, Nat.reduceAdd, Nat.reduceMul, Nat.reduceSub, Nat.reducePow, Int.reduceLE, Int.reduceLT, Int.reduceNeg, Int.reduceToNat, Int.reduceAdd, Int.reduceSub, idO_app, lenO_app, lenO_app2, lenO_eta] at hr
      subst hr
      refine AWP_ret ?_
      with_reducible refine thenC_ret ?_
      cases hK
      refine EndsRW [11, 10] (.inl rfl) (of_decide_eq_true rfl) (by simp) rfl (fun c x hr => ?_) endHR
      simp only [go_sem, reduceIte, reduceCtorEq, Nat.reduceEqDiff, Nat.reduceLT, Nat.reduceLeDiff, Nat.reduceBEq, Nat.reduceAdd, Nat.reduceMul, Nat.reduceSub, Nat.reducePow, Int.reduceLE, Int.reduceLT, Int.reduceNeg, Int.reduceToNat, Int.reduceAdd, Int.reduceSub, idO_app, lenO_app, lenO_app2, lenO_eta] at hr
      obtain ⟨rfl, rfl⟩ := hr
      exact ⟨rfl, endR⟩
    · replace hK := ite_f hK hb1
      refine AWP_skip ?_
      with_reducible refine thenC_normal ?_
      refine AWP_seq ?_
      -- region 8
      refine AWP_rg tab_ok [1, 2, 5, 6, 7] fun c st' hr => ?_
      simp only [go_sem, reduceIte, reduceCtorEq, Nat.reduceEqDiff, Nat.reduceLT, Nat.reduceLeDiff, Nat.reduceBEq, Nat.reduceAdd, Nat.reduceMul, Nat.reduceSub, Nat.reducePow, Int.reduceLE, Int.reduceLT, Int.reduceNeg, Int.reduceToNat, Int.reduceAdd, Int.reduceSub, idO_app, lenO_app, lenO_app2, lenO_eta] at hr
      obtain ⟨rfl, rfl⟩ := hr
      refine ⟨vc, ?_⟩
      with_reducible refine thenC_normal ?_
      refine AWP_gs' (gs_rows0 3 .i64) fun st' hr => ?_
      simp only [go_sem, reduceIte, reduceCtorEq, Nat.reduceEqDiff, Nat.reduceLT, Nat.reduceLeDiff, Nat.reduceBEq, Nat.reduceAdd, Nat.reduceMul, Nat.reduceSub, Nat.reducePow, Int.reduceLE, Int.reduceLT, Int.reduceNeg, Int.reduceToNat, Int.reduceAdd, Int.reduceSub, idO_app, lenO_app, lenO_app2, lenO_eta, List.cons_append, List.nil_append] at hr
      subst hr
      refine AWP_ownH 10 2 (.outs 22 11 0 idO (lenO [])) rfl rfl rfl fun st' hr => ?_
      simp only [go_sem, reduceIte, reduceCtorEq, Nat.reduceEqDiff, Nat.reduceLT, Nat.reduceLeDiff, Nat.reduceBEq, Nat.reduceAdd, Nat.reduceMul, Nat.reduceSub, Nat.reducePow, Int.reduceLE, Int.reduceLT, Int.reduceNeg, Int.reduceToNat, Int.reduceAdd, Int.reduceSub, idO_app, lenO_app, lenO_app2, lenO_eta] at hr
      subst hr
      refine AWP_seq ?_
      refine AWP_seq ?_
      -- region 9
      refine AWP_rg tab_ok [1, 2, 5, 6, 7, 34, 35] fun c st' hr => ?_
      simp only [go_sem, reduceIte, reduceCtorEq, Nat.reduceEqDiff, Nat.reduceLT, Nat.reduceLeDiff, Nat.reduceBEq, Nat.reduceAdd, Nat.reduceMul, Nat.reduceSub, Nat.reducePow, Int.reduceLE, Int.reduceLT, Int.reduceNeg, Int.reduceToNat, Int.reduceAdd, Int.reduceSub, idO_app, lenO_app, lenO_app2, lenO_eta] at hr
      obtain ⟨rfl, rfl⟩ := hr
      refine ⟨vc, ?_⟩
      with_reducible refine thenC_normal ?_
      refine AWP_block ?_
      refine AWP_loopX 0 (fun ((v, v1) : List (List Int) × Int) => ⟨81, [(1, .ptr 0 0 0), (2, .ptr 1 0 0), (5, .ptr 4 0 0), (6, .own 7 y2.1.length), (7, .ptr 8 0 0), (34, .int .i64 x_1), (35, .int .i64 v1)], [some (.gen 44 3 [[.int .i64 x_0, .int .i64 x_1, .fn 1 x_2.length (fun i => [.ints .i64 (x_2.getD i [])])]]), some (.gen 44 3 [[.int .i64 0, .int .i64 0, .own 2 0]]), some (.outs 22 3 0 idO (lenO ([] : List (List Int)))), some (.rows 3 .i64 ([] : List (List Int))), some (.gen 44 3 [[.int .i64 y2.2.1, .int .i64 y2.2.2.1, .own 5 y2.2.2.2.length]]), some (.outs 22 6 y2.2.2.2.length idO (lenO y2.2.2.2)), some (.rows 3 .i64 y2.2.2.2), some (.ints 3 .i64 y2.1), some (.gen 44 3 [[.int .i64 x_0, .int .i64 x_1, .own 9 v.length]]), some (.outs 22 10 v.length idO (lenO v)), some (.rows 3 .i64 v)]⟩) (fun (v2 : List (List Int)) => ⟨81, [(2, .ptr 0 0 0), (7, .ptr 3 0 0)], [some (.gen 44 3 [[.int .i64 0, .int .i64 0, .own 1 0]]), some (.outs 22 2 0 idO (lenO ([] : List (List Int)))), some (.rows 3 .i64 ([] : List (List Int))), some (.gen 44 3 [[.int .i64 x_0, .int .i64 x_1, .own 4 v2.length]]), some (.outs 22 5 v2.length idO (lenO v2)), some (.rows 3 .i64 v2)]⟩) (fun v => v) (([] : List (List Int)), 0) [0, 1, 3, 2, 6, 7, 8, 9, 10, 12, 11] hK mkWkR ?_ ?_
      · clear hK; rintro ⟨v, v1⟩ b hK hpost1
        try dsimp only at hK
        change AWP _ _ _ _ ⟨81, [(1, .ptr 0 0 0), (2, .ptr 1 0 0), (5, .ptr 4 0 0), (6, .own 7 y2.1.length), (7, .ptr 8 0 0), (34, .int .i64 x_1), (35, .int .i64 v1)], [some (.gen 44 3 [[.int .i64 x_0, .int .i64 x_1, .fn 1 x_2.length (fun i => [.ints .i64 (x_2.getD i [])])]]), some (.gen 44 3 [[.int .i64 0, .int .i64 0, .own 2 0]]), some (.outs 22 3 0 idO (lenO ([] : List (List Int)))), some (.rows 3 .i64 ([] : List (List Int))), some (.gen 44 3 [[.int .i64 y2.2.1, .int .i64 y2.2.2.1, .own 5 y2.2.2.2.length]]), some (.outs 22 6 y2.2.2.2.length idO (lenO y2.2.2.2)), some (.rows 3 .i64 y2.2.2.2), some (.ints 3 .i64 y2.1), some (.gen 44 3 [[.int .i64 x_0, .int .i64 x_1, .own 9 v.length]]), some (.outs 22 10 v.length idO (lenO v)), some (.rows 3 .i64 v)]⟩
        refine AWP_seq ?_
        -- region 10
        refine AWP_rg tab_ok [1, 2, 5, 6, 7, 34, 35, 36] fun c st' hr => ?_
        simp only [go_sem, reduceIte, reduceCtorEq, Nat.reduceEqDiff, Nat.reduceLT, Nat.reduceLeDiff, Nat.reduceBEq, Nat.reduceAdd, Nat.reduceMul, Nat.reduceSub, Nat.reducePow, Int.reduceLE, Int.reduceLT, Int.reduceNeg, Int.reduceToNat, Int.reduceAdd, Int.reduceSub, idO_app, lenO_app, lenO_app2, lenO_eta] at hr
        obtain ⟨rfl, rfl⟩ := hr
        refine ⟨vc, ?_⟩
        with_reducible refine thenC_normal ?_
        refine AWP_seq ?_
        refine AWP_condP (v1 < x_1) rfl bd (fun hb2 => ?_) (fun hb2 => ?_)
        · replace hK := ite_t hK hb2
          refine AWP_skip ?_
          with_reducible refine thenC_normal ?_
          refine AWP_seq ?_
          refine AWP_block ?_
          refine AWP_seq ?_
          -- region 11
          refine AWP_rg tab_ok [1, 2, 5, 6, 7, 8, 34, 35] fun c st' hr => ?_
          simp only [go_sem, reduceIte, reduceCtorEq, Nat.reduceEqDiff, Nat.reduceLT, Nat.reduceLeDiff, Nat.reduceBEq, Nat.reduceAdd, Nat.reduceMul, Nat.reduceSub, Nat.reducePow, Int.reduceLE, Int.reduceLT, Int.reduceNeg, Int.reduceToNat, Int.reduceAdd, Int.reduceSub, idO_app, lenO_app, lenO_app2, lenO_eta] at hr
          obtain ⟨rfl, rfl⟩ := hr
          refine ⟨vc, ?_⟩
          with_reducible refine thenC_normal ?_
          refine AWP_seq ?_
          refine AWP_seq ?_
          -- region 12
          refine AWP_rl ?_
          refine AWPL_rn tab_ok 2 [1, 2, 5, 6, 7, 8, 34, 35, 38, 39] fun c st' hr => ?_
          simp only [go_sem, reduceIte, reduceCtorEq, Nat.reduceEqDiff, Nat.reduceLT, Nat.reduceLeDiff, Nat.reduceBEq, Nat.reduceAdd, Nat.reduceMul, Nat.reduceSub, Nat.reducePow, Int.reduceLE, Int.reduceLT, Int.reduceNeg, Int.reduceToNat, Int.reduceAdd, Int.reduceSub, idO_app, lenO_app, lenO_app2, lenO_eta] at hr
          obtain ⟨rfl, rfl⟩ := hr
          refine ⟨vc, ?_⟩
          replace hK := bind_s hK
          obtain ⟨y3, hy, hK⟩ := hK
          refine AWPL_callK [1, 2, 5, 6, 7, 8, 34, 35, 40] (W_slices_Contains_int_int hy) rfl rfl pcT rfl Try.call21 (.cons (.ownI _ _ _ _ _ y2.1 rfl (by simp) (by first | simp | exact List.take_of_length_le (by simp))) (.cons (.atom _ rfl) .nil)) (hscG trivial) (of_decide_eq_true rfl) (by first | rfl | simp [nI, nI1, nI0]) (by first | rfl | simp [nIB, nI0]) fun st' hr => ?_
          simp only [go_sem, reduceIte, reduceCtorEq, Nat.reduceEqDiff, Nat.reduceLT, Nat.reduceLeDiff, Nat.reduceBEq, Nat.reduceAdd, Nat.reduceMul, Nat.reduceSub, Nat.reducePow, Int.reduceLE, Int.reduceLT, Int.reduceNeg, Int.reduceToNat, Int.reduceAdd, Int.reduceSub, idO_app, lenO_app, lenO_app2, lenO_eta] at hr
          subst hr
          clear hy
          refine AWPL_nil ?_
          with_reducible refine thenC_normal ?_
          refine AWP_condP (y3 = true) rfl bd (fun hb3 => ?_) (fun hb3 => ?_)
          · replace hK := ite_t hK hb3
            refine AWP_exit ?_
            with_reducible refine thenC_exit (inBlockA_exit (thenC_normal ?_))
            -- region 21
            replace hK := chk_some hK
            obtain ⟨h2, hK⟩ := hK
            refine AWP_rg tab_ok [1, 2, 5, 6, 7, 34, 35] fun c st' hr => ?_
            simp only [go_sem, reduceIte, reduceCtorEq, Nat.reduceEqDiff, Nat.reduceLT, Nat.reduceLeDiff, Nat.reduceBEq, Nat.reduceAdd, Nat.reduceMul, Nat.reduceSub, Nat.reducePow, Int.reduceLE, Int.reduceLT, Int.reduceNeg, Int.reduceToNat, Int.reduceAdd, Int.reduceSub, idO_app, lenO_app, lenO_app2, lenO_eta] at hr
            obtain ⟨rfl, rfl⟩ := hr
            refine ⟨vc, ?_⟩
            refine again_n (v, v1 + 1) [0, 1, 2, 3, 4, 5, 6, 7, 8, 9, 10] hK mkWkR
          · replace hK := ite_f hK hb3
            refine AWP_skip ?_
            with_reducible refine thenC_normal ?_
            refine AWP_seq ?_
            -- region 13
            replace hK := chk_some hK
            obtain ⟨h3, hK⟩ := hK
            refine AWP_rg tab_ok [1, 2, 5, 6, 7, 8, 9, 34, 35] fun c st' hr => ?_
            simp only [go_sem, reduceIte, reduceCtorEq, Nat.reduceEqDiff, Nat.reduceLT, Nat.reduceLeDiff, Nat.reduceBEq, Nat.reduceAdd, Nat.reduceMul, Nat.reduceSub, Nat.reducePow, Int.reduceLE, Int.reduceLT, Int.reduceNeg, Int.reduceToNat, Int.reduceAdd, Int.reduceSub, idO_app, lenO_app, lenO_app2, lenO_eta] at hr
            obtain ⟨rfl, rfl⟩ := hr
            refine ⟨vc, ?_⟩
            with_reducible refine thenC_normal ?_
            refine AWP_seq ?_
            -- region 14
            replace hK := chk_some hK
            obtain ⟨h4, hK⟩ := hK
            refine AWP_rg tab_ok [1, 2, 5, 6, 7, 8, 9, 34, 35] fun c st' hr => ?_
            simp only [go_sem, reduceIte, reduceCtorEq, Nat.reduceEqDiff, Nat.reduceLT, Nat.reduceLeDiff, Nat.reduceBEq, Nat.reduceAdd, Nat.reduceMul, Nat.reduceSub, Nat.reducePow, Int.reduceLE, Int.reduceLT, Int.reduceNeg, Int.reduceToNat, Int.reduceAdd, Int.reduceSub, idO_app, lenO_app, lenO_app2, lenO_eta] at hr
            obtain ⟨rfl, rfl⟩ := hr
            refine ⟨vc, ?_⟩
            with_reducible refine thenC_normal ?_
            refine AWP_seq ?_
            refine AWP_seq ?_
            -- region 15
            refine AWP_rg tab_ok [1, 2, 5, 6, 7, 8, 9, 34, 35, 47, 48, 49] fun c st' hr => ?_
            simp only [go_sem, reduceIte, reduceCtorEq, Nat.reduceEqDiff, Nat.reduceLT, Nat.reduceLeDiff, Nat.reduceBEq, Nat.reduceAdd, Nat.reduceMul, Nat.reduceSub, Nat.reducePow, Int.reduceLE, Int.reduceLT, Int.reduceNeg, Int.reduceToNat, Int.reduceAdd, Int.reduceSub, idO_app, lenO_app, lenO_app2, lenO_eta] at hr
            obtain ⟨rfl, rfl⟩ := hr
            refine ⟨vc, ?_⟩
            with_reducible refine thenC_normal ?_
            refine AWP_block ?_
            refine AWP_loopX 2 (fun ((v3, v4) : List Int × Int) => ⟨81, [(1, .ptr 0 0 0), (2, .ptr 1 0 0), (5, .ptr 4 0 0), (6, .own 7 y2.1.length), (7, .ptr 8 0 0), (8, .int .i64 v1), (9, .own 11 v3.length), (34, .int .i64 x_1), (35, .int .i64 v1), (47, .own 7 y2.1.length), (48, .int .i64 (y2.1.length : Int)), (49, .int .i64 v4)], [some (.gen 44 3 [[.int .i64 x_0, .int .i64 x_1, .fn 1 x_2.length (fun i => [.ints .i64 (x_2.getD i [])])]]), some (.gen 44 3 [[.int .i64 0, .int .i64 0, .own 2 0]]), some (.outs 22 3 0 idO (lenO ([] : List (List Int)))), some (.rows 3 .i64 ([] : List (List Int))), some (.gen 44 3 [[.int .i64 y2.2.1, .int .i64 y2.2.2.1, .own 5 y2.2.2.2.length]]), some (.outs 22 6 y2.2.2.2.length idO (lenO y2.2.2.2)), some (.rows 3 .i64 y2.2.2.2), some (.ints 3 .i64 y2.1), some (.gen 44 3 [[.int .i64 x_0, .int .i64 x_1, .own 9 v.length]]), some (.outs 22 10 v.length idO (lenO v)), some (.rows 3 .i64 v), some (.ints 3 .i64 v3)]⟩) (fun (v5 : List Int) => ⟨81, [(1, .ptr 0 0 0), (2, .ptr 1 0 0), (5, .ptr 4 0 0), (6, .own 7 y2.1.length), (7, .ptr 8 0 0), (9, .own 11 v5.length), (34, .int .i64 x_1), (35, .int .i64 v1)], [some (.gen 44 3 [[.int .i64 x_0, .int .i64 x_1, .fn 1 x_2.length (fun i => [.ints .i64 (x_2.getD i [])])]]), some (.gen 44 3 [[.int .i64 0, .int .i64 0, .own 2 0]]), some (.outs 22 3 0 idO (lenO ([] : List (List Int)))), some (.rows 3 .i64 ([] : List (List Int))), some (.gen 44 3 [[.int .i64 y2.2.1, .int .i64 y2.2.2.1, .own 5 y2.2.2.2.length]]), some (.outs 22 6 y2.2.2.2.length idO (lenO y2.2.2.2)), some (.rows 3 .i64 y2.2.2.2), some (.ints 3 .i64 y2.1), some (.gen 44 3 [[.int .i64 x_0, .int .i64 x_1, .own 9 v.length]]), some (.outs 22 10 v.length idO (lenO v)), some (.rows 3 .i64 v), some (.ints 3 .i64 v5)]⟩) (fun v => v) ((List.replicate x_1.toNat 0).set v1.toNat 1, 0) [0, 1, 2, 3, 4, 5, 6, 7, 8, 9, 10, 11] hK mkWkR ?_ ?_
            · clear hK; rintro ⟨v3, v4⟩ b1 hK hpost2
              try dsimp only at hK
              change AWP _ _ _ _ ⟨81, [(1, .ptr 0 0 0), (2, .ptr 1 0 0), (5, .ptr 4 0 0), (6, .own 7 y2.1.length), (7, .ptr 8 0 0), (8, .int .i64 v1), (9, .own 11 v3.length), (34, .int .i64 x_1), (35, .int .i64 v1), (47, .own 7 y2.1.length), (48, .int .i64 (y2.1.length : Int)), (49, .int .i64 v4)], [some (.gen 44 3 [[.int .i64 x_0, .int .i64 x_1, .fn 1 x_2.length (fun i => [.ints .i64 (x_2.getD i [])])]]), some (.gen 44 3 [[.int .i64 0, .int .i64 0, .own 2 0]]), some (.outs 22 3 0 idO (lenO ([] : List (List Int)))), some (.rows 3 .i64 ([] : List (List Int))), some (.gen 44 3 [[.int .i64 y2.2.1, .int .i64 y2.2.2.1, .own 5 y2.2.2.2.length]]), some (.outs 22 6 y2.2.2.2.length idO (lenO y2.2.2.2)), some (.rows 3 .i64 y2.2.2.2), some (.ints 3 .i64 y2.1), some (.gen 44 3 [[.int .i64 x_0, .int .i64 x_1, .own 9 v.length]]), some (.outs 22 10 v.length idO (lenO v)), some (.rows 3 .i64 v), some (.ints 3 .i64 v3)]⟩
              refine AWP_seq ?_
              -- region 16
              refine AWP_rg tab_ok [1, 2, 5, 6, 7, 8, 9, 34, 35, 47, 48, 49, 50] fun c st' hr => ?_
              simp only [go_sem, reduceIte, reduceCtorEq, Nat.reduceEqDiff, Nat.reduceLT, Nat.reduceLeDiff, Nat.reduceBEq, Nat.reduceAdd, Nat.reduceMul, Nat.reduceSub, Nat.reducePow, Int.reduceLE, Int.reduceLT, Int.reduceNeg, Int.reduceToNat, Int.reduceAdd, Int.reduceSub, idO_app, lenO_app, lenO_app2, lenO_eta] at hr
              obtain ⟨rfl, rfl⟩ := hr
              refine ⟨vc, ?_⟩
              with_reducible refine thenC_normal ?_
              refine AWP_seq ?_
              refine AWP_condP (v4 < (y2.1.length : Int)) rfl bd (fun hb4 => ?_) (fun hb4 => ?_)
              · replace hK := ite_t hK hb4
                refine AWP_skip ?_
                with_reducible refine thenC_normal ?_
                refine AWP_seq ?_
                refine AWP_block ?_
                refine AWP_seq ?_
                -- region 17
                replace hK := chk_some hK
                obtain ⟨h5, hK⟩ := hK
                refine AWP_rg tab_ok [1, 2, 5, 6, 7, 8, 9, 10, 11, 34, 35, 47, 48, 49] fun c st' hr => ?_
                simp only [go_sem, reduceIte, reduceCtorEq, Nat.reduceEqDiff, Nat.reduceLT, Nat.reduceLeDiff, Nat.reduceBEq, Nat.reduceAdd, Nat.reduceMul, Nat.reduceSub, Nat.reducePow, Int.reduceLE, Int.reduceLT, Int.reduceNeg, Int.reduceToNat, Int.reduceAdd, Int.reduceSub, idO_app, lenO_app, lenO_app2, lenO_eta] at hr
                obtain ⟨rfl, rfl⟩ := hr
                refine ⟨vc, ?_⟩
                with_reducible refine thenC_normal ?_
                -- region 18
                replace hK := chk_some hK
                obtain ⟨h6, hK⟩ := hK
                refine AWP_dt tab_ok 17 [1, 2, 5, 6, 7, 8, 9, 34, 35, 47, 48, 49] mixed (by kernel_rfl) fun c st' hr => ?_
                simp only [go_sem, reduceIte, reduceCtorEq, Nat.reduceEqDiff, Nat.reduceLT, Nat.reduceLeDiff, Nat.reduceBEq, Nat.reduceAdd, Nat.reduceMul, Nat.reduceSub, Nat.reducePow, Int.reduceLE, Int.reduceLT, Int.reduceNeg, Int.reduceToNat, Int.reduceAdd, Int.reduceSub, idO_app, lenO_app, lenO_app2, lenO_eta] at hr
                obtain ⟨rfl, rfl⟩ := hr
                refine ⟨vc, ?_⟩
                with_reducible refine inBlockA_normal (thenC_normal ?_)
                -- region 19
                replace hK := chk_some hK
                obtain ⟨h7, hK⟩ := hK
                refine AWP_rg tab_ok [1, 2, 5, 6, 7, 8, 9, 34, 35, 47, 48, 49] fun c st' hr => ?_
                simp only [go_sem, reduceIte, reduceCtorEq, Nat.reduceEqDiff, Nat.reduceLT, Nat.reduceLeDiff, Nat.reduceBEq, Nat.reduceAdd, Nat.reduceMul, Nat.reduceSub, Nat.reducePow, Int.reduceLE, Int.reduceLT, Int.reduceNeg, Int.reduceToNat, Int.reduceAdd, Int.reduceSub, idO_app, lenO_app, lenO_app2, lenO_eta] at hr
                obtain ⟨rfl, rfl⟩ := hr
                refine ⟨vc, ?_⟩
                refine again_n (v3.set (y2.1.getD v4.toNat 0).toNat (Int.tmod (x_0 - ((y2.2.2.2.getD v4.toNat []).getD v1.toNat 0)) x_0), v4 + 1) [0, 1, 2, 3, 4, 5, 6, 7, 8, 9, 10, 11] hK mkWkR
              · replace hK := ite_f hK hb4
                refine AWP_exit ?_
                with_reducible refine thenC_exit (again_x ?_)
                refine cutX_here v3 [0, 1, 2, 3, 4, 5, 6, 7, 8, 9, 10, 11] (by have hq := hpost2 _ hK; exact hq) mkWkR
            · clear hK; rintro v5 hK
              try dsimp only at hK
              refine exS ⟨81, [(1, .ptr 0 0 0), (2, .ptr 1 0 0), (5, .ptr 4 0 0), (6, .own 7 y2.1.length), (7, .ptr 8 0 0), (9, .own 11 v5.length), (34, .int .i64 x_1), (35, .int .i64 v1)], [some (.gen 44 3 [[.int .i64 x_0, .int .i64 x_1, .fn 1 x_2.length (fun i => [.ints .i64 (x_2.getD i [])])]]), some (.gen 44 3 [[.int .i64 0, .int .i64 0, .own 2 0]]), some (.outs 22 3 0 idO (lenO ([] : List (List Int)))), some (.rows 3 .i64 ([] : List (List Int))), some (.gen 44 3 [[.int .i64 y2.2.1, .int .i64 y2.2.2.1, .own 5 y2.2.2.2.length]]), some (.outs 22 6 y2.2.2.2.length idO (lenO y2.2.2.2)), some (.rows 3 .i64 y2.2.2.2), some (.ints 3 .i64 y2.1), some (.gen 44 3 [[.int .i64 x_0, .int .i64 x_1, .own 9 v.length]]), some (.outs 22 10 v.length idO (lenO v)), some (.rows 3 .i64 v), some (.ints 3 .i64 v5)]⟩ rfl ?_
              with_reducible refine inBlockA_exit (thenC_normal ?_)
              -- region 20
              refine AWP_rl ?_
              refine AWPL_rn tab_ok 3 [1, 2, 5, 6, 7, 34, 35, 73, 74] fun c st' hr => ?_
              simp only [go_sem, reduceIte, reduceCtorEq, Nat.reduceEqDiff, Nat.reduceLT, Nat.reduceLeDiff, Nat.reduceBEq, Nat.reduceAdd, Nat.reduceMul, Nat.reduceSub, Nat.reducePow, Int.reduceLE, Int.reduceLT, Int.reduceNeg, Int.reduceToNat, Int.reduceAdd, Int.reduceSub, idO_app, lenO_app, lenO_app2, lenO_eta] at hr
              obtain ⟨rfl, rfl⟩ := hr
              refine ⟨vc, ?_⟩
              refine AWPL_gs' (gs_adopt 74 10 rfl (by first | rfl | (simp; done)) rfl rfl (by first | rfl | (simp [noPin]; done))) fun st' hr => ?_
              simp only [go_sem, reduceIte, reduceCtorEq, Nat.reduceEqDiff, Nat.reduceLT, Nat.reduceLeDiff, Nat.reduceBEq, Nat.reduceAdd, Nat.reduceMul, Nat.reduceSub, Nat.reducePow, Int.reduceLE, Int.reduceLT, Int.reduceNeg, Int.reduceToNat, Int.reduceAdd, Int.reduceSub, idO_app, lenO_app, lenO_app2, lenO_eta, List.set_cons_zero, List.set_cons_succ] at hr
              subst hr
              replace hK := chk_some hK
              obtain ⟨h8, hK⟩ := hK
              refine AWPL_rn tab_ok 4 [1, 2, 5, 6, 7, 34, 35] fun c st' hr => ?_
              simp only [go_sem, reduceIte, reduceCtorEq, Nat.reduceEqDiff, Nat.reduceLT, Nat.reduceLeDiff, Nat.reduceBEq, Nat.reduceAdd, Nat.reduceMul, Nat.reduceSub, Nat.reducePow, Int.reduceLE, Int.reduceLT, Int.reduceNeg, Int.reduceToNat, Int.reduceAdd, Int.reduceSub, idO_app, lenO_app, lenO_app2, lenO_eta] at hr
              obtain ⟨rfl, rfl⟩ := hr
              refine ⟨vc, ?_⟩
              refine AWPL_nil ?_
              with_reducible refine inBlockA_normal (thenC_normal ?_)
              -- region 21
              replace hK := chk_some hK
              obtain ⟨h9, hK⟩ := hK
              refine AWP_rg tab_ok [1, 2, 5, 6, 7, 34, 35] fun c st' hr => ?_
              simp only [go_sem, reduceIte, reduceCtorEq, Nat.reduceEqDiff, Nat.reduceLT, Nat.reduceLeDiff, Nat.reduceBEq, Nat.reduceAdd, Nat.reduceMul, Nat.reduceSub, Nat.reducePow, Int.reduceLE, Int.reduceLT, Int.reduceNeg, Int.reduceToNat, Int.reduceAdd, Int.reduceSub, idO_app, lenO_app, lenO_app2, lenO_eta] at hr
              obtain ⟨rfl, rfl⟩ := hr
              refine ⟨vc, ?_⟩
              refine again_n (v ++ [v5], v1 + 1) [0, 1, 2, 3, 4, 5, 6, 7, 8, 13, 10] hK mkWkR
        · replace hK := ite_f hK hb2
          refine AWP_exit ?_
          with_reducible refine thenC_exit (again_x ?_)
          refine cutX_here v [1, 2, 3, 8, 9, 10] (by have hq := hpost1 _ hK; exact hq) mkWkR
      · clear hK; rintro v2 hK
        try dsimp only at hK
        refine exS ⟨81, [(2, .ptr 0 0 0), (7, .ptr 3 0 0)], [some (.gen 44 3 [[.int .i64 0, .int .i64 0, .own 1 0]]), some (.outs 22 2 0 idO (lenO ([] : List (List Int)))), some (.rows 3 .i64 ([] : List (List Int))), some (.gen 44 3 [[.int .i64 x_0, .int .i64 x_1, .own 4 v2.length]]), some (.outs 22 5 v2.length idO (lenO v2)), some (.rows 3 .i64 v2)]⟩ rfl ?_
        with_reducible refine inBlockA_exit (thenC_normal ?_)
        refine AWP_seq ?_
        -- region 22
        refine AWP_rl ?_
        replace hK := bind_s hK
        obtain ⟨y4, hy, hK⟩ := hK
        refine AWPL_gR [2, 7] [3, 4, 5] [.ptr 0 0 0] [some (.gen 44 3 [[.int .i64 0, .int .i64 0, .own 1 0]]), some (.outs 22 2 0 idO (lenO ([] : List (List Int)))), some (.rows 3 .i64 ([] : List (List Int))), some (.gen 44 3 [[.int .i64 y4.2.1, .int .i64 y4.2.2.1, .own 6 y4.2.2.2.length]]), none, none, some (.outs 22 7 y4.2.2.2.length idO (lenO y4.2.2.2)), some (.rows 3 .i64 y4.2.2.2), some (.ints 3 .i64 y4.1)] (r' := .own 8 y4.1.length) (W_field_reduced hy) rfl rfl pcT rfl Try.call84 (of_decide_eq_true rfl) ⟨rfl, rfl, rfl, trivial⟩ rfl (hscG trivial) (of_decide_eq_true rfl) rfl rfl rfl (of_decide_eq_true rfl) rfl fun st' hr => ?_
        simp only [go_sem, reduceIte, reduceCtorEq, Nat.reduceEqDiff, Nat.reduceLT, Nat.reduceLeDiff, Nat.reduceBEq, Nat.reduceAdd, Nat.reduceMul, Nat.reduceSub, Nat.reducePow, Int.reduceLE, Int.reduceLT, Int.reduceNeg, Int.reduceToNat, Int.reduceAdd, Int.reduceSub, idO_app, lenO_app, lenO_app2, lenO_eta] at hr
        subst hr
        clear hy
        refine AWPL_nil ?_
        with_reducible refine thenC_normal ?_
        refine AWP_seq ?_
        -- region 23
        refine AWP_rg tab_ok [2, 3] fun c st' hr => ?_
        simp only [go_sem, reduceIte, reduceCtorEq, Nat.reduceEqDiff, Nat.reduceLT, Nat.reduceLeDiff, Nat.reduceBEq, Nat.reduceAdd, Nat.reduceMul, Nat.reduceSub, Nat.reducePow, Int.reduceLE, Int.reduceLT, Int.reduceNeg, Int.reduceToNat, Int.reduceAdd, Int.reduceSub, idO_app, lenO_app, lenO_app2, lenO_eta] at hr
        obtain ⟨rfl, rfl⟩ := hr
        refine ⟨vc, ?_⟩
        with_reducible refine thenC_normal ?_
        refine AWP_ret ?_
        cases hK
        refine EndsRW [6, 7] (.inl rfl) (of_decide_eq_true rfl) (by simp) rfl (fun c x hr => ?_) endHR
        simp only [go_sem, reduceIte, reduceCtorEq, Nat.reduceEqDiff, Nat.reduceLT, Nat.reduceLeDiff, Nat.reduceBEq, Nat.reduceAdd, Nat.reduceMul, Nat.reduceSub, Nat.reducePow, Int.reduceLE, Int.reduceLT, Int.reduceNeg, Int.reduceToNat, Int.reduceAdd, Int.reduceSub, idO_app, lenO_app, lenO_app2, lenO_eta] at hr
        obtain ⟨rfl, rfl⟩ := hr
        exact ⟨rfl, endR⟩

end Go.SH
