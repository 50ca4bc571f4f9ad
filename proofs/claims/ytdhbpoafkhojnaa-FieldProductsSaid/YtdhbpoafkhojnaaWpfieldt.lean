/-
  That the code computes these functions: field_Times, field_Turned. By a program of mine (shal.py). Conditions: none.
-/
import Derived.Test.YtdhbpoafkhojnaaAxT
import Derived.Test.YtdhbpoafkhojnaaAxR
import Derived.Test.YtdhbpoafkhojnaaAxRx
import Derived.Test.YtdhbpoafkhojnaaSp
import Derived.Test.YtdhbpoafkhojnaaWpkindsm
set_option linter.unusedVariables false
set_option linter.unusedSimpArgs false
namespace Go.SH
open Go Go.AX Go.AX.Try Go.Proofs

set_option maxRecDepth 8000 in
set_option maxHeartbeats 4000000 in
theorem W_field_Times {x_0 : Int} {x_1 : Int} {x_2 : List (List Int)} {a1_0 : Int} {a1_1 : Int} {a1_2 : List (List Int)} {r : Int × Int × List (List Int) × Int} (hK : field_Times x_0 x_1 x_2 a1_0 a1_1 a1_2 = some r) : Pure Try.prog 28 [.agg [.int .i64 x_0, .int .i64 x_1, .fn 1 x_2.length (fun i => [.ints .i64 (x_2.getD i [])])], .agg [.int .i64 a1_0, .int .i64 a1_1, .fn 1 a1_2.length (fun i => [.ints .i64 (a1_2.getD i [])])]] (.tup [.agg [.int .i64 r.1, .int .i64 r.2.1, .own 0 r.2.2.1.length], .int .i64 r.2.2.2]) [(.outs 22 1 r.2.2.1.length idO (lenO r.2.2.1)), (.rows 3 .i64 r.2.2.1)] := by
  refine Pure_introF tab_ok (n := 102) (l := [.cell 4 44, .tmp 5]) Try.func28 rfl rfl rfl (by simp) fun hfact w0 => ?_
  simp only [factL1, fact1, fact0, factL0, lo, hi, maxLen, and_true] at hfact
  unfold field_Times at hK
  refine AWP_seq ?_
  -- region 0
  refine AWP_rg tab_ok [2, 3, 4] fun c st' hr => ?_
  simp only [go_sem, reduceIte, reduceCtorEq, Nat.reduceEqDiff, Nat.reduceLT, Nat.reduceLeDiff, Nat.reduceBEq, Nat.reduceAdd, Nat.reduceMul, Nat.reduceSub, Nat.reducePow, Int.reduceLE, Int.reduceLT, Int.reduceNeg, Int.reduceToNat, Int.reduceAdd, Int.reduceSub, idO_app, lenO_app, lenO_app2, lenO_eta] at hr
  obtain ⟨rfl, rfl⟩ := hr
  refine ⟨vc, ?_⟩
  with_reducible refine thenC_normal ?_
  refine AWP_gs' (gs_rows0 3 .i64) fun st' hr => ?_
  simp only [go_sem, reduceIte, reduceCtorEq, Nat.reduceEqDiff, Nat.reduceLT, Nat.reduceLeDiff, Nat.reduceBEq, Nat.reduceAdd, Nat.reduceMul, Nat.reduceSub, Nat.reducePow, Int.reduceLE, Int.reduceLT, Int.reduceNeg, Int.reduceToNat, Int.reduceAdd, Int.reduceSub, idO_app, lenO_app, lenO_app2, lenO_eta, List.cons_append, List.nil_append] at hr
  subst hr
  refine AWP_ownH 2 2 (.outs 22 3 0 idO (lenO [])) rfl rfl rfl fun st' hr => ?_
  simp only [go_sem, reduceIte, reduceCtorEq, Nat.reduceEqDiff, Nat.reduceLT, Nat.reduceLeDiff, Nat.reduceBEq, Nat.reduceAdd, Nat.reduceMul, Nat.reduceSub, Nat.reducePow, Int.reduceLE, Int.reduceLT, Int.reduceNeg, Int.reduceToNat, Int.reduceAdd, Int.reduceSub, idO_app, lenO_app, lenO_app2, lenO_eta] at hr
  subst hr
  refine AWP_seq ?_
  -- region 1
  refine AWP_drawQ mixed (by kernel_rfl) ?_
  refine AWQL_rn tab_ok 1 [2, 3, 4, 15] fun c st' hr => ?_
  simp only [go_sem, reduceIte, reduceCtorEq, Nat.reduceEqDiff, Nat.reduceLT, Nat.reduceLeDiff, Nat.reduceBEq, Nat.reduceAdd, Nat.reduceMul, Nat.reduceSub, Nat.reducePow, Int.reduceLE, Int.reduceLT, Int.reduceNeg, Int.reduceToNat, Int.reduceAdd, Int.reduceSub, idO_app, lenO_app, lenO_app2, lenO_eta] at hr
  obtain ⟨rfl, rfl⟩ := hr
  refine ⟨vc, ?_⟩
  replace hK := bind_s hK
  obtain ⟨y, hy, hK⟩ := hK
  refine AWQL_callK [2, 3, 4, 16] (W_kinds_CheckMatrix hy) rfl rfl pcT rfl Try.call78 (.cons (.agg _ _ rfl (ArgsOk.get (.cons (.atom _ rfl) (.cons (.atom _ rfl) (.cons (.atom _ rfl) .nil)))).2) .nil) (hscG trivial) (of_decide_eq_true rfl) rfl fun st' hr => ?_
  simp only [go_sem, reduceIte, reduceCtorEq, Nat.reduceEqDiff, Nat.reduceLT, Nat.reduceLeDiff, Nat.reduceBEq, Nat.reduceAdd, Nat.reduceMul, Nat.reduceSub, Nat.reducePow, Int.reduceLE, Int.reduceLT, Int.reduceNeg, Int.reduceToNat, Int.reduceAdd, Int.reduceSub, idO_app, lenO_app, lenO_app2, lenO_eta] at hr
  subst hr
  clear hy
  refine AWQL_rn tab_ok 1 [2, 3, 4, 16, 17] fun c st' hr => ?_
  simp only [go_sem, reduceIte, reduceCtorEq, Nat.reduceEqDiff, Nat.reduceLT, Nat.reduceLeDiff, Nat.reduceBEq, Nat.reduceAdd, Nat.reduceMul, Nat.reduceSub, Nat.reducePow, Int.reduceLE, Int.reduceLT, Int.reduceNeg, Int.reduceToNat, Int.reduceAdd, Int.reduceSub, idO_app, lenO_app, lenO_app2, lenO_eta] at hr
  obtain ⟨rfl, rfl⟩ := hr
  refine ⟨vc, ?_⟩
  replace hK := bind_s hK
  obtain ⟨y1, hy, hK⟩ := hK
  refine AWQL_callK [2, 3, 4, 16, 18] (W_kinds_CheckMatrix hy) rfl rfl pcT rfl Try.call78 (.cons (.agg _ _ rfl (ArgsOk.get (.cons (.atom _ rfl) (.cons (.atom _ rfl) (.cons (.atom _ rfl) .nil)))).2) .nil) (hscG trivial) (of_decide_eq_true rfl) rfl fun st' hr => ?_
  simp only [go_sem, reduceIte, reduceCtorEq, Nat.reduceEqDiff, Nat.reduceLT, Nat.reduceLeDiff, Nat.reduceBEq, Nat.reduceAdd, Nat.reduceMul, Nat.reduceSub, Nat.reducePow, Int.reduceLE, Int.reduceLT, Int.reduceNeg, Int.reduceToNat, Int.reduceAdd, Int.reduceSub, idO_app, lenO_app, lenO_app2, lenO_eta] at hr
  subst hr
  clear hy
  refine AWQL_rn tab_ok 2 [2, 3, 4, 6, 7] fun c st' hr => ?_
  simp only [go_sem, reduceIte, reduceCtorEq, Nat.reduceEqDiff, Nat.reduceLT, Nat.reduceLeDiff, Nat.reduceBEq, Nat.reduceAdd, Nat.reduceMul, Nat.reduceSub, Nat.reducePow, Int.reduceLE, Int.reduceLT, Int.reduceNeg, Int.reduceToNat, Int.reduceAdd, Int.reduceSub, idO_app, lenO_app, lenO_app2, lenO_eta] at hr
  obtain ⟨rfl, rfl⟩ := hr
  refine ⟨vc, ?_⟩
  refine AWQL_nil ?_
  with_reducible refine thenC_normal ?_
  refine AWP_seq ?_
  refine AWP_block ?_
  refine AWP_seq ?_
  -- region 2
  refine AWP_rg tab_ok [2, 3, 4, 6, 7, 19] fun c st' hr => ?_
  simp only [go_sem, reduceIte, reduceCtorEq, Nat.reduceEqDiff, Nat.reduceLT, Nat.reduceLeDiff, Nat.reduceBEq, Nat.reduceAdd, Nat.reduceMul, Nat.reduceSub, Nat.reducePow, Int.reduceLE, Int.reduceLT, Int.reduceNeg, Int.reduceToNat, Int.reduceAdd, Int.reduceSub, idO_app, lenO_app, lenO_app2, lenO_eta] at hr
  obtain ⟨rfl, rfl⟩ := hr
  refine ⟨vc, ?_⟩
  with_reducible refine thenC_normal ?_
  refine AWP_condP (y ≠ 0) rfl bd (fun hb => ?_) (fun hb => ?_)
  · replace hK := ite_t hK hb
    refine AWP_seq ?_
    -- region 3
    refine AWP_rg tab_ok [4, 5] fun c st' hr => ?_
    simp only [go_sem, reduceIte, reduceCtorEq, Nat.reduceEqDiff, Nat.reduceLT, Nat.reduceLeDiff, Nat.reduceBEq, Nat.reduceAdd, Nat.reduceMul, Nat.reduceSub, Nat.reducePow, Int.reduceLE, Int.reduceLT, Int.reduceNeg, Int.reduceToNat, Int.reduceAdd, Int.reduceSub, idO_app, lenO_app, lenO_app2, lenO_eta] at hr
    obtain ⟨rfl, rfl⟩ := hr
    refine ⟨vc, ?_⟩
    with_reducible refine thenC_normal ?_
    refine AWP_gs' (gs_rows0 3 .i64) fun st' hr => ?_
    simp only [go_sem, reduceIte, reduceCtorEq, Nat.reduceEqDiff, Nat.reduceLT, Nat.reduceLeDiff, Nat.reduceBEq, Nat.reduceAdd, Nat.reduceMul, Nat.reduceSub, Nat.reducePow, Int.reduceLE, Int.reduceLT, Int.reduceNeg, Int.reduceToNat, Int.reduceAdd, Int.reduceSub, idO_app, lenO_app, lenO_app2, lenO_eta, List.cons_append, List.nil_append] at hr
    subst hr
    refine AWP_ownH 2 2 (.outs 22 5 0 idO (lenO [])) rfl rfl rfl fun st' hr => ?_
    simp only [go_sem, reduceIte, reduceCtorEq, Nat.reduceEqDiff, Nat.reduceLT, Nat.reduceLeDiff, Nat.reduceBEq, Nat.reduceAdd, Nat.reduceMul, Nat.reduceSub, Nat.reducePow, Int.reduceLE, Int.reduceLT, Int.reduceNeg, Int.reduceToNat, Int.reduceAdd, Int.reduceSub, idO_app, lenO_app, lenO_app2, lenO_eta] at hr
    subst hr
    refine AWP_ret ?_
    with_reducible refine inBlockA_ret (thenC_ret ?_)
    cases hK
    refine EndsRW [6, 5] (.inl rfl) (of_decide_eq_true rfl) (by simp) rfl (fun c x hr => ?_) endHR
    simp only [go_sem, reduceIte, reduceCtorEq, Nat.reduceEqDiff, Nat.reduceLT, Nat.reduceLeDiff, Nat.reduceBEq, Nat.reduceAdd, Nat.reduceMul, Nat.reduceSub, Nat.reducePow, Int.reduceLE, Int.reduceLT, Int.reduceNeg, Int.reduceToNat, Int.reduceAdd, Int.reduceSub, idO_app, lenO_app, lenO_app2, lenO_eta] at hr
    obtain ⟨rfl, rfl⟩ := hr
    exact ⟨rfl, endR⟩
  · replace hK := ite_f hK hb
    refine AWP_seq ?_
    -- region 4
    refine AWP_rg tab_ok [2, 3, 4, 7, 24] fun c st' hr => ?_
    simp only [go_sem, reduceIte, reduceCtorEq, Nat.reduceEqDiff, Nat.reduceLT, Nat.reduceLeDiff, Nat.reduceBEq, Nat.reduceAdd, Nat.reduceMul, Nat.reduceSub, Nat.reducePow, Int.reduceLE, Int.reduceLT, Int.reduceNeg, Int.reduceToNat, Int.reduceAdd, Int.reduceSub, idO_app, lenO_app, lenO_app2, lenO_eta] at hr
    obtain ⟨rfl, rfl⟩ := hr
    refine ⟨vc, ?_⟩
    with_reducible refine thenC_normal ?_
    refine AWP_condP (y1 ≠ 0) rfl bd (fun hb1 => ?_) (fun hb1 => ?_)
    · replace hK := ite_t hK hb1
      refine AWP_seq ?_
      -- region 5
      refine AWP_rg tab_ok [4, 5] fun c st' hr => ?_
      simp only [go_sem, reduceIte, reduceCtorEq, Nat.reduceEqDiff, Nat.reduceLT, Nat.reduceLeDiff, Nat.reduceBEq, Nat.reduceAdd, Nat.reduceMul, Nat.reduceSub, Nat.reducePow, Int.reduceLE, Int.reduceLT, Int.reduceNeg, Int.reduceToNat, Int.reduceAdd, Int.reduceSub, idO_app, lenO_app, lenO_app2, lenO_eta] at hr
      obtain ⟨rfl, rfl⟩ := hr
      refine ⟨vc, ?_⟩
      with_reducible refine thenC_normal ?_
      refine AWP_gs' (gs_rows0 3 .i64) fun st' hr => ?_
      simp only [go_sem, reduceIte, reduceCtorEq, Nat.reduceEqDiff, Nat.reduceLT, Nat.reduceLeDiff, Nat.reduceBEq, Nat.reduceAdd, Nat.reduceMul, Nat.reduceSub, Nat.reducePow, Int.reduceLE, Int.reduceLT, Int.reduceNeg, Int.reduceToNat, Int.reduceAdd, Int.reduceSub, idO_app, lenO_app, lenO_app2, lenO_eta, List.cons_append, List.nil_append] at hr
      subst hr
      refine AWP_ownH 2 2 (.outs 22 5 0 idO (lenO [])) rfl rfl rfl fun st' hr => ?_
      simp only [go_sem, reduceIte, reduceCtorEq, Nat.reduceEqDiff, Nat.reduceLT, Nat.reduceLeDiff, Nat.reduceBEq, Nat.reduceAdd, Nat.reduceMul, Nat.reduceSub, Nat.reducePow, Int.reduceLE, Int.reduceLT, Int.reduceNeg, Int.reduceToNat, Int.reduceAdd, Int.reduceSub, idO_app, lenO_app, lenO_app2, lenO_eta] at hr
      subst hr
      refine AWP_ret ?_
      with_reducible refine inBlockA_ret (thenC_ret ?_)
      cases hK
      refine EndsRW [6, 5] (.inl rfl) (of_decide_eq_true rfl) (by simp) rfl (fun c x hr => ?_) endHR
      simp only [go_sem, reduceIte, reduceCtorEq, Nat.reduceEqDiff, Nat.reduceLT, Nat.reduceLeDiff, Nat.reduceBEq, Nat.reduceAdd, Nat.reduceMul, Nat.reduceSub, Nat.reducePow, Int.reduceLE, Int.reduceLT, Int.reduceNeg, Int.reduceToNat, Int.reduceAdd, Int.reduceSub, idO_app, lenO_app, lenO_app2, lenO_eta] at hr
      obtain ⟨rfl, rfl⟩ := hr
      exact ⟨rfl, endR⟩
    · replace hK := ite_f hK hb1
      refine AWP_seq ?_
      -- region 6
      refine AWP_rg tab_ok [2, 3, 4, 29] fun c st' hr => ?_
      simp only [go_sem, reduceIte, reduceCtorEq, Nat.reduceEqDiff, Nat.reduceLT, Nat.reduceLeDiff, Nat.reduceBEq, Nat.reduceAdd, Nat.reduceMul, Nat.reduceSub, Nat.reducePow, Int.reduceLE, Int.reduceLT, Int.reduceNeg, Int.reduceToNat, Int.reduceAdd, Int.reduceSub, idO_app, lenO_app, lenO_app2, lenO_eta] at hr
      obtain ⟨rfl, rfl⟩ := hr
      refine ⟨vc, ?_⟩
      with_reducible refine thenC_normal ?_
      refine AWP_condP ((x_0 ≠ a1_0 ∨ x_1 ≠ (a1_2.length : Int))) rfl bd (fun hb2 => ?_) (fun hb2 => ?_)
      · replace hK := ite_t hK hb2
        refine AWP_seq ?_
        -- region 7
        refine AWP_rg tab_ok [4, 5] fun c st' hr => ?_
        simp only [go_sem, reduceIte, reduceCtorEq, Nat.reduceEqDiff, Nat.reduceLT, Nat.reduceLeDiff, Nat.reduceBEq, Nat.reduceAdd, Nat.reduceMul, Nat.reduceSub, Nat.reducePow, Int.reduceLE, Int.reduceLT, Int.reduceNeg, Int.reduceToNat, Int.reduceAdd, Int.reduceSub, idO_app, lenO_app, lenO_app2, lenO_eta] at hr
        obtain ⟨rfl, rfl⟩ := hr
        refine ⟨vc, ?_⟩
        with_reducible refine thenC_normal ?_
        refine AWP_gs' (gs_rows0 3 .i64) fun st' hr => ?_
        simp only [go_sem, reduceIte, reduceCtorEq, Nat.reduceEqDiff, Nat.reduceLT, Nat.reduceLeDiff, Nat.reduceBEq, Nat.reduceAdd, Nat.reduceMul, Nat.reduceSub, Nat.reducePow, Int.reduceLE, Int.reduceLT, Int.reduceNeg, Int.reduceToNat, Int.reduceAdd, Int.reduceSub, idO_app, lenO_app, lenO_app2, lenO_eta, List.cons_append, List.nil_append] at hr
        subst hr
        refine AWP_ownH 2 2 (.outs 22 5 0 idO (lenO [])) rfl rfl rfl fun st' hr => ?_
        simp only [go_sem, reduceIte, reduceCtorEq, Nat.reduceEqDiff, Nat.reduceLT, Nat.reduceLeDiff, Nat.reduceBEq, Nat.reduceAdd, Nat.reduceMul, Nat.reduceSub, Nat.reducePow, Int.reduceLE, Int.reduceLT, Int.reduceNeg, Int.reduceToNat, Int.reduceAdd, Int.reduceSub, idO_app, lenO_app, lenO_app2, lenO_eta] at hr
        subst hr
        refine AWP_ret ?_
        with_reducible refine inBlockA_ret (thenC_ret ?_)
        cases hK
        refine EndsRW [6, 5] (.inl rfl) (of_decide_eq_true rfl) (by simp) rfl (fun c x hr => ?_) endHR
        simp only [go_sem, reduceIte, reduceCtorEq, Nat.reduceEqDiff, Nat.reduceLT, Nat.reduceLeDiff, Nat.reduceBEq, Nat.reduceAdd, Nat.reduceMul, Nat.reduceSub, Nat.reducePow, Int.reduceLE, Int.reduceLT, Int.reduceNeg, Int.reduceToNat, Int.reduceAdd, Int.reduceSub, idO_app, lenO_app, lenO_app2, lenO_eta] at hr
        obtain ⟨rfl, rfl⟩ := hr
        exact ⟨rfl, endR⟩
      · replace hK := ite_f hK hb2
        refine AWP_skip ?_
        with_reducible refine inBlockA_normal (thenC_normal ?_)
        refine AWP_seq ?_
        -- region 8
        refine AWP_rg tab_ok [2, 3, 4, 8] fun c st' hr => ?_
        simp only [go_sem, reduceIte, reduceCtorEq, Nat.reduceEqDiff, Nat.reduceLT, Nat.reduceLeDiff, Nat.reduceBEq, Nat.reduceAdd, Nat.reduceMul, Nat.reduceSub, Nat.reducePow, Int.reduceLE, Int.reduceLT, Int.reduceNeg, Int.reduceToNat, Int.reduceAdd, Int.reduceSub, idO_app, lenO_app, lenO_app2, lenO_eta] at hr
        obtain ⟨rfl, rfl⟩ := hr
        refine ⟨vc, ?_⟩
        with_reducible refine thenC_normal ?_
        refine AWP_gs' (gs_rows0 3 .i64) fun st' hr => ?_
        simp only [go_sem, reduceIte, reduceCtorEq, Nat.reduceEqDiff, Nat.reduceLT, Nat.reduceLeDiff, Nat.reduceBEq, Nat.reduceAdd, Nat.reduceMul, Nat.reduceSub, Nat.reducePow, Int.reduceLE, Int.reduceLT, Int.reduceNeg, Int.reduceToNat, Int.reduceAdd, Int.reduceSub, idO_app, lenO_app, lenO_app2, lenO_eta, List.cons_append, List.nil_append] at hr
        subst hr
        refine AWP_ownH 5 2 (.outs 22 6 0 idO (lenO [])) rfl rfl rfl fun st' hr => ?_
        simp only [go_sem, reduceIte, reduceCtorEq, Nat.reduceEqDiff, Nat.reduceLT, Nat.reduceLeDiff, Nat.reduceBEq, Nat.reduceAdd, Nat.reduceMul, Nat.reduceSub, Nat.reducePow, Int.reduceLE, Int.reduceLT, Int.reduceNeg, Int.reduceToNat, Int.reduceAdd, Int.reduceSub, idO_app, lenO_app, lenO_app2, lenO_eta] at hr
        subst hr
        refine AWP_seq ?_
        refine AWP_seq ?_
        -- region 9
        refine AWP_rg tab_ok [2, 3, 4, 8, 50, 51, 52] fun c st' hr => ?_
        simp only [go_sem, reduceIte, reduceCtorEq, Nat.reduceEqDiff, Nat.reduceLT, Nat.reduceLeDiff, Nat.reduceBEq, Nat.reduceAdd, Nat.reduceMul, Nat.reduceSub, Nat.reducePow, Int.reduceLE, Int.reduceLT, Int.reduceNeg, Int.reduceToNat, Int.reduceAdd, Int.reduceSub, idO_app, lenO_app, lenO_app2, lenO_eta] at hr
        obtain ⟨rfl, rfl⟩ := hr
        refine ⟨vc, ?_⟩
        with_reducible refine thenC_normal ?_
        refine AWP_block ?_
        refine AWP_loopX 1 (fun ((v, v1) : List (List Int) × Int) => ⟨102, [(2, .ptr 0 0 0), (3, .ptr 1 0 0), (4, .ptr 2 0 0), (8, .ptr 5 0 0), (50, .fn 1 x_2.length (fun i => [.ints .i64 (x_2.getD i [])])), (51, .int .i64 (x_2.length : Int)), (52, .int .i64 v1)], [some (.gen 44 3 [[.int .i64 x_0, .int .i64 x_1, .fn 1 x_2.length (fun i => [.ints .i64 (x_2.getD i [])])]]), some (.gen 44 3 [[.int .i64 a1_0, .int .i64 a1_1, .fn 1 a1_2.length (fun i => [.ints .i64 (a1_2.getD i [])])]]), some (.gen 44 3 [[.int .i64 0, .int .i64 0, .own 3 0]]), some (.outs 22 4 0 idO (lenO ([] : List (List Int)))), some (.rows 3 .i64 ([] : List (List Int))), some (.gen 44 3 [[.int .i64 x_0, .int .i64 a1_1, .own 6 v.length]]), some (.outs 22 7 v.length idO (lenO v)), some (.rows 3 .i64 v)]⟩) (fun (v2 : List (List Int)) => ⟨102, [(4, .ptr 0 0 0), (8, .ptr 3 0 0)], [some (.gen 44 3 [[.int .i64 0, .int .i64 0, .own 1 0]]), some (.outs 22 2 0 idO (lenO ([] : List (List Int)))), some (.rows 3 .i64 ([] : List (List Int))), some (.gen 44 3 [[.int .i64 x_0, .int .i64 a1_1, .own 4 v2.length]]), some (.outs 22 5 v2.length idO (lenO v2)), some (.rows 3 .i64 v2)]⟩) (fun v => v) (([] : List (List Int)), 0) [0, 1, 2, 4, 3, 5, 7, 6] hK mkWkR ?_ ?_
        · clear hK; rintro ⟨v, v1⟩ b hK hpost1
          try dsimp only at hK
          change AWP _ _ _ _ ⟨102, [(2, .ptr 0 0 0), (3, .ptr 1 0 0), (4, .ptr 2 0 0), (8, .ptr 5 0 0), (50, .fn 1 x_2.length (fun i => [.ints .i64 (x_2.getD i [])])), (51, .int .i64 (x_2.length : Int)), (52, .int .i64 v1)], [some (.gen 44 3 [[.int .i64 x_0, .int .i64 x_1, .fn 1 x_2.length (fun i => [.ints .i64 (x_2.getD i [])])]]), some (.gen 44 3 [[.int .i64 a1_0, .int .i64 a1_1, .fn 1 a1_2.length (fun i => [.ints .i64 (a1_2.getD i [])])]]), some (.gen 44 3 [[.int .i64 0, .int .i64 0, .own 3 0]]), some (.outs 22 4 0 idO (lenO ([] : List (List Int)))), some (.rows 3 .i64 ([] : List (List Int))), some (.gen 44 3 [[.int .i64 x_0, .int .i64 a1_1, .own 6 v.length]]), some (.outs 22 7 v.length idO (lenO v)), some (.rows 3 .i64 v)]⟩
          refine AWP_seq ?_
          -- region 10
          refine AWP_rg tab_ok [2, 3, 4, 8, 50, 51, 52, 53] fun c st' hr => ?_
          simp only [go_sem, reduceIte, reduceCtorEq, Nat.reduceEqDiff, Nat.reduceLT, Nat.reduceLeDiff, Nat.reduceBEq, Nat.reduceAdd, Nat.reduceMul, Nat.reduceSub, Nat.reducePow, Int.reduceLE, Int.reduceLT, Int.reduceNeg, Int.reduceToNat, Int.reduceAdd, Int.reduceSub, idO_app, lenO_app, lenO_app2, lenO_eta] at hr
          obtain ⟨rfl, rfl⟩ := hr
          refine ⟨vc, ?_⟩
          with_reducible refine thenC_normal ?_
          refine AWP_seq ?_
          refine AWP_condP (v1 < (x_2.length : Int)) rfl bd (fun hb3 => ?_) (fun hb3 => ?_)
          · replace hK := ite_t hK hb3
            refine AWP_skip ?_
            with_reducible refine thenC_normal ?_
            refine AWP_seq ?_
            refine AWP_block ?_
            refine AWP_seq ?_
            -- region 11
            replace hK := chk_some hK
            obtain ⟨h, hK⟩ := hK
            refine AWP_rg tab_ok [2, 3, 4, 8, 10, 50, 51, 52] fun c st' hr => ?_
            simp only [go_sem, reduceIte, reduceCtorEq, Nat.reduceEqDiff, Nat.reduceLT, Nat.reduceLeDiff, Nat.reduceBEq, Nat.reduceAdd, Nat.reduceMul, Nat.reduceSub, Nat.reducePow, Int.reduceLE, Int.reduceLT, Int.reduceNeg, Int.reduceToNat, Int.reduceAdd, Int.reduceSub, idO_app, lenO_app, lenO_app2, lenO_eta] at hr
            obtain ⟨rfl, rfl⟩ := hr
            refine ⟨vc, ?_⟩
            with_reducible refine thenC_normal ?_
            refine AWP_seq ?_
            -- region 12
            replace hK := chk_some hK
            obtain ⟨h1, hK⟩ := hK
            refine AWP_rg tab_ok [2, 3, 4, 8, 10, 11, 50, 51, 52] fun c st' hr => ?_
            simp only [go_sem, reduceIte, reduceCtorEq, Nat.reduceEqDiff, Nat.reduceLT, Nat.reduceLeDiff, Nat.reduceBEq, Nat.reduceAdd, Nat.reduceMul, Nat.reduceSub, Nat.reducePow, Int.reduceLE, Int.reduceLT, Int.reduceNeg, Int.reduceToNat, Int.reduceAdd, Int.reduceSub, idO_app, lenO_app, lenO_app2, lenO_eta] at hr
            obtain ⟨rfl, rfl⟩ := hr
            refine ⟨vc, ?_⟩
            with_reducible refine thenC_normal ?_
            refine AWP_seq ?_
            refine AWP_seq ?_
            -- region 13
            refine AWP_rg tab_ok [2, 3, 4, 8, 11, 50, 51, 52, 59, 60, 61] fun c st' hr => ?_
            simp only [go_sem, reduceIte, reduceCtorEq, Nat.reduceEqDiff, Nat.reduceLT, Nat.reduceLeDiff, Nat.reduceBEq, Nat.reduceAdd, Nat.reduceMul, Nat.reduceSub, Nat.reducePow, Int.reduceLE, Int.reduceLT, Int.reduceNeg, Int.reduceToNat, Int.reduceAdd, Int.reduceSub, idO_app, lenO_app, lenO_app2, lenO_eta] at hr
            obtain ⟨rfl, rfl⟩ := hr
            refine ⟨vc, ?_⟩
            with_reducible refine thenC_normal ?_
            refine AWP_block ?_
            refine AWP_loopX 3 (fun ((v3, v4) : List Int × Int) => ⟨102, [(2, .ptr 0 0 0), (3, .ptr 1 0 0), (4, .ptr 2 0 0), (8, .ptr 5 0 0), (11, .own 8 v3.length), (50, .fn 1 x_2.length (fun i => [.ints .i64 (x_2.getD i [])])), (51, .int .i64 (x_2.length : Int)), (52, .int .i64 v1), (59, .ints .i64 (x_2.getD v1.toNat [])), (60, .int .i64 ((x_2.getD v1.toNat []).length : Int)), (61, .int .i64 v4)], [some (.gen 44 3 [[.int .i64 x_0, .int .i64 x_1, .fn 1 x_2.length (fun i => [.ints .i64 (x_2.getD i [])])]]), some (.gen 44 3 [[.int .i64 a1_0, .int .i64 a1_1, .fn 1 a1_2.length (fun i => [.ints .i64 (a1_2.getD i [])])]]), some (.gen 44 3 [[.int .i64 0, .int .i64 0, .own 3 0]]), some (.outs 22 4 0 idO (lenO ([] : List (List Int)))), some (.rows 3 .i64 ([] : List (List Int))), some (.gen 44 3 [[.int .i64 x_0, .int .i64 a1_1, .own 6 v.length]]), some (.outs 22 7 v.length idO (lenO v)), some (.rows 3 .i64 v), some (.ints 3 .i64 v3)]⟩) (fun (v5 : List Int) => ⟨102, [(2, .ptr 0 0 0), (3, .ptr 1 0 0), (4, .ptr 2 0 0), (8, .ptr 5 0 0), (11, .own 8 v5.length), (50, .fn 1 x_2.length (fun i => [.ints .i64 (x_2.getD i [])])), (51, .int .i64 (x_2.length : Int)), (52, .int .i64 v1)], [some (.gen 44 3 [[.int .i64 x_0, .int .i64 x_1, .fn 1 x_2.length (fun i => [.ints .i64 (x_2.getD i [])])]]), some (.gen 44 3 [[.int .i64 a1_0, .int .i64 a1_1, .fn 1 a1_2.length (fun i => [.ints .i64 (a1_2.getD i [])])]]), some (.gen 44 3 [[.int .i64 0, .int .i64 0, .own 3 0]]), some (.outs 22 4 0 idO (lenO ([] : List (List Int)))), some (.rows 3 .i64 ([] : List (List Int))), some (.gen 44 3 [[.int .i64 x_0, .int .i64 a1_1, .own 6 v.length]]), some (.outs 22 7 v.length idO (lenO v)), some (.rows 3 .i64 v), some (.ints 3 .i64 v5)]⟩) (fun v => v) (List.replicate a1_1.toNat 0, 0) [0, 1, 2, 3, 4, 5, 6, 7, 8] hK mkWkR ?_ ?_
            · clear hK; rintro ⟨v3, v4⟩ b1 hK hpost2
              try dsimp only at hK
              change AWP _ _ _ _ ⟨102, [(2, .ptr 0 0 0), (3, .ptr 1 0 0), (4, .ptr 2 0 0), (8, .ptr 5 0 0), (11, .own 8 v3.length), (50, .fn 1 x_2.length (fun i => [.ints .i64 (x_2.getD i [])])), (51, .int .i64 (x_2.length : Int)), (52, .int .i64 v1), (59, .ints .i64 (x_2.getD v1.toNat [])), (60, .int .i64 ((x_2.getD v1.toNat []).length : Int)), (61, .int .i64 v4)], [some (.gen 44 3 [[.int .i64 x_0, .int .i64 x_1, .fn 1 x_2.length (fun i => [.ints .i64 (x_2.getD i [])])]]), some (.gen 44 3 [[.int .i64 a1_0, .int .i64 a1_1, .fn 1 a1_2.length (fun i => [.ints .i64 (a1_2.getD i [])])]]), some (.gen 44 3 [[.int .i64 0, .int .i64 0, .own 3 0]]), some (.outs 22 4 0 idO (lenO ([] : List (List Int)))), some (.rows 3 .i64 ([] : List (List Int))), some (.gen 44 3 [[.int .i64 x_0, .int .i64 a1_1, .own 6 v.length]]), some (.outs 22 7 v.length idO (lenO v)), some (.rows 3 .i64 v), some (.ints 3 .i64 v3)]⟩
              refine AWP_seq ?_
              -- region 14
              refine AWP_rg tab_ok [2, 3, 4, 8, 11, 50, 51, 52, 59, 60, 61, 62] fun c st' hr => ?_
              simp only [go_sem, reduceIte, reduceCtorEq, Nat.reduceEqDiff, Nat.reduceLT, Nat.reduceLeDiff, Nat.reduceBEq, Nat.reduceAdd, Nat.reduceMul, Nat.reduceSub, Nat.reducePow, Int.reduceLE, Int.reduceLT, Int.reduceNeg, Int.reduceToNat, Int.reduceAdd, Int.reduceSub, idO_app, lenO_app, lenO_app2, lenO_eta] at hr
              obtain ⟨rfl, rfl⟩ := hr
              refine ⟨vc, ?_⟩
              with_reducible refine thenC_normal ?_
              refine AWP_seq ?_
              refine AWP_condP (v4 < ((x_2.getD v1.toNat []).length : Int)) rfl bd (fun hb4 => ?_) (fun hb4 => ?_)
              · replace hK := ite_t hK hb4
                refine AWP_skip ?_
                with_reducible refine thenC_normal ?_
                refine AWP_seq ?_
                refine AWP_block ?_
                refine AWP_seq ?_
                -- region 15
                replace hK := chk_some hK
                obtain ⟨h2, hK⟩ := hK
                refine AWP_rg tab_ok [2, 3, 4, 8, 11, 12, 13, 50, 51, 52, 59, 60, 61] fun c st' hr => ?_
                simp only [go_sem, reduceIte, reduceCtorEq, Nat.reduceEqDiff, Nat.reduceLT, Nat.reduceLeDiff, Nat.reduceBEq, Nat.reduceAdd, Nat.reduceMul, Nat.reduceSub, Nat.reducePow, Int.reduceLE, Int.reduceLT, Int.reduceNeg, Int.reduceToNat, Int.reduceAdd, Int.reduceSub, idO_app, lenO_app, lenO_app2, lenO_eta] at hr
                obtain ⟨rfl, rfl⟩ := hr
                refine ⟨vc, ?_⟩
                with_reducible refine thenC_normal ?_
                refine AWP_seq ?_
                -- region 16
                refine AWP_rg tab_ok [2, 3, 4, 8, 11, 12, 13, 50, 51, 52, 59, 60, 61, 67, 68] fun c st' hr => ?_
                simp only [go_sem, reduceIte, reduceCtorEq, Nat.reduceEqDiff, Nat.reduceLT, Nat.reduceLeDiff, Nat.reduceBEq, Nat.reduceAdd, Nat.reduceMul, Nat.reduceSub, Nat.reducePow, Int.reduceLE, Int.reduceLT, Int.reduceNeg, Int.reduceToNat, Int.reduceAdd, Int.reduceSub, idO_app, lenO_app, lenO_app2, lenO_eta] at hr
                obtain ⟨rfl, rfl⟩ := hr
                refine ⟨vc, ?_⟩
                with_reducible refine thenC_normal ?_
                refine AWP_block ?_
                refine AWP_loopX 5 (fun ((v6, v7) : List Int × Int) => ⟨102, [(2, .ptr 0 0 0), (3, .ptr 1 0 0), (4, .ptr 2 0 0), (8, .ptr 5 0 0), (11, .own 8 v6.length), (12, .int .i64 v4), (13, .int .i64 ((x_2.getD v1.toNat []).getD v4.toNat 0)), (50, .fn 1 x_2.length (fun i => [.ints .i64 (x_2.getD i [])])), (51, .int .i64 (x_2.length : Int)), (52, .int .i64 v1), (59, .ints .i64 (x_2.getD v1.toNat [])), (60, .int .i64 ((x_2.getD v1.toNat []).length : Int)), (61, .int .i64 v4), (67, .int .i64 (v3.length : Int)), (68, .int .i64 v7)], [some (.gen 44 3 [[.int .i64 x_0, .int .i64 x_1, .fn 1 x_2.length (fun i => [.ints .i64 (x_2.getD i [])])]]), some (.gen 44 3 [[.int .i64 a1_0, .int .i64 a1_1, .fn 1 a1_2.length (fun i => [.ints .i64 (a1_2.getD i [])])]]), some (.gen 44 3 [[.int .i64 0, .int .i64 0, .own 3 0]]), some (.outs 22 4 0 idO (lenO ([] : List (List Int)))), some (.rows 3 .i64 ([] : List (List Int))), some (.gen 44 3 [[.int .i64 x_0, .int .i64 a1_1, .own 6 v.length]]), some (.outs 22 7 v.length idO (lenO v)), some (.rows 3 .i64 v), some (.ints 3 .i64 v6)]⟩) (fun (v8 : List Int) => ⟨102, [(2, .ptr 0 0 0), (3, .ptr 1 0 0), (4, .ptr 2 0 0), (8, .ptr 5 0 0), (11, .own 8 v8.length), (50, .fn 1 x_2.length (fun i => [.ints .i64 (x_2.getD i [])])), (51, .int .i64 (x_2.length : Int)), (52, .int .i64 v1), (59, .ints .i64 (x_2.getD v1.toNat [])), (60, .int .i64 ((x_2.getD v1.toNat []).length : Int)), (61, .int .i64 v4)], [some (.gen 44 3 [[.int .i64 x_0, .int .i64 x_1, .fn 1 x_2.length (fun i => [.ints .i64 (x_2.getD i [])])]]), some (.gen 44 3 [[.int .i64 a1_0, .int .i64 a1_1, .fn 1 a1_2.length (fun i => [.ints .i64 (a1_2.getD i [])])]]), some (.gen 44 3 [[.int .i64 0, .int .i64 0, .own 3 0]]), some (.outs 22 4 0 idO (lenO ([] : List (List Int)))), some (.rows 3 .i64 ([] : List (List Int))), some (.gen 44 3 [[.int .i64 x_0, .int .i64 a1_1, .own 6 v.length]]), some (.outs 22 7 v.length idO (lenO v)), some (.rows 3 .i64 v), some (.ints 3 .i64 v8)]⟩) (fun v => v) (v3, 0) [0, 1, 2, 3, 4, 5, 6, 7, 8] hK mkWkR ?_ ?_
                · clear hK; rintro ⟨v6, v7⟩ b2 hK hpost3
                  try dsimp only at hK
                  change AWP _ _ _ _ ⟨102, [(2, .ptr 0 0 0), (3, .ptr 1 0 0), (4, .ptr 2 0 0), (8, .ptr 5 0 0), (11, .own 8 v6.length), (12, .int .i64 v4), (13, .int .i64 ((x_2.getD v1.toNat []).getD v4.toNat 0)), (50, .fn 1 x_2.length (fun i => [.ints .i64 (x_2.getD i [])])), (51, .int .i64 (x_2.length : Int)), (52, .int .i64 v1), (59, .ints .i64 (x_2.getD v1.toNat [])), (60, .int .i64 ((x_2.getD v1.toNat []).length : Int)), (61, .int .i64 v4), (67, .int .i64 (v3.length : Int)), (68, .int .i64 v7)], [some (.gen 44 3 [[.int .i64 x_0, .int .i64 x_1, .fn 1 x_2.length (fun i => [.ints .i64 (x_2.getD i [])])]]), some (.gen 44 3 [[.int .i64 a1_0, .int .i64 a1_1, .fn 1 a1_2.length (fun i => [.ints .i64 (a1_2.getD i [])])]]), some (.gen 44 3 [[.int .i64 0, .int .i64 0, .own 3 0]]), some (.outs 22 4 0 idO (lenO ([] : List (List Int)))), some (.rows 3 .i64 ([] : List (List Int))), some (.gen 44 3 [[.int .i64 x_0, .int .i64 a1_1, .own 6 v.length]]), some (.outs 22 7 v.length idO (lenO v)), some (.rows 3 .i64 v), some (.ints 3 .i64 v6)]⟩
                  refine AWP_seq ?_
                  -- region 17
                  refine AWP_rg tab_ok [2, 3, 4, 8, 11, 12, 13, 50, 51, 52, 59, 60, 61, 67, 68, 69] fun c st' hr => ?_
                  simp only [go_sem, reduceIte, reduceCtorEq, Nat.reduceEqDiff, Nat.reduceLT, Nat.reduceLeDiff, Nat.reduceBEq, Nat.reduceAdd, Nat.reduceMul, Nat.reduceSub, Nat.reducePow, Int.reduceLE, Int.reduceLT, Int.reduceNeg, Int.reduceToNat, Int.reduceAdd, Int.reduceSub, idO_app, lenO_app, lenO_app2, lenO_eta] at hr
                  obtain ⟨rfl, rfl⟩ := hr
                  refine ⟨vc, ?_⟩
                  with_reducible refine thenC_normal ?_
                  refine AWP_seq ?_
                  refine AWP_condP (v7 < (v3.length : Int)) rfl bd (fun hb5 => ?_) (fun hb5 => ?_)
                  · replace hK := ite_t hK hb5
                    refine AWP_skip ?_
                    with_reducible refine thenC_normal ?_
                    refine AWP_seq ?_
                    refine AWP_block ?_
                    refine AWP_seq ?_
                    -- region 18
                    refine AWP_rg tab_ok [2, 3, 4, 8, 11, 12, 13, 14, 50, 51, 52, 59, 60, 61, 67, 68] fun c st' hr => ?_
                    simp only [go_sem, reduceIte, reduceCtorEq, Nat.reduceEqDiff, Nat.reduceLT, Nat.reduceLeDiff, Nat.reduceBEq, Nat.reduceAdd, Nat.reduceMul, Nat.reduceSub, Nat.reducePow, Int.reduceLE, Int.reduceLT, Int.reduceNeg, Int.reduceToNat, Int.reduceAdd, Int.reduceSub, idO_app, lenO_app, lenO_app2, lenO_eta] at hr
                    obtain ⟨rfl, rfl⟩ := hr
                    refine ⟨vc, ?_⟩
                    with_reducible refine thenC_normal ?_
                    -- region 19
                    replace hK := chk_some hK
                    obtain ⟨h3, hK⟩ := hK
                    refine AWP_dt tab_ok 21 [2, 3, 4, 8, 11, 12, 13, 50, 51, 52, 59, 60, 61, 67, 68] mixed (by kernel_rfl) fun c st' hr => ?_
                    simp only [go_sem, reduceIte, reduceCtorEq, Nat.reduceEqDiff, Nat.reduceLT, Nat.reduceLeDiff, Nat.reduceBEq, Nat.reduceAdd, Nat.reduceMul, Nat.reduceSub, Nat.reducePow, Int.reduceLE, Int.reduceLT, Int.reduceNeg, Int.reduceToNat, Int.reduceAdd, Int.reduceSub, idO_app, lenO_app, lenO_app2, lenO_eta] at hr
                    obtain ⟨rfl, rfl⟩ := hr
                    refine ⟨vc, ?_⟩
                    with_reducible refine inBlockA_normal (thenC_normal ?_)
                    -- region 20
                    refine AWP_facts (by simp) fun hfx => ?_
                    simp only [factS, factV, fact1, fact0, factL0, lo, hi, maxLen, and_true, true_and] at hfx
                    refine AWP_rg tab_ok [2, 3, 4, 8, 11, 12, 13, 50, 51, 52, 59, 60, 61, 67, 68] fun c st' hr => ?_
                    simp only [go_sem, reduceIte, reduceCtorEq, Nat.reduceEqDiff, Nat.reduceLT, Nat.reduceLeDiff, Nat.reduceBEq, Nat.reduceAdd, Nat.reduceMul, Nat.reduceSub, Nat.reducePow, Int.reduceLE, Int.reduceLT, Int.reduceNeg, Int.reduceToNat, Int.reduceAdd, Int.reduceSub, idO_app, lenO_app, lenO_app2, lenO_eta] at hr
                    obtain ⟨rfl, rfl⟩ := hr
                    refine ⟨vc, ?_⟩
                    clear hfx
                    refine again_n (v6.set v7.toNat (Int.tmod ((v6.getD v7.toNat 0) + (((x_2.getD v1.toNat []).getD v4.toNat 0) * ((a1_2.getD v4.toNat []).getD v7.toNat 0))) x_0), v7 + 1) [0, 1, 2, 3, 4, 5, 6, 7, 8] hK mkWkR
                  · replace hK := ite_f hK hb5
                    refine AWP_exit ?_
                    with_reducible refine thenC_exit (again_x ?_)
                    refine cutX_here v6 [0, 1, 2, 3, 4, 5, 6, 7, 8] (by have hq := hpost3 _ hK; exact hq) mkWkR
                · clear hK; rintro v8 hK
                  try dsimp only at hK
                  refine exS ⟨102, [(2, .ptr 0 0 0), (3, .ptr 1 0 0), (4, .ptr 2 0 0), (8, .ptr 5 0 0), (11, .own 8 v8.length), (50, .fn 1 x_2.length (fun i => [.ints .i64 (x_2.getD i [])])), (51, .int .i64 (x_2.length : Int)), (52, .int .i64 v1), (59, .ints .i64 (x_2.getD v1.toNat [])), (60, .int .i64 ((x_2.getD v1.toNat []).length : Int)), (61, .int .i64 v4)], [some (.gen 44 3 [[.int .i64 x_0, .int .i64 x_1, .fn 1 x_2.length (fun i => [.ints .i64 (x_2.getD i [])])]]), some (.gen 44 3 [[.int .i64 a1_0, .int .i64 a1_1, .fn 1 a1_2.length (fun i => [.ints .i64 (a1_2.getD i [])])]]), some (.gen 44 3 [[.int .i64 0, .int .i64 0, .own 3 0]]), some (.outs 22 4 0 idO (lenO ([] : List (List Int)))), some (.rows 3 .i64 ([] : List (List Int))), some (.gen 44 3 [[.int .i64 x_0, .int .i64 a1_1, .own 6 v.length]]), some (.outs 22 7 v.length idO (lenO v)), some (.rows 3 .i64 v), some (.ints 3 .i64 v8)]⟩ rfl ?_
                  with_reducible refine inBlockA_exit (inBlockA_normal (thenC_normal ?_))
                  -- region 21
                  replace hK := chk_some hK
                  obtain ⟨h4, hK⟩ := hK
                  refine AWP_rg tab_ok [2, 3, 4, 8, 11, 50, 51, 52, 59, 60, 61] fun c st' hr => ?_
                  simp only [go_sem, reduceIte, reduceCtorEq, Nat.reduceEqDiff, Nat.reduceLT, Nat.reduceLeDiff, Nat.reduceBEq, Nat.reduceAdd, Nat.reduceMul, Nat.reduceSub, Nat.reducePow, Int.reduceLE, Int.reduceLT, Int.reduceNeg, Int.reduceToNat, Int.reduceAdd, Int.reduceSub, idO_app, lenO_app, lenO_app2, lenO_eta] at hr
                  obtain ⟨rfl, rfl⟩ := hr
                  refine ⟨vc, ?_⟩
                  refine again_n (v8, v4 + 1) [0, 1, 2, 3, 4, 5, 6, 7, 8] hK mkWkR
              · replace hK := ite_f hK hb4
                refine AWP_exit ?_
                with_reducible refine thenC_exit (again_x ?_)
                refine cutX_here v3 [0, 1, 2, 3, 4, 5, 6, 7, 8] (by have hq := hpost2 _ hK; exact hq) mkWkR
            · clear hK; rintro v5 hK
              try dsimp only at hK
              refine exS ⟨102, [(2, .ptr 0 0 0), (3, .ptr 1 0 0), (4, .ptr 2 0 0), (8, .ptr 5 0 0), (11, .own 8 v5.length), (50, .fn 1 x_2.length (fun i => [.ints .i64 (x_2.getD i [])])), (51, .int .i64 (x_2.length : Int)), (52, .int .i64 v1)], [some (.gen 44 3 [[.int .i64 x_0, .int .i64 x_1, .fn 1 x_2.length (fun i => [.ints .i64 (x_2.getD i [])])]]), some (.gen 44 3 [[.int .i64 a1_0, .int .i64 a1_1, .fn 1 a1_2.length (fun i => [.ints .i64 (a1_2.getD i [])])]]), some (.gen 44 3 [[.int .i64 0, .int .i64 0, .own 3 0]]), some (.outs 22 4 0 idO (lenO ([] : List (List Int)))), some (.rows 3 .i64 ([] : List (List Int))), some (.gen 44 3 [[.int .i64 x_0, .int .i64 a1_1, .own 6 v.length]]), some (.outs 22 7 v.length idO (lenO v)), some (.rows 3 .i64 v), some (.ints 3 .i64 v5)]⟩ rfl ?_
              with_reducible refine inBlockA_exit (thenC_normal ?_)
              -- region 22
              refine AWP_rl ?_
              refine AWPL_rn tab_ok 3 [2, 3, 4, 8, 50, 51, 52, 95, 96] fun c st' hr => ?_
              simp only [go_sem, reduceIte, reduceCtorEq, Nat.reduceEqDiff, Nat.reduceLT, Nat.reduceLeDiff, Nat.reduceBEq, Nat.reduceAdd, Nat.reduceMul, Nat.reduceSub, Nat.reducePow, Int.reduceLE, Int.reduceLT, Int.reduceNeg, Int.reduceToNat, Int.reduceAdd, Int.reduceSub, idO_app, lenO_app, lenO_app2, lenO_eta] at hr
              obtain ⟨rfl, rfl⟩ := hr
              refine ⟨vc, ?_⟩
              refine AWPL_gs' (gs_adopt 96 7 rfl (by first | rfl | (simp; done)) rfl rfl (by first | rfl | (simp [noPin]; done))) fun st' hr => ?_
              simp only [go_sem, reduceIte, reduceCtorEq, Nat.reduceEqDiff, Nat.reduceLT, Nat.reduceLeDiff, Nat.reduceBEq, Nat.reduceAdd, Nat.reduceMul, Nat.reduceSub, Nat.reducePow, Int.reduceLE, Int.reduceLT, Int.reduceNeg, Int.reduceToNat, Int.reduceAdd, Int.reduceSub, idO_app, lenO_app, lenO_app2, lenO_eta, List.set_cons_zero, List.set_cons_succ] at hr
              subst hr
              replace hK := chk_some hK
              obtain ⟨h5, hK⟩ := hK
              refine AWPL_rn tab_ok 4 [2, 3, 4, 8, 50, 51, 52] fun c st' hr => ?_
              simp only [go_sem, reduceIte, reduceCtorEq, Nat.reduceEqDiff, Nat.reduceLT, Nat.reduceLeDiff, Nat.reduceBEq, Nat.reduceAdd, Nat.reduceMul, Nat.reduceSub, Nat.reducePow, Int.reduceLE, Int.reduceLT, Int.reduceNeg, Int.reduceToNat, Int.reduceAdd, Int.reduceSub, idO_app, lenO_app, lenO_app2, lenO_eta] at hr
              obtain ⟨rfl, rfl⟩ := hr
              refine ⟨vc, ?_⟩
              refine AWPL_nil ?_
              with_reducible refine inBlockA_normal (thenC_normal ?_)
              -- region 23
              refine AWP_facts (by simp) fun hfx => ?_
              simp only [factS, factV, fact1, fact0, factL0, lo, hi, maxLen, and_true, true_and] at hfx
              refine AWP_rg tab_ok [2, 3, 4, 8, 50, 51, 52] fun c st' hr => ?_
              simp only [go_sem, reduceIte, reduceCtorEq, Nat.reduceEqDiff, Nat.reduceLT, Nat.reduceLeDiff, Nat.reduceBEq, Nat.reduceAdd, Nat.reduceMul, Nat.reduceSub, Nat.reducePow, Int.reduceLE, Int.reduceLT, Int.reduceNeg, Int.reduceToNat, Int.reduceAdd, Int.reduceSub, idO_app, lenO_app, lenO_app2, lenO_eta] at hr
              obtain ⟨rfl, rfl⟩ := hr
              refine ⟨vc, ?_⟩
              clear hfx
              refine again_n (v ++ [v5], v1 + 1) [0, 1, 2, 3, 4, 5, 10, 7] hK mkWkR
          · replace hK := ite_f hK hb3
            refine AWP_exit ?_
            with_reducible refine thenC_exit (again_x ?_)
            refine cutX_here v [2, 3, 4, 5, 6, 7] (by have hq := hpost1 _ hK; exact hq) mkWkR
        · clear hK; rintro v2 hK
          try dsimp only at hK
          refine exS ⟨102, [(4, .ptr 0 0 0), (8, .ptr 3 0 0)], [some (.gen 44 3 [[.int .i64 0, .int .i64 0, .own 1 0]]), some (.outs 22 2 0 idO (lenO ([] : List (List Int)))), some (.rows 3 .i64 ([] : List (List Int))), some (.gen 44 3 [[.int .i64 x_0, .int .i64 a1_1, .own 4 v2.length]]), some (.outs 22 5 v2.length idO (lenO v2)), some (.rows 3 .i64 v2)]⟩ rfl ?_
          with_reducible refine inBlockA_exit (thenC_normal ?_)
          refine AWP_seq ?_
          -- region 24
          refine AWP_rg tab_ok [4, 5] fun c st' hr => ?_
          simp only [go_sem, reduceIte, reduceCtorEq, Nat.reduceEqDiff, Nat.reduceLT, Nat.reduceLeDiff, Nat.reduceBEq, Nat.reduceAdd, Nat.reduceMul, Nat.reduceSub, Nat.reducePow, Int.reduceLE, Int.reduceLT, Int.reduceNeg, Int.reduceToNat, Int.reduceAdd, Int.reduceSub, idO_app, lenO_app, lenO_app2, lenO_eta] at hr
          obtain ⟨rfl, rfl⟩ := hr
          refine ⟨vc, ?_⟩
          with_reducible refine thenC_normal ?_
          refine AWP_ret ?_
          cases hK
          refine EndsRW [4, 5] (.inl rfl) (of_decide_eq_true rfl) (by simp) rfl (fun c x hr => ?_) endHR
          simp only [go_sem, reduceIte, reduceCtorEq, Nat.reduceEqDiff, Nat.reduceLT, Nat.reduceLeDiff, Nat.reduceBEq, Nat.reduceAdd, Nat.reduceMul, Nat.reduceSub, Nat.reducePow, Int.reduceLE, Int.reduceLT, Int.reduceNeg, Int.reduceToNat, Int.reduceAdd, Int.reduceSub, idO_app, lenO_app, lenO_app2, lenO_eta] at hr
          obtain ⟨rfl, rfl⟩ := hr
          exact ⟨rfl, endR⟩

set_option maxRecDepth 8000 in
set_option maxHeartbeats 4000000 in
theorem W_field_Turned {x_0 : Int} {x_1 : Int} {x_2 : List (List Int)} {r : Int × Int × List (List Int) × Int} (hK : field_Turned x_0 x_1 x_2 = some r) : Pure Try.prog 29 [.agg [.int .i64 x_0, .int .i64 x_1, .fn 1 x_2.length (fun i => [.ints .i64 (x_2.getD i [])])]] (.tup [.agg [.int .i64 r.1, .int .i64 r.2.1, .own 0 r.2.2.1.length], .int .i64 r.2.2.2]) [(.outs 22 1 r.2.2.1.length idO (lenO r.2.2.1)), (.rows 3 .i64 r.2.2.1)] := by
  refine Pure_introF tab_ok (n := 54) (l := [.cell 2 44, .tmp 3]) Try.func29 rfl rfl rfl (by simp) fun hfact w0 => ?_
  simp only [factL1, fact1, fact0, factL0, lo, hi, maxLen, and_true] at hfact
  unfold field_Turned at hK
  refine AWP_seq ?_
  -- region 0
  refine AWP_rg tab_ok [1, 2] fun c st' hr => ?_
  simp only [go_sem, reduceIte, reduceCtorEq, Nat.reduceEqDiff, Nat.reduceLT, Nat.reduceLeDiff, Nat.reduceBEq, Nat.reduceAdd, Nat.reduceMul, Nat.reduceSub, Nat.reducePow, Int.reduceLE, Int.reduceLT, Int.reduceNeg, Int.reduceToNat, Int.reduceAdd, Int.reduceSub, idO_app, lenO_app, lenO_app2, lenO_eta] at hr
  obtain ⟨rfl, rfl⟩ := hr
  refine ⟨vc, ?_⟩
  with_reducible refine thenC_normal ?_
  refine AWP_gs' (gs_rows0 3 .i64) fun st' hr => ?_
  simp only [go_sem, reduceIte, reduceCtorEq, Nat.reduceEqDiff, Nat.reduceLT, Nat.reduceLeDiff, Nat.reduceBEq, Nat.reduceAdd, Nat.reduceMul, Nat.reduceSub, Nat.reducePow, Int.reduceLE, Int.reduceLT, Int.reduceNeg, Int.reduceToNat, Int.reduceAdd, Int.reduceSub, idO_app, lenO_app, lenO_app2, lenO_eta, List.cons_append, List.nil_append] at hr
  subst hr
  refine AWP_ownH 1 2 (.outs 22 2 0 idO (lenO [])) rfl rfl rfl fun st' hr => ?_
  simp only [go_sem, reduceIte, reduceCtorEq, Nat.reduceEqDiff, Nat.reduceLT, Nat.reduceLeDiff, Nat.reduceBEq, Nat.reduceAdd, Nat.reduceMul, Nat.reduceSub, Nat.reducePow, Int.reduceLE, Int.reduceLT, Int.reduceNeg, Int.reduceToNat, Int.reduceAdd, Int.reduceSub, idO_app, lenO_app, lenO_app2, lenO_eta] at hr
  subst hr
  refine AWP_seq ?_
  refine AWP_seq ?_
  -- region 1
  refine AWP_rl ?_
  refine AWPL_rn tab_ok 1 [1, 2, 10] fun c st' hr => ?_
  simp only [go_sem, reduceIte, reduceCtorEq, Nat.reduceEqDiff, Nat.reduceLT, Nat.reduceLeDiff, Nat.reduceBEq, Nat.reduceAdd, Nat.reduceMul, Nat.reduceSub, Nat.reducePow, Int.reduceLE, Int.reduceLT, Int.reduceNeg, Int.reduceToNat, Int.reduceAdd, Int.reduceSub, idO_app, lenO_app, lenO_app2, lenO_eta] at hr
  obtain ⟨rfl, rfl⟩ := hr
  refine ⟨vc, ?_⟩
  replace hK := bind_s hK
  obtain ⟨y, hy, hK⟩ := hK
  refine AWPL_callK [1, 2, 11] (W_kinds_CheckMatrix hy) rfl rfl pcT rfl Try.call78 (.cons (.agg _ _ rfl (ArgsOk.get (.cons (.atom _ rfl) (.cons (.atom _ rfl) (.cons (.atom _ rfl) .nil)))).2) .nil) (hscG trivial) (of_decide_eq_true rfl) (by first | rfl | simp [nI, nI1, nI0]) (by first | rfl | simp [nIB, nI0]) fun st' hr => ?_
  simp only [go_sem, reduceIte, reduceCtorEq, Nat.reduceEqDiff, Nat.reduceLT, Nat.reduceLeDiff, Nat.reduceBEq, Nat.reduceAdd, Nat.reduceMul, Nat.reduceSub, Nat.reducePow, Int.reduceLE, Int.reduceLT, Int.reduceNeg, Int.reduceToNat, Int.reduceAdd, Int.reduceSub, idO_app, lenO_app, lenO_app2, lenO_eta] at hr
  subst hr
  clear hy
  refine AWPL_rn tab_ok 1 [1, 2, 4] fun c st' hr => ?_
  simp only [go_sem, reduceIte, reduceCtorEq, Nat.reduceEqDiff, Nat.reduceLT, Nat.reduceLeDiff, Nat.reduceBEq, Nat.reduceAdd, Nat.reduceMul, Nat.reduceSub, Nat.reducePow, Int.reduceLE, Int.reduceLT, Int.reduceNeg, Int.reduceToNat, Int.reduceAdd, Int.reduceSub, idO_app, lenO_app, lenO_app2, lenO_eta] at hr
  obtain ⟨rfl, rfl⟩ := hr
  refine ⟨vc, ?_⟩
  refine AWPL_nil ?_
  with_reducible refine thenC_normal ?_
  refine AWP_seq ?_
  -- region 2
  refine AWP_rg tab_ok [1, 2, 4, 13] fun c st' hr => ?_
  simp only [go_sem, reduceIte, reduceCtorEq, Nat.reduceEqDiff, Nat.reduceLT, Nat.reduceLeDiff, Nat.reduceBEq, Nat.reduceAdd, Nat.reduceMul, Nat.reduceSub, Nat.reducePow, Int.reduceLE, Int.reduceLT, Int.reduceNeg, Int.reduceToNat, Int.reduceAdd, Int.reduceSub, idO_app, lenO_app, lenO_app2, lenO_eta] at hr
  obtain ⟨rfl, rfl⟩ := hr
  refine ⟨vc, ?_⟩
  with_reducible refine thenC_normal ?_
  refine AWP_condP (y ≠ 0) rfl bd (fun hb => ?_) (fun hb => ?_)
  · replace hK := ite_t hK hb
    refine AWP_seq ?_
    -- region 3
    refine AWP_rg tab_ok [2, 3] fun c st' hr => ?_
    simp only [go_sem, reduceIte, reduceCtorEq, Nat.reduceEqDiff, Nat.reduceLT, Nat.reduceLeDiff, Nat.reduceBEq, Nat.reduceAdd, Nat.reduceMul, Nat.reduceSub, Nat.reducePow, Int.reduceLE, Int.reduceLT, Int.reduceNeg, Int.reduceToNat, Int.reduceAdd, Int.reduceSub, idO_app, lenO_app, lenO_app2, lenO_eta] at hr
    obtain ⟨rfl, rfl⟩ := hr
    refine ⟨vc, ?_⟩
    with_reducible refine thenC_normal ?_
    refine AWP_gs' (gs_rows0 3 .i64) fun st' hr => ?_
    simp only [go_sem, reduceIte, reduceCtorEq, Nat.reduceEqDiff, Nat.reduceLT, Nat.reduceLeDiff, Nat.reduceBEq, Nat.reduceAdd, Nat.reduceMul, Nat.reduceSub, Nat.reducePow, Int.reduceLE, Int.reduceLT, Int.reduceNeg, Int.reduceToNat, Int.reduceAdd, Int.reduceSub, idO_app, lenO_app, lenO_app2, lenO_eta, List.cons_append, List.nil_append] at hr
    subst hr
    refine AWP_ownH 1 2 (.outs 22 4 0 idO (lenO [])) rfl rfl rfl fun st' hr => ?_
    simp only [go_sem, reduceIte, reduceCtorEq, Nat.reduceEqDiff, Nat.reduceLT, Nat.reduceLeDiff, Nat.reduceBEq, Nat.reduceAdd, Nat.reduceMul, Nat.reduceSub, Nat.reducePow, Int.reduceLE, Int.reduceLT, Int.reduceNeg, Int.reduceToNat, Int.reduceAdd, Int.reduceSub, idO_app, lenO_app, lenO_app2, lenO_eta] at hr
    subst hr
    refine AWP_ret ?_
    with_reducible refine thenC_ret ?_
    cases hK
    refine EndsRW [5, 4] (.inl rfl) (of_decide_eq_true rfl) (by simp) rfl (fun c x hr => ?_) endHR
    simp only [go_sem, reduceIte, reduceCtorEq, Nat.reduceEqDiff, Nat.reduceLT, Nat.reduceLeDiff, Nat.reduceBEq, Nat.reduceAdd, Nat.reduceMul, Nat.reduceSub, Nat.reducePow, Int.reduceLE, Int.reduceLT, Int.reduceNeg, Int.reduceToNat, Int.reduceAdd, Int.reduceSub, idO_app, lenO_app, lenO_app2, lenO_eta] at hr
    obtain ⟨rfl, rfl⟩ := hr
    exact ⟨rfl, endR⟩
  · replace hK := ite_f hK hb
    refine AWP_skip ?_
    with_reducible refine thenC_normal ?_
    refine AWP_seq ?_
    refine AWP_seq ?_
    -- region 4
    refine AWP_rg tab_ok [1, 2, 18] fun c st' hr => ?_
    simp only [go_sem, reduceIte, reduceCtorEq, Nat.reduceEqDiff, Nat.reduceLT, Nat.reduceLeDiff, Nat.reduceBEq, Nat.reduceAdd, Nat.reduceMul, Nat.reduceSub, Nat.reducePow, Int.reduceLE, Int.reduceLT, Int.reduceNeg, Int.reduceToNat, Int.reduceAdd, Int.reduceSub, idO_app, lenO_app, lenO_app2, lenO_eta] at hr
    obtain ⟨rfl, rfl⟩ := hr
    refine ⟨vc, ?_⟩
    with_reducible refine thenC_normal ?_
    refine AWP_condP (6 < x_1) rfl bd (fun hb1 => ?_) (fun hb1 => ?_)
    · replace hK := ite_t hK hb1
      refine AWP_seq ?_
      -- region 5
      refine AWP_rg tab_ok [2, 3] fun c st' hr => ?_
      simp only [go_sem, reduceIte, reduceCtorEq, Nat.reduceEqDiff, Nat.reduceLT, Nat.reduceLeDiff, Nat.reduceBEq, Nat.reduceAdd, Nat.reduceMul, Nat.reduceSub, Nat.reducePow, Int.reduceLE, Int.reduceLT, Int.reduceNeg, Int.reduceToNat, Int.reduceAdd, Int.reduceSub, idO_app, lenO_app, lenO_app2, lenO_eta] at hr
      obtain ⟨rfl, rfl⟩ := hr
      refine ⟨vc, ?_⟩
      with_reducible refine thenC_normal ?_
      refine AWP_gs' (gs_rows0 3 .i64) fun st' hr => ?_
      simp only [go_sem, reduceIte, reduceCtorEq, Nat.reduceEqDiff, Nat.reduceLT, Nat.reduceLeDiff, Nat.reduceBEq, Nat.reduceAdd, Nat.reduceMul, Nat.reduceSub, Nat.reducePow, Int.reduceLE, Int.reduceLT, Int.reduceNeg, Int.reduceToNat, Int.reduceAdd, Int.reduceSub, idO_app, lenO_app, lenO_app2, lenO_eta, List.cons_append, List.nil_append] at hr
      subst hr
      refine AWP_ownH 1 2 (.outs 22 4 0 idO (lenO [])) rfl rfl rfl fun st' hr => ?_
      simp only [go_sem, reduceIte, reduceCtorEq, Nat.reduceEqDiff, Nat.reduceLT, Nat.reduceLeDiff, Nat.reduceBEq, Nat.reduceAdd, Nat.reduceMul, Nat.reduceSub, Nat.reducePow, Int.reduceLE, Int.reduceLT, Int.reduceNeg, Int.reduceToNat, Int.reduceAdd, Int.reduceSub, idO_app, lenO_app, lenO_app2, lenO_eta] at hr
      subst hr
      refine AWP_ret ?_
      with_reducible refine thenC_ret ?_
      cases hK
      refine EndsRW [5, 4] (.inl rfl) (of_decide_eq_true rfl) (by simp) rfl (fun c x hr => ?_) endHR
      simp only [go_sem, reduceIte, reduceCtorEq, Nat.reduceEqDiff, Nat.reduceLT, Nat.reduceLeDiff, Nat.reduceBEq, Nat.reduceAdd, Nat.reduceMul, Nat.reduceSub, Nat.reducePow, Int.reduceLE, Int.reduceLT, Int.reduceNeg, Int.reduceToNat, Int.reduceAdd, Int.reduceSub, idO_app, lenO_app, lenO_app2, lenO_eta] at hr
      obtain ⟨rfl, rfl⟩ := hr
      exact ⟨rfl, endR⟩
    · replace hK := ite_f hK hb1
      refine AWP_skip ?_
      with_reducible refine thenC_normal ?_
      refine AWP_seq ?_
      -- region 6
      refine AWP_rg tab_ok [1, 2, 5] fun c st' hr => ?_
      simp only [go_sem, reduceIte, reduceCtorEq, Nat.reduceEqDiff, Nat.reduceLT, Nat.reduceLeDiff, Nat.reduceBEq, Nat.reduceAdd, Nat.reduceMul, Nat.reduceSub, Nat.reducePow, Int.reduceLE, Int.reduceLT, Int.reduceNeg, Int.reduceToNat, Int.reduceAdd, Int.reduceSub, idO_app, lenO_app, lenO_app2, lenO_eta] at hr
      obtain ⟨rfl, rfl⟩ := hr
      refine ⟨vc, ?_⟩
      with_reducible refine thenC_normal ?_
      refine AWP_gs' (gs_rows0 3 .i64) fun st' hr => ?_
      simp only [go_sem, reduceIte, reduceCtorEq, Nat.reduceEqDiff, Nat.reduceLT, Nat.reduceLeDiff, Nat.reduceBEq, Nat.reduceAdd, Nat.reduceMul, Nat.reduceSub, Nat.reducePow, Int.reduceLE, Int.reduceLT, Int.reduceNeg, Int.reduceToNat, Int.reduceAdd, Int.reduceSub, idO_app, lenO_app, lenO_app2, lenO_eta, List.cons_append, List.nil_append] at hr
      subst hr
      refine AWP_ownH 4 2 (.outs 22 5 0 idO (lenO [])) rfl rfl rfl fun st' hr => ?_
      simp only [go_sem, reduceIte, reduceCtorEq, Nat.reduceEqDiff, Nat.reduceLT, Nat.reduceLeDiff, Nat.reduceBEq, Nat.reduceAdd, Nat.reduceMul, Nat.reduceSub, Nat.reducePow, Int.reduceLE, Int.reduceLT, Int.reduceNeg, Int.reduceToNat, Int.reduceAdd, Int.reduceSub, idO_app, lenO_app, lenO_app2, lenO_eta] at hr
      subst hr
      refine AWP_seq ?_
      refine AWP_seq ?_
      -- region 7
      refine AWP_rg tab_ok [1, 2, 5, 27, 28] fun c st' hr => ?_
      simp only [go_sem, reduceIte, reduceCtorEq, Nat.reduceEqDiff, Nat.reduceLT, Nat.reduceLeDiff, Nat.reduceBEq, Nat.reduceAdd, Nat.reduceMul, Nat.reduceSub, Nat.reducePow, Int.reduceLE, Int.reduceLT, Int.reduceNeg, Int.reduceToNat, Int.reduceAdd, Int.reduceSub, idO_app, lenO_app, lenO_app2, lenO_eta] at hr
      obtain ⟨rfl, rfl⟩ := hr
      refine ⟨vc, ?_⟩
      with_reducible refine thenC_normal ?_
      refine AWP_block ?_
      refine AWP_loopX 0 (fun ((out0, v) : List (List Int) × Int) => ⟨54, [(1, .ptr 0 0 0), (2, .ptr 1 0 0), (5, .ptr 4 0 0), (27, .int .i64 x_1), (28, .int .i64 v)], [some (.gen 44 3 [[.int .i64 x_0, .int .i64 x_1, .fn 1 x_2.length (fun i => [.ints .i64 (x_2.getD i [])])]]), some (.gen 44 3 [[.int .i64 0, .int .i64 0, .own 2 0]]), some (.outs 22 3 0 idO (lenO ([] : List (List Int)))), some (.rows 3 .i64 ([] : List (List Int))), some (.gen 44 3 [[.int .i64 x_0, .int .i64 (x_2.length : Int), .own 5 out0.length]]), some (.outs 22 6 out0.length idO (lenO out0)), some (.rows 3 .i64 out0)]⟩) (fun (out01 : List (List Int)) => ⟨54, [(2, .ptr 0 0 0), (5, .ptr 3 0 0)], [some (.gen 44 3 [[.int .i64 0, .int .i64 0, .own 1 0]]), some (.outs 22 2 0 idO (lenO ([] : List (List Int)))), some (.rows 3 .i64 ([] : List (List Int))), some (.gen 44 3 [[.int .i64 x_0, .int .i64 (x_2.length : Int), .own 4 out01.length]]), some (.outs 22 5 out01.length idO (lenO out01)), some (.rows 3 .i64 out01)]⟩) (fun v => v) (([] : List (List Int)), 0) [0, 1, 3, 2, 4, 6, 5] hK mkWkR ?_ ?_
      · clear hK; rintro ⟨out0, v⟩ b hK hpost1
        try dsimp only at hK
        change AWP _ _ _ _ ⟨54, [(1, .ptr 0 0 0), (2, .ptr 1 0 0), (5, .ptr 4 0 0), (27, .int .i64 x_1), (28, .int .i64 v)], [some (.gen 44 3 [[.int .i64 x_0, .int .i64 x_1, .fn 1 x_2.length (fun i => [.ints .i64 (x_2.getD i [])])]]), some (.gen 44 3 [[.int .i64 0, .int .i64 0, .own 2 0]]), some (.outs 22 3 0 idO (lenO ([] : List (List Int)))), some (.rows 3 .i64 ([] : List (List Int))), some (.gen 44 3 [[.int .i64 x_0, .int .i64 (x_2.length : Int), .own 5 out0.length]]), some (.outs 22 6 out0.length idO (lenO out0)), some (.rows 3 .i64 out0)]⟩
        refine AWP_seq ?_
        -- region 8
        refine AWP_rg tab_ok [1, 2, 5, 27, 28, 29] fun c st' hr => ?_
        simp only [go_sem, reduceIte, reduceCtorEq, Nat.reduceEqDiff, Nat.reduceLT, Nat.reduceLeDiff, Nat.reduceBEq, Nat.reduceAdd, Nat.reduceMul, Nat.reduceSub, Nat.reducePow, Int.reduceLE, Int.reduceLT, Int.reduceNeg, Int.reduceToNat, Int.reduceAdd, Int.reduceSub, idO_app, lenO_app, lenO_app2, lenO_eta] at hr
        obtain ⟨rfl, rfl⟩ := hr
        refine ⟨vc, ?_⟩
        with_reducible refine thenC_normal ?_
        refine AWP_seq ?_
        refine AWP_condP (v < x_1) rfl bd (fun hb2 => ?_) (fun hb2 => ?_)
        · replace hK := ite_t hK hb2
          refine AWP_skip ?_
          with_reducible refine thenC_normal ?_
          refine AWP_seq ?_
          refine AWP_block ?_
          refine AWP_seq ?_
          -- region 9
          refine AWP_rg tab_ok [1, 2, 5, 6, 27, 28] fun c st' hr => ?_
          simp only [go_sem, reduceIte, reduceCtorEq, Nat.reduceEqDiff, Nat.reduceLT, Nat.reduceLeDiff, Nat.reduceBEq, Nat.reduceAdd, Nat.reduceMul, Nat.reduceSub, Nat.reducePow, Int.reduceLE, Int.reduceLT, Int.reduceNeg, Int.reduceToNat, Int.reduceAdd, Int.reduceSub, idO_app, lenO_app, lenO_app2, lenO_eta] at hr
          obtain ⟨rfl, rfl⟩ := hr
          refine ⟨vc, ?_⟩
          with_reducible refine thenC_normal ?_
          refine AWP_seq ?_
          -- region 10
          refine AWP_rg tab_ok [1, 2, 5, 6, 7, 27, 28] fun c st' hr => ?_
          simp only [go_sem, reduceIte, reduceCtorEq, Nat.reduceEqDiff, Nat.reduceLT, Nat.reduceLeDiff, Nat.reduceBEq, Nat.reduceAdd, Nat.reduceMul, Nat.reduceSub, Nat.reducePow, Int.reduceLE, Int.reduceLT, Int.reduceNeg, Int.reduceToNat, Int.reduceAdd, Int.reduceSub, idO_app, lenO_app, lenO_app2, lenO_eta] at hr
          obtain ⟨rfl, rfl⟩ := hr
          refine ⟨vc, ?_⟩
          with_reducible refine thenC_normal ?_
          refine AWP_own 7 (.ints 3 .i64 []) rfl rfl fun st' hr => ?_
          simp only [go_sem, reduceIte, reduceCtorEq, Nat.reduceEqDiff, Nat.reduceLT, Nat.reduceLeDiff, Nat.reduceBEq, Nat.reduceAdd, Nat.reduceMul, Nat.reduceSub, Nat.reducePow, Int.reduceLE, Int.reduceLT, Int.reduceNeg, Int.reduceToNat, Int.reduceAdd, Int.reduceSub, idO_app, lenO_app, lenO_app2, lenO_eta] at hr
          subst hr
          refine AWP_seq ?_
          refine AWP_seq ?_
          -- region 11
          refine AWP_rg tab_ok [1, 2, 5, 6, 7, 27, 28, 32, 33, 34] fun c st' hr => ?_
          simp only [go_sem, reduceIte, reduceCtorEq, Nat.reduceEqDiff, Nat.reduceLT, Nat.reduceLeDiff, Nat.reduceBEq, Nat.reduceAdd, Nat.reduceMul, Nat.reduceSub, Nat.reducePow, Int.reduceLE, Int.reduceLT, Int.reduceNeg, Int.reduceToNat, Int.reduceAdd, Int.reduceSub, idO_app, lenO_app, lenO_app2, lenO_eta] at hr
          obtain ⟨rfl, rfl⟩ := hr
          refine ⟨vc, ?_⟩
          with_reducible refine thenC_normal ?_
          refine AWP_block ?_
          refine AWP_loopX 2 (fun ((l, v1) : List Int × Int) => ⟨54, [(1, .ptr 0 0 0), (2, .ptr 1 0 0), (5, .ptr 4 0 0), (6, .int .i64 v), (7, .own 7 l.length), (27, .int .i64 x_1), (28, .int .i64 v), (32, .fn 1 x_2.length (fun i => [.ints .i64 (x_2.getD i [])])), (33, .int .i64 (x_2.length : Int)), (34, .int .i64 v1)], [some (.gen 44 3 [[.int .i64 x_0, .int .i64 x_1, .fn 1 x_2.length (fun i => [.ints .i64 (x_2.getD i [])])]]), some (.gen 44 3 [[.int .i64 0, .int .i64 0, .own 2 0]]), some (.outs 22 3 0 idO (lenO ([] : List (List Int)))), some (.rows 3 .i64 ([] : List (List Int))), some (.gen 44 3 [[.int .i64 x_0, .int .i64 (x_2.length : Int), .own 5 out0.length]]), some (.outs 22 6 out0.length idO (lenO out0)), some (.rows 3 .i64 out0), some (.ints 3 .i64 l)]⟩) (fun (l1 : List Int) => ⟨54, [(1, .ptr 0 0 0), (2, .ptr 1 0 0), (5, .ptr 4 0 0), (7, .own 7 l1.length), (27, .int .i64 x_1), (28, .int .i64 v)], [some (.gen 44 3 [[.int .i64 x_0, .int .i64 x_1, .fn 1 x_2.length (fun i => [.ints .i64 (x_2.getD i [])])]]), some (.gen 44 3 [[.int .i64 0, .int .i64 0, .own 2 0]]), some (.outs 22 3 0 idO (lenO ([] : List (List Int)))), some (.rows 3 .i64 ([] : List (List Int))), some (.gen 44 3 [[.int .i64 x_0, .int .i64 (x_2.length : Int), .own 5 out0.length]]), some (.outs 22 6 out0.length idO (lenO out0)), some (.rows 3 .i64 out0), some (.ints 3 .i64 l1)]⟩) (fun v => v) ([], 0) [0, 1, 2, 3, 4, 5, 6, 7] hK mkWkR ?_ ?_
          · clear hK; rintro ⟨l, v1⟩ b1 hK hpost2
            try dsimp only at hK
            change AWP _ _ _ _ ⟨54, [(1, .ptr 0 0 0), (2, .ptr 1 0 0), (5, .ptr 4 0 0), (6, .int .i64 v), (7, .own 7 l.length), (27, .int .i64 x_1), (28, .int .i64 v), (32, .fn 1 x_2.length (fun i => [.ints .i64 (x_2.getD i [])])), (33, .int .i64 (x_2.length : Int)), (34, .int .i64 v1)], [some (.gen 44 3 [[.int .i64 x_0, .int .i64 x_1, .fn 1 x_2.length (fun i => [.ints .i64 (x_2.getD i [])])]]), some (.gen 44 3 [[.int .i64 0, .int .i64 0, .own 2 0]]), some (.outs 22 3 0 idO (lenO ([] : List (List Int)))), some (.rows 3 .i64 ([] : List (List Int))), some (.gen 44 3 [[.int .i64 x_0, .int .i64 (x_2.length : Int), .own 5 out0.length]]), some (.outs 22 6 out0.length idO (lenO out0)), some (.rows 3 .i64 out0), some (.ints 3 .i64 l)]⟩
            refine AWP_seq ?_
            -- region 12
            refine AWP_rg tab_ok [1, 2, 5, 6, 7, 27, 28, 32, 33, 34, 35] fun c st' hr => ?_
            simp only [go_sem, reduceIte, reduceCtorEq, Nat.reduceEqDiff, Nat.reduceLT, Nat.reduceLeDiff, Nat.reduceBEq, Nat.reduceAdd, Nat.reduceMul, Nat.reduceSub, Nat.reducePow, Int.reduceLE, Int.reduceLT, Int.reduceNeg, Int.reduceToNat, Int.reduceAdd, Int.reduceSub, idO_app, lenO_app, lenO_app2, lenO_eta] at hr
            obtain ⟨rfl, rfl⟩ := hr
            refine ⟨vc, ?_⟩
            with_reducible refine thenC_normal ?_
            refine AWP_seq ?_
            refine AWP_condP (v1 < (x_2.length : Int)) rfl bd (fun hb3 => ?_) (fun hb3 => ?_)
            · replace hK := ite_t hK hb3
              refine AWP_skip ?_
              with_reducible refine thenC_normal ?_
              refine AWP_seq ?_
              refine AWP_block ?_
              refine AWP_seq ?_
              -- region 13
              replace hK := chk_some hK
              obtain ⟨h, hK⟩ := hK
              refine AWP_rg tab_ok [1, 2, 5, 6, 7, 9, 27, 28, 32, 33, 34] fun c st' hr => ?_
              simp only [go_sem, reduceIte, reduceCtorEq, Nat.reduceEqDiff, Nat.reduceLT, Nat.reduceLeDiff, Nat.reduceBEq, Nat.reduceAdd, Nat.reduceMul, Nat.reduceSub, Nat.reducePow, Int.reduceLE, Int.reduceLT, Int.reduceNeg, Int.reduceToNat, Int.reduceAdd, Int.reduceSub, idO_app, lenO_app, lenO_app2, lenO_eta] at hr
              obtain ⟨rfl, rfl⟩ := hr
              refine ⟨vc, ?_⟩
              with_reducible refine thenC_normal ?_
              -- region 14
              replace hK := chk_some hK
              obtain ⟨h1, hK⟩ := hK
              refine AWP_rg tab_ok [1, 2, 5, 6, 7, 27, 28, 32, 33, 34] fun c st' hr => ?_
              simp only [go_sem, reduceIte, reduceCtorEq, Nat.reduceEqDiff, Nat.reduceLT, Nat.reduceLeDiff, Nat.reduceBEq, Nat.reduceAdd, Nat.reduceMul, Nat.reduceSub, Nat.reducePow, Int.reduceLE, Int.reduceLT, Int.reduceNeg, Int.reduceToNat, Int.reduceAdd, Int.reduceSub, idO_app, lenO_app, lenO_app2, lenO_eta] at hr
              obtain ⟨rfl, rfl⟩ := hr
              refine ⟨vc, ?_⟩
              with_reducible refine inBlockA_normal (thenC_normal ?_)
              -- region 15
              refine AWP_facts (by simp) fun hfx => ?_
              simp only [factS, factV, fact1, fact0, factL0, lo, hi, maxLen, and_true, true_and] at hfx
              refine AWP_rg tab_ok [1, 2, 5, 6, 7, 27, 28, 32, 33, 34] fun c st' hr => ?_
              simp only [go_sem, reduceIte, reduceCtorEq, Nat.reduceEqDiff, Nat.reduceLT, Nat.reduceLeDiff, Nat.reduceBEq, Nat.reduceAdd, Nat.reduceMul, Nat.reduceSub, Nat.reducePow, Int.reduceLE, Int.reduceLT, Int.reduceNeg, Int.reduceToNat, Int.reduceAdd, Int.reduceSub, idO_app, lenO_app, lenO_app2, lenO_eta] at hr
              obtain ⟨rfl, rfl⟩ := hr
              refine ⟨vc, ?_⟩
              clear hfx
              refine again_n (l ++ [(x_2.getD v1.toNat []).getD v.toNat 0], v1 + 1) [0, 1, 2, 3, 4, 5, 6, 9] hK mkWkR
            · replace hK := ite_f hK hb3
              refine AWP_exit ?_
              with_reducible refine thenC_exit (again_x ?_)
              refine cutX_here l [0, 1, 2, 3, 4, 5, 6, 7] (by have hq := hpost2 _ hK; exact hq) mkWkR
          · clear hK; rintro l1 hK
            try dsimp only at hK
            refine exS ⟨54, [(1, .ptr 0 0 0), (2, .ptr 1 0 0), (5, .ptr 4 0 0), (7, .own 7 l1.length), (27, .int .i64 x_1), (28, .int .i64 v)], [some (.gen 44 3 [[.int .i64 x_0, .int .i64 x_1, .fn 1 x_2.length (fun i => [.ints .i64 (x_2.getD i [])])]]), some (.gen 44 3 [[.int .i64 0, .int .i64 0, .own 2 0]]), some (.outs 22 3 0 idO (lenO ([] : List (List Int)))), some (.rows 3 .i64 ([] : List (List Int))), some (.gen 44 3 [[.int .i64 x_0, .int .i64 (x_2.length : Int), .own 5 out0.length]]), some (.outs 22 6 out0.length idO (lenO out0)), some (.rows 3 .i64 out0), some (.ints 3 .i64 l1)]⟩ rfl ?_
            with_reducible refine inBlockA_exit (thenC_normal ?_)
            -- region 16
            refine AWP_rl ?_
            refine AWPL_rn tab_ok 3 [1, 2, 5, 27, 28, 47, 48] fun c st' hr => ?_
            simp only [go_sem, reduceIte, reduceCtorEq, Nat.reduceEqDiff, Nat.reduceLT, Nat.reduceLeDiff, Nat.reduceBEq, Nat.reduceAdd, Nat.reduceMul, Nat.reduceSub, Nat.reducePow, Int.reduceLE, Int.reduceLT, Int.reduceNeg, Int.reduceToNat, Int.reduceAdd, Int.reduceSub, idO_app, lenO_app, lenO_app2, lenO_eta] at hr
            obtain ⟨rfl, rfl⟩ := hr
            refine ⟨vc, ?_⟩
            refine AWPL_gs' (gs_adopt 48 6 rfl (by first | rfl | (simp; done)) rfl rfl (by first | rfl | (simp [noPin]; done))) fun st' hr => ?_
            simp only [go_sem, reduceIte, reduceCtorEq, Nat.reduceEqDiff, Nat.reduceLT, Nat.reduceLeDiff, Nat.reduceBEq, Nat.reduceAdd, Nat.reduceMul, Nat.reduceSub, Nat.reducePow, Int.reduceLE, Int.reduceLT, Int.reduceNeg, Int.reduceToNat, Int.reduceAdd, Int.reduceSub, idO_app, lenO_app, lenO_app2, lenO_eta, List.set_cons_zero, List.set_cons_succ] at hr
            subst hr
            replace hK := chk_some hK
            obtain ⟨h2, hK⟩ := hK
            refine AWPL_rn tab_ok 4 [1, 2, 5, 27, 28] fun c st' hr => ?_
            simp only [go_sem, reduceIte, reduceCtorEq, Nat.reduceEqDiff, Nat.reduceLT, Nat.reduceLeDiff, Nat.reduceBEq, Nat.reduceAdd, Nat.reduceMul, Nat.reduceSub, Nat.reducePow, Int.reduceLE, Int.reduceLT, Int.reduceNeg, Int.reduceToNat, Int.reduceAdd, Int.reduceSub, idO_app, lenO_app, lenO_app2, lenO_eta] at hr
            obtain ⟨rfl, rfl⟩ := hr
            refine ⟨vc, ?_⟩
            refine AWPL_nil ?_
            with_reducible refine inBlockA_normal (thenC_normal ?_)
            -- region 17
            replace hK := chk_some hK
            obtain ⟨h3, hK⟩ := hK
            refine AWP_rg tab_ok [1, 2, 5, 27, 28] fun c st' hr => ?_
            simp only [go_sem, reduceIte, reduceCtorEq, Nat.reduceEqDiff, Nat.reduceLT, Nat.reduceLeDiff, Nat.reduceBEq, Nat.reduceAdd, Nat.reduceMul, Nat.reduceSub, Nat.reducePow, Int.reduceLE, Int.reduceLT, Int.reduceNeg, Int.reduceToNat, Int.reduceAdd, Int.reduceSub, idO_app, lenO_app, lenO_app2, lenO_eta] at hr
            obtain ⟨rfl, rfl⟩ := hr
            refine ⟨vc, ?_⟩
            refine again_n (out0 ++ [l1], v + 1) [0, 1, 2, 3, 4, 9, 6] hK mkWkR
        · replace hK := ite_f hK hb2
          refine AWP_exit ?_
          with_reducible refine thenC_exit (again_x ?_)
          refine cutX_here out0 [1, 2, 3, 4, 5, 6] (by have hq := hpost1 _ hK; exact hq) mkWkR
      · clear hK; rintro out01 hK
        try dsimp only at hK
        refine exS ⟨54, [(2, .ptr 0 0 0), (5, .ptr 3 0 0)], [some (.gen 44 3 [[.int .i64 0, .int .i64 0, .own 1 0]]), some (.outs 22 2 0 idO (lenO ([] : List (List Int)))), some (.rows 3 .i64 ([] : List (List Int))), some (.gen 44 3 [[.int .i64 x_0, .int .i64 (x_2.length : Int), .own 4 out01.length]]), some (.outs 22 5 out01.length idO (lenO out01)), some (.rows 3 .i64 out01)]⟩ rfl ?_
        with_reducible refine inBlockA_exit (thenC_normal ?_)
        refine AWP_seq ?_
        -- region 18
        refine AWP_rg tab_ok [2, 3] fun c st' hr => ?_
        simp only [go_sem, reduceIte, reduceCtorEq, Nat.reduceEqDiff, Nat.reduceLT, Nat.reduceLeDiff, Nat.reduceBEq, Nat.reduceAdd, Nat.reduceMul, Nat.reduceSub, Nat.reducePow, Int.reduceLE, Int.reduceLT, Int.reduceNeg, Int.reduceToNat, Int.reduceAdd, Int.reduceSub, idO_app, lenO_app, lenO_app2, lenO_eta] at hr
        obtain ⟨rfl, rfl⟩ := hr
        refine ⟨vc, ?_⟩
        with_reducible refine thenC_normal ?_
        refine AWP_ret ?_
        cases hK
        refine EndsRW [4, 5] (.inl rfl) (of_decide_eq_true rfl) (by simp) rfl (fun c x hr => ?_) endHR
        simp only [go_sem, reduceIte, reduceCtorEq, Nat.reduceEqDiff, Nat.reduceLT, Nat.reduceLeDiff, Nat.reduceBEq, Nat.reduceAdd, Nat.reduceMul, Nat.reduceSub, Nat.reducePow, Int.reduceLE, Int.reduceLT, Int.reduceNeg, Int.reduceToNat, Int.reduceAdd, Int.reduceSub, idO_app, lenO_app, lenO_app2, lenO_eta] at hr
        obtain ⟨rfl, rfl⟩ := hr
        exact ⟨rfl, endR⟩

end Go.SH
