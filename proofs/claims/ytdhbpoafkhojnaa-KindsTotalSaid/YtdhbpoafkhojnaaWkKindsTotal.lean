/-
  That the code computes these functions: rotakeep_KindsTotal. By a program of mine (shal.py). Conditions: none.
-/
import Derived.Test.YtdhbpoafkhojnaaAxT
import Derived.Test.YtdhbpoafkhojnaaAxR
import Derived.Test.YtdhbpoafkhojnaaAxRx
import Derived.Test.YtdhbpoafkhojnaaSkKindsTotal
import Derived.Test.YtdhbpoafkhojnaaWpkinds
import Derived.Test.YtdhbpoafkhojnaaWpkindsg
import Derived.Test.YtdhbpoafkhojnaaWpkindsu
import Derived.Test.YtdhbpoafkhojnaaWprotalaw
import Derived.Test.YtdhbpoafkhojnaaWprotaref
set_option linter.unusedVariables false
set_option linter.unusedSimpArgs false
namespace Go.SH
open Go Go.AX Go.AX.Try Go.Proofs

set_option maxRecDepth 8000 in
set_option maxHeartbeats 4000000 in
theorem W_rotakeep_KindsTotal {g_0 : Int} {g_1 : List (Int × Int)} {a1 : Int} {r : Bool} (hK : rotakeep_KindsTotal g_0 g_1 a1 = some r) : Pure Try.prog 4 [.agg [.int .i64 g_0, .fn 2 g_1.length (fun i => [.int .i64 ((g_1.getD i (0, 0)).1), .int .i64 ((g_1.getD i (0, 0)).2)])], .int .i64 a1] (.bool r) [] := by
  refine Pure_introF tab_ok (n := 119) (l := [.tmp 4]) Try.func4 rfl rfl rfl (by simp) fun hfact w0 => ?_
  simp only [factL1, fact1, fact0, factL0, lo, hi, maxLen, and_true] at hfact
  unfold rotakeep_KindsTotal at hK
  refine AWP_seq ?_
  -- region 0
  refine AWP_rg tab_ok [1, 2] fun c st' hr => ?_
  simp only [go_sem, reduceIte, reduceCtorEq, Nat.reduceEqDiff, Nat.reduceLT, Nat.reduceLeDiff, Nat.reduceBEq, Nat.reduceAdd, Nat.reduceMul, Nat.reduceSub, Nat.reducePow, Int.reduceLE, Int.reduceLT, Int.reduceNeg, Int.reduceToNat, Int.reduceAdd, Int.reduceSub, idO_app, lenO_app, lenO_app2, lenO_eta] at hr
  obtain ⟨rfl, rfl⟩ := hr
  refine ⟨vc, ?_⟩
  with_reducible refine thenC_normal ?_
  refine AWP_seq ?_
  refine AWP_seq ?_
  -- region 1
  refine AWP_rl ?_
  replace hK := bind_s hK
  obtain ⟨y, hy, hK⟩ := hK
  refine AWPL_callK [1, 2, 18] (W_kinds_Uniform hy) rfl rfl pcT rfl Try.call22 (.cons (.atom _ rfl) (.cons (.atom _ rfl) .nil)) (hscG trivial) (of_decide_eq_true rfl) (by first | rfl | simp [nI, nI1, nI0]) (by first | rfl | simp [nIB, nI0]) fun st' hr => ?_
  simp only [go_sem, reduceIte, reduceCtorEq, Nat.reduceEqDiff, Nat.reduceLT, Nat.reduceLeDiff, Nat.reduceBEq, Nat.reduceAdd, Nat.reduceMul, Nat.reduceSub, Nat.reducePow, Int.reduceLE, Int.reduceLT, Int.reduceNeg, Int.reduceToNat, Int.reduceAdd, Int.reduceSub, idO_app, lenO_app, lenO_app2, lenO_eta] at hr
  subst hr
  clear hy
  refine AWPL_rn tab_ok 6 [1, 2, 5, 6] fun c st' hr => ?_
  simp only [go_sem, reduceIte, reduceCtorEq, Nat.reduceEqDiff, Nat.reduceLT, Nat.reduceLeDiff, Nat.reduceBEq, Nat.reduceAdd, Nat.reduceMul, Nat.reduceSub, Nat.reducePow, Int.reduceLE, Int.reduceLT, Int.reduceNeg, Int.reduceToNat, Int.reduceAdd, Int.reduceSub, idO_app, lenO_app, lenO_app2, lenO_eta] at hr
  obtain ⟨rfl, rfl⟩ := hr
  refine ⟨vc, ?_⟩
  refine AWPL_nil ?_
  with_reducible refine thenC_normal ?_
  refine AWP_seq ?_
  -- region 2
  refine AWP_rl ?_
  refine AWPL_rn tab_ok 5 [1, 2, 23, 25] fun c st' hr => ?_
  simp only [go_sem, reduceIte, reduceCtorEq, Nat.reduceEqDiff, Nat.reduceLT, Nat.reduceLeDiff, Nat.reduceBEq, Nat.reduceAdd, Nat.reduceMul, Nat.reduceSub, Nat.reducePow, Int.reduceLE, Int.reduceLT, Int.reduceNeg, Int.reduceToNat, Int.reduceAdd, Int.reduceSub, idO_app, lenO_app, lenO_app2, lenO_eta] at hr
  obtain ⟨rfl, rfl⟩ := hr
  refine ⟨vc, ?_⟩
  by_cases hg : ¬ (y.2.2 ≠ 0)
  · replace hK := ite_t hK hg
    refine AWPL_stP [(1, .int .i64 a1), (2, .ptr 0 0 0), (23, .bool false), (25, .opt true (.own 1 y.2.1.length))] (by first | (simp [SameS, AX.look, hg]; done) | (simp at hg ⊢; simp [SameS, AX.look, hg]; done) | (simp_all [SameS, AX.look]; done)) ?_
    refine AWPL_effT tab_ok [1, 2, 23, 25, 26] pcT fun c st' hr => ?_
    simp only [go_sem, reduceIte, reduceCtorEq, Nat.reduceEqDiff, Nat.reduceLT, Nat.reduceLeDiff, Nat.reduceBEq, Nat.reduceAdd, Nat.reduceMul, Nat.reduceSub, Nat.reducePow, Int.reduceLE, Int.reduceLT, Int.reduceNeg, Int.reduceToNat, Int.reduceAdd, Int.reduceSub, idO_app, lenO_app, lenO_app2, lenO_eta] at hr
    obtain ⟨rfl, rfl⟩ := hr
    refine ⟨vc, ?_⟩
    replace hK := bind_s hK
    obtain ⟨y1, hy, hK⟩ := hK
    refine AWPL_callK [1, 2, 23, 27] (W_rotalaw_Same_int hy) rfl rfl pcT rfl Try.call20 (.cons (.ownI _ _ _ _ _ y.2.1 rfl (by simp) (by first | simp | exact List.take_of_length_le (by simp))) (.cons (.ownI _ _ _ _ _ [1, 2] rfl (by simp) (by first | simp | exact List.take_of_length_le (by simp))) .nil)) (hscG trivial) (of_decide_eq_true rfl) (by first | rfl | simp [nI, nI1, nI0]) (by first | rfl | simp [nIB, nI0]) fun st' hr => ?_
    simp only [go_sem, reduceIte, reduceCtorEq, Nat.reduceEqDiff, Nat.reduceLT, Nat.reduceLeDiff, Nat.reduceBEq, Nat.reduceAdd, Nat.reduceMul, Nat.reduceSub, Nat.reducePow, Int.reduceLE, Int.reduceLT, Int.reduceNeg, Int.reduceToNat, Int.reduceAdd, Int.reduceSub, idO_app, lenO_app, lenO_app2, lenO_eta] at hr
    subst hr
    clear hy
    refine AWPL_rn tab_ok 2 [1, 2, 29] fun c st' hr => ?_
    simp only [go_sem, reduceIte, reduceCtorEq, Nat.reduceEqDiff, Nat.reduceLT, Nat.reduceLeDiff, Nat.reduceBEq, Nat.reduceAdd, Nat.reduceMul, Nat.reduceSub, Nat.reducePow, Int.reduceLE, Int.reduceLT, Int.reduceNeg, Int.reduceToNat, Int.reduceAdd, Int.reduceSub, idO_app, lenO_app, lenO_app2, lenO_eta] at hr
    obtain ⟨rfl, rfl⟩ := hr
    refine ⟨vc, ?_⟩
    refine AWPL_nil ?_
    with_reducible refine thenC_normal ?_
    refine AWP_condP (¬ (y1 = true)) rfl bd (fun hb => ?_) (fun hb => ?_)
    · replace hK := ite_t hK hb
      refine AWP_seq ?_
      -- region 3
      refine AWP_rg tab_ok [4] fun c st' hr => ?_
      simp only [go_sem, reduceIte, reduceCtorEq, Nat.reduceEqDiff, Nat.reduceLT, Nat.reduceLeDiff, Nat.reduceBEq, Nat.reduceAdd, Nat.reduceMul, Nat.reduceSub, Nat.reducePow, Int.reduceLE, Int.reduceLT, Int.reduceNeg, Int.reduceToNat, Int.reduceAdd, Int.reduceSub, idO_app, lenO_app, lenO_app2, lenO_eta] at hr
      obtain ⟨rfl, rfl⟩ := hr
      refine ⟨vc, ?_⟩
      with_reducible refine thenC_normal ?_
      refine AWP_ret ?_
      with_reducible refine thenC_ret ?_
      cases hK
      refine EndsRW [] (.inl rfl) (of_decide_eq_true rfl) (by simp) rfl (fun c x hr => ?_) trivial
      simp only [go_sem, reduceIte, reduceCtorEq, Nat.reduceEqDiff, Nat.reduceLT, Nat.reduceLeDiff, Nat.reduceBEq, Nat.reduceAdd, Nat.reduceMul, Nat.reduceSub, Nat.reducePow, Int.reduceLE, Int.reduceLT, Int.reduceNeg, Int.reduceToNat, Int.reduceAdd, Int.reduceSub, idO_app, lenO_app, lenO_app2, lenO_eta] at hr
      obtain ⟨rfl, rfl⟩ := hr
      exact ⟨rfl, endR⟩
    · replace hK := ite_f hK hb
      refine AWP_skip ?_
      with_reducible refine thenC_normal ?_
      refine AWP_seq ?_
      -- region 4
      refine AWP_rl ?_
      refine AWPL_rn tab_ok 1 [1, 2, 31] fun c st' hr => ?_
      simp only [go_sem, reduceIte, reduceCtorEq, Nat.reduceEqDiff, Nat.reduceLT, Nat.reduceLeDiff, Nat.reduceBEq, Nat.reduceAdd, Nat.reduceMul, Nat.reduceSub, Nat.reducePow, Int.reduceLE, Int.reduceLT, Int.reduceNeg, Int.reduceToNat, Int.reduceAdd, Int.reduceSub, idO_app, lenO_app, lenO_app2, lenO_eta] at hr
      obtain ⟨rfl, rfl⟩ := hr
      refine ⟨vc, ?_⟩
      replace hK := bind_s hK
      obtain ⟨y2, hy, hK⟩ := hK
      refine AWPL_callK [1, 2, 32] (W_kinds_Graphic hy) rfl rfl pcT rfl Try.call23 (.cons (.agg _ _ rfl (ArgsOk.get (.cons (.atom _ rfl) (.cons (.atom _ rfl) .nil))).2) .nil) (hscG trivial) (of_decide_eq_true rfl) (by first | rfl | simp [nI, nI1, nI0]) (by first | rfl | simp [nIB, nI0]) fun st' hr => ?_
      simp only [go_sem, reduceIte, reduceCtorEq, Nat.reduceEqDiff, Nat.reduceLT, Nat.reduceLeDiff, Nat.reduceBEq, Nat.reduceAdd, Nat.reduceMul, Nat.reduceSub, Nat.reducePow, Int.reduceLE, Int.reduceLT, Int.reduceNeg, Int.reduceToNat, Int.reduceAdd, Int.reduceSub, idO_app, lenO_app, lenO_app2, lenO_eta] at hr
      subst hr
      clear hy
      refine AWPL_rn tab_ok 6 [1, 2, 7, 8] fun c st' hr => ?_
      simp only [go_sem, reduceIte, reduceCtorEq, Nat.reduceEqDiff, Nat.reduceLT, Nat.reduceLeDiff, Nat.reduceBEq, Nat.reduceAdd, Nat.reduceMul, Nat.reduceSub, Nat.reducePow, Int.reduceLE, Int.reduceLT, Int.reduceNeg, Int.reduceToNat, Int.reduceAdd, Int.reduceSub, idO_app, lenO_app, lenO_app2, lenO_eta] at hr
      obtain ⟨rfl, rfl⟩ := hr
      refine ⟨vc, ?_⟩
      refine AWPL_nil ?_
      with_reducible refine thenC_normal ?_
      refine AWP_seq ?_
      refine AWP_seq ?_
      -- region 5
      refine AWP_rg tab_ok [1, 2, 7, 36] fun c st' hr => ?_
      simp only [go_sem, reduceIte, reduceCtorEq, Nat.reduceEqDiff, Nat.reduceLT, Nat.reduceLeDiff, Nat.reduceBEq, Nat.reduceAdd, Nat.reduceMul, Nat.reduceSub, Nat.reducePow, Int.reduceLE, Int.reduceLT, Int.reduceNeg, Int.reduceToNat, Int.reduceAdd, Int.reduceSub, idO_app, lenO_app, lenO_app2, lenO_eta] at hr
      obtain ⟨rfl, rfl⟩ := hr
      refine ⟨vc, ?_⟩
      with_reducible refine thenC_normal ?_
      refine AWP_condP (y2.2.2 ≠ 0) rfl bd (fun hb1 => ?_) (fun hb1 => ?_)
      · replace hK := ite_t hK hb1
        refine AWP_seq ?_
        -- region 6
        refine AWP_rg tab_ok [4] fun c st' hr => ?_
        simp only [go_sem, reduceIte, reduceCtorEq, Nat.reduceEqDiff, Nat.reduceLT, Nat.reduceLeDiff, Nat.reduceBEq, Nat.reduceAdd, Nat.reduceMul, Nat.reduceSub, Nat.reducePow, Int.reduceLE, Int.reduceLT, Int.reduceNeg, Int.reduceToNat, Int.reduceAdd, Int.reduceSub, idO_app, lenO_app, lenO_app2, lenO_eta] at hr
        obtain ⟨rfl, rfl⟩ := hr
        refine ⟨vc, ?_⟩
        with_reducible refine thenC_normal ?_
        refine AWP_ret ?_
        with_reducible refine thenC_ret ?_
        cases hK
        refine EndsRW [] (.inl rfl) (of_decide_eq_true rfl) (by simp) rfl (fun c x hr => ?_) trivial
        simp only [go_sem, reduceIte, reduceCtorEq, Nat.reduceEqDiff, Nat.reduceLT, Nat.reduceLeDiff, Nat.reduceBEq, Nat.reduceAdd, Nat.reduceMul, Nat.reduceSub, Nat.reducePow, Int.reduceLE, Int.reduceLT, Int.reduceNeg, Int.reduceToNat, Int.reduceAdd, Int.reduceSub, idO_app, lenO_app, lenO_app2, lenO_eta] at hr
        obtain ⟨rfl, rfl⟩ := hr
        exact ⟨rfl, endR⟩
      · replace hK := ite_f hK hb1
        refine AWP_skip ?_
        with_reducible refine thenC_normal ?_
        refine AWP_seq ?_
        -- region 7
        refine AWP_rl ?_
        refine AWPL_rn tab_ok 2 [2, 7, 40, 41] fun c st' hr => ?_
        simp only [go_sem, reduceIte, reduceCtorEq, Nat.reduceEqDiff, Nat.reduceLT, Nat.reduceLeDiff, Nat.reduceBEq, Nat.reduceAdd, Nat.reduceMul, Nat.reduceSub, Nat.reducePow, Int.reduceLE, Int.reduceLT, Int.reduceNeg, Int.reduceToNat, Int.reduceAdd, Int.reduceSub, idO_app, lenO_app, lenO_app2, lenO_eta] at hr
        obtain ⟨rfl, rfl⟩ := hr
        refine ⟨vc, ?_⟩
        replace hK := bind_s hK
        obtain ⟨y3, hy, hK⟩ := hK
        refine AWPL_callK [2, 7, 40, 42] (W_rotaref_Pick hy) rfl rfl pcT rfl Try.call24 (.cons (.atom _ rfl) (.cons (.atom _ rfl) .nil)) (hscG trivial) (of_decide_eq_true rfl) (by first | rfl | simp [nI, nI1, nI0]) (by first | rfl | simp [nIB, nI0]) fun st' hr => ?_
        simp only [go_sem, reduceIte, reduceCtorEq, Nat.reduceEqDiff, Nat.reduceLT, Nat.reduceLeDiff, Nat.reduceBEq, Nat.reduceAdd, Nat.reduceMul, Nat.reduceSub, Nat.reducePow, Int.reduceLE, Int.reduceLT, Int.reduceNeg, Int.reduceToNat, Int.reduceAdd, Int.reduceSub, idO_app, lenO_app, lenO_app2, lenO_eta] at hr
        subst hr
        clear hy
        replace hK := chk_some hK
        obtain ⟨h, hK⟩ := hK
        refine AWPL_rn tab_ok 3 [2, 7, 9] fun c st' hr => ?_
        simp only [go_sem, reduceIte, reduceCtorEq, Nat.reduceEqDiff, Nat.reduceLT, Nat.reduceLeDiff, Nat.reduceBEq, Nat.reduceAdd, Nat.reduceMul, Nat.reduceSub, Nat.reducePow, Int.reduceLE, Int.reduceLT, Int.reduceNeg, Int.reduceToNat, Int.reduceAdd, Int.reduceSub, idO_app, lenO_app, lenO_app2, lenO_eta] at hr
        obtain ⟨rfl, rfl⟩ := hr
        refine ⟨vc, ?_⟩
        refine AWPL_nil ?_
        with_reducible refine thenC_normal ?_
        refine AWP_seq ?_
        -- region 8
        refine AWP_rg tab_ok [2, 7, 9, 10] fun c st' hr => ?_
        simp only [go_sem, reduceIte, reduceCtorEq, Nat.reduceEqDiff, Nat.reduceLT, Nat.reduceLeDiff, Nat.reduceBEq, Nat.reduceAdd, Nat.reduceMul, Nat.reduceSub, Nat.reducePow, Int.reduceLE, Int.reduceLT, Int.reduceNeg, Int.reduceToNat, Int.reduceAdd, Int.reduceSub, idO_app, lenO_app, lenO_app2, lenO_eta] at hr
        obtain ⟨rfl, rfl⟩ := hr
        refine ⟨vc, ?_⟩
        with_reducible refine thenC_normal ?_
        refine AWP_gs' (gs_rows0 3 .i64) fun st' hr => ?_
        simp only [go_sem, reduceIte, reduceCtorEq, Nat.reduceEqDiff, Nat.reduceLT, Nat.reduceLeDiff, Nat.reduceBEq, Nat.reduceAdd, Nat.reduceMul, Nat.reduceSub, Nat.reducePow, Int.reduceLE, Int.reduceLT, Int.reduceNeg, Int.reduceToNat, Int.reduceAdd, Int.reduceSub, idO_app, lenO_app, lenO_app2, lenO_eta, List.cons_append, List.nil_append] at hr
        subst hr
        refine AWP_ownH 7 2 (.outs 22 8 0 idO (lenO [])) rfl rfl rfl fun st' hr => ?_
        simp only [go_sem, reduceIte, reduceCtorEq, Nat.reduceEqDiff, Nat.reduceLT, Nat.reduceLeDiff, Nat.reduceBEq, Nat.reduceAdd, Nat.reduceMul, Nat.reduceSub, Nat.reducePow, Int.reduceLE, Int.reduceLT, Int.reduceNeg, Int.reduceToNat, Int.reduceAdd, Int.reduceSub, idO_app, lenO_app, lenO_app2, lenO_eta] at hr
        subst hr
        refine AWP_seq ?_
        refine AWP_seq ?_
        -- region 9
        replace hK := chk_some hK
        obtain ⟨h1, hK⟩ := hK
        refine AWP_rg tab_ok [2, 7, 9, 10, 53, 54] fun c st' hr => ?_
        simp only [go_sem, reduceIte, reduceCtorEq, Nat.reduceEqDiff, Nat.reduceLT, Nat.reduceLeDiff, Nat.reduceBEq, Nat.reduceAdd, Nat.reduceMul, Nat.reduceSub, Nat.reducePow, Int.reduceLE, Int.reduceLT, Int.reduceNeg, Int.reduceToNat, Int.reduceAdd, Int.reduceSub, idO_app, lenO_app, lenO_app2, lenO_eta] at hr
        obtain ⟨rfl, rfl⟩ := hr
        refine ⟨vc, ?_⟩
        with_reducible refine thenC_normal ?_
        refine AWP_block ?_
        refine AWP_loopX 0 (fun ((v, v1) : List (List Int) × Int) => ⟨119, [(2, .ptr 0 0 0), (7, .ptr 1 0 0), (9, .int .i64 ([2, 3, 5, 7].getD y3.toNat 0)), (10, .ptr 3 0 0), (53, .int .i64 (min (g_0 - 1) 6)), (54, .int .i64 v1)], [some (.gen 39 2 [[.int .i64 g_0, .fn 2 g_1.length (fun i => [.int .i64 ((g_1.getD i (0, 0)).1), .int .i64 ((g_1.getD i (0, 0)).2)])]]), some (.gen 24 2 [[.int .i64 y2.1, .own 2 y2.2.1.length]]), some (.ints 3 .i64 y2.2.1), some (.gen 44 3 [[.int .i64 ([2, 3, 5, 7].getD y3.toNat 0), .int .i64 (g_1.length : Int), .own 4 v.length]]), some (.outs 22 5 v.length idO (lenO v)), some (.rows 3 .i64 v)]⟩) (fun (v2 : List (List Int)) => ⟨119, [(7, .ptr 0 0 0), (10, .ptr 2 0 0)], [some (.gen 24 2 [[.int .i64 y2.1, .own 1 y2.2.1.length]]), some (.ints 3 .i64 y2.2.1), some (.gen 44 3 [[.int .i64 ([2, 3, 5, 7].getD y3.toNat 0), .int .i64 (g_1.length : Int), .own 3 v2.length]]), some (.outs 22 4 v2.length idO (lenO v2)), some (.rows 3 .i64 v2)]⟩) (fun v => v) (([] : List (List Int)), 0) [0, 5, 4, 7, 9, 8] hK mkWkR ?_ ?_
        · clear hK; rintro ⟨v, v1⟩ b hK hpost1
          try dsimp only at hK
          change AWP _ _ _ _ ⟨119, [(2, .ptr 0 0 0), (7, .ptr 1 0 0), (9, .int .i64 ([2, 3, 5, 7].getD y3.toNat 0)), (10, .ptr 3 0 0), (53, .int .i64 (min (g_0 - 1) 6)), (54, .int .i64 v1)], [some (.gen 39 2 [[.int .i64 g_0, .fn 2 g_1.length (fun i => [.int .i64 ((g_1.getD i (0, 0)).1), .int .i64 ((g_1.getD i (0, 0)).2)])]]), some (.gen 24 2 [[.int .i64 y2.1, .own 2 y2.2.1.length]]), some (.ints 3 .i64 y2.2.1), some (.gen 44 3 [[.int .i64 ([2, 3, 5, 7].getD y3.toNat 0), .int .i64 (g_1.length : Int), .own 4 v.length]]), some (.outs 22 5 v.length idO (lenO v)), some (.rows 3 .i64 v)]⟩
          refine AWP_seq ?_
          -- region 10
          refine AWP_rg tab_ok [2, 7, 9, 10, 53, 54, 55] fun c st' hr => ?_
          simp only [go_sem, reduceIte, reduceCtorEq, Nat.reduceEqDiff, Nat.reduceLT, Nat.reduceLeDiff, Nat.reduceBEq, Nat.reduceAdd, Nat.reduceMul, Nat.reduceSub, Nat.reducePow, Int.reduceLE, Int.reduceLT, Int.reduceNeg, Int.reduceToNat, Int.reduceAdd, Int.reduceSub, idO_app, lenO_app, lenO_app2, lenO_eta] at hr
          obtain ⟨rfl, rfl⟩ := hr
          refine ⟨vc, ?_⟩
          with_reducible refine thenC_normal ?_
          refine AWP_seq ?_
          refine AWP_condP (v1 < min (g_0 - 1) 6) rfl bd (fun hb2 => ?_) (fun hb2 => ?_)
          · replace hK := ite_t hK hb2
            refine AWP_skip ?_
            with_reducible refine thenC_normal ?_
            refine AWP_seq ?_
            refine AWP_block ?_
            refine AWP_seq ?_
            -- region 11
            refine AWP_rg tab_ok [2, 7, 9, 10, 11, 53, 54] fun c st' hr => ?_
            simp only [go_sem, reduceIte, reduceCtorEq, Nat.reduceEqDiff, Nat.reduceLT, Nat.reduceLeDiff, Nat.reduceBEq, Nat.reduceAdd, Nat.reduceMul, Nat.reduceSub, Nat.reducePow, Int.reduceLE, Int.reduceLT, Int.reduceNeg, Int.reduceToNat, Int.reduceAdd, Int.reduceSub, idO_app, lenO_app, lenO_app2, lenO_eta] at hr
            obtain ⟨rfl, rfl⟩ := hr
            refine ⟨vc, ?_⟩
            with_reducible refine thenC_normal ?_
            refine AWP_seq ?_
            -- region 12
            replace hK := chk_some hK
            obtain ⟨h2, hK⟩ := hK
            refine AWP_rg tab_ok [2, 7, 9, 10, 11, 12, 53, 54] fun c st' hr => ?_
            simp only [go_sem, reduceIte, reduceCtorEq, Nat.reduceEqDiff, Nat.reduceLT, Nat.reduceLeDiff, Nat.reduceBEq, Nat.reduceAdd, Nat.reduceMul, Nat.reduceSub, Nat.reducePow, Int.reduceLE, Int.reduceLT, Int.reduceNeg, Int.reduceToNat, Int.reduceAdd, Int.reduceSub, idO_app, lenO_app, lenO_app2, lenO_eta] at hr
            obtain ⟨rfl, rfl⟩ := hr
            refine ⟨vc, ?_⟩
            with_reducible refine thenC_normal ?_
            refine AWP_seq ?_
            refine AWP_seq ?_
            -- region 13
            refine AWP_rg tab_ok [2, 7, 9, 10, 11, 12, 53, 54, 62, 63, 64] fun c st' hr => ?_
            simp only [go_sem, reduceIte, reduceCtorEq, Nat.reduceEqDiff, Nat.reduceLT, Nat.reduceLeDiff, Nat.reduceBEq, Nat.reduceAdd, Nat.reduceMul, Nat.reduceSub, Nat.reducePow, Int.reduceLE, Int.reduceLT, Int.reduceNeg, Int.reduceToNat, Int.reduceAdd, Int.reduceSub, idO_app, lenO_app, lenO_app2, lenO_eta] at hr
            obtain ⟨rfl, rfl⟩ := hr
            refine ⟨vc, ?_⟩
            with_reducible refine thenC_normal ?_
            refine AWP_block ?_
            refine AWP_loopX 2 (fun ((v3, v4) : List Int × Int) => ⟨119, [(2, .ptr 0 0 0), (7, .ptr 1 0 0), (9, .int .i64 ([2, 3, 5, 7].getD y3.toNat 0)), (10, .ptr 3 0 0), (11, .int .i64 v1), (12, .own 6 v3.length), (53, .int .i64 (min (g_0 - 1) 6)), (54, .int .i64 v1), (62, .fn 2 g_1.length (fun i => [.int .i64 ((g_1.getD i (0, 0)).1), .int .i64 ((g_1.getD i (0, 0)).2)])), (63, .int .i64 (g_1.length : Int)), (64, .int .i64 v4)], [some (.gen 39 2 [[.int .i64 g_0, .fn 2 g_1.length (fun i => [.int .i64 ((g_1.getD i (0, 0)).1), .int .i64 ((g_1.getD i (0, 0)).2)])]]), some (.gen 24 2 [[.int .i64 y2.1, .own 2 y2.2.1.length]]), some (.ints 3 .i64 y2.2.1), some (.gen 44 3 [[.int .i64 ([2, 3, 5, 7].getD y3.toNat 0), .int .i64 (g_1.length : Int), .own 4 v.length]]), some (.outs 22 5 v.length idO (lenO v)), some (.rows 3 .i64 v), some (.ints 3 .i64 v3)]⟩) (fun (v5 : List Int) => ⟨119, [(2, .ptr 0 0 0), (7, .ptr 1 0 0), (9, .int .i64 ([2, 3, 5, 7].getD y3.toNat 0)), (10, .ptr 3 0 0), (12, .own 6 v5.length), (53, .int .i64 (min (g_0 - 1) 6)), (54, .int .i64 v1)], [some (.gen 39 2 [[.int .i64 g_0, .fn 2 g_1.length (fun i => [.int .i64 ((g_1.getD i (0, 0)).1), .int .i64 ((g_1.getD i (0, 0)).2)])]]), some (.gen 24 2 [[.int .i64 y2.1, .own 2 y2.2.1.length]]), some (.ints 3 .i64 y2.2.1), some (.gen 44 3 [[.int .i64 ([2, 3, 5, 7].getD y3.toNat 0), .int .i64 (g_1.length : Int), .own 4 v.length]]), some (.outs 22 5 v.length idO (lenO v)), some (.rows 3 .i64 v), some (.ints 3 .i64 v5)]⟩) (fun v => v) (List.replicate (g_1.length : Int).toNat 0, 0) [0, 1, 2, 3, 4, 5, 6] hK mkWkR ?_ ?_
            · clear hK; rintro ⟨v3, v4⟩ b1 hK hpost2
              try dsimp only at hK
              change AWP _ _ _ _ ⟨119, [(2, .ptr 0 0 0), (7, .ptr 1 0 0), (9, .int .i64 ([2, 3, 5, 7].getD y3.toNat 0)), (10, .ptr 3 0 0), (11, .int .i64 v1), (12, .own 6 v3.length), (53, .int .i64 (min (g_0 - 1) 6)), (54, .int .i64 v1), (62, .fn 2 g_1.length (fun i => [.int .i64 ((g_1.getD i (0, 0)).1), .int .i64 ((g_1.getD i (0, 0)).2)])), (63, .int .i64 (g_1.length : Int)), (64, .int .i64 v4)], [some (.gen 39 2 [[.int .i64 g_0, .fn 2 g_1.length (fun i => [.int .i64 ((g_1.getD i (0, 0)).1), .int .i64 ((g_1.getD i (0, 0)).2)])]]), some (.gen 24 2 [[.int .i64 y2.1, .own 2 y2.2.1.length]]), some (.ints 3 .i64 y2.2.1), some (.gen 44 3 [[.int .i64 ([2, 3, 5, 7].getD y3.toNat 0), .int .i64 (g_1.length : Int), .own 4 v.length]]), some (.outs 22 5 v.length idO (lenO v)), some (.rows 3 .i64 v), some (.ints 3 .i64 v3)]⟩
              refine AWP_seq ?_
              -- region 14
              refine AWP_rg tab_ok [2, 7, 9, 10, 11, 12, 53, 54, 62, 63, 64, 65] fun c st' hr => ?_
              simp only [go_sem, reduceIte, reduceCtorEq, Nat.reduceEqDiff, Nat.reduceLT, Nat.reduceLeDiff, Nat.reduceBEq, Nat.reduceAdd, Nat.reduceMul, Nat.reduceSub, Nat.reducePow, Int.reduceLE, Int.reduceLT, Int.reduceNeg, Int.reduceToNat, Int.reduceAdd, Int.reduceSub, idO_app, lenO_app, lenO_app2, lenO_eta] at hr
              obtain ⟨rfl, rfl⟩ := hr
              refine ⟨vc, ?_⟩
              with_reducible refine thenC_normal ?_
              refine AWP_seq ?_
              refine AWP_condP (v4 < (g_1.length : Int)) rfl bd (fun hb3 => ?_) (fun hb3 => ?_)
              · replace hK := ite_t hK hb3
                refine AWP_skip ?_
                with_reducible refine thenC_normal ?_
                refine AWP_seq ?_
                refine AWP_block ?_
                refine AWP_seq ?_
                -- region 15
                replace hK := chk_some hK
                obtain ⟨h3, hK⟩ := hK
                refine AWP_rg tab_ok [2, 7, 9, 10, 11, 12, 13, 14, 53, 54, 62, 63, 64] fun c st' hr => ?_
                simp only [go_sem, reduceIte, reduceCtorEq, Nat.reduceEqDiff, Nat.reduceLT, Nat.reduceLeDiff, Nat.reduceBEq, Nat.reduceAdd, Nat.reduceMul, Nat.reduceSub, Nat.reducePow, Int.reduceLE, Int.reduceLT, Int.reduceNeg, Int.reduceToNat, Int.reduceAdd, Int.reduceSub, idO_app, lenO_app, lenO_app2, lenO_eta] at hr
                obtain ⟨rfl, rfl⟩ := hr
                refine ⟨vc, ?_⟩
                with_reducible refine thenC_normal ?_
                refine AWP_seqJ (fun v6 => ⟨119, [(2, .ptr 0 0 0), (7, .ptr 1 0 0), (9, .int .i64 ([2, 3, 5, 7].getD y3.toNat 0)), (10, .ptr 3 0 0), (11, .int .i64 v1), (12, .own 6 v6.length), (13, .int .i64 v4), (14, .ptr 7 0 0), (53, .int .i64 (min (g_0 - 1) 6)), (54, .int .i64 v1), (62, .fn 2 g_1.length (fun i => [.int .i64 ((g_1.getD i (0, 0)).1), .int .i64 ((g_1.getD i (0, 0)).2)])), (63, .int .i64 (g_1.length : Int)), (64, .int .i64 v4)], [some (.gen 39 2 [[.int .i64 g_0, .fn 2 g_1.length (fun i => [.int .i64 ((g_1.getD i (0, 0)).1), .int .i64 ((g_1.getD i (0, 0)).2)])]]), some (.gen 24 2 [[.int .i64 y2.1, .own 2 y2.2.1.length]]), some (.ints 3 .i64 y2.2.1), some (.gen 44 3 [[.int .i64 ([2, 3, 5, 7].getD y3.toNat 0), .int .i64 (g_1.length : Int), .own 4 v.length]]), some (.outs 22 5 v.length idO (lenO v)), some (.rows 3 .i64 v), some (.ints 3 .i64 v6), some (.gen 46 2 [[.int .i64 ((g_1.getD v4.toNat (0, 0)).1), .int .i64 ((g_1.getD v4.toNat (0, 0)).2)]])]⟩) hK ?_ ?_
                · clear hK; intro j hK; try dsimp only at hK
                  refine AWP_seq ?_
                  -- region 16
                  refine AWP_rg tab_ok [2, 7, 9, 10, 11, 12, 13, 14, 53, 54, 62, 63, 64, 72] fun c st' hr => ?_
                  simp only [go_sem, reduceIte, reduceCtorEq, Nat.reduceEqDiff, Nat.reduceLT, Nat.reduceLeDiff, Nat.reduceBEq, Nat.reduceAdd, Nat.reduceMul, Nat.reduceSub, Nat.reducePow, Int.reduceLE, Int.reduceLT, Int.reduceNeg, Int.reduceToNat, Int.reduceAdd, Int.reduceSub, idO_app, lenO_app, lenO_app2, lenO_eta] at hr
                  obtain ⟨rfl, rfl⟩ := hr
                  refine ⟨vc, ?_⟩
                  with_reducible refine thenC_normal ?_
                  refine AWP_condP ((g_1.getD v4.toNat (0, 0)).1 = v1) rfl bd (fun hb4 => ?_) (fun hb4 => ?_)
                  · replace hK := ite_t hK hb4
                    -- region 17
                    replace hK := chk_some hK
                    obtain ⟨h4, hK⟩ := hK
                    refine AWP_rg tab_ok [2, 7, 9, 10, 11, 12, 13, 14, 53, 54, 62, 63, 64] fun c st' hr => ?_
                    simp only [go_sem, reduceIte, reduceCtorEq, Nat.reduceEqDiff, Nat.reduceLT, Nat.reduceLeDiff, Nat.reduceBEq, Nat.reduceAdd, Nat.reduceMul, Nat.reduceSub, Nat.reducePow, Int.reduceLE, Int.reduceLT, Int.reduceNeg, Int.reduceToNat, Int.reduceAdd, Int.reduceSub, idO_app, lenO_app, lenO_app2, lenO_eta] at hr
                    obtain ⟨rfl, rfl⟩ := hr
                    refine ⟨vc, ?_⟩
                    refine join_n (v3.set v4.toNat (Int.tmod ((v3.getD v4.toNat 0) + 1) ([2, 3, 5, 7].getD y3.toNat 0))) [0, 1, 2, 3, 4, 5, 6, 7] hK mkWkR
                  · replace hK := ite_f hK hb4
                    refine AWP_skip ?_
                    refine join_n v3 [0, 1, 2, 3, 4, 5, 6, 7] hK mkWkR
                · clear hK; intro v6 hK
                  try dsimp only at hK
                  change AWP _ _ _ _ ⟨119, [(2, .ptr 0 0 0), (7, .ptr 1 0 0), (9, .int .i64 ([2, 3, 5, 7].getD y3.toNat 0)), (10, .ptr 3 0 0), (11, .int .i64 v1), (12, .own 6 v6.length), (13, .int .i64 v4), (14, .ptr 7 0 0), (53, .int .i64 (min (g_0 - 1) 6)), (54, .int .i64 v1), (62, .fn 2 g_1.length (fun i => [.int .i64 ((g_1.getD i (0, 0)).1), .int .i64 ((g_1.getD i (0, 0)).2)])), (63, .int .i64 (g_1.length : Int)), (64, .int .i64 v4)], [some (.gen 39 2 [[.int .i64 g_0, .fn 2 g_1.length (fun i => [.int .i64 ((g_1.getD i (0, 0)).1), .int .i64 ((g_1.getD i (0, 0)).2)])]]), some (.gen 24 2 [[.int .i64 y2.1, .own 2 y2.2.1.length]]), some (.ints 3 .i64 y2.2.1), some (.gen 44 3 [[.int .i64 ([2, 3, 5, 7].getD y3.toNat 0), .int .i64 (g_1.length : Int), .own 4 v.length]]), some (.outs 22 5 v.length idO (lenO v)), some (.rows 3 .i64 v), some (.ints 3 .i64 v6), some (.gen 46 2 [[.int .i64 ((g_1.getD v4.toNat (0, 0)).1), .int .i64 ((g_1.getD v4.toNat (0, 0)).2)]])]⟩
                  refine AWP_seq ?_
                  -- region 18
                  refine AWP_rg tab_ok [2, 7, 9, 10, 11, 12, 13, 53, 54, 62, 63, 64, 86] fun c st' hr => ?_
                  simp only [go_sem, reduceIte, reduceCtorEq, Nat.reduceEqDiff, Nat.reduceLT, Nat.reduceLeDiff, Nat.reduceBEq, Nat.reduceAdd, Nat.reduceMul, Nat.reduceSub, Nat.reducePow, Int.reduceLE, Int.reduceLT, Int.reduceNeg, Int.reduceToNat, Int.reduceAdd, Int.reduceSub, idO_app, lenO_app, lenO_app2, lenO_eta] at hr
                  obtain ⟨rfl, rfl⟩ := hr
                  refine ⟨vc, ?_⟩
                  with_reducible refine thenC_normal ?_
                  refine AWP_condP ((g_1.getD v4.toNat (0, 0)).2 = v1) rfl bd (fun hb5 => ?_) (fun hb5 => ?_)
                  · replace hK := ite_t hK hb5
                    -- region 19
                    replace hK := chk_some hK
                    obtain ⟨h5, hK⟩ := hK
                    refine AWP_rg tab_ok [2, 7, 9, 10, 11, 12, 53, 54, 62, 63, 64] fun c st' hr => ?_
                    simp only [go_sem, reduceIte, reduceCtorEq, Nat.reduceEqDiff, Nat.reduceLT, Nat.reduceLeDiff, Nat.reduceBEq, Nat.reduceAdd, Nat.reduceMul, Nat.reduceSub, Nat.reducePow, Int.reduceLE, Int.reduceLT, Int.reduceNeg, Int.reduceToNat, Int.reduceAdd, Int.reduceSub, idO_app, lenO_app, lenO_app2, lenO_eta] at hr
                    obtain ⟨rfl, rfl⟩ := hr
                    refine ⟨vc, ?_⟩
                    with_reducible refine inBlockA_normal (thenC_normal ?_)
                    -- region 20
                    refine AWP_facts (by simp) fun hfx => ?_
                    simp only [factS, factV, fact1, fact0, factL0, lo, hi, maxLen, and_true, true_and] at hfx
                    refine AWP_rg tab_ok [2, 7, 9, 10, 11, 12, 53, 54, 62, 63, 64] fun c st' hr => ?_
                    simp only [go_sem, reduceIte, reduceCtorEq, Nat.reduceEqDiff, Nat.reduceLT, Nat.reduceLeDiff, Nat.reduceBEq, Nat.reduceAdd, Nat.reduceMul, Nat.reduceSub, Nat.reducePow, Int.reduceLE, Int.reduceLT, Int.reduceNeg, Int.reduceToNat, Int.reduceAdd, Int.reduceSub, idO_app, lenO_app, lenO_app2, lenO_eta] at hr
                    obtain ⟨rfl, rfl⟩ := hr
                    refine ⟨vc, ?_⟩
                    clear hfx
                    refine again_n (v6.set v4.toNat (Int.tmod (((v6.getD v4.toNat 0) + ([2, 3, 5, 7].getD y3.toNat 0)) - 1) ([2, 3, 5, 7].getD y3.toNat 0)), v4 + 1) [0, 1, 2, 3, 4, 5, 6] hK mkWkR
                  · replace hK := ite_f hK hb5
                    refine AWP_skip ?_
                    with_reducible refine inBlockA_normal (thenC_normal ?_)
                    -- region 20
                    refine AWP_facts (by simp) fun hfx => ?_
                    simp only [factS, factV, fact1, fact0, factL0, lo, hi, maxLen, and_true, true_and] at hfx
                    refine AWP_rg tab_ok [2, 7, 9, 10, 11, 12, 53, 54, 62, 63, 64] fun c st' hr => ?_
                    simp only [go_sem, reduceIte, reduceCtorEq, Nat.reduceEqDiff, Nat.reduceLT, Nat.reduceLeDiff, Nat.reduceBEq, Nat.reduceAdd, Nat.reduceMul, Nat.reduceSub, Nat.reducePow, Int.reduceLE, Int.reduceLT, Int.reduceNeg, Int.reduceToNat, Int.reduceAdd, Int.reduceSub, idO_app, lenO_app, lenO_app2, lenO_eta] at hr
                    obtain ⟨rfl, rfl⟩ := hr
                    refine ⟨vc, ?_⟩
                    clear hfx
                    refine again_n (v6, v4 + 1) [0, 1, 2, 3, 4, 5, 6] hK mkWkR
              · replace hK := ite_f hK hb3
                refine AWP_exit ?_
                with_reducible refine thenC_exit (again_x ?_)
                refine cutX_here v3 [0, 1, 2, 3, 4, 5, 6] (by have hq := hpost2 _ hK; exact hq) mkWkR
            · clear hK; rintro v5 hK
              try dsimp only at hK
              refine exS ⟨119, [(2, .ptr 0 0 0), (7, .ptr 1 0 0), (9, .int .i64 ([2, 3, 5, 7].getD y3.toNat 0)), (10, .ptr 3 0 0), (12, .own 6 v5.length), (53, .int .i64 (min (g_0 - 1) 6)), (54, .int .i64 v1)], [some (.gen 39 2 [[.int .i64 g_0, .fn 2 g_1.length (fun i => [.int .i64 ((g_1.getD i (0, 0)).1), .int .i64 ((g_1.getD i (0, 0)).2)])]]), some (.gen 24 2 [[.int .i64 y2.1, .own 2 y2.2.1.length]]), some (.ints 3 .i64 y2.2.1), some (.gen 44 3 [[.int .i64 ([2, 3, 5, 7].getD y3.toNat 0), .int .i64 (g_1.length : Int), .own 4 v.length]]), some (.outs 22 5 v.length idO (lenO v)), some (.rows 3 .i64 v), some (.ints 3 .i64 v5)]⟩ rfl ?_
              with_reducible refine inBlockA_exit (thenC_normal ?_)
              -- region 21
              refine AWP_rl ?_
              refine AWPL_rn tab_ok 3 [2, 7, 9, 10, 53, 54, 101, 102] fun c st' hr => ?_
              simp only [go_sem, reduceIte, reduceCtorEq, Nat.reduceEqDiff, Nat.reduceLT, Nat.reduceLeDiff, Nat.reduceBEq, Nat.reduceAdd, Nat.reduceMul, Nat.reduceSub, Nat.reducePow, Int.reduceLE, Int.reduceLT, Int.reduceNeg, Int.reduceToNat, Int.reduceAdd, Int.reduceSub, idO_app, lenO_app, lenO_app2, lenO_eta] at hr
              obtain ⟨rfl, rfl⟩ := hr
              refine ⟨vc, ?_⟩
              refine AWPL_gs' (gs_adopt 102 5 rfl (by first | rfl | (simp; done)) rfl rfl (by first | rfl | (simp [noPin]; done))) fun st' hr => ?_
              simp only [go_sem, reduceIte, reduceCtorEq, Nat.reduceEqDiff, Nat.reduceLT, Nat.reduceLeDiff, Nat.reduceBEq, Nat.reduceAdd, Nat.reduceMul, Nat.reduceSub, Nat.reducePow, Int.reduceLE, Int.reduceLT, Int.reduceNeg, Int.reduceToNat, Int.reduceAdd, Int.reduceSub, idO_app, lenO_app, lenO_app2, lenO_eta, List.set_cons_zero, List.set_cons_succ] at hr
              subst hr
              replace hK := chk_some hK
              obtain ⟨h6, hK⟩ := hK
              refine AWPL_rn tab_ok 4 [2, 7, 9, 10, 53, 54] fun c st' hr => ?_
              simp only [go_sem, reduceIte, reduceCtorEq, Nat.reduceEqDiff, Nat.reduceLT, Nat.reduceLeDiff, Nat.reduceBEq, Nat.reduceAdd, Nat.reduceMul, Nat.reduceSub, Nat.reducePow, Int.reduceLE, Int.reduceLT, Int.reduceNeg, Int.reduceToNat, Int.reduceAdd, Int.reduceSub, idO_app, lenO_app, lenO_app2, lenO_eta] at hr
              obtain ⟨rfl, rfl⟩ := hr
              refine ⟨vc, ?_⟩
              refine AWPL_nil ?_
              with_reducible refine inBlockA_normal (thenC_normal ?_)
              -- region 22
              replace hK := chk_some hK
              obtain ⟨h7, hK⟩ := hK
              refine AWP_rg tab_ok [2, 7, 9, 10, 53, 54] fun c st' hr => ?_
              simp only [go_sem, reduceIte, reduceCtorEq, Nat.reduceEqDiff, Nat.reduceLT, Nat.reduceLeDiff, Nat.reduceBEq, Nat.reduceAdd, Nat.reduceMul, Nat.reduceSub, Nat.reducePow, Int.reduceLE, Int.reduceLT, Int.reduceNeg, Int.reduceToNat, Int.reduceAdd, Int.reduceSub, idO_app, lenO_app, lenO_app2, lenO_eta] at hr
              obtain ⟨rfl, rfl⟩ := hr
              refine ⟨vc, ?_⟩
              refine again_n (v ++ [v5], v1 + 1) [0, 1, 2, 3, 8, 5] hK mkWkR
          · replace hK := ite_f hK hb2
            refine AWP_exit ?_
            with_reducible refine thenC_exit (again_x ?_)
            refine cutX_here v [1, 2, 3, 4, 5] (by have hq := hpost1 _ hK; exact hq) mkWkR
        · clear hK; rintro v2 hK
          try dsimp only at hK
          refine exS ⟨119, [(7, .ptr 0 0 0), (10, .ptr 2 0 0)], [some (.gen 24 2 [[.int .i64 y2.1, .own 1 y2.2.1.length]]), some (.ints 3 .i64 y2.2.1), some (.gen 44 3 [[.int .i64 ([2, 3, 5, 7].getD y3.toNat 0), .int .i64 (g_1.length : Int), .own 3 v2.length]]), some (.outs 22 4 v2.length idO (lenO v2)), some (.rows 3 .i64 v2)]⟩ rfl ?_
          with_reducible refine inBlockA_exit (thenC_normal ?_)
          refine AWP_seq ?_
          -- region 23
          refine AWP_rl ?_
          refine AWPL_rn tab_ok 1 [7, 108] fun c st' hr => ?_
          simp only [go_sem, reduceIte, reduceCtorEq, Nat.reduceEqDiff, Nat.reduceLT, Nat.reduceLeDiff, Nat.reduceBEq, Nat.reduceAdd, Nat.reduceMul, Nat.reduceSub, Nat.reducePow, Int.reduceLE, Int.reduceLT, Int.reduceNeg, Int.reduceToNat, Int.reduceAdd, Int.reduceSub, idO_app, lenO_app, lenO_app2, lenO_eta] at hr
          obtain ⟨rfl, rfl⟩ := hr
          refine ⟨vc, ?_⟩
          replace hK := bind_s hK
          obtain ⟨y4, hy, hK⟩ := hK
          refine AWPL_callK [7, 109] (W_kinds_Linear hy) rfl rfl pcT rfl Try.call25 (.cons (.agg _ _ rfl (ArgsOk.get (.cons (.atom _ rfl) (.cons (.atom _ rfl) (.cons (matArg (X := v2) (by first | rfl | (simp [getB, lenO_set]; done)) (by first | rfl | (simp [getB]; done)) (by first | rfl | (simp; done))) .nil)))).2) .nil) (hscG trivial) (of_decide_eq_true rfl) (by first | rfl | simp [nI, nI1, nI0]) (by first | rfl | simp [nIB, nI0]) fun st' hr => ?_
          simp only [go_sem, reduceIte, reduceCtorEq, Nat.reduceEqDiff, Nat.reduceLT, Nat.reduceLeDiff, Nat.reduceBEq, Nat.reduceAdd, Nat.reduceMul, Nat.reduceSub, Nat.reducePow, Int.reduceLE, Int.reduceLT, Int.reduceNeg, Int.reduceToNat, Int.reduceAdd, Int.reduceSub, idO_app, lenO_app, lenO_app2, lenO_eta] at hr
          subst hr
          clear hy
          refine AWPL_rn tab_ok 6 [7, 15, 16] fun c st' hr => ?_
          simp only [go_sem, reduceIte, reduceCtorEq, Nat.reduceEqDiff, Nat.reduceLT, Nat.reduceLeDiff, Nat.reduceBEq, Nat.reduceAdd, Nat.reduceMul, Nat.reduceSub, Nat.reducePow, Int.reduceLE, Int.reduceLT, Int.reduceNeg, Int.reduceToNat, Int.reduceAdd, Int.reduceSub, idO_app, lenO_app, lenO_app2, lenO_eta] at hr
          obtain ⟨rfl, rfl⟩ := hr
          refine ⟨vc, ?_⟩
          refine AWPL_nil ?_
          with_reducible refine thenC_normal ?_
          refine AWP_seq ?_
          -- region 24
          refine AWP_rl ?_
          refine AWPL_rn tab_ok 5 [114, 115, 116] fun c st' hr => ?_
          simp only [go_sem, reduceIte, reduceCtorEq, Nat.reduceEqDiff, Nat.reduceLT, Nat.reduceLeDiff, Nat.reduceBEq, Nat.reduceAdd, Nat.reduceMul, Nat.reduceSub, Nat.reducePow, Int.reduceLE, Int.reduceLT, Int.reduceNeg, Int.reduceToNat, Int.reduceAdd, Int.reduceSub, idO_app, lenO_app, lenO_app2, lenO_eta] at hr
          obtain ⟨rfl, rfl⟩ := hr
          refine ⟨vc, ?_⟩
          replace hK := bind_s hK
          obtain ⟨y5, hy, hK⟩ := hK
          refine AWPL_callGP [114, 117] (y4.2.2 = 0) (fun hg => (W_rotalaw_SameMatroid (ite_t hy hg))) rfl rfl pcG rfl Try.call26 (.cons (.agg _ _ rfl (ArgsOk.get (.cons (.atom _ rfl) (.cons (.ownI _ _ _ _ _ y4.2.1 rfl (by simp) (by first | simp | exact List.take_of_length_le (by simp))) .nil))).2) (.cons (.agg _ _ rfl (ArgsOk.get (.cons (.atom _ rfl) (.cons (.ownI _ _ _ _ _ y2.2.1 rfl (by simp) (by first | simp | exact List.take_of_length_le (by simp))) .nil))).2) .nil)) (fun hg => hscG hg) (of_decide_eq_true rfl) (by first | rfl | simp [nI, nI1, nI0]) (by first | rfl | simp [sh, sh1, sh0]) fun st' hr => ?_
          simp only [go_sem, reduceIte, reduceCtorEq, Nat.reduceEqDiff, Nat.reduceLT, Nat.reduceLeDiff, Nat.reduceBEq, Nat.reduceAdd, Nat.reduceMul, Nat.reduceSub, Nat.reducePow, Int.reduceLE, Int.reduceLT, Int.reduceNeg, Int.reduceToNat, Int.reduceAdd, Int.reduceSub, idO_app, lenO_app, lenO_app2, lenO_eta] at hr
          subst hr
          clear hy
          refine AWPL_rn tab_ok 2 [4] fun c st' hr => ?_
          simp only [go_sem, reduceIte, reduceCtorEq, Nat.reduceEqDiff, Nat.reduceLT, Nat.reduceLeDiff, Nat.reduceBEq, Nat.reduceAdd, Nat.reduceMul, Nat.reduceSub, Nat.reducePow, Int.reduceLE, Int.reduceLT, Int.reduceNeg, Int.reduceToNat, Int.reduceAdd, Int.reduceSub, idO_app, lenO_app, lenO_app2, lenO_eta] at hr
          obtain ⟨rfl, rfl⟩ := hr
          refine ⟨vc, ?_⟩
          refine AWPL_nil ?_
          with_reducible refine thenC_normal ?_
          refine AWP_ret ?_
          cases hK
          refine EndsRW [] (.inl rfl) (of_decide_eq_true rfl) (by simp) rfl (fun c x hr => ?_) trivial
          simp only [go_sem, reduceIte, reduceCtorEq, Nat.reduceEqDiff, Nat.reduceLT, Nat.reduceLeDiff, Nat.reduceBEq, Nat.reduceAdd, Nat.reduceMul, Nat.reduceSub, Nat.reducePow, Int.reduceLE, Int.reduceLT, Int.reduceNeg, Int.reduceToNat, Int.reduceAdd, Int.reduceSub, idO_app, lenO_app, lenO_app2, lenO_eta] at hr
          obtain ⟨rfl, rfl⟩ := hr
          exact ⟨rfl, endR⟩
  · replace hK := ite_f hK hg
    refine AWPL_stP [(1, .int .i64 a1), (2, .ptr 0 0 0), (23, .bool true), (25, .opt false (.own 1 y.2.1.length))] (by first | (simp [SameS, AX.look, hg]; done) | (simp at hg ⊢; simp [SameS, AX.look, hg]; done) | (simp_all [SameS, AX.look]; done)) ?_
    refine AWPL_skipV [1, 2, 23, 25, 26] (.junk) rfl pcF (of_decide_eq_true rfl) fun st' hr => ?_
    simp only [go_sem, reduceIte, reduceCtorEq, Nat.reduceEqDiff, Nat.reduceLT, Nat.reduceLeDiff, Nat.reduceBEq, Nat.reduceAdd, Nat.reduceMul, Nat.reduceSub, Nat.reducePow, Int.reduceLE, Int.reduceLT, Int.reduceNeg, Int.reduceToNat, Int.reduceAdd, Int.reduceSub, idO_app, lenO_app, lenO_app2, lenO_eta] at hr
    subst hr
    refine AWPL_skipV [1, 2, 23, 27] (.bool false) rfl pcF (of_decide_eq_true rfl) fun st' hr => ?_
    simp only [go_sem, reduceIte, reduceCtorEq, Nat.reduceEqDiff, Nat.reduceLT, Nat.reduceLeDiff, Nat.reduceBEq, Nat.reduceAdd, Nat.reduceMul, Nat.reduceSub, Nat.reducePow, Int.reduceLE, Int.reduceLT, Int.reduceNeg, Int.reduceToNat, Int.reduceAdd, Int.reduceSub, idO_app, lenO_app, lenO_app2, lenO_eta] at hr
    subst hr
    refine AWPL_rn tab_ok 2 [1, 2, 29] fun c st' hr => ?_
    simp only [go_sem, reduceIte, reduceCtorEq, Nat.reduceEqDiff, Nat.reduceLT, Nat.reduceLeDiff, Nat.reduceBEq, Nat.reduceAdd, Nat.reduceMul, Nat.reduceSub, Nat.reducePow, Int.reduceLE, Int.reduceLT, Int.reduceNeg, Int.reduceToNat, Int.reduceAdd, Int.reduceSub, idO_app, lenO_app, lenO_app2, lenO_eta] at hr
    obtain ⟨rfl, rfl⟩ := hr
    refine ⟨vc, ?_⟩
    refine AWPL_nil ?_
    with_reducible refine thenC_normal ?_
    refine AWP_condP (True) rfl bd (fun hb6 => ?_) (fun hb6 => ?_)
    rotate_left 1
    · exact absurd trivial hb6
    clear hb6
    refine AWP_seq ?_
    -- region 3
    refine AWP_rg tab_ok [4] fun c st' hr => ?_
    simp only [go_sem, reduceIte, reduceCtorEq, Nat.reduceEqDiff, Nat.reduceLT, Nat.reduceLeDiff, Nat.reduceBEq, Nat.reduceAdd, Nat.reduceMul, Nat.reduceSub, Nat.reducePow, Int.reduceLE, Int.reduceLT, Int.reduceNeg, Int.reduceToNat, Int.reduceAdd, Int.reduceSub, idO_app, lenO_app, lenO_app2, lenO_eta] at hr
    obtain ⟨rfl, rfl⟩ := hr
    refine ⟨vc, ?_⟩
    with_reducible refine thenC_normal ?_
    refine AWP_ret ?_
    with_reducible refine thenC_ret ?_
    cases hK
    refine EndsRW [] (.inl rfl) (of_decide_eq_true rfl) (by simp) rfl (fun c x hr => ?_) trivial
    simp only [go_sem, reduceIte, reduceCtorEq, Nat.reduceEqDiff, Nat.reduceLT, Nat.reduceLeDiff, Nat.reduceBEq, Nat.reduceAdd, Nat.reduceMul, Nat.reduceSub, Nat.reducePow, Int.reduceLE, Int.reduceLT, Int.reduceNeg, Int.reduceToNat, Int.reduceAdd, Int.reduceSub, idO_app, lenO_app, lenO_app2, lenO_eta] at hr
    obtain ⟨rfl, rfl⟩ := hr
    exact ⟨rfl, endR⟩

end Go.SH
