/-
  That the code computes these functions: rotakeep_TutteBeta. By a program of mine (shal.py). Conditions: none.
-/
import Derived.Test.YtabhcjpjoknihaaAxT
import Derived.Test.YtabhcjpjoknihaaAxR
import Derived.Test.YtabhcjpjoknihaaAxRx
import Derived.Test.YtabhcjpjoknihaaAxJm
import Derived.Test.YtabhcjpjoknihaaAxW
import Derived.Test.YtabhcjpjoknihaaSkTutteBeta
import Derived.Test.YtabhcjpjoknihaaWpkinds
import Derived.Test.YtabhcjpjoknihaaWpminors
import Derived.Test.YtabhcjpjoknihaaWprotakeep
import Derived.Test.YtabhcjpjoknihaaWpsame
import Derived.Test.YtabhcjpjoknihaaWptutte
set_option linter.unusedVariables false
set_option linter.unusedSimpArgs false
namespace Go.SH
open Go Go.AX Go.AX.Try Go.Proofs

set_option maxRecDepth 8000 in
set_option maxHeartbeats 4000000 in
theorem W_rotakeep_TutteBeta {m_0 : Int} {m_1 : List Int} {r : Bool} (hK : rotakeep_TutteBeta m_0 m_1 = some r) : Pure Try.prog 7 [.agg [.int .i64 m_0, .ints .i64 m_1]] (.bool r) [] := by
  refine Pure_introF tab_ok (n := 140) (l := [.tmp 2]) Try.func7 rfl rfl rfl (by simp) fun hfact w0 => ?_
  simp only [factL1, fact1, fact0, factL0, lo, hi, maxLen, and_true] at hfact
  unfold rotakeep_TutteBeta at hK
  refine AWP_seq ?_
  -- region 0
  refine AWP_rg tab_ok [1] fun c st' hr => ?_
  simp only [go_sem, reduceIte, reduceCtorEq, Nat.reduceEqDiff, Nat.reduceLT, Nat.reduceLeDiff, Nat.reduceBEq, Nat.reduceAdd, Nat.reduceMul, Nat.reduceSub, Nat.reducePow, Int.reduceLE, Int.reduceLT, Int.reduceNeg, Int.reduceToNat, Int.reduceAdd, Int.reduceSub] at hr
  obtain ⟨rfl, rfl⟩ := hr
  refine ⟨vc, ?_⟩
  with_reducible refine thenC_normal ?_
  refine AWP_seq ?_
  refine AWP_seq ?_
  -- region 1
  refine AWP_rl ?_
  refine AWPL_rn tab_ok 2 [1, 21] fun c st' hr => ?_
  simp only [go_sem, reduceIte, reduceCtorEq, Nat.reduceEqDiff, Nat.reduceLT, Nat.reduceLeDiff, Nat.reduceBEq, Nat.reduceAdd, Nat.reduceMul, Nat.reduceSub, Nat.reducePow, Int.reduceLE, Int.reduceLT, Int.reduceNeg, Int.reduceToNat, Int.reduceAdd, Int.reduceSub] at hr
  obtain ⟨rfl, rfl⟩ := hr
  refine ⟨vc, ?_⟩
  replace hK := bind_s hK
  obtain ⟨y, hy, hK⟩ := hK
  refine AWPL_callK [1, 22] (W_tutte_Polynomial hy) rfl rfl pcT rfl Try.call37 (.cons (.agg _ _ rfl (ArgsOk.get (.cons (.atom _ rfl) (.cons (.ownI _ _ _ _ _ [1] rfl (by simp) (by first | simp | exact List.take_of_length_le (by simp))) .nil))).2) .nil) (hscG trivial) (of_decide_eq_true rfl) (by first | rfl | simp [nI, nI1, nI0]) (by first | rfl | simp [nIB, nI0]) fun st' hr => ?_
  simp only [go_sem, reduceIte, reduceCtorEq, Nat.reduceEqDiff, Nat.reduceLT, Nat.reduceLeDiff, Nat.reduceBEq, Nat.reduceAdd, Nat.reduceMul, Nat.reduceSub, Nat.reducePow, Int.reduceLE, Int.reduceLT, Int.reduceNeg, Int.reduceToNat, Int.reduceAdd, Int.reduceSub] at hr
  subst hr
  clear hy
  refine AWPL_rn tab_ok 5 [1, 3, 4] fun c st' hr => ?_
  simp only [go_sem, reduceIte, reduceCtorEq, Nat.reduceEqDiff, Nat.reduceLT, Nat.reduceLeDiff, Nat.reduceBEq, Nat.reduceAdd, Nat.reduceMul, Nat.reduceSub, Nat.reducePow, Int.reduceLE, Int.reduceLT, Int.reduceNeg, Int.reduceToNat, Int.reduceAdd, Int.reduceSub] at hr
  obtain ⟨rfl, rfl⟩ := hr
  refine ⟨vc, ?_⟩
  refine AWPL_nil ?_
  with_reducible refine thenC_normal ?_
  refine AWP_seq ?_
  -- region 2
  replace hK := chk_some hK
  obtain ⟨h, hK⟩ := hK
  refine AWP_rg tab_ok [1, 39] fun c st' hr => ?_
  simp only [go_sem, reduceIte, reduceCtorEq, Nat.reduceEqDiff, Nat.reduceLT, Nat.reduceLeDiff, Nat.reduceBEq, Nat.reduceAdd, Nat.reduceMul, Nat.reduceSub, Nat.reducePow, Int.reduceLE, Int.reduceLT, Int.reduceNeg, Int.reduceToNat, Int.reduceAdd, Int.reduceSub] at hr
  obtain ⟨rfl, rfl⟩ := hr
  refine ⟨vc, ?_⟩
  with_reducible refine thenC_normal ?_
  refine AWP_condP (((y.2 ≠ 0 ∨ (y.1.length : Int) ≠ 2) ∨ (y.1.getD 1 []).getD 0 0 ≠ 1)) rfl bd (fun hb => ?_) (fun hb => ?_)
  · replace hK := ite_t hK hb
    refine AWP_seq ?_
    -- region 3
    refine AWP_rg tab_ok [2] fun c st' hr => ?_
    simp only [go_sem, reduceIte, reduceCtorEq, Nat.reduceEqDiff, Nat.reduceLT, Nat.reduceLeDiff, Nat.reduceBEq, Nat.reduceAdd, Nat.reduceMul, Nat.reduceSub, Nat.reducePow, Int.reduceLE, Int.reduceLT, Int.reduceNeg, Int.reduceToNat, Int.reduceAdd, Int.reduceSub] at hr
    obtain ⟨rfl, rfl⟩ := hr
    refine ⟨vc, ?_⟩
    with_reducible refine thenC_normal ?_
    refine AWP_ret ?_
    with_reducible refine thenC_ret ?_
    cases hK
    refine EndsRW [] (.inl rfl) (of_decide_eq_true rfl) (by simp) rfl (fun c x hr => ?_) trivial
    simp only [go_sem, reduceIte, reduceCtorEq, Nat.reduceEqDiff, Nat.reduceLT, Nat.reduceLeDiff, Nat.reduceBEq, Nat.reduceAdd, Nat.reduceMul, Nat.reduceSub, Nat.reducePow, Int.reduceLE, Int.reduceLT, Int.reduceNeg, Int.reduceToNat, Int.reduceAdd, Int.reduceSub] at hr
    obtain ⟨rfl, rfl⟩ := hr
    exact ⟨rfl, endR⟩
  · replace hK := ite_f hK hb
    refine AWP_skip ?_
    with_reducible refine thenC_normal ?_
    refine AWP_seq ?_
    -- region 4
    refine AWP_rl ?_
    refine AWPL_rn tab_ok 1 [1, 41] fun c st' hr => ?_
    simp only [go_sem, reduceIte, reduceCtorEq, Nat.reduceEqDiff, Nat.reduceLT, Nat.reduceLeDiff, Nat.reduceBEq, Nat.reduceAdd, Nat.reduceMul, Nat.reduceSub, Nat.reducePow, Int.reduceLE, Int.reduceLT, Int.reduceNeg, Int.reduceToNat, Int.reduceAdd, Int.reduceSub] at hr
    obtain ⟨rfl, rfl⟩ := hr
    refine ⟨vc, ?_⟩
    replace hK := bind_s hK
    obtain ⟨y1, hy, hK⟩ := hK
    refine AWPL_callK [1, 42] (W_tutte_Polynomial hy) rfl rfl pcT rfl Try.call37 (.cons (.agg _ _ rfl (ArgsOk.get (.cons (.atom _ rfl) (.cons (.atom _ rfl) .nil))).2) .nil) (hscG trivial) (of_decide_eq_true rfl) (by first | rfl | simp [nI, nI1, nI0]) (by first | rfl | simp [nIB, nI0]) fun st' hr => ?_
    simp only [go_sem, reduceIte, reduceCtorEq, Nat.reduceEqDiff, Nat.reduceLT, Nat.reduceLeDiff, Nat.reduceBEq, Nat.reduceAdd, Nat.reduceMul, Nat.reduceSub, Nat.reducePow, Int.reduceLE, Int.reduceLT, Int.reduceNeg, Int.reduceToNat, Int.reduceAdd, Int.reduceSub] at hr
    subst hr
    clear hy
    refine AWPL_rn tab_ok 5 [1, 5, 6] fun c st' hr => ?_
    simp only [go_sem, reduceIte, reduceCtorEq, Nat.reduceEqDiff, Nat.reduceLT, Nat.reduceLeDiff, Nat.reduceBEq, Nat.reduceAdd, Nat.reduceMul, Nat.reduceSub, Nat.reducePow, Int.reduceLE, Int.reduceLT, Int.reduceNeg, Int.reduceToNat, Int.reduceAdd, Int.reduceSub] at hr
    obtain ⟨rfl, rfl⟩ := hr
    refine ⟨vc, ?_⟩
    refine AWPL_nil ?_
    with_reducible refine thenC_normal ?_
    refine AWP_seq ?_
    refine AWP_seq ?_
    -- region 5
    refine AWP_rg tab_ok [1, 5, 6, 51] fun c st' hr => ?_
    simp only [go_sem, reduceIte, reduceCtorEq, Nat.reduceEqDiff, Nat.reduceLT, Nat.reduceLeDiff, Nat.reduceBEq, Nat.reduceAdd, Nat.reduceMul, Nat.reduceSub, Nat.reducePow, Int.reduceLE, Int.reduceLT, Int.reduceNeg, Int.reduceToNat, Int.reduceAdd, Int.reduceSub] at hr
    obtain ⟨rfl, rfl⟩ := hr
    refine ⟨vc, ?_⟩
    with_reducible refine thenC_normal ?_
    refine AWP_condP ((y1.2 ≠ 0 ∨ m_0 < 2)) rfl bd (fun hb1 => ?_) (fun hb1 => ?_)
    · replace hK := ite_t hK hb1
      refine AWP_seq ?_
      -- region 6
      refine AWP_rg tab_ok [2] fun c st' hr => ?_
      simp only [go_sem, reduceIte, reduceCtorEq, Nat.reduceEqDiff, Nat.reduceLT, Nat.reduceLeDiff, Nat.reduceBEq, Nat.reduceAdd, Nat.reduceMul, Nat.reduceSub, Nat.reducePow, Int.reduceLE, Int.reduceLT, Int.reduceNeg, Int.reduceToNat, Int.reduceAdd, Int.reduceSub] at hr
      obtain ⟨rfl, rfl⟩ := hr
      refine ⟨vc, ?_⟩
      with_reducible refine thenC_normal ?_
      refine AWP_ret ?_
      with_reducible refine thenC_ret ?_
      cases hK
      refine EndsRW [] (.inl rfl) (of_decide_eq_true rfl) (by simp) rfl (fun c x hr => ?_) trivial
      simp only [go_sem, reduceIte, reduceCtorEq, Nat.reduceEqDiff, Nat.reduceLT, Nat.reduceLeDiff, Nat.reduceBEq, Nat.reduceAdd, Nat.reduceMul, Nat.reduceSub, Nat.reducePow, Int.reduceLE, Int.reduceLT, Int.reduceNeg, Int.reduceToNat, Int.reduceAdd, Int.reduceSub] at hr
      obtain ⟨rfl, rfl⟩ := hr
      exact ⟨rfl, endR⟩
    · replace hK := ite_f hK hb1
      refine AWP_skip ?_
      with_reducible refine thenC_normal ?_
      refine AWP_seq ?_
      -- region 7
      refine AWP_rg tab_ok [1, 5, 7, 8] fun c st' hr => ?_
      simp only [go_sem, reduceIte, reduceCtorEq, Nat.reduceEqDiff, Nat.reduceLT, Nat.reduceLeDiff, Nat.reduceBEq, Nat.reduceAdd, Nat.reduceMul, Nat.reduceSub, Nat.reducePow, Int.reduceLE, Int.reduceLT, Int.reduceNeg, Int.reduceToNat, Int.reduceAdd, Int.reduceSub] at hr
      obtain ⟨rfl, rfl⟩ := hr
      refine ⟨vc, ?_⟩
      with_reducible refine thenC_normal ?_
      refine AWP_seqJ (fun v => ⟨140, [(1, .ptr 0 0 0), (5, .own 1 y1.1.length), (7, .int .i64 v), (8, .int .i64 0)], [some (.gen 46 2 [[.int .i64 m_0, .ints .i64 m_1]]), some (.outs 49 2 y1.1.length idO (lenO y1.1)), some (.rows 2 .i64 y1.1)]⟩) hK ?_ ?_
      · clear hK; intro j hK; try dsimp only at hK
        refine AWP_seq ?_
        -- region 8
        refine AWP_rg tab_ok [1, 5, 7, 8, 61] fun c st' hr => ?_
        simp only [go_sem, reduceIte, reduceCtorEq, Nat.reduceEqDiff, Nat.reduceLT, Nat.reduceLeDiff, Nat.reduceBEq, Nat.reduceAdd, Nat.reduceMul, Nat.reduceSub, Nat.reducePow, Int.reduceLE, Int.reduceLT, Int.reduceNeg, Int.reduceToNat, Int.reduceAdd, Int.reduceSub] at hr
        obtain ⟨rfl, rfl⟩ := hr
        refine ⟨vc, ?_⟩
        with_reducible refine thenC_normal ?_
        refine AWP_condP (1 < (y1.1.length : Int)) rfl bd (fun hb2 => ?_) (fun hb2 => ?_)
        · replace hK := ite_t hK hb2
          -- region 9
          replace hK := chk_some hK
          obtain ⟨h1, hK⟩ := hK
          refine AWP_rg tab_ok [1, 5, 7, 8] fun c st' hr => ?_
          simp only [go_sem, reduceIte, reduceCtorEq, Nat.reduceEqDiff, Nat.reduceLT, Nat.reduceLeDiff, Nat.reduceBEq, Nat.reduceAdd, Nat.reduceMul, Nat.reduceSub, Nat.reducePow, Int.reduceLE, Int.reduceLT, Int.reduceNeg, Int.reduceToNat, Int.reduceAdd, Int.reduceSub] at hr
          obtain ⟨rfl, rfl⟩ := hr
          refine ⟨vc, ?_⟩
          refine join_n ((y1.1.getD 1 []).getD 0 0) [0, 4, 5] hK mkWk
        · replace hK := ite_f hK hb2
          refine AWP_skip ?_
          refine join_n 0 [0, 4, 5] hK mkWk
      · clear hK; intro v hK
        try dsimp only at hK
        change AWP _ _ _ _ ⟨140, [(1, .ptr 0 0 0), (5, .own 1 y1.1.length), (7, .int .i64 v), (8, .int .i64 0)], [some (.gen 46 2 [[.int .i64 m_0, .ints .i64 m_1]]), some (.outs 49 2 y1.1.length idO (lenO y1.1)), some (.rows 2 .i64 y1.1)]⟩
        refine AWP_seqJ (fun v1 => ⟨140, [(1, .ptr 0 0 0), (5, .own 1 y1.1.length), (7, .int .i64 v), (8, .int .i64 v1)], [some (.gen 46 2 [[.int .i64 m_0, .ints .i64 m_1]]), some (.outs 49 2 y1.1.length idO (lenO y1.1)), some (.rows 2 .i64 y1.1)]⟩) hK ?_ ?_
        · clear hK; intro j1 hK; try dsimp only at hK
          refine AWP_seq ?_
          -- region 10
          replace hK := chk_some hK
          obtain ⟨h2, hK⟩ := hK
          refine AWP_rg tab_ok [1, 5, 7, 8, 71] fun c st' hr => ?_
          simp only [go_sem, reduceIte, reduceCtorEq, Nat.reduceEqDiff, Nat.reduceLT, Nat.reduceLeDiff, Nat.reduceBEq, Nat.reduceAdd, Nat.reduceMul, Nat.reduceSub, Nat.reducePow, Int.reduceLE, Int.reduceLT, Int.reduceNeg, Int.reduceToNat, Int.reduceAdd, Int.reduceSub] at hr
          obtain ⟨rfl, rfl⟩ := hr
          refine ⟨vc, ?_⟩
          with_reducible refine thenC_normal ?_
          refine AWP_condP (1 < ((y1.1.getD 0 []).length : Int)) rfl bd (fun hb3 => ?_) (fun hb3 => ?_)
          · replace hK := ite_t hK hb3
            -- region 11
            replace hK := chk_some hK
            obtain ⟨h3, hK⟩ := hK
            refine AWP_rg tab_ok [1, 5, 7, 8] fun c st' hr => ?_
            simp only [go_sem, reduceIte, reduceCtorEq, Nat.reduceEqDiff, Nat.reduceLT, Nat.reduceLeDiff, Nat.reduceBEq, Nat.reduceAdd, Nat.reduceMul, Nat.reduceSub, Nat.reducePow, Int.reduceLE, Int.reduceLT, Int.reduceNeg, Int.reduceToNat, Int.reduceAdd, Int.reduceSub] at hr
            obtain ⟨rfl, rfl⟩ := hr
            refine ⟨vc, ?_⟩
            refine join_n ((y1.1.getD 0 []).getD 1 0) [0, 1, 2] hK mkWk
          · replace hK := ite_f hK hb3
            refine AWP_skip ?_
            refine join_n 0 [0, 1, 2] hK mkWk
        · clear hK; intro v1 hK
          try dsimp only at hK
          change AWP _ _ _ _ ⟨140, [(1, .ptr 0 0 0), (5, .own 1 y1.1.length), (7, .int .i64 v), (8, .int .i64 v1)], [some (.gen 46 2 [[.int .i64 m_0, .ints .i64 m_1]]), some (.outs 49 2 y1.1.length idO (lenO y1.1)), some (.rows 2 .i64 y1.1)]⟩
          refine AWP_seq ?_
          -- region 12
          refine AWP_rl ?_
          refine AWPL_rn tab_ok 1 [1, 5, 7, 8, 78] fun c st' hr => ?_
          simp only [go_sem, reduceIte, reduceCtorEq, Nat.reduceEqDiff, Nat.reduceLT, Nat.reduceLeDiff, Nat.reduceBEq, Nat.reduceAdd, Nat.reduceMul, Nat.reduceSub, Nat.reducePow, Int.reduceLE, Int.reduceLT, Int.reduceNeg, Int.reduceToNat, Int.reduceAdd, Int.reduceSub] at hr
          obtain ⟨rfl, rfl⟩ := hr
          refine ⟨vc, ?_⟩
          replace hK := bind_s hK
          obtain ⟨y2, hy, hK⟩ := hK
          refine AWPL_callK [1, 5, 7, 8, 79] (W_minors_Components hy) rfl rfl pcT rfl Try.call42 (.cons (.agg _ _ rfl (ArgsOk.get (.cons (.atom _ rfl) (.cons (.atom _ rfl) .nil))).2) .nil) (hscG trivial) (of_decide_eq_true rfl) (by first | rfl | simp [nI, nI1, nI0]) (by first | rfl | simp [nIB, nI0]) fun st' hr => ?_
          simp only [go_sem, reduceIte, reduceCtorEq, Nat.reduceEqDiff, Nat.reduceLT, Nat.reduceLeDiff, Nat.reduceBEq, Nat.reduceAdd, Nat.reduceMul, Nat.reduceSub, Nat.reducePow, Int.reduceLE, Int.reduceLT, Int.reduceNeg, Int.reduceToNat, Int.reduceAdd, Int.reduceSub] at hr
          subst hr
          clear hy
          refine AWPL_rn tab_ok 5 [1, 5, 7, 8, 9, 10] fun c st' hr => ?_
          simp only [go_sem, reduceIte, reduceCtorEq, Nat.reduceEqDiff, Nat.reduceLT, Nat.reduceLeDiff, Nat.reduceBEq, Nat.reduceAdd, Nat.reduceMul, Nat.reduceSub, Nat.reducePow, Int.reduceLE, Int.reduceLT, Int.reduceNeg, Int.reduceToNat, Int.reduceAdd, Int.reduceSub] at hr
          obtain ⟨rfl, rfl⟩ := hr
          refine ⟨vc, ?_⟩
          refine AWPL_nil ?_
          with_reducible refine thenC_normal ?_
          refine AWP_seq ?_
          refine AWP_seq ?_
          -- region 13
          replace hK := chk_some hK
          obtain ⟨h4, hK⟩ := hK
          refine AWP_rg tab_ok [1, 7, 9, 104] fun c st' hr => ?_
          simp only [go_sem, reduceIte, reduceCtorEq, Nat.reduceEqDiff, Nat.reduceLT, Nat.reduceLeDiff, Nat.reduceBEq, Nat.reduceAdd, Nat.reduceMul, Nat.reduceSub, Nat.reducePow, Int.reduceLE, Int.reduceLT, Int.reduceNeg, Int.reduceToNat, Int.reduceAdd, Int.reduceSub] at hr
          obtain ⟨rfl, rfl⟩ := hr
          refine ⟨vc, ?_⟩
          with_reducible refine thenC_normal ?_
          refine AWP_condP ((((y2.2 ≠ 0 ∨ v ≠ v1) ∨ (y1.1.getD 0 []).getD 0 0 ≠ 0) ∨ ¬ (v ≠ 0 ↔ (y2.1.length : Int) = 1))) rfl bd (fun hb4 => ?_) (fun hb4 => ?_)
          · replace hK := ite_t hK hb4
            refine AWP_seq ?_
            -- region 14
            refine AWP_rg tab_ok [2] fun c st' hr => ?_
            simp only [go_sem, reduceIte, reduceCtorEq, Nat.reduceEqDiff, Nat.reduceLT, Nat.reduceLeDiff, Nat.reduceBEq, Nat.reduceAdd, Nat.reduceMul, Nat.reduceSub, Nat.reducePow, Int.reduceLE, Int.reduceLT, Int.reduceNeg, Int.reduceToNat, Int.reduceAdd, Int.reduceSub] at hr
            obtain ⟨rfl, rfl⟩ := hr
            refine ⟨vc, ?_⟩
            with_reducible refine thenC_normal ?_
            refine AWP_ret ?_
            with_reducible refine thenC_ret ?_
            cases hK
            refine EndsRW [] (.inl rfl) (of_decide_eq_true rfl) (by simp) rfl (fun c x hr => ?_) trivial
            simp only [go_sem, reduceIte, reduceCtorEq, Nat.reduceEqDiff, Nat.reduceLT, Nat.reduceLeDiff, Nat.reduceBEq, Nat.reduceAdd, Nat.reduceMul, Nat.reduceSub, Nat.reducePow, Int.reduceLE, Int.reduceLT, Int.reduceNeg, Int.reduceToNat, Int.reduceAdd, Int.reduceSub] at hr
            obtain ⟨rfl, rfl⟩ := hr
            exact ⟨rfl, endR⟩
          · replace hK := ite_f hK hb4
            refine AWP_skip ?_
            with_reducible refine thenC_normal ?_
            refine AWP_seq ?_
            refine AWP_seq ?_
            -- region 15
            refine AWP_rg tab_ok [1, 7, 112] fun c st' hr => ?_
            simp only [go_sem, reduceIte, reduceCtorEq, Nat.reduceEqDiff, Nat.reduceLT, Nat.reduceLeDiff, Nat.reduceBEq, Nat.reduceAdd, Nat.reduceMul, Nat.reduceSub, Nat.reducePow, Int.reduceLE, Int.reduceLT, Int.reduceNeg, Int.reduceToNat, Int.reduceAdd, Int.reduceSub] at hr
            obtain ⟨rfl, rfl⟩ := hr
            refine ⟨vc, ?_⟩
            with_reducible refine thenC_normal ?_
            refine AWP_condP (((y2.1.length : Int) ≠ 1 ∨ 6 < m_0)) rfl bd (fun hb5 => ?_) (fun hb5 => ?_)
            · replace hK := ite_t hK hb5
              refine AWP_seq ?_
              -- region 16
              refine AWP_rg tab_ok [2] fun c st' hr => ?_
              simp only [go_sem, reduceIte, reduceCtorEq, Nat.reduceEqDiff, Nat.reduceLT, Nat.reduceLeDiff, Nat.reduceBEq, Nat.reduceAdd, Nat.reduceMul, Nat.reduceSub, Nat.reducePow, Int.reduceLE, Int.reduceLT, Int.reduceNeg, Int.reduceToNat, Int.reduceAdd, Int.reduceSub] at hr
              obtain ⟨rfl, rfl⟩ := hr
              refine ⟨vc, ?_⟩
              with_reducible refine thenC_normal ?_
              refine AWP_ret ?_
              with_reducible refine thenC_ret ?_
              cases hK
              refine EndsRW [] (.inl rfl) (of_decide_eq_true rfl) (by simp) rfl (fun c x hr => ?_) trivial
              simp only [go_sem, reduceIte, reduceCtorEq, Nat.reduceEqDiff, Nat.reduceLT, Nat.reduceLeDiff, Nat.reduceBEq, Nat.reduceAdd, Nat.reduceMul, Nat.reduceSub, Nat.reducePow, Int.reduceLE, Int.reduceLT, Int.reduceNeg, Int.reduceToNat, Int.reduceAdd, Int.reduceSub] at hr
              obtain ⟨rfl, rfl⟩ := hr
              exact ⟨rfl, endR⟩
            · replace hK := ite_f hK hb5
              refine AWP_skip ?_
              with_reducible refine thenC_normal ?_
              refine AWP_seq ?_
              -- region 17
              refine AWP_rl ?_
              replace hK := bind_s hK
              obtain ⟨y3, hy, hK⟩ := hK
              refine AWPL_callK [1, 7, 114] (W_kinds_Named hy) rfl rfl pcT rfl Try.call43 (.cons (.atom _ rfl) .nil) (hscG trivial) (of_decide_eq_true rfl) (by first | rfl | simp [nI, nI1, nI0]) (by first | rfl | simp [nIB, nI0]) fun st' hr => ?_
              simp only [go_sem, reduceIte, reduceCtorEq, Nat.reduceEqDiff, Nat.reduceLT, Nat.reduceLeDiff, Nat.reduceBEq, Nat.reduceAdd, Nat.reduceMul, Nat.reduceSub, Nat.reducePow, Int.reduceLE, Int.reduceLT, Int.reduceNeg, Int.reduceToNat, Int.reduceAdd, Int.reduceSub] at hr
              subst hr
              clear hy
              refine AWPL_rn tab_ok 6 [1, 7, 11] fun c st' hr => ?_
              simp only [go_sem, reduceIte, reduceCtorEq, Nat.reduceEqDiff, Nat.reduceLT, Nat.reduceLeDiff, Nat.reduceBEq, Nat.reduceAdd, Nat.reduceMul, Nat.reduceSub, Nat.reducePow, Int.reduceLE, Int.reduceLT, Int.reduceNeg, Int.reduceToNat, Int.reduceAdd, Int.reduceSub] at hr
              obtain ⟨rfl, rfl⟩ := hr
              refine ⟨vc, ?_⟩
              refine AWPL_nil ?_
              with_reducible refine thenC_normal ?_
              refine AWP_seq ?_
              -- region 18
              replace hK := bind_s hK
              obtain ⟨y4, hy, hK⟩ := hK
              replace hK := bind_s hK
              obtain ⟨y5, hy1, hK⟩ := hK
              refine AWP_drawJ ⟨140, [(1, .ptr 0 0 0), (7, .int .i64 v), (11, .ptr 5 0 0), (15, .int .i64 y5.2.2)], [some (.gen 46 2 [[.int .i64 m_0, .ints .i64 m_1]]), some (.outs 49 2 y1.1.length idO (lenO y1.1)), some (.rows 2 .i64 y1.1), some (.ints 3 .i64 y2.1), some (.ints 3 .i64 y3.2.1), some (.gen 46 2 [[.int .i64 y3.1, .own 4 y3.2.1.length]]), some (.ints 3 .i64 y4.2)]⟩ mixed ?_ ?_
              · refine AWPB_memo fun AA hAA => ?_
                have hn : AA 0 #[true, true, true, true, true, true, true, true, true, true] ⟨140, [(1, .ptr 0 0 0), (7, .int .i64 v), (11, .ptr 5 0 0), (15, .int .i64 y5.2.2)], [some (.gen 46 2 [[.int .i64 m_0, .ints .i64 m_1]]), some (.outs 49 2 y1.1.length idO (lenO y1.1)), some (.rows 2 .i64 y1.1), some (.ints 3 .i64 y2.1), some (.ints 3 .i64 y3.2.1), some (.gen 46 2 [[.int .i64 y3.1, .own 4 y3.2.1.length]]), some (.ints 3 .i64 y4.2)]⟩ := (hAA _ _ _).2 (by
                  exact AWPB_end [0, 1, 2, 3, 4, 5, 6] (by kernel_rfl) mkWk)
                have hn1 : AA 1 #[true, true, true, true, true, true, true, true, true, false] ⟨140, [(1, .ptr 0 0 0), (7, .int .i64 v), (11, .ptr 5 0 0), (123, .int .i64 y5.2.2)], [some (.gen 46 2 [[.int .i64 m_0, .ints .i64 m_1]]), some (.outs 49 2 y1.1.length idO (lenO y1.1)), some (.rows 2 .i64 y1.1), some (.ints 3 .i64 y2.1), some (.ints 3 .i64 y3.2.1), some (.gen 46 2 [[.int .i64 y3.1, .own 4 y3.2.1.length]]), some (.ints 3 .i64 y4.2)]⟩ := (hAA _ _ _).2 (by
                  refine AWPB_take tab_ok [1, 7, 11, 15] 9 _ rfl rfl (by kernel_rfl) fun c st' hr => ?_
                  simp only [go_sem, reduceIte, reduceCtorEq, Nat.reduceEqDiff, Nat.reduceLT, Nat.reduceLeDiff, Nat.reduceBEq, Nat.reduceAdd, Nat.reduceMul, Nat.reduceSub, Nat.reducePow, Int.reduceLE, Int.reduceLT, Int.reduceNeg, Int.reduceToNat, Int.reduceAdd, Int.reduceSub] at hr
                  obtain ⟨rfl, rfl⟩ := hr
                  refine ⟨vc, ?_⟩
                  exact AWPB_wk [0, 1, 2, 3, 4, 5, 6] mkWk ((hAA _ _ _).1 hn))
                have hn2 : AA 2 #[true, true, true, true, true, true, true, true, false, false] ⟨140, [(1, .ptr 0 0 0), (7, .int .i64 v), (11, .ptr 5 0 0), (122, .int .i64 y5.2.1), (123, .int .i64 y5.2.2)], [some (.gen 46 2 [[.int .i64 m_0, .ints .i64 m_1]]), some (.outs 49 2 y1.1.length idO (lenO y1.1)), some (.rows 2 .i64 y1.1), some (.ints 3 .i64 y2.1), some (.ints 3 .i64 y3.2.1), some (.gen 46 2 [[.int .i64 y3.1, .own 4 y3.2.1.length]]), some (.ints 3 .i64 y4.2)]⟩ := (hAA _ _ _).2 (by
                  refine AWPB_take tab_ok [1, 7, 11, 15, 123] 8 _ rfl rfl (by kernel_rfl) fun c st' hr => ?_
                  simp only [go_sem, reduceIte, reduceCtorEq, Nat.reduceEqDiff, Nat.reduceLT, Nat.reduceLeDiff, Nat.reduceBEq, Nat.reduceAdd, Nat.reduceMul, Nat.reduceSub, Nat.reducePow, Int.reduceLE, Int.reduceLT, Int.reduceNeg, Int.reduceToNat, Int.reduceAdd, Int.reduceSub] at hr
                  obtain ⟨rfl, rfl⟩ := hr
                  refine ⟨vc, ?_⟩
                  exact AWPB_wk [0, 1, 2, 3, 4, 5, 6] mkWk ((hAA _ _ _).1 hn1))
                have hn3 : AA 3 #[true, true, true, true, true, true, true, false, false, false] ⟨140, [(1, .ptr 0 0 0), (7, .int .i64 v), (11, .ptr 5 0 0), (121, .int .i64 y5.1), (122, .int .i64 y5.2.1), (123, .int .i64 y5.2.2)], [some (.gen 46 2 [[.int .i64 m_0, .ints .i64 m_1]]), some (.outs 49 2 y1.1.length idO (lenO y1.1)), some (.rows 2 .i64 y1.1), some (.ints 3 .i64 y2.1), some (.ints 3 .i64 y3.2.1), some (.gen 46 2 [[.int .i64 y3.1, .own 4 y3.2.1.length]]), some (.ints 3 .i64 y4.2)]⟩ := (hAA _ _ _).2 (by
                  refine AWPB_take tab_ok [1, 7, 11, 15, 122, 123] 7 _ rfl rfl (by kernel_rfl) fun c st' hr => ?_
                  simp only [go_sem, reduceIte, reduceCtorEq, Nat.reduceEqDiff, Nat.reduceLT, Nat.reduceLeDiff, Nat.reduceBEq, Nat.reduceAdd, Nat.reduceMul, Nat.reduceSub, Nat.reducePow, Int.reduceLE, Int.reduceLT, Int.reduceNeg, Int.reduceToNat, Int.reduceAdd, Int.reduceSub] at hr
                  obtain ⟨rfl, rfl⟩ := hr
                  refine ⟨vc, ?_⟩
                  exact AWPB_wk [0, 1, 2, 3, 4, 5, 6] mkWk ((hAA _ _ _).1 hn2))
                have hn4 : AA 4 #[true, true, true, true, true, true, false, false, false, false] ⟨140, [(1, .ptr 0 0 0), (7, .int .i64 v), (11, .ptr 5 0 0), (117, .tup [.int .i64 y5.1, .int .i64 y5.2.1, .int .i64 y5.2.2]), (121, .int .i64 y5.1), (122, .int .i64 y5.2.1)], [some (.gen 46 2 [[.int .i64 m_0, .ints .i64 m_1]]), some (.outs 49 2 y1.1.length idO (lenO y1.1)), some (.rows 2 .i64 y1.1), some (.ints 3 .i64 y2.1), some (.ints 3 .i64 y3.2.1), some (.gen 46 2 [[.int .i64 y3.1, .own 4 y3.2.1.length]]), some (.ints 3 .i64 y4.2)]⟩ := (hAA _ _ _).2 (by
                  refine AWPB_take tab_ok [1, 7, 11, 15, 121, 122, 123] 6 _ rfl rfl (by kernel_rfl) fun c st' hr => ?_
                  simp only [go_sem, reduceIte, reduceCtorEq, Nat.reduceEqDiff, Nat.reduceLT, Nat.reduceLeDiff, Nat.reduceBEq, Nat.reduceAdd, Nat.reduceMul, Nat.reduceSub, Nat.reducePow, Int.reduceLE, Int.reduceLT, Int.reduceNeg, Int.reduceToNat, Int.reduceAdd, Int.reduceSub] at hr
                  obtain ⟨rfl, rfl⟩ := hr
                  refine ⟨vc, ?_⟩
                  exact AWPB_wk [0, 1, 2, 3, 4, 5, 6] mkWk ((hAA _ _ _).1 hn3))
                have hn5 : AA 5 #[true, true, true, true, true, false, false, false, false, false] ⟨140, [(1, .ptr 0 0 0), (7, .int .i64 v), (11, .ptr 5 0 0), (117, .tup [.int .i64 y5.1, .int .i64 y5.2.1, .int .i64 y5.2.2]), (121, .int .i64 y5.1)], [some (.gen 46 2 [[.int .i64 m_0, .ints .i64 m_1]]), some (.outs 49 2 y1.1.length idO (lenO y1.1)), some (.rows 2 .i64 y1.1), some (.ints 3 .i64 y2.1), some (.ints 3 .i64 y3.2.1), some (.gen 46 2 [[.int .i64 y3.1, .own 4 y3.2.1.length]]), some (.ints 3 .i64 y4.2)]⟩ := (hAA _ _ _).2 (by
                  refine AWPB_take tab_ok [1, 7, 11, 15, 117, 121, 122, 123] 5 _ rfl rfl (by kernel_rfl) fun c st' hr => ?_
                  simp only [go_sem, reduceIte, reduceCtorEq, Nat.reduceEqDiff, Nat.reduceLT, Nat.reduceLeDiff, Nat.reduceBEq, Nat.reduceAdd, Nat.reduceMul, Nat.reduceSub, Nat.reducePow, Int.reduceLE, Int.reduceLT, Int.reduceNeg, Int.reduceToNat, Int.reduceAdd, Int.reduceSub] at hr
                  obtain ⟨rfl, rfl⟩ := hr
                  refine ⟨vc, ?_⟩
                  exact AWPB_wk [0, 1, 2, 3, 4, 5, 6] mkWk ((hAA _ _ _).1 hn4))
                have hn6 : AA 6 #[true, true, true, true, false, false, false, false, false, false] ⟨140, [(1, .ptr 0 0 0), (7, .int .i64 v), (11, .ptr 5 0 0), (117, .tup [.int .i64 y5.1, .int .i64 y5.2.1, .int .i64 y5.2.2])], [some (.gen 46 2 [[.int .i64 m_0, .ints .i64 m_1]]), some (.outs 49 2 y1.1.length idO (lenO y1.1)), some (.rows 2 .i64 y1.1), some (.ints 3 .i64 y2.1), some (.ints 3 .i64 y3.2.1), some (.gen 46 2 [[.int .i64 y3.1, .own 4 y3.2.1.length]]), some (.ints 3 .i64 y4.2)]⟩ := (hAA _ _ _).2 (by
                  refine AWPB_take tab_ok [1, 7, 11, 15, 117, 121, 122, 123] 4 _ rfl rfl (by kernel_rfl) fun c st' hr => ?_
                  simp only [go_sem, reduceIte, reduceCtorEq, Nat.reduceEqDiff, Nat.reduceLT, Nat.reduceLeDiff, Nat.reduceBEq, Nat.reduceAdd, Nat.reduceMul, Nat.reduceSub, Nat.reducePow, Int.reduceLE, Int.reduceLT, Int.reduceNeg, Int.reduceToNat, Int.reduceAdd, Int.reduceSub] at hr
                  obtain ⟨rfl, rfl⟩ := hr
                  refine ⟨vc, ?_⟩
                  exact AWPB_wk [0, 1, 2, 3, 4, 5, 6] mkWk ((hAA _ _ _).1 hn5))
                have hn7 : AA 7 #[true, true, true, false, false, false, false, false, false, false] ⟨140, [(1, .ptr 0 0 0), (7, .int .i64 v), (11, .ptr 5 0 0), (120, .tup [.int .i64 y5.1, .int .i64 y5.2.1, .int .i64 y5.2.2])], [some (.gen 46 2 [[.int .i64 m_0, .ints .i64 m_1]]), some (.outs 49 2 y1.1.length idO (lenO y1.1)), some (.rows 2 .i64 y1.1), some (.ints 3 .i64 y2.1), some (.ints 3 .i64 y3.2.1), some (.gen 46 2 [[.int .i64 y3.1, .own 4 y3.2.1.length]]), some (.ints 3 .i64 y4.2)]⟩ := (hAA _ _ _).2 (by
                  refine AWPB_take tab_ok [1, 7, 11, 15, 117, 121, 122, 123] 3 _ rfl rfl (by kernel_rfl) fun c st' hr => ?_
                  simp only [go_sem, reduceIte, reduceCtorEq, Nat.reduceEqDiff, Nat.reduceLT, Nat.reduceLeDiff, Nat.reduceBEq, Nat.reduceAdd, Nat.reduceMul, Nat.reduceSub, Nat.reducePow, Int.reduceLE, Int.reduceLT, Int.reduceNeg, Int.reduceToNat, Int.reduceAdd, Int.reduceSub] at hr
                  obtain ⟨rfl, rfl⟩ := hr
                  refine ⟨vc, ?_⟩
                  exact AWPB_wk [0, 1, 2, 3, 4, 5, 6] mkWk ((hAA _ _ _).1 hn6))
                have hn8 : AA 8 #[true, true, false, false, false, false, false, false, false, false] ⟨140, [(1, .ptr 0 0 0), (7, .int .i64 v), (11, .ptr 5 0 0), (118, .agg [.int .i64 m_0, .ints .i64 m_1]), (119, .agg [.int .i64 y4.1, .own 6 y4.2.length])], [some (.gen 46 2 [[.int .i64 m_0, .ints .i64 m_1]]), some (.outs 49 2 y1.1.length idO (lenO y1.1)), some (.rows 2 .i64 y1.1), some (.ints 3 .i64 y2.1), some (.ints 3 .i64 y3.2.1), some (.gen 46 2 [[.int .i64 y3.1, .own 4 y3.2.1.length]]), some (.ints 3 .i64 y4.2)]⟩ := (hAA _ _ _).2 (by
                  refine AWPB_one 2 _ (by kernel_rfl) rfl ?_
                  refine AWPL_callK [1, 7, 11, 15, 117, 120, 121, 122, 123] (W_same_Minor hy1) rfl rfl pcT rfl Try.call44 (.cons (.agg _ _ rfl (ArgsOk.get (.cons (.atom _ rfl) (.cons (.atom _ rfl) .nil))).2) (.cons (.agg _ _ rfl (ArgsOk.get (.cons (.atom _ rfl) (.cons (.ownI _ _ _ _ _ y4.2 rfl (by simp) (by first | simp | exact List.take_of_length_le (by simp))) .nil))).2) .nil)) (hscG trivial) (of_decide_eq_true rfl) (by first | rfl | simp [nI, nI1, nI0]) (by first | rfl | simp [nIB, nI0]) fun st' hr => ?_
                  simp only [go_sem, reduceIte, reduceCtorEq, Nat.reduceEqDiff, Nat.reduceLT, Nat.reduceLeDiff, Nat.reduceBEq, Nat.reduceAdd, Nat.reduceMul, Nat.reduceSub, Nat.reducePow, Int.reduceLE, Int.reduceLT, Int.reduceNeg, Int.reduceToNat, Int.reduceAdd, Int.reduceSub] at hr
                  subst hr
                  refine AWPL_nil ?_
                  refine QB_normal ?_
                  exact AWPB_wk [0, 1, 2, 3, 4, 5, 6] mkWk ((hAA _ _ _).1 hn7))
                have hn9 : AA 9 #[true, false, false, false, false, false, false, false, false, false] ⟨140, [(1, .ptr 0 0 0), (7, .int .i64 v), (11, .ptr 5 0 0), (118, .agg [.int .i64 m_0, .ints .i64 m_1])], [some (.gen 46 2 [[.int .i64 m_0, .ints .i64 m_1]]), some (.outs 49 2 y1.1.length idO (lenO y1.1)), some (.rows 2 .i64 y1.1), some (.ints 3 .i64 y2.1), some (.ints 3 .i64 y3.2.1), some (.gen 46 2 [[.int .i64 y3.1, .own 4 y3.2.1.length]])]⟩ := (hAA _ _ _).2 (by
                  refine AWPB_one 1 _ (by kernel_rfl) rfl ?_
                  refine AWPL_callK [1, 7, 11, 15, 117, 118, 119, 120, 121, 122, 123] (W_rotakeep_two hy) rfl rfl pcT rfl Try.call36 .nil (hscG trivial) (of_decide_eq_true rfl) (by first | rfl | simp [nI, nI1, nI0]) (by first | rfl | simp [nIB, nI0]) fun st' hr => ?_
                  simp only [go_sem, reduceIte, reduceCtorEq, Nat.reduceEqDiff, Nat.reduceLT, Nat.reduceLeDiff, Nat.reduceBEq, Nat.reduceAdd, Nat.reduceMul, Nat.reduceSub, Nat.reducePow, Int.reduceLE, Int.reduceLT, Int.reduceNeg, Int.reduceToNat, Int.reduceAdd, Int.reduceSub] at hr
                  subst hr
                  refine AWPL_nil ?_
                  refine QB_normal ?_
                  exact AWPB_wk [0, 1, 2, 3, 4, 5, 6] mkWk ((hAA _ _ _).1 hn8))
                have hn10 : AA 9 #[false, true, false, false, false, false, false, false, false, false] ⟨140, [(1, .ptr 0 0 0), (7, .int .i64 v), (11, .ptr 5 0 0), (119, .agg [.int .i64 y4.1, .own 6 y4.2.length])], [some (.gen 46 2 [[.int .i64 m_0, .ints .i64 m_1]]), some (.outs 49 2 y1.1.length idO (lenO y1.1)), some (.rows 2 .i64 y1.1), some (.ints 3 .i64 y2.1), some (.ints 3 .i64 y3.2.1), some (.gen 46 2 [[.int .i64 y3.1, .own 4 y3.2.1.length]]), some (.ints 3 .i64 y4.2)]⟩ := (hAA _ _ _).2 (by
                  refine AWPB_one 0 _ (by kernel_rfl) rfl ?_
                  refine AWPL_rn tab_ok 1 [1, 7, 11, 15, 117, 118, 119, 120, 121, 122, 123] fun c st' hr => ?_
                  simp only [go_sem, reduceIte, reduceCtorEq, Nat.reduceEqDiff, Nat.reduceLT, Nat.reduceLeDiff, Nat.reduceBEq, Nat.reduceAdd, Nat.reduceMul, Nat.reduceSub, Nat.reducePow, Int.reduceLE, Int.reduceLT, Int.reduceNeg, Int.reduceToNat, Int.reduceAdd, Int.reduceSub] at hr
                  obtain ⟨rfl, rfl⟩ := hr
                  refine ⟨vc, ?_⟩
                  refine AWPL_nil ?_
                  refine QB_normal ?_
                  exact AWPB_wk [0, 1, 2, 3, 4, 5, 6] mkWk ((hAA _ _ _).1 hn8))
                have hn11 : AA 10 #[false, false, false, false, false, false, false, false, false, false] ⟨140, [(1, .ptr 0 0 0), (7, .int .i64 v), (11, .ptr 5 0 0)], [some (.gen 46 2 [[.int .i64 m_0, .ints .i64 m_1]]), some (.outs 49 2 y1.1.length idO (lenO y1.1)), some (.rows 2 .i64 y1.1), some (.ints 3 .i64 y2.1), some (.ints 3 .i64 y3.2.1), some (.gen 46 2 [[.int .i64 y3.1, .own 4 y3.2.1.length]])]⟩ := (hAA _ _ _).2 (by
                  refine AWPB_two 0 1 _ _ (by kernel_rfl) rfl rfl ?_ ?_
                  · skip
                    refine AWPL_rn tab_ok 1 [1, 7, 11, 15, 117, 118, 119, 120, 121, 122, 123] fun c st' hr => ?_
                    simp only [go_sem, reduceIte, reduceCtorEq, Nat.reduceEqDiff, Nat.reduceLT, Nat.reduceLeDiff, Nat.reduceBEq, Nat.reduceAdd, Nat.reduceMul, Nat.reduceSub, Nat.reducePow, Int.reduceLE, Int.reduceLT, Int.reduceNeg, Int.reduceToNat, Int.reduceAdd, Int.reduceSub] at hr
                    obtain ⟨rfl, rfl⟩ := hr
                    refine ⟨vc, ?_⟩
                    refine AWPL_nil ?_
                    refine QB_normal ?_
                    exact AWPB_wk [0, 1, 2, 3, 4, 5] mkWk ((hAA _ _ _).1 hn9)
                  · skip
                    refine AWPL_callK [1, 7, 11, 15, 117, 118, 119, 120, 121, 122, 123] (W_rotakeep_two hy) rfl rfl pcT rfl Try.call36 .nil (hscG trivial) (of_decide_eq_true rfl) (by first | rfl | simp [nI, nI1, nI0]) (by first | rfl | simp [nIB, nI0]) fun st' hr => ?_
                    simp only [go_sem, reduceIte, reduceCtorEq, Nat.reduceEqDiff, Nat.reduceLT, Nat.reduceLeDiff, Nat.reduceBEq, Nat.reduceAdd, Nat.reduceMul, Nat.reduceSub, Nat.reducePow, Int.reduceLE, Int.reduceLT, Int.reduceNeg, Int.reduceToNat, Int.reduceAdd, Int.reduceSub] at hr
                    subst hr
                    refine AWPL_nil ?_
                    refine QB_normal ?_
                    exact AWPB_wk [0, 1, 2, 3, 4, 5, 6] mkWk ((hAA _ _ _).1 hn10))
                exact (hAA _ _ _).2 (AWPB_wk [0, 1, 2, 3, 4, 5] mkWk ((hAA _ _ _).1 hn11))
              with_reducible refine thenC_normal ?_
              refine AWP_seq ?_
              -- region 19
              refine AWP_rl ?_
              refine AWPL_rn tab_ok 2 [7, 15, 125, 126] fun c st' hr => ?_
              simp only [go_sem, reduceIte, reduceCtorEq, Nat.reduceEqDiff, Nat.reduceLT, Nat.reduceLeDiff, Nat.reduceBEq, Nat.reduceAdd, Nat.reduceMul, Nat.reduceSub, Nat.reducePow, Int.reduceLE, Int.reduceLT, Int.reduceNeg, Int.reduceToNat, Int.reduceAdd, Int.reduceSub] at hr
              obtain ⟨rfl, rfl⟩ := hr
              refine ⟨vc, ?_⟩
              replace hK := bind_s hK
              obtain ⟨y6, hy, hK⟩ := hK
              refine AWPL_callK [7, 15, 127] (W_same_Minor hy) rfl rfl pcT rfl Try.call44 (.cons (.agg _ _ rfl (ArgsOk.get (.cons (.atom _ rfl) (.cons (.atom _ rfl) .nil))).2) (.cons (.agg _ _ rfl (ArgsOk.get (.cons (.atom _ rfl) (.cons (.ownI _ _ _ _ _ y3.2.1 rfl (by simp) (by first | simp | exact List.take_of_length_le (by simp))) .nil))).2) .nil)) (hscG trivial) (of_decide_eq_true rfl) (by first | rfl | simp [nI, nI1, nI0]) (by first | rfl | simp [nIB, nI0]) fun st' hr => ?_
              simp only [go_sem, reduceIte, reduceCtorEq, Nat.reduceEqDiff, Nat.reduceLT, Nat.reduceLeDiff, Nat.reduceBEq, Nat.reduceAdd, Nat.reduceMul, Nat.reduceSub, Nat.reducePow, Int.reduceLE, Int.reduceLT, Int.reduceNeg, Int.reduceToNat, Int.reduceAdd, Int.reduceSub] at hr
              subst hr
              clear hy
              refine AWPL_rn tab_ok 7 [7, 15, 18] fun c st' hr => ?_
              simp only [go_sem, reduceIte, reduceCtorEq, Nat.reduceEqDiff, Nat.reduceLT, Nat.reduceLeDiff, Nat.reduceBEq, Nat.reduceAdd, Nat.reduceMul, Nat.reduceSub, Nat.reducePow, Int.reduceLE, Int.reduceLT, Int.reduceNeg, Int.reduceToNat, Int.reduceAdd, Int.reduceSub] at hr
              obtain ⟨rfl, rfl⟩ := hr
              refine ⟨vc, ?_⟩
              refine AWPL_nil ?_
              with_reducible refine thenC_normal ?_
              refine AWP_seq ?_
              -- region 20
              refine AWP_rg tab_ok [2] fun c st' hr => ?_
              simp only [go_sem, reduceIte, reduceCtorEq, Nat.reduceEqDiff, Nat.reduceLT, Nat.reduceLeDiff, Nat.reduceBEq, Nat.reduceAdd, Nat.reduceMul, Nat.reduceSub, Nat.reducePow, Int.reduceLE, Int.reduceLT, Int.reduceNeg, Int.reduceToNat, Int.reduceAdd, Int.reduceSub] at hr
              obtain ⟨rfl, rfl⟩ := hr
              refine ⟨vc, ?_⟩
              with_reducible refine thenC_normal ?_
              refine AWP_ret ?_
              cases hK
              refine EndsRW [] (.inl rfl) (of_decide_eq_true rfl) (by simp) rfl (fun c x hr => ?_) trivial
              simp only [go_sem, reduceIte, reduceCtorEq, Nat.reduceEqDiff, Nat.reduceLT, Nat.reduceLeDiff, Nat.reduceBEq, Nat.reduceAdd, Nat.reduceMul, Nat.reduceSub, Nat.reducePow, Int.reduceLE, Int.reduceLT, Int.reduceNeg, Int.reduceToNat, Int.reduceAdd, Int.reduceSub] at hr
              obtain ⟨rfl, rfl⟩ := hr
              exact ⟨rfl, endR⟩

end Go.SH
