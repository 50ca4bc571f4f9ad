/-
  That the code computes these functions: rotakeep_AxiomsMeet. By a program of mine (shal.py). Conditions: none.
-/
import Derived.Test.YtogmkocjidcmkaaAxT
import Derived.Test.YtogmkocjidcmkaaAxQ
import Derived.Test.YtogmkocjidcmkaaSkAxiomsMeet
import Derived.Test.YtogmkocjidcmkaaWpaxioms
import Derived.Test.YtogmkocjidcmkaaWprotakeep
import Derived.Test.YtogmkocjidcmkaaWprotaref
import Derived.Test.YtogmkocjidcmkaaWpslices
set_option linter.unusedVariables false
set_option linter.unusedSimpArgs false
namespace Go.SH
open Go Go.AX Go.AX.Try Go.Proofs

set_option maxRecDepth 8000 in
set_option maxHeartbeats 4000000 in
theorem W_rotakeep_AxiomsMeet {m_0 : Int} {m_1 : List Int} {r : Bool} (hK : rotakeep_AxiomsMeet m_0 m_1 = some r) : Pure Try.prog 6 [.agg [.int .i64 m_0, .ints .i64 m_1]] (.bool r) [] := by
  refine Pure_introF tab_ok (n := 92) (l := [.tmp 2]) Try.func6 rfl rfl rfl (by simp) fun hfact w0 => ?_
  simp only [factL1, fact1, fact0, factL0, lo, hi, maxLen, and_true] at hfact
  unfold rotakeep_AxiomsMeet at hK
  refine AWP_seq ?_
  -- region 0
  refine AWP_rg tab_ok [1] fun c st' hr => ?_
  simp only [go_sem, reduceIte, reduceCtorEq, Nat.reduceEqDiff, Nat.reduceLT, Nat.reduceLeDiff, Nat.reduceBEq, Nat.reduceAdd, Nat.reduceMul, Nat.reduceSub, Nat.reducePow, Int.reduceLE, Int.reduceLT, Int.reduceNeg, Int.reduceToNat, Int.reduceAdd, Int.reduceSub] at hr
  obtain ⟨rfl, rfl⟩ := hr
  refine ⟨vc, ?_⟩
  with_reducible refine thenC_normal ?_
  refine AWP_seq ?_
  refine AWP_seq ?_
  -- region 1
  refine AWP_rl ?_
  replace hK := bind_s hK
  obtain ⟨y, hy, hK⟩ := hK
  refine AWPL_callK [1, 17] (W_rotakeep_two hy) rfl rfl pcT rfl Try.call28 .nil (hscG trivial) (of_decide_eq_true rfl) (by first | rfl | simp [nI, nI1, nI0]) (by first | rfl | simp [nIB, nI0]) fun st' hr => ?_
  simp only [go_sem, reduceIte, reduceCtorEq, Nat.reduceEqDiff, Nat.reduceLT, Nat.reduceLeDiff, Nat.reduceBEq, Nat.reduceAdd, Nat.reduceMul, Nat.reduceSub, Nat.reducePow, Int.reduceLE, Int.reduceLT, Int.reduceNeg, Int.reduceToNat, Int.reduceAdd, Int.reduceSub] at hr
  subst hr
  clear hy
  replace hK := bind_s hK
  obtain ⟨y1, hy, hK⟩ := hK
  refine AWPL_callK [1, 18] (W_axioms_Flats hy) rfl rfl pcT rfl Try.call27 (.cons (.agg _ _ rfl (ArgsOk.get (.cons (.atom _ rfl) (.cons (.ownI _ _ _ _ _ y.2 rfl (by simp) (by simp)) .nil))).2) .nil) (hscG trivial) (of_decide_eq_true rfl) (by first | rfl | simp [nI, nI1, nI0]) (by first | rfl | simp [nIB, nI0]) fun st' hr => ?_
  simp only [go_sem, reduceIte, reduceCtorEq, Nat.reduceEqDiff, Nat.reduceLT, Nat.reduceLeDiff, Nat.reduceBEq, Nat.reduceAdd, Nat.reduceMul, Nat.reduceSub, Nat.reducePow, Int.reduceLE, Int.reduceLT, Int.reduceNeg, Int.reduceToNat, Int.reduceAdd, Int.reduceSub] at hr
  subst hr
  clear hy
  refine AWPL_rn tab_ok 5 [1, 3, 4] fun c st' hr => ?_
  simp only [go_sem, reduceIte, reduceCtorEq, Nat.reduceEqDiff, Nat.reduceLT, Nat.reduceLeDiff, Nat.reduceBEq, Nat.reduceAdd, Nat.reduceMul, Nat.reduceSub, Nat.reducePow, Int.reduceLE, Int.reduceLT, Int.reduceNeg, Int.reduceToNat, Int.reduceAdd, Int.reduceSub] at hr
  obtain ⟨rfl, rfl⟩ := hr
  refine ⟨vc, ?_⟩
  refine AWPL_nil ?_
  with_reducible refine thenC_normal ?_
  refine AWP_seq ?_
  -- region 2
  refine AWP_rg tab_ok [1, 27] fun c st' hr => ?_
  simp only [go_sem, reduceIte, reduceCtorEq, Nat.reduceEqDiff, Nat.reduceLT, Nat.reduceLeDiff, Nat.reduceBEq, Nat.reduceAdd, Nat.reduceMul, Nat.reduceSub, Nat.reducePow, Int.reduceLE, Int.reduceLT, Int.reduceNeg, Int.reduceToNat, Int.reduceAdd, Int.reduceSub] at hr
  obtain ⟨rfl, rfl⟩ := hr
  refine ⟨vc, ?_⟩
  with_reducible refine thenC_normal ?_
  refine AWP_condP ((y1.2 ≠ 0 ∨ (y1.1.length : Int) ≠ 6)) rfl bd (fun hb => ?_) (fun hb => ?_)
  · replace hK := ite_t hK hb
    refine AWP_seq ?_
    -- region 3
    refine AWP_rg tab_ok [2] fun c st' hr => ?_
    simp only [go_sem, reduceIte, reduceCtorEq, Nat.reduceEqDiff, Nat.reduceLT, Nat.reduceLeDiff, Nat.reduceBEq, Nat.reduceAdd, Nat.reduceMul, Nat.reduceSub, Nat.reducePow, Int.reduceLE, Int.reduceLT, Int.reduceNeg, Int.reduceToNat, Int.reduceAdd, Int.reduceSub] at hr
    obtain ⟨rfl, rfl⟩ := hr
    refine ⟨vc, ?_⟩
    with_reducible refine thenC_normal ?_
    refine AWP_ret ?_
    with_reducible refine thenC_ret ?_
    cases hK
    refine EndsRW [] (.inl rfl) (of_decide_eq_true rfl) (by simp) rfl (fun c x hr => ?_) trivial
    simp only [go_sem, reduceIte, reduceCtorEq, Nat.reduceEqDiff, Nat.reduceLT, Nat.reduceLeDiff, Nat.reduceBEq, Nat.reduceAdd, Nat.reduceMul, Nat.reduceSub, Nat.reducePow, Int.reduceLE, Int.reduceLT, Int.reduceNeg, Int.reduceToNat, Int.reduceAdd, Int.reduceSub] at hr
    obtain ⟨rfl, rfl⟩ := hr
    exact ⟨rfl, endR⟩
  · replace hK := ite_f hK hb
    refine AWP_skip ?_
    with_reducible refine thenC_normal ?_
    refine AWP_seq ?_
    -- region 4
    refine AWP_rl ?_
    refine AWPL_rn tab_ok 1 [1, 29] fun c st' hr => ?_
    simp only [go_sem, reduceIte, reduceCtorEq, Nat.reduceEqDiff, Nat.reduceLT, Nat.reduceLeDiff, Nat.reduceBEq, Nat.reduceAdd, Nat.reduceMul, Nat.reduceSub, Nat.reducePow, Int.reduceLE, Int.reduceLT, Int.reduceNeg, Int.reduceToNat, Int.reduceAdd, Int.reduceSub] at hr
    obtain ⟨rfl, rfl⟩ := hr
    refine ⟨vc, ?_⟩
    replace hK := bind_s hK
    obtain ⟨y2, hy, hK⟩ := hK
    refine AWPL_callK [1, 30] (W_axioms_Flats hy) rfl rfl pcT rfl Try.call27 (.cons (.agg _ _ rfl (ArgsOk.get (.cons (.atom _ rfl) (.cons (.atom _ rfl) .nil))).2) .nil) (hscG trivial) (of_decide_eq_true rfl) (by first | rfl | simp [nI, nI1, nI0]) (by first | rfl | simp [nIB, nI0]) fun st' hr => ?_
    simp only [go_sem, reduceIte, reduceCtorEq, Nat.reduceEqDiff, Nat.reduceLT, Nat.reduceLeDiff, Nat.reduceBEq, Nat.reduceAdd, Nat.reduceMul, Nat.reduceSub, Nat.reducePow, Int.reduceLE, Int.reduceLT, Int.reduceNeg, Int.reduceToNat, Int.reduceAdd, Int.reduceSub] at hr
    subst hr
    clear hy
    refine AWPL_rn tab_ok 5 [1, 5, 6] fun c st' hr => ?_
    simp only [go_sem, reduceIte, reduceCtorEq, Nat.reduceEqDiff, Nat.reduceLT, Nat.reduceLeDiff, Nat.reduceBEq, Nat.reduceAdd, Nat.reduceMul, Nat.reduceSub, Nat.reducePow, Int.reduceLE, Int.reduceLT, Int.reduceNeg, Int.reduceToNat, Int.reduceAdd, Int.reduceSub] at hr
    obtain ⟨rfl, rfl⟩ := hr
    refine ⟨vc, ?_⟩
    refine AWPL_nil ?_
    with_reducible refine thenC_normal ?_
    refine AWP_seq ?_
    -- region 5
    refine AWP_rl ?_
    refine AWPL_rn tab_ok 1 [1, 5, 6, 34] fun c st' hr => ?_
    simp only [go_sem, reduceIte, reduceCtorEq, Nat.reduceEqDiff, Nat.reduceLT, Nat.reduceLeDiff, Nat.reduceBEq, Nat.reduceAdd, Nat.reduceMul, Nat.reduceSub, Nat.reducePow, Int.reduceLE, Int.reduceLT, Int.reduceNeg, Int.reduceToNat, Int.reduceAdd, Int.reduceSub] at hr
    obtain ⟨rfl, rfl⟩ := hr
    refine ⟨vc, ?_⟩
    replace hK := bind_s hK
    obtain ⟨y3, hy, hK⟩ := hK
    refine AWPL_callK [1, 5, 6, 35] (W_axioms_Hyperplanes hy) rfl rfl pcT rfl Try.call29 (.cons (.agg _ _ rfl (ArgsOk.get (.cons (.atom _ rfl) (.cons (.atom _ rfl) .nil))).2) .nil) (hscG trivial) (of_decide_eq_true rfl) (by first | rfl | simp [nI, nI1, nI0]) (by first | rfl | simp [nIB, nI0]) fun st' hr => ?_
    simp only [go_sem, reduceIte, reduceCtorEq, Nat.reduceEqDiff, Nat.reduceLT, Nat.reduceLeDiff, Nat.reduceBEq, Nat.reduceAdd, Nat.reduceMul, Nat.reduceSub, Nat.reducePow, Int.reduceLE, Int.reduceLT, Int.reduceNeg, Int.reduceToNat, Int.reduceAdd, Int.reduceSub] at hr
    subst hr
    clear hy
    refine AWPL_rn tab_ok 5 [1, 5, 6, 7, 8] fun c st' hr => ?_
    simp only [go_sem, reduceIte, reduceCtorEq, Nat.reduceEqDiff, Nat.reduceLT, Nat.reduceLeDiff, Nat.reduceBEq, Nat.reduceAdd, Nat.reduceMul, Nat.reduceSub, Nat.reducePow, Int.reduceLE, Int.reduceLT, Int.reduceNeg, Int.reduceToNat, Int.reduceAdd, Int.reduceSub] at hr
    obtain ⟨rfl, rfl⟩ := hr
    refine ⟨vc, ?_⟩
    refine AWPL_nil ?_
    with_reducible refine thenC_normal ?_
    refine AWP_seq ?_
    refine AWP_seq ?_
    -- region 6
    refine AWP_rg tab_ok [1, 5, 6, 7, 8, 39] fun c st' hr => ?_
    simp only [go_sem, reduceIte, reduceCtorEq, Nat.reduceEqDiff, Nat.reduceLT, Nat.reduceLeDiff, Nat.reduceBEq, Nat.reduceAdd, Nat.reduceMul, Nat.reduceSub, Nat.reducePow, Int.reduceLE, Int.reduceLT, Int.reduceNeg, Int.reduceToNat, Int.reduceAdd, Int.reduceSub] at hr
    obtain ⟨rfl, rfl⟩ := hr
    refine ⟨vc, ?_⟩
    with_reducible refine thenC_normal ?_
    refine AWP_condP (y2.2 ≠ 0) rfl bd (fun hb1 => ?_) (fun hb1 => ?_)
    · replace hK := ite_t hK hb1
      refine AWP_seq ?_
      -- region 7
      replace hK := chk_some hK
      obtain ⟨h, hK⟩ := hK
      refine AWP_rg tab_ok [2] fun c st' hr => ?_
      simp only [go_sem, reduceIte, reduceCtorEq, Nat.reduceEqDiff, Nat.reduceLT, Nat.reduceLeDiff, Nat.reduceBEq, Nat.reduceAdd, Nat.reduceMul, Nat.reduceSub, Nat.reducePow, Int.reduceLE, Int.reduceLT, Int.reduceNeg, Int.reduceToNat, Int.reduceAdd, Int.reduceSub] at hr
      obtain ⟨rfl, rfl⟩ := hr
      refine ⟨vc, ?_⟩
      with_reducible refine thenC_normal ?_
      refine AWP_ret ?_
      with_reducible refine thenC_ret ?_
      cases hK
      refine EndsRW [] (.inl rfl) (of_decide_eq_true rfl) (by simp) rfl (fun c x hr => ?_) trivial
      simp only [go_sem, reduceIte, reduceCtorEq, Nat.reduceEqDiff, Nat.reduceLT, Nat.reduceLeDiff, Nat.reduceBEq, Nat.reduceAdd, Nat.reduceMul, Nat.reduceSub, Nat.reducePow, Int.reduceLE, Int.reduceLT, Int.reduceNeg, Int.reduceToNat, Int.reduceAdd, Int.reduceSub] at hr
      obtain ⟨rfl, rfl⟩ := hr
      exact ⟨rfl, endR⟩
    · replace hK := ite_f hK hb1
      refine AWP_skip ?_
      with_reducible refine thenC_normal ?_
      refine AWP_seq ?_
      refine AWP_seq ?_
      -- region 8
      refine AWP_rg tab_ok [1, 5, 7, 8, 51, 52, 53] fun c st' hr => ?_
      simp only [go_sem, reduceIte, reduceCtorEq, Nat.reduceEqDiff, Nat.reduceLT, Nat.reduceLeDiff, Nat.reduceBEq, Nat.reduceAdd, Nat.reduceMul, Nat.reduceSub, Nat.reducePow, Int.reduceLE, Int.reduceLT, Int.reduceNeg, Int.reduceToNat, Int.reduceAdd, Int.reduceSub] at hr
      obtain ⟨rfl, rfl⟩ := hr
      refine ⟨vc, ?_⟩
      with_reducible refine thenC_normal ?_
      refine AWP_block ?_
      refine AWP_loopX 0 (fun (v : Int) => ⟨92, [(1, .ptr 0 0 0), (5, .own 1 y2.1.length), (7, .own 2 y3.1.length), (8, .int .i64 y3.2), (51, .own 1 y2.1.length), (52, .int .i64 (y2.1.length : Int)), (53, .int .i64 v)], [some (.gen 45 2 [[.int .i64 m_0, .ints .i64 m_1]]), some (.ints 3 .i64 y2.1), some (.ints 3 .i64 y3.1)]⟩) (fun (_ : Unit) => ⟨92, [(8, .int .i64 y3.2)], []⟩) Sum.inl 0 [0, 3, 4] hK mkWk ?_ ?_
      · clear hK; rintro v b hK hpost1
        try dsimp only at hK
        change AWP _ _ _ _ ⟨92, [(1, .ptr 0 0 0), (5, .own 1 y2.1.length), (7, .own 2 y3.1.length), (8, .int .i64 y3.2), (51, .own 1 y2.1.length), (52, .int .i64 (y2.1.length : Int)), (53, .int .i64 v)], [some (.gen 45 2 [[.int .i64 m_0, .ints .i64 m_1]]), some (.ints 3 .i64 y2.1), some (.ints 3 .i64 y3.1)]⟩
        refine AWP_seq ?_
        -- region 9
        refine AWP_rg tab_ok [1, 5, 7, 8, 51, 52, 53, 54] fun c st' hr => ?_
        simp only [go_sem, reduceIte, reduceCtorEq, Nat.reduceEqDiff, Nat.reduceLT, Nat.reduceLeDiff, Nat.reduceBEq, Nat.reduceAdd, Nat.reduceMul, Nat.reduceSub, Nat.reducePow, Int.reduceLE, Int.reduceLT, Int.reduceNeg, Int.reduceToNat, Int.reduceAdd, Int.reduceSub] at hr
        obtain ⟨rfl, rfl⟩ := hr
        refine ⟨vc, ?_⟩
        with_reducible refine thenC_normal ?_
        refine AWP_seq ?_
        refine AWP_condP (v < (y2.1.length : Int)) rfl bd (fun hb2 => ?_) (fun hb2 => ?_)
        · replace hK := ite_t hK hb2
          refine AWP_skip ?_
          with_reducible refine thenC_normal ?_
          refine AWP_seq ?_
          refine AWP_block ?_
          refine AWP_seq ?_
          -- region 10
          replace hK := chk_some hK
          obtain ⟨h1, hK⟩ := hK
          refine AWP_rg tab_ok [1, 5, 7, 8, 10, 51, 52, 53] fun c st' hr => ?_
          simp only [go_sem, reduceIte, reduceCtorEq, Nat.reduceEqDiff, Nat.reduceLT, Nat.reduceLeDiff, Nat.reduceBEq, Nat.reduceAdd, Nat.reduceMul, Nat.reduceSub, Nat.reducePow, Int.reduceLE, Int.reduceLT, Int.reduceNeg, Int.reduceToNat, Int.reduceAdd, Int.reduceSub] at hr
          obtain ⟨rfl, rfl⟩ := hr
          refine ⟨vc, ?_⟩
          with_reducible refine thenC_normal ?_
          refine AWP_seq ?_
          -- region 11
          refine AWP_rl ?_
          refine AWPL_rn tab_ok 2 [1, 5, 7, 8, 10, 51, 52, 53, 58] fun c st' hr => ?_
          simp only [go_sem, reduceIte, reduceCtorEq, Nat.reduceEqDiff, Nat.reduceLT, Nat.reduceLeDiff, Nat.reduceBEq, Nat.reduceAdd, Nat.reduceMul, Nat.reduceSub, Nat.reducePow, Int.reduceLE, Int.reduceLT, Int.reduceNeg, Int.reduceToNat, Int.reduceAdd, Int.reduceSub] at hr
          obtain ⟨rfl, rfl⟩ := hr
          refine ⟨vc, ?_⟩
          replace hK := bind_s hK
          obtain ⟨y4, hy, hK⟩ := hK
          refine AWPL_callK [1, 5, 7, 8, 10, 51, 52, 53, 59] (W_rotaref_All hy) rfl rfl pcT rfl Try.call30 (.cons (.atom _ rfl) .nil) (hscG trivial) (of_decide_eq_true rfl) (by first | rfl | simp [nI, nI1, nI0]) (by first | rfl | simp [nIB, nI0]) fun st' hr => ?_
          simp only [go_sem, reduceIte, reduceCtorEq, Nat.reduceEqDiff, Nat.reduceLT, Nat.reduceLeDiff, Nat.reduceBEq, Nat.reduceAdd, Nat.reduceMul, Nat.reduceSub, Nat.reducePow, Int.reduceLE, Int.reduceLT, Int.reduceNeg, Int.reduceToNat, Int.reduceAdd, Int.reduceSub] at hr
          subst hr
          clear hy
          refine AWPL_rn tab_ok 1 [1, 5, 7, 8, 10, 11, 51, 52, 53] fun c st' hr => ?_
          simp only [go_sem, reduceIte, reduceCtorEq, Nat.reduceEqDiff, Nat.reduceLT, Nat.reduceLeDiff, Nat.reduceBEq, Nat.reduceAdd, Nat.reduceMul, Nat.reduceSub, Nat.reducePow, Int.reduceLE, Int.reduceLT, Int.reduceNeg, Int.reduceToNat, Int.reduceAdd, Int.reduceSub] at hr
          obtain ⟨rfl, rfl⟩ := hr
          refine ⟨vc, ?_⟩
          refine AWPL_nil ?_
          with_reducible refine thenC_normal ?_
          refine AWP_seq ?_
          refine AWP_seq ?_
          -- region 12
          refine AWP_rg tab_ok [1, 5, 7, 8, 10, 11, 51, 52, 53, 60, 61, 62] fun c st' hr => ?_
          simp only [go_sem, reduceIte, reduceCtorEq, Nat.reduceEqDiff, Nat.reduceLT, Nat.reduceLeDiff, Nat.reduceBEq, Nat.reduceAdd, Nat.reduceMul, Nat.reduceSub, Nat.reducePow, Int.reduceLE, Int.reduceLT, Int.reduceNeg, Int.reduceToNat, Int.reduceAdd, Int.reduceSub] at hr
          obtain ⟨rfl, rfl⟩ := hr
          refine ⟨vc, ?_⟩
          with_reducible refine thenC_normal ?_
          refine AWP_block ?_
          refine AWP_loopX 2 (fun (v1 : Int) => ⟨92, [(1, .ptr 0 0 0), (5, .own 1 y2.1.length), (7, .own 2 y3.1.length), (8, .int .i64 y3.2), (10, .int .i64 (y2.1.getD v.toNat 0)), (11, .int .i64 y4), (51, .own 1 y2.1.length), (52, .int .i64 (y2.1.length : Int)), (53, .int .i64 v), (60, .own 1 y2.1.length), (61, .int .i64 (y2.1.length : Int)), (62, .int .i64 v1)], [some (.gen 45 2 [[.int .i64 m_0, .ints .i64 m_1]]), some (.ints 3 .i64 y2.1), some (.ints 3 .i64 y3.1)]⟩) (fun (_ : Unit) => ⟨92, [(1, .ptr 0 0 0), (5, .own 1 y2.1.length), (7, .own 2 y3.1.length), (8, .int .i64 y3.2), (10, .int .i64 (y2.1.getD v.toNat 0)), (11, .int .i64 y4), (51, .own 1 y2.1.length), (52, .int .i64 (y2.1.length : Int)), (53, .int .i64 v)], [some (.gen 45 2 [[.int .i64 m_0, .ints .i64 m_1]]), some (.ints 3 .i64 y2.1), some (.ints 3 .i64 y3.1)]⟩) Sum.inl 0 [0, 1, 2] hK mkWk ?_ ?_
          · clear hK; rintro v1 b1 hK hpost2
            try dsimp only at hK
            change AWP _ _ _ _ ⟨92, [(1, .ptr 0 0 0), (5, .own 1 y2.1.length), (7, .own 2 y3.1.length), (8, .int .i64 y3.2), (10, .int .i64 (y2.1.getD v.toNat 0)), (11, .int .i64 y4), (51, .own 1 y2.1.length), (52, .int .i64 (y2.1.length : Int)), (53, .int .i64 v), (60, .own 1 y2.1.length), (61, .int .i64 (y2.1.length : Int)), (62, .int .i64 v1)], [some (.gen 45 2 [[.int .i64 m_0, .ints .i64 m_1]]), some (.ints 3 .i64 y2.1), some (.ints 3 .i64 y3.1)]⟩
            refine AWP_seq ?_
            -- region 13
            refine AWP_rg tab_ok [1, 5, 7, 8, 10, 11, 51, 52, 53, 60, 61, 62, 63] fun c st' hr => ?_
            simp only [go_sem, reduceIte, reduceCtorEq, Nat.reduceEqDiff, Nat.reduceLT, Nat.reduceLeDiff, Nat.reduceBEq, Nat.reduceAdd, Nat.reduceMul, Nat.reduceSub, Nat.reducePow, Int.reduceLE, Int.reduceLT, Int.reduceNeg, Int.reduceToNat, Int.reduceAdd, Int.reduceSub] at hr
            obtain ⟨rfl, rfl⟩ := hr
            refine ⟨vc, ?_⟩
            with_reducible refine thenC_normal ?_
            refine AWP_seq ?_
            refine AWP_condP (v1 < (y2.1.length : Int)) rfl bd (fun hb3 => ?_) (fun hb3 => ?_)
            · replace hK := ite_t hK hb3
              refine AWP_skip ?_
              with_reducible refine thenC_normal ?_
              refine AWP_seq ?_
              refine AWP_block ?_
              refine AWP_seq ?_
              -- region 14
              replace hK := chk_some hK
              obtain ⟨h2, hK⟩ := hK
              refine AWP_rg tab_ok [1, 5, 7, 8, 10, 11, 13, 51, 52, 53, 60, 61, 62] fun c st' hr => ?_
              simp only [go_sem, reduceIte, reduceCtorEq, Nat.reduceEqDiff, Nat.reduceLT, Nat.reduceLeDiff, Nat.reduceBEq, Nat.reduceAdd, Nat.reduceMul, Nat.reduceSub, Nat.reducePow, Int.reduceLE, Int.reduceLT, Int.reduceNeg, Int.reduceToNat, Int.reduceAdd, Int.reduceSub] at hr
              obtain ⟨rfl, rfl⟩ := hr
              refine ⟨vc, ?_⟩
              with_reducible refine thenC_normal ?_
              refine AWP_seq ?_
              -- region 15
              refine AWP_rl ?_
              refine AWPL_rn tab_ok 4 [1, 5, 7, 8, 10, 11, 51, 52, 53, 60, 61, 62, 66, 69] fun c st' hr => ?_
              simp only [go_sem, reduceIte, reduceCtorEq, Nat.reduceEqDiff, Nat.reduceLT, Nat.reduceLeDiff, Nat.reduceBEq, Nat.reduceAdd, Nat.reduceMul, Nat.reduceSub, Nat.reducePow, Int.reduceLE, Int.reduceLT, Int.reduceNeg, Int.reduceToNat, Int.reduceAdd, Int.reduceSub] at hr
              obtain ⟨rfl, rfl⟩ := hr
              refine ⟨vc, ?_⟩
              replace hK := bind_s hK
              obtain ⟨y5, hy, hK⟩ := hK
              refine AWPL_callK [1, 5, 7, 8, 10, 11, 51, 52, 53, 60, 61, 62, 70] (W_slices_Contains_int_int hy) rfl rfl pcT rfl Try.call31 (.cons (.ownI _ _ _ _ _ y2.1 rfl (by simp) (by simp)) (.cons (.atom _ rfl) .nil)) (hscG trivial) (of_decide_eq_true rfl) (by first | rfl | simp [nI, nI1, nI0]) (by first | rfl | simp [nIB, nI0]) fun st' hr => ?_
              simp only [go_sem, reduceIte, reduceCtorEq, Nat.reduceEqDiff, Nat.reduceLT, Nat.reduceLeDiff, Nat.reduceBEq, Nat.reduceAdd, Nat.reduceMul, Nat.reduceSub, Nat.reducePow, Int.reduceLE, Int.reduceLT, Int.reduceNeg, Int.reduceToNat, Int.reduceAdd, Int.reduceSub] at hr
              subst hr
              clear hy
              refine AWPL_rn tab_ok 1 [1, 5, 7, 8, 10, 11, 51, 52, 53, 60, 61, 62, 71] fun c st' hr => ?_
              simp only [go_sem, reduceIte, reduceCtorEq, Nat.reduceEqDiff, Nat.reduceLT, Nat.reduceLeDiff, Nat.reduceBEq, Nat.reduceAdd, Nat.reduceMul, Nat.reduceSub, Nat.reducePow, Int.reduceLE, Int.reduceLT, Int.reduceNeg, Int.reduceToNat, Int.reduceAdd, Int.reduceSub] at hr
              obtain ⟨rfl, rfl⟩ := hr
              refine ⟨vc, ?_⟩
              refine AWPL_nil ?_
              with_reducible refine thenC_normal ?_
              refine AWP_condP (¬ (y5 = true)) rfl bd (fun hb4 => ?_) (fun hb4 => ?_)
              · replace hK := ite_t hK hb4
                refine AWP_seq ?_
                -- region 16
                refine AWP_rg tab_ok [2] fun c st' hr => ?_
                simp only [go_sem, reduceIte, reduceCtorEq, Nat.reduceEqDiff, Nat.reduceLT, Nat.reduceLeDiff, Nat.reduceBEq, Nat.reduceAdd, Nat.reduceMul, Nat.reduceSub, Nat.reducePow, Int.reduceLE, Int.reduceLT, Int.reduceNeg, Int.reduceToNat, Int.reduceAdd, Int.reduceSub] at hr
                obtain ⟨rfl, rfl⟩ := hr
                refine ⟨vc, ?_⟩
                with_reducible refine thenC_normal ?_
                refine AWP_ret ?_
                with_reducible refine inBlockA_ret (thenC_ret (again_r (cutX_r (inBlockA_ret (thenC_ret (inBlockA_ret (thenC_ret (again_r (cutX_r (inBlockA_ret (thenC_ret ?_)))))))))))
                replace hK := hpost2 _ hK
                try dsimp only at hK
                replace hK := hpost1 _ hK
                try dsimp only at hK
                cases hK
                refine EndsRW [] (.inl rfl) (of_decide_eq_true rfl) (by simp) rfl (fun c x hr => ?_) trivial
                simp only [go_sem, reduceIte, reduceCtorEq, Nat.reduceEqDiff, Nat.reduceLT, Nat.reduceLeDiff, Nat.reduceBEq, Nat.reduceAdd, Nat.reduceMul, Nat.reduceSub, Nat.reducePow, Int.reduceLE, Int.reduceLT, Int.reduceNeg, Int.reduceToNat, Int.reduceAdd, Int.reduceSub] at hr
                obtain ⟨rfl, rfl⟩ := hr
                exact ⟨rfl, endR⟩
              · replace hK := ite_f hK hb4
                refine AWP_skip ?_
                with_reducible refine inBlockA_normal (thenC_normal ?_)
                -- region 17
                refine AWP_facts (by simp) fun hfx => ?_
                simp only [factS, factV, fact1, fact0, factL0, lo, hi, maxLen, and_true, true_and] at hfx
                refine AWP_rg tab_ok [1, 5, 7, 8, 10, 11, 51, 52, 53, 60, 61, 62] fun c st' hr => ?_
                simp only [go_sem, reduceIte, reduceCtorEq, Nat.reduceEqDiff, Nat.reduceLT, Nat.reduceLeDiff, Nat.reduceBEq, Nat.reduceAdd, Nat.reduceMul, Nat.reduceSub, Nat.reducePow, Int.reduceLE, Int.reduceLT, Int.reduceNeg, Int.reduceToNat, Int.reduceAdd, Int.reduceSub] at hr
                obtain ⟨rfl, rfl⟩ := hr
                refine ⟨vc, ?_⟩
                clear hfx
                refine again_n (v1 + 1) [0, 1, 2] hK mkWk
            · replace hK := ite_f hK hb3
              refine AWP_exit ?_
              with_reducible refine thenC_exit (again_x ?_)
              refine cutX_here () [0, 1, 2] (hpost2 _ hK) mkWk
          · clear hK; rintro _ hK
            try dsimp only at hK
            refine exS ⟨92, [(1, .ptr 0 0 0), (5, .own 1 y2.1.length), (7, .own 2 y3.1.length), (8, .int .i64 y3.2), (10, .int .i64 (y2.1.getD v.toNat 0)), (11, .int .i64 y4), (51, .own 1 y2.1.length), (52, .int .i64 (y2.1.length : Int)), (53, .int .i64 v)], [some (.gen 45 2 [[.int .i64 m_0, .ints .i64 m_1]]), some (.ints 3 .i64 y2.1), some (.ints 3 .i64 y3.1)]⟩ rfl ?_
            with_reducible refine inBlockA_exit (thenC_normal ?_)
            refine AWP_seq ?_
            refine AWP_seq ?_
            -- region 18
            refine AWP_rg tab_ok [1, 5, 7, 8, 10, 11, 51, 52, 53, 73, 74, 75] fun c st' hr => ?_
            simp only [go_sem, reduceIte, reduceCtorEq, Nat.reduceEqDiff, Nat.reduceLT, Nat.reduceLeDiff, Nat.reduceBEq, Nat.reduceAdd, Nat.reduceMul, Nat.reduceSub, Nat.reducePow, Int.reduceLE, Int.reduceLT, Int.reduceNeg, Int.reduceToNat, Int.reduceAdd, Int.reduceSub] at hr
            obtain ⟨rfl, rfl⟩ := hr
            refine ⟨vc, ?_⟩
            with_reducible refine thenC_normal ?_
            refine AWP_block ?_
            refine AWP_loopX 4 (fun ((v2, v3) : Int × Int) => ⟨92, [(1, .ptr 0 0 0), (5, .own 1 y2.1.length), (7, .own 2 y3.1.length), (8, .int .i64 y3.2), (10, .int .i64 (y2.1.getD v.toNat 0)), (11, .int .i64 v2), (51, .own 1 y2.1.length), (52, .int .i64 (y2.1.length : Int)), (53, .int .i64 v), (73, .own 2 y3.1.length), (74, .int .i64 (y3.1.length : Int)), (75, .int .i64 v3)], [some (.gen 45 2 [[.int .i64 m_0, .ints .i64 m_1]]), some (.ints 3 .i64 y2.1), some (.ints 3 .i64 y3.1)]⟩) (fun (v4 : Int) => ⟨92, [(1, .ptr 0 0 0), (5, .own 1 y2.1.length), (7, .own 2 y3.1.length), (8, .int .i64 y3.2), (10, .int .i64 (y2.1.getD v.toNat 0)), (11, .int .i64 v4), (51, .own 1 y2.1.length), (52, .int .i64 (y2.1.length : Int)), (53, .int .i64 v)], [some (.gen 45 2 [[.int .i64 m_0, .ints .i64 m_1]]), some (.ints 3 .i64 y2.1), some (.ints 3 .i64 y3.1)]⟩) (fun v => v) (y4, 0) [0, 1, 2] hK mkWk ?_ ?_
            · clear hK; rintro ⟨v2, v3⟩ b2 hK hpost3
              try dsimp only at hK
              change AWP _ _ _ _ ⟨92, [(1, .ptr 0 0 0), (5, .own 1 y2.1.length), (7, .own 2 y3.1.length), (8, .int .i64 y3.2), (10, .int .i64 (y2.1.getD v.toNat 0)), (11, .int .i64 v2), (51, .own 1 y2.1.length), (52, .int .i64 (y2.1.length : Int)), (53, .int .i64 v), (73, .own 2 y3.1.length), (74, .int .i64 (y3.1.length : Int)), (75, .int .i64 v3)], [some (.gen 45 2 [[.int .i64 m_0, .ints .i64 m_1]]), some (.ints 3 .i64 y2.1), some (.ints 3 .i64 y3.1)]⟩
              refine AWP_seq ?_
              -- region 19
              refine AWP_rg tab_ok [1, 5, 7, 8, 10, 11, 51, 52, 53, 73, 74, 75, 76] fun c st' hr => ?_
              simp only [go_sem, reduceIte, reduceCtorEq, Nat.reduceEqDiff, Nat.reduceLT, Nat.reduceLeDiff, Nat.reduceBEq, Nat.reduceAdd, Nat.reduceMul, Nat.reduceSub, Nat.reducePow, Int.reduceLE, Int.reduceLT, Int.reduceNeg, Int.reduceToNat, Int.reduceAdd, Int.reduceSub] at hr
              obtain ⟨rfl, rfl⟩ := hr
              refine ⟨vc, ?_⟩
              with_reducible refine thenC_normal ?_
              refine AWP_seq ?_
              refine AWP_condP (v3 < (y3.1.length : Int)) rfl bd (fun hb5 => ?_) (fun hb5 => ?_)
              · replace hK := ite_t hK hb5
                refine AWP_skip ?_
                with_reducible refine thenC_normal ?_
                refine AWP_seq ?_
                refine AWP_block ?_
                refine AWP_seq ?_
                -- region 20
                replace hK := chk_some hK
                obtain ⟨h3, hK⟩ := hK
                refine AWP_rg tab_ok [1, 5, 7, 8, 10, 11, 15, 51, 52, 53, 73, 74, 75] fun c st' hr => ?_
                simp only [go_sem, reduceIte, reduceCtorEq, Nat.reduceEqDiff, Nat.reduceLT, Nat.reduceLeDiff, Nat.reduceBEq, Nat.reduceAdd, Nat.reduceMul, Nat.reduceSub, Nat.reducePow, Int.reduceLE, Int.reduceLT, Int.reduceNeg, Int.reduceToNat, Int.reduceAdd, Int.reduceSub] at hr
                obtain ⟨rfl, rfl⟩ := hr
                refine ⟨vc, ?_⟩
                with_reducible refine thenC_normal ?_
                refine AWP_seq ?_
                -- region 21
                refine AWP_rl ?_
                refine AWPL_rn tab_ok 2 [1, 5, 7, 8, 10, 11, 15, 51, 52, 53, 73, 74, 75, 79, 80] fun c st' hr => ?_
                simp only [go_sem, reduceIte, reduceCtorEq, Nat.reduceEqDiff, Nat.reduceLT, Nat.reduceLeDiff, Nat.reduceBEq, Nat.reduceAdd, Nat.reduceMul, Nat.reduceSub, Nat.reducePow, Int.reduceLE, Int.reduceLT, Int.reduceNeg, Int.reduceToNat, Int.reduceAdd, Int.reduceSub] at hr
                obtain ⟨rfl, rfl⟩ := hr
                refine ⟨vc, ?_⟩
                replace hK := bind_s hK
                obtain ⟨y6, hy, hK⟩ := hK
                refine AWPL_callK [1, 5, 7, 8, 10, 11, 15, 51, 52, 53, 73, 74, 75, 81] (W_rotaref_Within hy) rfl rfl pcT rfl Try.call32 (.cons (.atom _ rfl) (.cons (.atom _ rfl) .nil)) (hscG trivial) (of_decide_eq_true rfl) (by first | rfl | simp [nI, nI1, nI0]) (by first | rfl | simp [nIB, nI0]) fun st' hr => ?_
                simp only [go_sem, reduceIte, reduceCtorEq, Nat.reduceEqDiff, Nat.reduceLT, Nat.reduceLeDiff, Nat.reduceBEq, Nat.reduceAdd, Nat.reduceMul, Nat.reduceSub, Nat.reducePow, Int.reduceLE, Int.reduceLT, Int.reduceNeg, Int.reduceToNat, Int.reduceAdd, Int.reduceSub] at hr
                subst hr
                clear hy
                refine AWPL_nil ?_
                with_reducible refine thenC_normal ?_
                refine AWP_condP (y6 = true) rfl bd (fun hb6 => ?_) (fun hb6 => ?_)
                · replace hK := ite_t hK hb6
                  -- region 22
                  refine AWP_rg tab_ok [1, 5, 7, 8, 10, 11, 51, 52, 53, 73, 74, 75] fun c st' hr => ?_
                  simp only [go_sem, reduceIte, reduceCtorEq, Nat.reduceEqDiff, Nat.reduceLT, Nat.reduceLeDiff, Nat.reduceBEq, Nat.reduceAdd, Nat.reduceMul, Nat.reduceSub, Nat.reducePow, Int.reduceLE, Int.reduceLT, Int.reduceNeg, Int.reduceToNat, Int.reduceAdd, Int.reduceSub] at hr
                  obtain ⟨rfl, rfl⟩ := hr
                  refine ⟨vc, ?_⟩
                  with_reducible refine inBlockA_normal (thenC_normal ?_)
                  -- region 23
                  refine AWP_facts (by simp) fun hfx => ?_
                  simp only [factS, factV, fact1, fact0, factL0, lo, hi, maxLen, and_true, true_and] at hfx
                  refine AWP_rg tab_ok [1, 5, 7, 8, 10, 11, 51, 52, 53, 73, 74, 75] fun c st' hr => ?_
                  simp only [go_sem, reduceIte, reduceCtorEq, Nat.reduceEqDiff, Nat.reduceLT, Nat.reduceLeDiff, Nat.reduceBEq, Nat.reduceAdd, Nat.reduceMul, Nat.reduceSub, Nat.reducePow, Int.reduceLE, Int.reduceLT, Int.reduceNeg, Int.reduceToNat, Int.reduceAdd, Int.reduceSub] at hr
                  obtain ⟨rfl, rfl⟩ := hr
                  refine ⟨vc, ?_⟩
                  clear hfx
                  refine again_n (iand v2 (y3.1.getD v3.toNat 0), v3 + 1) [0, 1, 2] hK mkWk
                · replace hK := ite_f hK hb6
                  refine AWP_skip ?_
                  with_reducible refine inBlockA_normal (thenC_normal ?_)
                  -- region 23
                  refine AWP_facts (by simp) fun hfx => ?_
                  simp only [factS, factV, fact1, fact0, factL0, lo, hi, maxLen, and_true, true_and] at hfx
                  refine AWP_rg tab_ok [1, 5, 7, 8, 10, 11, 51, 52, 53, 73, 74, 75] fun c st' hr => ?_
                  simp only [go_sem, reduceIte, reduceCtorEq, Nat.reduceEqDiff, Nat.reduceLT, Nat.reduceLeDiff, Nat.reduceBEq, Nat.reduceAdd, Nat.reduceMul, Nat.reduceSub, Nat.reducePow, Int.reduceLE, Int.reduceLT, Int.reduceNeg, Int.reduceToNat, Int.reduceAdd, Int.reduceSub] at hr
                  obtain ⟨rfl, rfl⟩ := hr
                  refine ⟨vc, ?_⟩
                  clear hfx
                  refine again_n (v2, v3 + 1) [0, 1, 2] hK mkWk
              · replace hK := ite_f hK hb5
                refine AWP_exit ?_
                with_reducible refine thenC_exit (again_x ?_)
                refine cutX_here v2 [0, 1, 2] (hpost3 _ hK) mkWk
            · clear hK; rintro v4 hK
              try dsimp only at hK
              refine exS ⟨92, [(1, .ptr 0 0 0), (5, .own 1 y2.1.length), (7, .own 2 y3.1.length), (8, .int .i64 y3.2), (10, .int .i64 (y2.1.getD v.toNat 0)), (11, .int .i64 v4), (51, .own 1 y2.1.length), (52, .int .i64 (y2.1.length : Int)), (53, .int .i64 v)], [some (.gen 45 2 [[.int .i64 m_0, .ints .i64 m_1]]), some (.ints 3 .i64 y2.1), some (.ints 3 .i64 y3.1)]⟩ rfl ?_
              with_reducible refine inBlockA_exit (thenC_normal ?_)
              refine AWP_seq ?_
              -- region 24
              refine AWP_rg tab_ok [1, 5, 7, 8, 51, 52, 53, 88] fun c st' hr => ?_
              simp only [go_sem, reduceIte, reduceCtorEq, Nat.reduceEqDiff, Nat.reduceLT, Nat.reduceLeDiff, Nat.reduceBEq, Nat.reduceAdd, Nat.reduceMul, Nat.reduceSub, Nat.reducePow, Int.reduceLE, Int.reduceLT, Int.reduceNeg, Int.reduceToNat, Int.reduceAdd, Int.reduceSub] at hr
              obtain ⟨rfl, rfl⟩ := hr
              refine ⟨vc, ?_⟩
              with_reducible refine thenC_normal ?_
              refine AWP_condP (v4 ≠ y2.1.getD v.toNat 0) rfl bd (fun hb7 => ?_) (fun hb7 => ?_)
              · replace hK := ite_t hK hb7
                refine AWP_seq ?_
                -- region 25
                refine AWP_rg tab_ok [2] fun c st' hr => ?_
                simp only [go_sem, reduceIte, reduceCtorEq, Nat.reduceEqDiff, Nat.reduceLT, Nat.reduceLeDiff, Nat.reduceBEq, Nat.reduceAdd, Nat.reduceMul, Nat.reduceSub, Nat.reducePow, Int.reduceLE, Int.reduceLT, Int.reduceNeg, Int.reduceToNat, Int.reduceAdd, Int.reduceSub] at hr
                obtain ⟨rfl, rfl⟩ := hr
                refine ⟨vc, ?_⟩
                with_reducible refine thenC_normal ?_
                refine AWP_ret ?_
                with_reducible refine inBlockA_ret (thenC_ret (again_r (cutX_r (inBlockA_ret (thenC_ret ?_)))))
                replace hK := hpost1 _ hK
                try dsimp only at hK
                cases hK
                refine EndsRW [] (.inl rfl) (of_decide_eq_true rfl) (by simp) rfl (fun c x hr => ?_) trivial
                simp only [go_sem, reduceIte, reduceCtorEq, Nat.reduceEqDiff, Nat.reduceLT, Nat.reduceLeDiff, Nat.reduceBEq, Nat.reduceAdd, Nat.reduceMul, Nat.reduceSub, Nat.reducePow, Int.reduceLE, Int.reduceLT, Int.reduceNeg, Int.reduceToNat, Int.reduceAdd, Int.reduceSub] at hr
                obtain ⟨rfl, rfl⟩ := hr
                exact ⟨rfl, endR⟩
              · replace hK := ite_f hK hb7
                refine AWP_skip ?_
                with_reducible refine inBlockA_normal (thenC_normal ?_)
                -- region 26
                refine AWP_facts (by simp) fun hfx => ?_
                simp only [factS, factV, fact1, fact0, factL0, lo, hi, maxLen, and_true, true_and] at hfx
                refine AWP_rg tab_ok [1, 5, 7, 8, 51, 52, 53] fun c st' hr => ?_
                simp only [go_sem, reduceIte, reduceCtorEq, Nat.reduceEqDiff, Nat.reduceLT, Nat.reduceLeDiff, Nat.reduceBEq, Nat.reduceAdd, Nat.reduceMul, Nat.reduceSub, Nat.reducePow, Int.reduceLE, Int.reduceLT, Int.reduceNeg, Int.reduceToNat, Int.reduceAdd, Int.reduceSub] at hr
                obtain ⟨rfl, rfl⟩ := hr
                refine ⟨vc, ?_⟩
                clear hfx
                refine again_n (v + 1) [0, 1, 2] hK mkWk
        · replace hK := ite_f hK hb2
          refine AWP_exit ?_
          with_reducible refine thenC_exit (again_x ?_)
          refine cutX_here () [] (hpost1 _ hK) mkWk
      · clear hK; rintro _ hK
        try dsimp only at hK
        refine exS ⟨92, [(8, .int .i64 y3.2)], []⟩ rfl ?_
        with_reducible refine inBlockA_exit (thenC_normal ?_)
        refine AWP_seq ?_
        -- region 27
        refine AWP_rg tab_ok [2] fun c st' hr => ?_
        simp only [go_sem, reduceIte, reduceCtorEq, Nat.reduceEqDiff, Nat.reduceLT, Nat.reduceLeDiff, Nat.reduceBEq, Nat.reduceAdd, Nat.reduceMul, Nat.reduceSub, Nat.reducePow, Int.reduceLE, Int.reduceLT, Int.reduceNeg, Int.reduceToNat, Int.reduceAdd, Int.reduceSub] at hr
        obtain ⟨rfl, rfl⟩ := hr
        refine ⟨vc, ?_⟩
        with_reducible refine thenC_normal ?_
        refine AWP_ret ?_
        cases hK
        refine EndsRW [] (.inl rfl) (of_decide_eq_true rfl) (by simp) rfl (fun c x hr => ?_) trivial
        simp only [go_sem, reduceIte, reduceCtorEq, Nat.reduceEqDiff, Nat.reduceLT, Nat.reduceLeDiff, Nat.reduceBEq, Nat.reduceAdd, Nat.reduceMul, Nat.reduceSub, Nat.reducePow, Int.reduceLE, Int.reduceLT, Int.reduceNeg, Int.reduceToNat, Int.reduceAdd, Int.reduceSub] at hr
        obtain ⟨rfl, rfl⟩ := hr
        exact ⟨rfl, endR⟩

end Go.SH
