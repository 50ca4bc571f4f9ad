/-
  That the code computes these functions: rotakeep_AxiomsStrong. By a program of mine (shal.py). Conditions: none.
-/
import Derived.Test.YtogmkocjidcmkaaAxT
import Derived.Test.YtogmkocjidcmkaaAxQ
import Derived.Test.YtogmkocjidcmkaaSkAxiomsStrong
import Derived.Test.YtogmkocjidcmkaaWpaxioms
import Derived.Test.YtogmkocjidcmkaaWprotakeep
import Derived.Test.YtogmkocjidcmkaaWprotalaw
import Derived.Test.YtogmkocjidcmkaaWprotaref
import Derived.Test.YtogmkocjidcmkaaWpslices
set_option linter.unusedVariables false
set_option linter.unusedSimpArgs false
namespace Go.SH
open Go Go.AX Go.AX.Try Go.Proofs

set_option maxRecDepth 8000 in
set_option maxHeartbeats 4000000 in
theorem W_rotakeep_AxiomsStrong {m_0 : Int} {m_1 : List Int} {r : Bool} (hK : rotakeep_AxiomsStrong m_0 m_1 = some r) : Pure Try.prog 7 [.agg [.int .i64 m_0, .ints .i64 m_1]] (.bool r) [] := by
  refine Pure_introF tab_ok (n := 77) (l := [.tmp 2]) Try.func7 rfl rfl rfl (by simp) fun hfact w0 => ?_
  simp only [factL1, fact1, fact0, factL0, lo, hi, maxLen, and_true] at hfact
  unfold rotakeep_AxiomsStrong at hK
  refine AWP_seq ?_
  -- region 0
  refine AWP_rg tab_ok [1] fun c st' hr => ?_
  simp only [go_sem, reduceIte, reduceCtorEq, Nat.reduceEqDiff, Nat.reduceLT, Nat.reduceLeDiff, Nat.reduceBEq, Nat.reduceAdd, Nat.reduceMul, Nat.reduceSub, Nat.reducePow, Int.reduceLE, Int.reduceLT, Int.reduceNeg, Int.reduceToNat, Int.reduceAdd, Int.reduceSub] at hr
  obtain ⟨rfl, rfl⟩ := hr
  refine ⟨vc, ?_⟩
  with_reducible refine thenC_normal ?_
  refine AWP_seq ?_
  refine AWP_seq ?_
  -- region 1
  refine AWP_rl ?_
  refine AWPL_rn tab_ok 2 [1, 17] fun c st' hr => ?_
  simp only [go_sem, reduceIte, reduceCtorEq, Nat.reduceEqDiff, Nat.reduceLT, Nat.reduceLeDiff, Nat.reduceBEq, Nat.reduceAdd, Nat.reduceMul, Nat.reduceSub, Nat.reducePow, Int.reduceLE, Int.reduceLT, Int.reduceNeg, Int.reduceToNat, Int.reduceAdd, Int.reduceSub] at hr
  obtain ⟨rfl, rfl⟩ := hr
  refine ⟨vc, ?_⟩
  replace hK := bind_s hK
  obtain ⟨y, hy, hK⟩ := hK
  refine AWPL_callK [1, 18] (W_axioms_Independents hy) rfl rfl pcT rfl Try.call33 (.cons (.agg _ _ rfl (ArgsOk.get (.cons (.atom _ rfl) (.cons (.ownI _ _ _ _ _ [1] rfl (by simp) (by simp)) .nil))).2) .nil) (hscG trivial) (of_decide_eq_true rfl) (by first | rfl | simp [nI, nI1, nI0]) (by first | rfl | simp [nIB, nI0]) fun st' hr => ?_
  simp only [go_sem, reduceIte, reduceCtorEq, Nat.reduceEqDiff, Nat.reduceLT, Nat.reduceLeDiff, Nat.reduceBEq, Nat.reduceAdd, Nat.reduceMul, Nat.reduceSub, Nat.reducePow, Int.reduceLE, Int.reduceLT, Int.reduceNeg, Int.reduceToNat, Int.reduceAdd, Int.reduceSub] at hr
  subst hr
  clear hy
  refine AWPL_rn tab_ok 5 [1, 3, 4] fun c st' hr => ?_
  simp only [go_sem, reduceIte, reduceCtorEq, Nat.reduceEqDiff, Nat.reduceLT, Nat.reduceLeDiff, Nat.reduceBEq, Nat.reduceAdd, Nat.reduceMul, Nat.reduceSub, Nat.reducePow, Int.reduceLE, Int.reduceLT, Int.reduceNeg, Int.reduceToNat, Int.reduceAdd, Int.reduceSub] at hr
  obtain ⟨rfl, rfl⟩ := hr
  refine ⟨vc, ?_⟩
  refine AWPL_nil ?_
  with_reducible refine thenC_normal ?_
  refine AWP_seq ?_
  -- region 2
  refine AWP_rl ?_
  refine AWPL_rn tab_ok 4 [1, 23, 24] fun c st' hr => ?_
  simp only [go_sem, reduceIte, reduceCtorEq, Nat.reduceEqDiff, Nat.reduceLT, Nat.reduceLeDiff, Nat.reduceBEq, Nat.reduceAdd, Nat.reduceMul, Nat.reduceSub, Nat.reducePow, Int.reduceLE, Int.reduceLT, Int.reduceNeg, Int.reduceToNat, Int.reduceAdd, Int.reduceSub] at hr
  obtain ⟨rfl, rfl⟩ := hr
  refine ⟨vc, ?_⟩
  by_cases hg : ¬ (y.2 ≠ 0)
  · replace hK := ite_t hK hg
    refine AWPL_st ⟨77, [(1, .ptr 0 0 0), (23, .bool false), (24, .opt (decide ((¬ (y.2 ≠ 0)))) (.own 2 y.1.length))], [some (.gen 45 2 [[.int .i64 m_0, .ints .i64 m_1]]), some (.ints 3 .i64 [1]), some (.ints 3 .i64 y.1)]⟩ (by first | (simp [hg]; done) | (simp at hg ⊢; simp [hg]; done) | (simp_all; done)) ?_
    refine AWPL_effT tab_ok [1, 23, 24, 25] pcT fun c st' hr => ?_
    simp only [go_sem, reduceIte, reduceCtorEq, Nat.reduceEqDiff, Nat.reduceLT, Nat.reduceLeDiff, Nat.reduceBEq, Nat.reduceAdd, Nat.reduceMul, Nat.reduceSub, Nat.reducePow, Int.reduceLE, Int.reduceLT, Int.reduceNeg, Int.reduceToNat, Int.reduceAdd, Int.reduceSub] at hr
    obtain ⟨rfl, rfl⟩ := hr
    refine ⟨vc, ?_⟩
    replace hK := bind_s hK
    obtain ⟨y1, hy, hK⟩ := hK
    refine AWPL_callK [1, 23, 26] (W_rotalaw_Same_int hy) rfl rfl pcT rfl Try.call34 (.cons (.ownI _ _ _ _ _ y.1 rfl (by simp) (by simp)) (.cons (.ownI _ _ _ _ _ [0, 1] rfl (by simp) (by simp)) .nil)) (hscG trivial) (of_decide_eq_true rfl) (by first | rfl | simp [nI, nI1, nI0]) (by first | rfl | simp [nIB, nI0]) fun st' hr => ?_
    simp only [go_sem, reduceIte, reduceCtorEq, Nat.reduceEqDiff, Nat.reduceLT, Nat.reduceLeDiff, Nat.reduceBEq, Nat.reduceAdd, Nat.reduceMul, Nat.reduceSub, Nat.reducePow, Int.reduceLE, Int.reduceLT, Int.reduceNeg, Int.reduceToNat, Int.reduceAdd, Int.reduceSub] at hr
    subst hr
    clear hy
    refine AWPL_rn tab_ok 2 [1, 28] fun c st' hr => ?_
    simp only [go_sem, reduceIte, reduceCtorEq, Nat.reduceEqDiff, Nat.reduceLT, Nat.reduceLeDiff, Nat.reduceBEq, Nat.reduceAdd, Nat.reduceMul, Nat.reduceSub, Nat.reducePow, Int.reduceLE, Int.reduceLT, Int.reduceNeg, Int.reduceToNat, Int.reduceAdd, Int.reduceSub] at hr
    obtain ⟨rfl, rfl⟩ := hr
    refine ⟨vc, ?_⟩
    refine AWPL_nil ?_
    with_reducible refine thenC_normal ?_
    refine AWP_condP (¬ (y1 = true)) rfl bd (fun hb => ?_) (fun hb => ?_)
    · replace hK := ite_t hK hb
      refine AWP_seq ?_
      -- region 3
      refine AWP_rg tab_ok [2] fun c st' hr => ?_
      simp only [go_sem, reduceIte, reduceCtorEq, Nat.reduceEqDiff, Nat.reduceLT, Nat.reduceLeDiff, Nat.reduceBEq, Nat.reduceAdd, Nat.reduceMul, Nat.reduceSub, Nat.reducePow, Int.reduceLE, Int.reduceLT, Int.reduceNeg, Int.reduceToNat, Int.reduceAdd, Int.reduceSub] at hr
      obtain ⟨rfl, rfl⟩ := hr
      refine ⟨vc, ?_⟩
      with_reducible refine thenC_normal ?_
      refine AWP_ret ?_
      with_reducible refine thenC_ret ?_
      cases hK
      refine EndsRW [] (.inl rfl) (of_decide_eq_true rfl) (by simp) rfl (fun c x hr => ?_) trivial
      simp only [go_sem, reduceIte, reduceCtorEq, Nat.reduceEqDiff, Nat.reduceLT, Nat.reduceLeDiff, Nat.reduceBEq, Nat.reduceAdd, Nat.reduceMul, Nat.reduceSub, Nat.reducePow, Int.reduceLE, Int.reduceLT, Int.reduceNeg, Int.reduceToNat, Int.reduceAdd, Int.reduceSub] at hr
      obtain ⟨rfl, rfl⟩ := hr
      exact ⟨rfl, endR⟩
    · replace hK := ite_f hK hb
      refine AWP_skip ?_
      with_reducible refine thenC_normal ?_
      refine AWP_seq ?_
      -- region 4
      refine AWP_rl ?_
      refine AWPL_rn tab_ok 1 [30] fun c st' hr => ?_
      simp only [go_sem, reduceIte, reduceCtorEq, Nat.reduceEqDiff, Nat.reduceLT, Nat.reduceLeDiff, Nat.reduceBEq, Nat.reduceAdd, Nat.reduceMul, Nat.reduceSub, Nat.reducePow, Int.reduceLE, Int.reduceLT, Int.reduceNeg, Int.reduceToNat, Int.reduceAdd, Int.reduceSub] at hr
      obtain ⟨rfl, rfl⟩ := hr
      refine ⟨vc, ?_⟩
      replace hK := bind_s hK
      obtain ⟨y2, hy, hK⟩ := hK
      refine AWPL_callK [31] (W_axioms_Circuits hy) rfl rfl pcT rfl Try.call35 (.cons (.agg _ _ rfl (ArgsOk.get (.cons (.atom _ rfl) (.cons (.atom _ rfl) .nil))).2) .nil) (hscG trivial) (of_decide_eq_true rfl) (by first | rfl | simp [nI, nI1, nI0]) (by first | rfl | simp [nIB, nI0]) fun st' hr => ?_
      simp only [go_sem, reduceIte, reduceCtorEq, Nat.reduceEqDiff, Nat.reduceLT, Nat.reduceLeDiff, Nat.reduceBEq, Nat.reduceAdd, Nat.reduceMul, Nat.reduceSub, Nat.reducePow, Int.reduceLE, Int.reduceLT, Int.reduceNeg, Int.reduceToNat, Int.reduceAdd, Int.reduceSub] at hr
      subst hr
      clear hy
      refine AWPL_rn tab_ok 5 [5, 6] fun c st' hr => ?_
      simp only [go_sem, reduceIte, reduceCtorEq, Nat.reduceEqDiff, Nat.reduceLT, Nat.reduceLeDiff, Nat.reduceBEq, Nat.reduceAdd, Nat.reduceMul, Nat.reduceSub, Nat.reducePow, Int.reduceLE, Int.reduceLT, Int.reduceNeg, Int.reduceToNat, Int.reduceAdd, Int.reduceSub] at hr
      obtain ⟨rfl, rfl⟩ := hr
      refine ⟨vc, ?_⟩
      refine AWPL_nil ?_
      with_reducible refine thenC_normal ?_
      refine AWP_seq ?_
      refine AWP_seq ?_
      -- region 5
      refine AWP_rg tab_ok [5, 35] fun c st' hr => ?_
      simp only [go_sem, reduceIte, reduceCtorEq, Nat.reduceEqDiff, Nat.reduceLT, Nat.reduceLeDiff, Nat.reduceBEq, Nat.reduceAdd, Nat.reduceMul, Nat.reduceSub, Nat.reducePow, Int.reduceLE, Int.reduceLT, Int.reduceNeg, Int.reduceToNat, Int.reduceAdd, Int.reduceSub] at hr
      obtain ⟨rfl, rfl⟩ := hr
      refine ⟨vc, ?_⟩
      with_reducible refine thenC_normal ?_
      refine AWP_condP (y2.2 ≠ 0) rfl bd (fun hb1 => ?_) (fun hb1 => ?_)
      · replace hK := ite_t hK hb1
        refine AWP_seq ?_
        -- region 6
        refine AWP_rg tab_ok [2] fun c st' hr => ?_
        simp only [go_sem, reduceIte, reduceCtorEq, Nat.reduceEqDiff, Nat.reduceLT, Nat.reduceLeDiff, Nat.reduceBEq, Nat.reduceAdd, Nat.reduceMul, Nat.reduceSub, Nat.reducePow, Int.reduceLE, Int.reduceLT, Int.reduceNeg, Int.reduceToNat, Int.reduceAdd, Int.reduceSub] at hr
        obtain ⟨rfl, rfl⟩ := hr
        refine ⟨vc, ?_⟩
        with_reducible refine thenC_normal ?_
        refine AWP_ret ?_
        with_reducible refine thenC_ret ?_
        cases hK
        refine EndsRW [] (.inl rfl) (of_decide_eq_true rfl) (by simp) rfl (fun c x hr => ?_) trivial
        simp only [go_sem, reduceIte, reduceCtorEq, Nat.reduceEqDiff, Nat.reduceLT, Nat.reduceLeDiff, Nat.reduceBEq, Nat.reduceAdd, Nat.reduceMul, Nat.reduceSub, Nat.reducePow, Int.reduceLE, Int.reduceLT, Int.reduceNeg, Int.reduceToNat, Int.reduceAdd, Int.reduceSub] at hr
        obtain ⟨rfl, rfl⟩ := hr
        exact ⟨rfl, endR⟩
      · replace hK := ite_f hK hb1
        refine AWP_skip ?_
        with_reducible refine thenC_normal ?_
        refine AWP_seq ?_
        refine AWP_seq ?_
        -- region 7
        refine AWP_rg tab_ok [5, 39, 40, 41] fun c st' hr => ?_
        simp only [go_sem, reduceIte, reduceCtorEq, Nat.reduceEqDiff, Nat.reduceLT, Nat.reduceLeDiff, Nat.reduceBEq, Nat.reduceAdd, Nat.reduceMul, Nat.reduceSub, Nat.reducePow, Int.reduceLE, Int.reduceLT, Int.reduceNeg, Int.reduceToNat, Int.reduceAdd, Int.reduceSub] at hr
        obtain ⟨rfl, rfl⟩ := hr
        refine ⟨vc, ?_⟩
        with_reducible refine thenC_normal ?_
        refine AWP_block ?_
        refine AWP_loopX 0 (fun (v : Int) => ⟨77, [(5, .own 0 y2.1.length), (39, .own 0 y2.1.length), (40, .int .i64 (y2.1.length : Int)), (41, .int .i64 v)], [some (.ints 3 .i64 y2.1)]⟩) (fun (_ : Unit) => ⟨77, [], []⟩) Sum.inl 0 [4] hK mkWk ?_ ?_
        · clear hK; rintro v b hK hpost1
          try dsimp only at hK
          change AWP _ _ _ _ ⟨77, [(5, .own 0 y2.1.length), (39, .own 0 y2.1.length), (40, .int .i64 (y2.1.length : Int)), (41, .int .i64 v)], [some (.ints 3 .i64 y2.1)]⟩
          refine AWP_seq ?_
          -- region 8
          refine AWP_rg tab_ok [5, 39, 40, 41, 42] fun c st' hr => ?_
          simp only [go_sem, reduceIte, reduceCtorEq, Nat.reduceEqDiff, Nat.reduceLT, Nat.reduceLeDiff, Nat.reduceBEq, Nat.reduceAdd, Nat.reduceMul, Nat.reduceSub, Nat.reducePow, Int.reduceLE, Int.reduceLT, Int.reduceNeg, Int.reduceToNat, Int.reduceAdd, Int.reduceSub] at hr
          obtain ⟨rfl, rfl⟩ := hr
          refine ⟨vc, ?_⟩
          with_reducible refine thenC_normal ?_
          refine AWP_seq ?_
          refine AWP_condP (v < (y2.1.length : Int)) rfl bd (fun hb2 => ?_) (fun hb2 => ?_)
          · replace hK := ite_t hK hb2
            refine AWP_skip ?_
            with_reducible refine thenC_normal ?_
            refine AWP_seq ?_
            refine AWP_block ?_
            refine AWP_seq ?_
            -- region 9
            replace hK := chk_some hK
            obtain ⟨h, hK⟩ := hK
            refine AWP_rg tab_ok [5, 8, 39, 40, 41] fun c st' hr => ?_
            simp only [go_sem, reduceIte, reduceCtorEq, Nat.reduceEqDiff, Nat.reduceLT, Nat.reduceLeDiff, Nat.reduceBEq, Nat.reduceAdd, Nat.reduceMul, Nat.reduceSub, Nat.reducePow, Int.reduceLE, Int.reduceLT, Int.reduceNeg, Int.reduceToNat, Int.reduceAdd, Int.reduceSub] at hr
            obtain ⟨rfl, rfl⟩ := hr
            refine ⟨vc, ?_⟩
            with_reducible refine thenC_normal ?_
            refine AWP_seq ?_
            -- region 10
            refine AWP_rg tab_ok [5, 8, 39, 40, 41, 45, 46, 47] fun c st' hr => ?_
            simp only [go_sem, reduceIte, reduceCtorEq, Nat.reduceEqDiff, Nat.reduceLT, Nat.reduceLeDiff, Nat.reduceBEq, Nat.reduceAdd, Nat.reduceMul, Nat.reduceSub, Nat.reducePow, Int.reduceLE, Int.reduceLT, Int.reduceNeg, Int.reduceToNat, Int.reduceAdd, Int.reduceSub] at hr
            obtain ⟨rfl, rfl⟩ := hr
            refine ⟨vc, ?_⟩
            with_reducible refine thenC_normal ?_
            refine AWP_block ?_
            refine AWP_loopX 2 (fun (v1 : Int) => ⟨77, [(5, .own 0 y2.1.length), (8, .ptr 1 0 0), (39, .own 0 y2.1.length), (40, .int .i64 (y2.1.length : Int)), (41, .int .i64 v), (45, .own 0 y2.1.length), (46, .int .i64 (y2.1.length : Int)), (47, .int .i64 v1)], [some (.ints 3 .i64 y2.1), some (.ints 3 .i64 [y2.1.getD v.toNat 0])]⟩) (fun (_ : Unit) => ⟨77, [(5, .own 0 y2.1.length), (39, .own 0 y2.1.length), (40, .int .i64 (y2.1.length : Int)), (41, .int .i64 v)], [some (.ints 3 .i64 y2.1)]⟩) Sum.inl 0 [0, 1] hK mkWk ?_ ?_
            · clear hK; rintro v1 b1 hK hpost2
              try dsimp only at hK
              change AWP _ _ _ _ ⟨77, [(5, .own 0 y2.1.length), (8, .ptr 1 0 0), (39, .own 0 y2.1.length), (40, .int .i64 (y2.1.length : Int)), (41, .int .i64 v), (45, .own 0 y2.1.length), (46, .int .i64 (y2.1.length : Int)), (47, .int .i64 v1)], [some (.ints 3 .i64 y2.1), some (.ints 3 .i64 [y2.1.getD v.toNat 0])]⟩
              refine AWP_seq ?_
              -- region 11
              refine AWP_rg tab_ok [5, 8, 39, 40, 41, 45, 46, 47, 48] fun c st' hr => ?_
              simp only [go_sem, reduceIte, reduceCtorEq, Nat.reduceEqDiff, Nat.reduceLT, Nat.reduceLeDiff, Nat.reduceBEq, Nat.reduceAdd, Nat.reduceMul, Nat.reduceSub, Nat.reducePow, Int.reduceLE, Int.reduceLT, Int.reduceNeg, Int.reduceToNat, Int.reduceAdd, Int.reduceSub] at hr
              obtain ⟨rfl, rfl⟩ := hr
              refine ⟨vc, ?_⟩
              with_reducible refine thenC_normal ?_
              refine AWP_seq ?_
              refine AWP_condP (v1 < (y2.1.length : Int)) rfl bd (fun hb3 => ?_) (fun hb3 => ?_)
              · replace hK := ite_t hK hb3
                refine AWP_skip ?_
                with_reducible refine thenC_normal ?_
                refine AWP_seq ?_
                refine AWP_block ?_
                refine AWP_seq ?_
                -- region 12
                replace hK := chk_some hK
                obtain ⟨h1, hK⟩ := hK
                refine AWP_rg tab_ok [5, 8, 10, 39, 40, 41, 45, 46, 47] fun c st' hr => ?_
                simp only [go_sem, reduceIte, reduceCtorEq, Nat.reduceEqDiff, Nat.reduceLT, Nat.reduceLeDiff, Nat.reduceBEq, Nat.reduceAdd, Nat.reduceMul, Nat.reduceSub, Nat.reducePow, Int.reduceLE, Int.reduceLT, Int.reduceNeg, Int.reduceToNat, Int.reduceAdd, Int.reduceSub] at hr
                obtain ⟨rfl, rfl⟩ := hr
                refine ⟨vc, ?_⟩
                with_reducible refine thenC_normal ?_
                refine AWP_seq ?_
                -- region 13
                refine AWP_rl ?_
                refine AWPL_rn tab_ok 3 [5, 8, 10, 39, 40, 41, 45, 46, 47, 53] fun c st' hr => ?_
                simp only [go_sem, reduceIte, reduceCtorEq, Nat.reduceEqDiff, Nat.reduceLT, Nat.reduceLeDiff, Nat.reduceBEq, Nat.reduceAdd, Nat.reduceMul, Nat.reduceSub, Nat.reducePow, Int.reduceLE, Int.reduceLT, Int.reduceNeg, Int.reduceToNat, Int.reduceAdd, Int.reduceSub] at hr
                obtain ⟨rfl, rfl⟩ := hr
                refine ⟨vc, ?_⟩
                replace hK := bind_s hK
                obtain ⟨y3, hy, hK⟩ := hK
                refine AWPL_callK [5, 8, 10, 39, 40, 41, 45, 46, 47, 54] (W_rotaref_Elements hy) rfl rfl pcT rfl Try.call36 (.cons (.atom _ rfl) .nil) (hscG trivial) (of_decide_eq_true rfl) (by first | rfl | simp [nI, nI1, nI0]) (by first | rfl | simp [nIB, nI0]) fun st' hr => ?_
                simp only [go_sem, reduceIte, reduceCtorEq, Nat.reduceEqDiff, Nat.reduceLT, Nat.reduceLeDiff, Nat.reduceBEq, Nat.reduceAdd, Nat.reduceMul, Nat.reduceSub, Nat.reducePow, Int.reduceLE, Int.reduceLT, Int.reduceNeg, Int.reduceToNat, Int.reduceAdd, Int.reduceSub] at hr
                subst hr
                clear hy
                refine AWPL_rn tab_ok 2 [5, 8, 10, 39, 40, 41, 45, 46, 47, 54, 55, 56] fun c st' hr => ?_
                simp only [go_sem, reduceIte, reduceCtorEq, Nat.reduceEqDiff, Nat.reduceLT, Nat.reduceLeDiff, Nat.reduceBEq, Nat.reduceAdd, Nat.reduceMul, Nat.reduceSub, Nat.reducePow, Int.reduceLE, Int.reduceLT, Int.reduceNeg, Int.reduceToNat, Int.reduceAdd, Int.reduceSub] at hr
                obtain ⟨rfl, rfl⟩ := hr
                refine ⟨vc, ?_⟩
                refine AWPL_nil ?_
                with_reducible refine thenC_normal ?_
                refine AWP_block ?_
                refine AWP_loopX 4 (fun (v2 : Int) => ⟨77, [(5, .own 0 y2.1.length), (8, .ptr 1 0 0), (10, .ptr 2 0 0), (39, .own 0 y2.1.length), (40, .int .i64 (y2.1.length : Int)), (41, .int .i64 v), (45, .own 0 y2.1.length), (46, .int .i64 (y2.1.length : Int)), (47, .int .i64 v1), (54, .own 3 y3.length), (55, .int .i64 (y3.length : Int)), (56, .int .i64 v2)], [some (.ints 3 .i64 y2.1), some (.ints 3 .i64 [y2.1.getD v.toNat 0]), some (.ints 3 .i64 [y2.1.getD v1.toNat 0]), some (.ints 3 .i64 y3)]⟩) (fun (_ : Unit) => ⟨77, [(5, .own 0 y2.1.length), (8, .ptr 1 0 0), (39, .own 0 y2.1.length), (40, .int .i64 (y2.1.length : Int)), (41, .int .i64 v), (45, .own 0 y2.1.length), (46, .int .i64 (y2.1.length : Int)), (47, .int .i64 v1)], [some (.ints 3 .i64 y2.1), some (.ints 3 .i64 [y2.1.getD v.toNat 0])]⟩) Sum.inl 0 [0, 1, 2, 3] hK mkWk ?_ ?_
                · clear hK; rintro v2 b2 hK hpost3
                  try dsimp only at hK
                  change AWP _ _ _ _ ⟨77, [(5, .own 0 y2.1.length), (8, .ptr 1 0 0), (10, .ptr 2 0 0), (39, .own 0 y2.1.length), (40, .int .i64 (y2.1.length : Int)), (41, .int .i64 v), (45, .own 0 y2.1.length), (46, .int .i64 (y2.1.length : Int)), (47, .int .i64 v1), (54, .own 3 y3.length), (55, .int .i64 (y3.length : Int)), (56, .int .i64 v2)], [some (.ints 3 .i64 y2.1), some (.ints 3 .i64 [y2.1.getD v.toNat 0]), some (.ints 3 .i64 [y2.1.getD v1.toNat 0]), some (.ints 3 .i64 y3)]⟩
                  refine AWP_seq ?_
                  -- region 14
                  refine AWP_rg tab_ok [5, 8, 10, 39, 40, 41, 45, 46, 47, 54, 55, 56, 57] fun c st' hr => ?_
                  simp only [go_sem, reduceIte, reduceCtorEq, Nat.reduceEqDiff, Nat.reduceLT, Nat.reduceLeDiff, Nat.reduceBEq, Nat.reduceAdd, Nat.reduceMul, Nat.reduceSub, Nat.reducePow, Int.reduceLE, Int.reduceLT, Int.reduceNeg, Int.reduceToNat, Int.reduceAdd, Int.reduceSub] at hr
                  obtain ⟨rfl, rfl⟩ := hr
                  refine ⟨vc, ?_⟩
                  with_reducible refine thenC_normal ?_
                  refine AWP_seq ?_
                  refine AWP_condP (v2 < (y3.length : Int)) rfl bd (fun hb4 => ?_) (fun hb4 => ?_)
                  · replace hK := ite_t hK hb4
                    refine AWP_skip ?_
                    with_reducible refine thenC_normal ?_
                    refine AWP_seq ?_
                    refine AWP_block ?_
                    refine AWP_seq ?_
                    -- region 15
                    replace hK := chk_some hK
                    obtain ⟨h2, hK⟩ := hK
                    refine AWP_rg tab_ok [5, 8, 10, 12, 39, 40, 41, 45, 46, 47, 54, 55, 56] fun c st' hr => ?_
                    simp only [go_sem, reduceIte, reduceCtorEq, Nat.reduceEqDiff, Nat.reduceLT, Nat.reduceLeDiff, Nat.reduceBEq, Nat.reduceAdd, Nat.reduceMul, Nat.reduceSub, Nat.reducePow, Int.reduceLE, Int.reduceLT, Int.reduceNeg, Int.reduceToNat, Int.reduceAdd, Int.reduceSub] at hr
                    obtain ⟨rfl, rfl⟩ := hr
                    refine ⟨vc, ?_⟩
                    with_reducible refine thenC_normal ?_
                    refine AWP_seq ?_
                    -- region 16
                    refine AWP_rl ?_
                    refine AWPL_rn tab_ok 3 [5, 8, 10, 12, 39, 40, 41, 45, 46, 47, 54, 55, 56, 62] fun c st' hr => ?_
                    simp only [go_sem, reduceIte, reduceCtorEq, Nat.reduceEqDiff, Nat.reduceLT, Nat.reduceLeDiff, Nat.reduceBEq, Nat.reduceAdd, Nat.reduceMul, Nat.reduceSub, Nat.reducePow, Int.reduceLE, Int.reduceLT, Int.reduceNeg, Int.reduceToNat, Int.reduceAdd, Int.reduceSub] at hr
                    obtain ⟨rfl, rfl⟩ := hr
                    refine ⟨vc, ?_⟩
                    replace hK := bind_s hK
                    obtain ⟨y4, hy, hK⟩ := hK
                    refine AWPL_callK [5, 8, 10, 12, 39, 40, 41, 45, 46, 47, 54, 55, 56, 63] (W_rotaref_Elements hy) rfl rfl pcT rfl Try.call36 (.cons (.atom _ rfl) .nil) (hscG trivial) (of_decide_eq_true rfl) (by first | rfl | simp [nI, nI1, nI0]) (by first | rfl | simp [nIB, nI0]) fun st' hr => ?_
                    simp only [go_sem, reduceIte, reduceCtorEq, Nat.reduceEqDiff, Nat.reduceLT, Nat.reduceLeDiff, Nat.reduceBEq, Nat.reduceAdd, Nat.reduceMul, Nat.reduceSub, Nat.reducePow, Int.reduceLE, Int.reduceLT, Int.reduceNeg, Int.reduceToNat, Int.reduceAdd, Int.reduceSub] at hr
                    subst hr
                    clear hy
                    refine AWPL_rn tab_ok 2 [5, 8, 10, 12, 39, 40, 41, 45, 46, 47, 54, 55, 56, 63, 64, 65] fun c st' hr => ?_
                    simp only [go_sem, reduceIte, reduceCtorEq, Nat.reduceEqDiff, Nat.reduceLT, Nat.reduceLeDiff, Nat.reduceBEq, Nat.reduceAdd, Nat.reduceMul, Nat.reduceSub, Nat.reducePow, Int.reduceLE, Int.reduceLT, Int.reduceNeg, Int.reduceToNat, Int.reduceAdd, Int.reduceSub] at hr
                    obtain ⟨rfl, rfl⟩ := hr
                    refine ⟨vc, ?_⟩
                    refine AWPL_nil ?_
                    with_reducible refine thenC_normal ?_
                    refine AWP_block ?_
                    refine AWP_loopX 6 (fun (v3 : Int) => ⟨77, [(5, .own 0 y2.1.length), (8, .ptr 1 0 0), (10, .ptr 2 0 0), (12, .ptr 3 0 0), (39, .own 0 y2.1.length), (40, .int .i64 (y2.1.length : Int)), (41, .int .i64 v), (45, .own 0 y2.1.length), (46, .int .i64 (y2.1.length : Int)), (47, .int .i64 v1), (54, .own 4 y3.length), (55, .int .i64 (y3.length : Int)), (56, .int .i64 v2), (63, .own 5 y4.length), (64, .int .i64 (y4.length : Int)), (65, .int .i64 v3)], [some (.ints 3 .i64 y2.1), some (.ints 3 .i64 [y2.1.getD v.toNat 0]), some (.ints 3 .i64 [y2.1.getD v1.toNat 0]), some (.ints 3 .i64 [y3.getD v2.toNat 0]), some (.ints 3 .i64 y3), some (.ints 3 .i64 y4)]⟩) (fun (_ : Unit) => ⟨77, [(5, .own 0 y2.1.length), (8, .ptr 1 0 0), (10, .ptr 2 0 0), (39, .own 0 y2.1.length), (40, .int .i64 (y2.1.length : Int)), (41, .int .i64 v), (45, .own 0 y2.1.length), (46, .int .i64 (y2.1.length : Int)), (47, .int .i64 v1), (54, .own 3 y3.length), (55, .int .i64 (y3.length : Int)), (56, .int .i64 v2)], [some (.ints 3 .i64 y2.1), some (.ints 3 .i64 [y2.1.getD v.toNat 0]), some (.ints 3 .i64 [y2.1.getD v1.toNat 0]), some (.ints 3 .i64 y3)]⟩) Sum.inl 0 [0, 1, 2, 4, 3, 5] hK mkWk ?_ ?_
                    · clear hK; rintro v3 b3 hK hpost4
                      try dsimp only at hK
                      change AWP _ _ _ _ ⟨77, [(5, .own 0 y2.1.length), (8, .ptr 1 0 0), (10, .ptr 2 0 0), (12, .ptr 3 0 0), (39, .own 0 y2.1.length), (40, .int .i64 (y2.1.length : Int)), (41, .int .i64 v), (45, .own 0 y2.1.length), (46, .int .i64 (y2.1.length : Int)), (47, .int .i64 v1), (54, .own 4 y3.length), (55, .int .i64 (y3.length : Int)), (56, .int .i64 v2), (63, .own 5 y4.length), (64, .int .i64 (y4.length : Int)), (65, .int .i64 v3)], [some (.ints 3 .i64 y2.1), some (.ints 3 .i64 [y2.1.getD v.toNat 0]), some (.ints 3 .i64 [y2.1.getD v1.toNat 0]), some (.ints 3 .i64 [y3.getD v2.toNat 0]), some (.ints 3 .i64 y3), some (.ints 3 .i64 y4)]⟩
                      refine AWP_seq ?_
                      -- region 17
                      refine AWP_rg tab_ok [5, 8, 10, 12, 39, 40, 41, 45, 46, 47, 54, 55, 56, 63, 64, 65, 66] fun c st' hr => ?_
                      simp only [go_sem, reduceIte, reduceCtorEq, Nat.reduceEqDiff, Nat.reduceLT, Nat.reduceLeDiff, Nat.reduceBEq, Nat.reduceAdd, Nat.reduceMul, Nat.reduceSub, Nat.reducePow, Int.reduceLE, Int.reduceLT, Int.reduceNeg, Int.reduceToNat, Int.reduceAdd, Int.reduceSub] at hr
                      obtain ⟨rfl, rfl⟩ := hr
                      refine ⟨vc, ?_⟩
                      with_reducible refine thenC_normal ?_
                      refine AWP_seq ?_
                      refine AWP_condP (v3 < (y4.length : Int)) rfl bd (fun hb5 => ?_) (fun hb5 => ?_)
                      · replace hK := ite_t hK hb5
                        refine AWP_skip ?_
                        with_reducible refine thenC_normal ?_
                        refine AWP_seq ?_
                        refine AWP_block ?_
                        refine AWP_seq ?_
                        -- region 18
                        replace hK := chk_some hK
                        obtain ⟨h3, hK⟩ := hK
                        refine AWP_rg tab_ok [5, 8, 10, 12, 14, 39, 40, 41, 45, 46, 47, 54, 55, 56, 63, 64, 65] fun c st' hr => ?_
                        simp only [go_sem, reduceIte, reduceCtorEq, Nat.reduceEqDiff, Nat.reduceLT, Nat.reduceLeDiff, Nat.reduceBEq, Nat.reduceAdd, Nat.reduceMul, Nat.reduceSub, Nat.reducePow, Int.reduceLE, Int.reduceLT, Int.reduceNeg, Int.reduceToNat, Int.reduceAdd, Int.reduceSub] at hr
                        obtain ⟨rfl, rfl⟩ := hr
                        refine ⟨vc, ?_⟩
                        with_reducible refine thenC_normal ?_
                        refine AWP_seq ?_
                        -- region 19
                        refine AWP_rl ?_
                        refine AWPL_rn tab_ok 2 [5, 8, 10, 12, 39, 40, 41, 45, 46, 47, 54, 55, 56, 63, 64, 65, 69, 70] fun c st' hr => ?_
                        simp only [go_sem, reduceIte, reduceCtorEq, Nat.reduceEqDiff, Nat.reduceLT, Nat.reduceLeDiff, Nat.reduceBEq, Nat.reduceAdd, Nat.reduceMul, Nat.reduceSub, Nat.reducePow, Int.reduceLE, Int.reduceLT, Int.reduceNeg, Int.reduceToNat, Int.reduceAdd, Int.reduceSub] at hr
                        obtain ⟨rfl, rfl⟩ := hr
                        refine ⟨vc, ?_⟩
                        replace hK := bind_s hK
                        obtain ⟨y5, hy, hK⟩ := hK
                        refine AWPL_callK [5, 8, 10, 12, 39, 40, 41, 45, 46, 47, 54, 55, 56, 63, 64, 65, 71] (W_slices_ContainsFunc_int_int Try.call38 rfl (fun _ _ hh => by simpa using W_rotakeep_AxiomsStrong_1 hh) hy) rfl rfl pcT rfl Try.call37 (.cons (.ownI _ _ _ _ _ y2.1 rfl (by simp) (by simp)) (.cons (.funcOf (.cons (.ptrI _ _ _ _ _ _ rfl rfl) (.cons (.ptrI _ _ _ _ _ _ rfl rfl) (.cons (.ptrI _ _ _ _ _ _ rfl rfl) (.cons (.ptrI _ _ _ _ _ _ rfl rfl) .nil))))) .nil)) (hscG trivial) (of_decide_eq_true rfl) (by first | rfl | simp [nI, nI1, nI0]) (by first | rfl | simp [nIB, nI0]) fun st' hr => ?_
                        simp only [go_sem, reduceIte, reduceCtorEq, Nat.reduceEqDiff, Nat.reduceLT, Nat.reduceLeDiff, Nat.reduceBEq, Nat.reduceAdd, Nat.reduceMul, Nat.reduceSub, Nat.reducePow, Int.reduceLE, Int.reduceLT, Int.reduceNeg, Int.reduceToNat, Int.reduceAdd, Int.reduceSub] at hr
                        subst hr
                        clear hy
                        refine AWPL_rn tab_ok 1 [5, 8, 10, 12, 39, 40, 41, 45, 46, 47, 54, 55, 56, 63, 64, 65, 72] fun c st' hr => ?_
                        simp only [go_sem, reduceIte, reduceCtorEq, Nat.reduceEqDiff, Nat.reduceLT, Nat.reduceLeDiff, Nat.reduceBEq, Nat.reduceAdd, Nat.reduceMul, Nat.reduceSub, Nat.reducePow, Int.reduceLE, Int.reduceLT, Int.reduceNeg, Int.reduceToNat, Int.reduceAdd, Int.reduceSub] at hr
                        obtain ⟨rfl, rfl⟩ := hr
                        refine ⟨vc, ?_⟩
                        refine AWPL_nil ?_
                        with_reducible refine thenC_normal ?_
                        refine AWP_condP (¬ (y5 = true)) rfl bd (fun hb6 => ?_) (fun hb6 => ?_)
                        · replace hK := ite_t hK hb6
                          refine AWP_seq ?_
                          -- region 20
                          refine AWP_rg tab_ok [2] fun c st' hr => ?_
                          simp only [go_sem, reduceIte, reduceCtorEq, Nat.reduceEqDiff, Nat.reduceLT, Nat.reduceLeDiff, Nat.reduceBEq, Nat.reduceAdd, Nat.reduceMul, Nat.reduceSub, Nat.reducePow, Int.reduceLE, Int.reduceLT, Int.reduceNeg, Int.reduceToNat, Int.reduceAdd, Int.reduceSub] at hr
                          obtain ⟨rfl, rfl⟩ := hr
                          refine ⟨vc, ?_⟩
                          with_reducible refine thenC_normal ?_
                          refine AWP_ret ?_
                          with_reducible refine inBlockA_ret (thenC_ret (again_r (cutX_r (inBlockA_ret (inBlockA_ret (thenC_ret (again_r (cutX_r (inBlockA_ret (inBlockA_ret (thenC_ret (again_r (cutX_r (inBlockA_ret (inBlockA_ret (thenC_ret (again_r (cutX_r (inBlockA_ret (thenC_ret ?_))))))))))))))))))))
                          replace hK := hpost4 _ hK
                          try dsimp only at hK
                          replace hK := hpost3 _ hK
                          try dsimp only at hK
                          replace hK := hpost2 _ hK
                          try dsimp only at hK
                          replace hK := hpost1 _ hK
                          try dsimp only at hK
                          cases hK
                          refine EndsRW [] (.inl rfl) (of_decide_eq_true rfl) (by simp) rfl (fun c x hr => ?_) trivial
                          simp only [go_sem, reduceIte, reduceCtorEq, Nat.reduceEqDiff, Nat.reduceLT, Nat.reduceLeDiff, Nat.reduceBEq, Nat.reduceAdd, Nat.reduceMul, Nat.reduceSub, Nat.reducePow, Int.reduceLE, Int.reduceLT, Int.reduceNeg, Int.reduceToNat, Int.reduceAdd, Int.reduceSub] at hr
                          obtain ⟨rfl, rfl⟩ := hr
                          exact ⟨rfl, endR⟩
                        · replace hK := ite_f hK hb6
                          refine AWP_skip ?_
                          with_reducible refine inBlockA_normal (thenC_normal ?_)
                          -- region 21
                          refine AWP_facts (by simp) fun hfx => ?_
                          simp only [factS, factV, fact1, fact0, factL0, lo, hi, maxLen, and_true, true_and] at hfx
                          refine AWP_rg tab_ok [5, 8, 10, 12, 39, 40, 41, 45, 46, 47, 54, 55, 56, 63, 64, 65] fun c st' hr => ?_
                          simp only [go_sem, reduceIte, reduceCtorEq, Nat.reduceEqDiff, Nat.reduceLT, Nat.reduceLeDiff, Nat.reduceBEq, Nat.reduceAdd, Nat.reduceMul, Nat.reduceSub, Nat.reducePow, Int.reduceLE, Int.reduceLT, Int.reduceNeg, Int.reduceToNat, Int.reduceAdd, Int.reduceSub] at hr
                          obtain ⟨rfl, rfl⟩ := hr
                          refine ⟨vc, ?_⟩
                          clear hfx
                          refine again_n (v3 + 1) [0, 1, 2, 3, 4, 5] hK mkWk
                      · replace hK := ite_f hK hb5
                        refine AWP_exit ?_
                        with_reducible refine thenC_exit (again_x ?_)
                        refine cutX_here () [0, 1, 2, 4] (hpost4 _ hK) mkWk
                    · clear hK; rintro _ hK
                      try dsimp only at hK
                      refine exS ⟨77, [(5, .own 0 y2.1.length), (8, .ptr 1 0 0), (10, .ptr 2 0 0), (39, .own 0 y2.1.length), (40, .int .i64 (y2.1.length : Int)), (41, .int .i64 v), (45, .own 0 y2.1.length), (46, .int .i64 (y2.1.length : Int)), (47, .int .i64 v1), (54, .own 3 y3.length), (55, .int .i64 (y3.length : Int)), (56, .int .i64 v2)], [some (.ints 3 .i64 y2.1), some (.ints 3 .i64 [y2.1.getD v.toNat 0]), some (.ints 3 .i64 [y2.1.getD v1.toNat 0]), some (.ints 3 .i64 y3)]⟩ rfl ?_
                      with_reducible refine inBlockA_exit (inBlockA_normal (thenC_normal ?_))
                      -- region 22
                      refine AWP_facts (by simp) fun hfx => ?_
                      simp only [factS, factV, fact1, fact0, factL0, lo, hi, maxLen, and_true, true_and] at hfx
                      refine AWP_rg tab_ok [5, 8, 10, 39, 40, 41, 45, 46, 47, 54, 55, 56] fun c st' hr => ?_
                      simp only [go_sem, reduceIte, reduceCtorEq, Nat.reduceEqDiff, Nat.reduceLT, Nat.reduceLeDiff, Nat.reduceBEq, Nat.reduceAdd, Nat.reduceMul, Nat.reduceSub, Nat.reducePow, Int.reduceLE, Int.reduceLT, Int.reduceNeg, Int.reduceToNat, Int.reduceAdd, Int.reduceSub] at hr
                      obtain ⟨rfl, rfl⟩ := hr
                      refine ⟨vc, ?_⟩
                      clear hfx
                      refine again_n (v2 + 1) [0, 1, 2, 3] hK mkWk
                  · replace hK := ite_f hK hb4
                    refine AWP_exit ?_
                    with_reducible refine thenC_exit (again_x ?_)
                    refine cutX_here () [0, 1] (hpost3 _ hK) mkWk
                · clear hK; rintro _ hK
                  try dsimp only at hK
                  refine exS ⟨77, [(5, .own 0 y2.1.length), (8, .ptr 1 0 0), (39, .own 0 y2.1.length), (40, .int .i64 (y2.1.length : Int)), (41, .int .i64 v), (45, .own 0 y2.1.length), (46, .int .i64 (y2.1.length : Int)), (47, .int .i64 v1)], [some (.ints 3 .i64 y2.1), some (.ints 3 .i64 [y2.1.getD v.toNat 0])]⟩ rfl ?_
                  with_reducible refine inBlockA_exit (inBlockA_normal (thenC_normal ?_))
                  -- region 23
                  refine AWP_facts (by simp) fun hfx => ?_
                  simp only [factS, factV, fact1, fact0, factL0, lo, hi, maxLen, and_true, true_and] at hfx
                  refine AWP_rg tab_ok [5, 8, 39, 40, 41, 45, 46, 47] fun c st' hr => ?_
                  simp only [go_sem, reduceIte, reduceCtorEq, Nat.reduceEqDiff, Nat.reduceLT, Nat.reduceLeDiff, Nat.reduceBEq, Nat.reduceAdd, Nat.reduceMul, Nat.reduceSub, Nat.reducePow, Int.reduceLE, Int.reduceLT, Int.reduceNeg, Int.reduceToNat, Int.reduceAdd, Int.reduceSub] at hr
                  obtain ⟨rfl, rfl⟩ := hr
                  refine ⟨vc, ?_⟩
                  clear hfx
                  refine again_n (v1 + 1) [0, 1] hK mkWk
              · replace hK := ite_f hK hb3
                refine AWP_exit ?_
                with_reducible refine thenC_exit (again_x ?_)
                refine cutX_here () [0] (hpost2 _ hK) mkWk
            · clear hK; rintro _ hK
              try dsimp only at hK
              refine exS ⟨77, [(5, .own 0 y2.1.length), (39, .own 0 y2.1.length), (40, .int .i64 (y2.1.length : Int)), (41, .int .i64 v)], [some (.ints 3 .i64 y2.1)]⟩ rfl ?_
              with_reducible refine inBlockA_exit (inBlockA_normal (thenC_normal ?_))
              -- region 24
              refine AWP_facts (by simp) fun hfx => ?_
              simp only [factS, factV, fact1, fact0, factL0, lo, hi, maxLen, and_true, true_and] at hfx
              refine AWP_rg tab_ok [5, 39, 40, 41] fun c st' hr => ?_
              simp only [go_sem, reduceIte, reduceCtorEq, Nat.reduceEqDiff, Nat.reduceLT, Nat.reduceLeDiff, Nat.reduceBEq, Nat.reduceAdd, Nat.reduceMul, Nat.reduceSub, Nat.reducePow, Int.reduceLE, Int.reduceLT, Int.reduceNeg, Int.reduceToNat, Int.reduceAdd, Int.reduceSub] at hr
              obtain ⟨rfl, rfl⟩ := hr
              refine ⟨vc, ?_⟩
              clear hfx
              refine again_n (v + 1) [0] hK mkWk
          · replace hK := ite_f hK hb2
            refine AWP_exit ?_
            with_reducible refine thenC_exit (again_x ?_)
            refine cutX_here () [] (hpost1 _ hK) mkWk
        · clear hK; rintro _ hK
          try dsimp only at hK
          refine exS ⟨77, [], []⟩ rfl ?_
          with_reducible refine inBlockA_exit (thenC_normal ?_)
          refine AWP_seq ?_
          -- region 25
          refine AWP_rg tab_ok [2] fun c st' hr => ?_
          simp only [go_sem, reduceIte, reduceCtorEq, Nat.reduceEqDiff, Nat.reduceLT, Nat.reduceLeDiff, Nat.reduceBEq, Nat.reduceAdd, Nat.reduceMul, Nat.reduceSub, Nat.reducePow, Int.reduceLE, Int.reduceLT, Int.reduceNeg, Int.reduceToNat, Int.reduceAdd, Int.reduceSub] at hr
          obtain ⟨rfl, rfl⟩ := hr
          refine ⟨vc, ?_⟩
          with_reducible refine thenC_normal ?_
          refine AWP_ret ?_
          cases hK
          refine EndsRW [] (.inl rfl) (of_decide_eq_true rfl) (by simp) rfl (fun c x hr => ?_) trivial
          simp only [go_sem, reduceIte, reduceCtorEq, Nat.reduceEqDiff, Nat.reduceLT, Nat.reduceLeDiff, Nat.reduceBEq, Nat.reduceAdd, Nat.reduceMul, Nat.reduceSub, Nat.reducePow, Int.reduceLE, Int.reduceLT, Int.reduceNeg, Int.reduceToNat, Int.reduceAdd, Int.reduceSub] at hr
          obtain ⟨rfl, rfl⟩ := hr
          exact ⟨rfl, endR⟩
  · replace hK := ite_f hK hg
    refine AWPL_st ⟨77, [(1, .ptr 0 0 0), (23, .bool true), (24, .opt (decide ((¬ (y.2 ≠ 0)))) (.own 2 y.1.length))], [some (.gen 45 2 [[.int .i64 m_0, .ints .i64 m_1]]), some (.ints 3 .i64 [1]), some (.ints 3 .i64 y.1)]⟩ (by first | (simp [hg]; done) | (simp at hg ⊢; simp [hg]; done) | (simp_all; done)) ?_
    refine AWPL_skipV [1, 23, 24, 25] (.junk) rfl pcF (of_decide_eq_true rfl) fun st' hr => ?_
    simp only [go_sem, reduceIte, reduceCtorEq, Nat.reduceEqDiff, Nat.reduceLT, Nat.reduceLeDiff, Nat.reduceBEq, Nat.reduceAdd, Nat.reduceMul, Nat.reduceSub, Nat.reducePow, Int.reduceLE, Int.reduceLT, Int.reduceNeg, Int.reduceToNat, Int.reduceAdd, Int.reduceSub] at hr
    subst hr
    refine AWPL_skipV [1, 23, 26] (.bool false) rfl pcF (of_decide_eq_true rfl) fun st' hr => ?_
    simp only [go_sem, reduceIte, reduceCtorEq, Nat.reduceEqDiff, Nat.reduceLT, Nat.reduceLeDiff, Nat.reduceBEq, Nat.reduceAdd, Nat.reduceMul, Nat.reduceSub, Nat.reducePow, Int.reduceLE, Int.reduceLT, Int.reduceNeg, Int.reduceToNat, Int.reduceAdd, Int.reduceSub] at hr
    subst hr
    refine AWPL_rn tab_ok 2 [1, 28] fun c st' hr => ?_
    simp only [go_sem, reduceIte, reduceCtorEq, Nat.reduceEqDiff, Nat.reduceLT, Nat.reduceLeDiff, Nat.reduceBEq, Nat.reduceAdd, Nat.reduceMul, Nat.reduceSub, Nat.reducePow, Int.reduceLE, Int.reduceLT, Int.reduceNeg, Int.reduceToNat, Int.reduceAdd, Int.reduceSub] at hr
    obtain ⟨rfl, rfl⟩ := hr
    refine ⟨vc, ?_⟩
    refine AWPL_nil ?_
    with_reducible refine thenC_normal ?_
    refine AWP_condP (True) rfl bd (fun hb7 => ?_) (fun hb7 => ?_)
    rotate_left 1
    · exact absurd trivial hb7
    clear hb7
    refine AWP_seq ?_
    -- region 3
    refine AWP_rg tab_ok [2] fun c st' hr => ?_
    simp only [go_sem, reduceIte, reduceCtorEq, Nat.reduceEqDiff, Nat.reduceLT, Nat.reduceLeDiff, Nat.reduceBEq, Nat.reduceAdd, Nat.reduceMul, Nat.reduceSub, Nat.reducePow, Int.reduceLE, Int.reduceLT, Int.reduceNeg, Int.reduceToNat, Int.reduceAdd, Int.reduceSub] at hr
    obtain ⟨rfl, rfl⟩ := hr
    refine ⟨vc, ?_⟩
    with_reducible refine thenC_normal ?_
    refine AWP_ret ?_
    with_reducible refine thenC_ret ?_
    cases hK
    refine EndsRW [] (.inl rfl) (of_decide_eq_true rfl) (by simp) rfl (fun c x hr => ?_) trivial
    simp only [go_sem, reduceIte, reduceCtorEq, Nat.reduceEqDiff, Nat.reduceLT, Nat.reduceLeDiff, Nat.reduceBEq, Nat.reduceAdd, Nat.reduceMul, Nat.reduceSub, Nat.reducePow, Int.reduceLE, Int.reduceLT, Int.reduceNeg, Int.reduceToNat, Int.reduceAdd, Int.reduceSub] at hr
    obtain ⟨rfl, rfl⟩ := hr
    exact ⟨rfl, endR⟩

end Go.SH
