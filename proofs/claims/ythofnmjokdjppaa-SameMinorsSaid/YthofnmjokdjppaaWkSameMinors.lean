/-
  That the code computes these functions: rotakeep_SameMinors. By a program of mine (shal.py). Conditions: none.
-/
import Derived.Test.YthofnmjokdjppaaAxT
import Derived.Test.YthofnmjokdjppaaAxR
import Derived.Test.YthofnmjokdjppaaAxJm
import Derived.Test.YthofnmjokdjppaaAxW
import Derived.Test.YthofnmjokdjppaaSkSameMinors
import Derived.Test.YthofnmjokdjppaaWpaxioms
import Derived.Test.YthofnmjokdjppaaWpminors
import Derived.Test.YthofnmjokdjppaaWprotakeep
import Derived.Test.YthofnmjokdjppaaWprotaref
import Derived.Test.YthofnmjokdjppaaWpsame
set_option linter.unusedVariables false
set_option linter.unusedSimpArgs false
namespace Go.SH
open Go Go.AX Go.AX.Try Go.Proofs

set_option maxRecDepth 8000 in
set_option maxHeartbeats 4000000 in
theorem W_rotakeep_SameMinors {m_0 : Int} {m_1 : List Int} {a1_0 : Int} {a1_1 : List Int} {a2 : Int} {a3 : Int} {r : Bool} (hK : rotakeep_SameMinors m_0 m_1 a1_0 a1_1 a2 a3 = some r) : Pure Try.prog 4 [.agg [.int .i64 m_0, .ints .i64 m_1], .agg [.int .i64 a1_0, .ints .i64 a1_1], .int .i64 a2, .int .i64 a3] (.bool r) [] := by
  refine Pure_introF tab_ok (n := 187) (l := [.tmp 8]) Try.func4 rfl rfl rfl (by simp) fun hfact w0 => ?_
  simp only [factL1, fact1, fact0, factL0, lo, hi, maxLen, and_true] at hfact
  unfold rotakeep_SameMinors at hK
  refine AWP_seq ?_
  -- region 0
  refine AWP_rg tab_ok [2, 3, 4, 5] fun c st' hr => ?_
  simp only [go_sem, reduceIte, reduceCtorEq, Nat.reduceEqDiff, Nat.reduceLT, Nat.reduceLeDiff, Nat.reduceBEq, Nat.reduceAdd, Nat.reduceMul, Nat.reduceSub, Nat.reducePow, Int.reduceLE, Int.reduceLT, Int.reduceNeg, Int.reduceToNat, Int.reduceAdd, Int.reduceSub] at hr
  obtain ⟨rfl, rfl⟩ := hr
  refine ⟨vc, ?_⟩
  with_reducible refine thenC_normal ?_
  refine AWP_seq ?_
  refine AWP_seq ?_
  -- region 1
  refine AWP_rl ?_
  replace hK := bind_s hK
  obtain ⟨y, hy, hK⟩ := hK
  refine AWPL_callK [2, 3, 4, 5, 36] (W_rotakeep_two hy) rfl rfl pcT rfl Try.call10 .nil (hscG trivial) (of_decide_eq_true rfl) (by first | rfl | simp [nI, nI1, nI0]) (by first | rfl | simp [nIB, nI0]) fun st' hr => ?_
  simp only [go_sem, reduceIte, reduceCtorEq, Nat.reduceEqDiff, Nat.reduceLT, Nat.reduceLeDiff, Nat.reduceBEq, Nat.reduceAdd, Nat.reduceMul, Nat.reduceSub, Nat.reducePow, Int.reduceLE, Int.reduceLT, Int.reduceNeg, Int.reduceToNat, Int.reduceAdd, Int.reduceSub] at hr
  subst hr
  clear hy
  refine AWPL_rn tab_ok 2 [2, 3, 4, 5, 36, 38] fun c st' hr => ?_
  simp only [go_sem, reduceIte, reduceCtorEq, Nat.reduceEqDiff, Nat.reduceLT, Nat.reduceLeDiff, Nat.reduceBEq, Nat.reduceAdd, Nat.reduceMul, Nat.reduceSub, Nat.reducePow, Int.reduceLE, Int.reduceLT, Int.reduceNeg, Int.reduceToNat, Int.reduceAdd, Int.reduceSub] at hr
  obtain ⟨rfl, rfl⟩ := hr
  refine ⟨vc, ?_⟩
  replace hK := bind_s hK
  obtain ⟨y1, hy, hK⟩ := hK
  refine AWPL_callK [2, 3, 4, 5, 39] (W_same_Minor hy) rfl rfl pcT rfl Try.call9 (.cons (.agg _ _ rfl (ArgsOk.get (.cons (.atom _ rfl) (.cons (.ownI _ _ _ _ _ y.2 rfl (by simp) (by first | simp | exact List.take_of_length_le (by simp))) .nil))).2) (.cons (.agg _ _ rfl (ArgsOk.get (.cons (.atom _ rfl) (.cons (.ownI _ _ _ _ _ [1, 2] rfl (by simp) (by first | simp | exact List.take_of_length_le (by simp))) .nil))).2) .nil)) (hscG trivial) (of_decide_eq_true rfl) (by first | rfl | simp [nI, nI1, nI0]) (by first | rfl | simp [nIB, nI0]) fun st' hr => ?_
  simp only [go_sem, reduceIte, reduceCtorEq, Nat.reduceEqDiff, Nat.reduceLT, Nat.reduceLeDiff, Nat.reduceBEq, Nat.reduceAdd, Nat.reduceMul, Nat.reduceSub, Nat.reducePow, Int.reduceLE, Int.reduceLT, Int.reduceNeg, Int.reduceToNat, Int.reduceAdd, Int.reduceSub] at hr
  subst hr
  clear hy
  refine AWPL_rn tab_ok 7 [2, 3, 4, 5, 9, 10, 11] fun c st' hr => ?_
  simp only [go_sem, reduceIte, reduceCtorEq, Nat.reduceEqDiff, Nat.reduceLT, Nat.reduceLeDiff, Nat.reduceBEq, Nat.reduceAdd, Nat.reduceMul, Nat.reduceSub, Nat.reducePow, Int.reduceLE, Int.reduceLT, Int.reduceNeg, Int.reduceToNat, Int.reduceAdd, Int.reduceSub] at hr
  obtain ⟨rfl, rfl⟩ := hr
  refine ⟨vc, ?_⟩
  refine AWPL_nil ?_
  with_reducible refine thenC_normal ?_
  refine AWP_seq ?_
  -- region 2
  refine AWP_rg tab_ok [2, 3, 4, 5, 52] fun c st' hr => ?_
  simp only [go_sem, reduceIte, reduceCtorEq, Nat.reduceEqDiff, Nat.reduceLT, Nat.reduceLeDiff, Nat.reduceBEq, Nat.reduceAdd, Nat.reduceMul, Nat.reduceSub, Nat.reducePow, Int.reduceLE, Int.reduceLT, Int.reduceNeg, Int.reduceToNat, Int.reduceAdd, Int.reduceSub] at hr
  obtain ⟨rfl, rfl⟩ := hr
  refine ⟨vc, ?_⟩
  with_reducible refine thenC_normal ?_
  refine AWP_condP (((y1.2.2 ≠ 0 ∨ y1.1 ≠ 1) ∨ y1.2.1 ≠ 2)) rfl bd (fun hb => ?_) (fun hb => ?_)
  · replace hK := ite_t hK hb
    refine AWP_seq ?_
    -- region 3
    refine AWP_rg tab_ok [8] fun c st' hr => ?_
    simp only [go_sem, reduceIte, reduceCtorEq, Nat.reduceEqDiff, Nat.reduceLT, Nat.reduceLeDiff, Nat.reduceBEq, Nat.reduceAdd, Nat.reduceMul, Nat.reduceSub, Nat.reducePow, Int.reduceLE, Int.reduceLT, Int.reduceNeg, Int.reduceToNat, Int.reduceAdd, Int.reduceSub] at hr
    obtain ⟨rfl, rfl⟩ := hr
    refine ⟨vc, ?_⟩
    with_reducible refine thenC_normal ?_
    refine AWP_ret ?_
    with_reducible refine thenC_ret ?_
    cases hK
    refine EndsRW [] (.inl rfl) (of_decide_eq_true rfl) (by simp) rfl (fun c x hr => ?_) trivial
    simp only [go_sem, reduceIte, reduceCtorEq, Nat.reduceEqDiff, Nat.reduceLT, Nat.reduceLeDiff, Nat.reduceBEq, Nat.reduceAdd, Nat.reduceMul, Nat.reduceSub, Nat.reducePow, Int.reduceLE, Int.reduceLT, Int.reduceNeg, Int.reduceToNat, Int.reduceAdd, Int.reduceSub] at hr
    obtain ⟨rfl, rfl⟩ := hr
    exact ⟨rfl, endR⟩
  · replace hK := ite_f hK hb
    refine AWP_skip ?_
    with_reducible refine thenC_normal ?_
    refine AWP_seq ?_
    -- region 4
    refine AWP_rl ?_
    refine AWPL_rn tab_ok 2 [2, 3, 4, 5, 54, 55] fun c st' hr => ?_
    simp only [go_sem, reduceIte, reduceCtorEq, Nat.reduceEqDiff, Nat.reduceLT, Nat.reduceLeDiff, Nat.reduceBEq, Nat.reduceAdd, Nat.reduceMul, Nat.reduceSub, Nat.reducePow, Int.reduceLE, Int.reduceLT, Int.reduceNeg, Int.reduceToNat, Int.reduceAdd, Int.reduceSub] at hr
    obtain ⟨rfl, rfl⟩ := hr
    refine ⟨vc, ?_⟩
    replace hK := bind_s hK
    obtain ⟨y2, hy, hK⟩ := hK
    refine AWPL_callK [2, 3, 4, 5, 56] (W_same_Minor hy) rfl rfl pcT rfl Try.call9 (.cons (.agg _ _ rfl (ArgsOk.get (.cons (.atom _ rfl) (.cons (.atom _ rfl) .nil))).2) (.cons (.agg _ _ rfl (ArgsOk.get (.cons (.atom _ rfl) (.cons (.atom _ rfl) .nil))).2) .nil)) (hscG trivial) (of_decide_eq_true rfl) (by first | rfl | simp [nI, nI1, nI0]) (by first | rfl | simp [nIB, nI0]) fun st' hr => ?_
    simp only [go_sem, reduceIte, reduceCtorEq, Nat.reduceEqDiff, Nat.reduceLT, Nat.reduceLeDiff, Nat.reduceBEq, Nat.reduceAdd, Nat.reduceMul, Nat.reduceSub, Nat.reducePow, Int.reduceLE, Int.reduceLT, Int.reduceNeg, Int.reduceToNat, Int.reduceAdd, Int.reduceSub] at hr
    subst hr
    clear hy
    refine AWPL_rn tab_ok 7 [2, 3, 4, 5, 12, 13, 14] fun c st' hr => ?_
    simp only [go_sem, reduceIte, reduceCtorEq, Nat.reduceEqDiff, Nat.reduceLT, Nat.reduceLeDiff, Nat.reduceBEq, Nat.reduceAdd, Nat.reduceMul, Nat.reduceSub, Nat.reducePow, Int.reduceLE, Int.reduceLT, Int.reduceNeg, Int.reduceToNat, Int.reduceAdd, Int.reduceSub] at hr
    obtain ⟨rfl, rfl⟩ := hr
    refine ⟨vc, ?_⟩
    refine AWPL_nil ?_
    with_reducible refine thenC_normal ?_
    refine AWP_seqJ (fun _ => ⟨187, [(2, .int .i64 a2), (3, .int .i64 a3), (4, .ptr 0 0 0), (5, .ptr 1 0 0), (12, .int .i64 y2.1), (13, .int .i64 y2.2.1), (14, .int .i64 y2.2.2)], [some (.gen 24 2 [[.int .i64 m_0, .ints .i64 m_1]]), some (.gen 24 2 [[.int .i64 a1_0, .ints .i64 a1_1]])]⟩) hK ?_ ?_
    · clear hK; intro j hK; try dsimp only at hK
      refine AWP_seq ?_
      -- region 5
      refine AWP_rg tab_ok [2, 3, 4, 5, 12, 13, 14, 61] fun c st' hr => ?_
      simp only [go_sem, reduceIte, reduceCtorEq, Nat.reduceEqDiff, Nat.reduceLT, Nat.reduceLeDiff, Nat.reduceBEq, Nat.reduceAdd, Nat.reduceMul, Nat.reduceSub, Nat.reducePow, Int.reduceLE, Int.reduceLT, Int.reduceNeg, Int.reduceToNat, Int.reduceAdd, Int.reduceSub] at hr
      obtain ⟨rfl, rfl⟩ := hr
      refine ⟨vc, ?_⟩
      with_reducible refine thenC_normal ?_
      refine AWP_condP (y2.2.2 = 0) rfl bd (fun hb1 => ?_) (fun hb1 => ?_)
      · replace hK := ite_t hK hb1
        refine AWP_seq ?_
        -- region 6
        refine AWP_rl ?_
        refine AWPL_rn tab_ok 2 [2, 3, 4, 5, 12, 13, 14, 63, 64] fun c st' hr => ?_
        simp only [go_sem, reduceIte, reduceCtorEq, Nat.reduceEqDiff, Nat.reduceLT, Nat.reduceLeDiff, Nat.reduceBEq, Nat.reduceAdd, Nat.reduceMul, Nat.reduceSub, Nat.reducePow, Int.reduceLE, Int.reduceLT, Int.reduceNeg, Int.reduceToNat, Int.reduceAdd, Int.reduceSub] at hr
        obtain ⟨rfl, rfl⟩ := hr
        refine ⟨vc, ?_⟩
        replace hK := bind_s hK
        obtain ⟨y3, hy, hK⟩ := hK
        refine AWPL_callK [2, 3, 4, 5, 12, 13, 14, 65] (W_minors_Delete hy) rfl rfl pcT rfl Try.call11 (.cons (.agg _ _ rfl (ArgsOk.get (.cons (.atom _ rfl) (.cons (.atom _ rfl) .nil))).2) (.cons (.atom _ rfl) .nil)) (hscG trivial) (of_decide_eq_true rfl) (by first | rfl | simp [nI, nI1, nI0]) (by first | rfl | simp [nIB, nI0]) fun st' hr => ?_
        simp only [go_sem, reduceIte, reduceCtorEq, Nat.reduceEqDiff, Nat.reduceLT, Nat.reduceLeDiff, Nat.reduceBEq, Nat.reduceAdd, Nat.reduceMul, Nat.reduceSub, Nat.reducePow, Int.reduceLE, Int.reduceLT, Int.reduceNeg, Int.reduceToNat, Int.reduceAdd, Int.reduceSub] at hr
        subst hr
        clear hy
        refine AWPL_rn tab_ok 6 [2, 3, 4, 5, 12, 13, 14, 15, 16] fun c st' hr => ?_
        simp only [go_sem, reduceIte, reduceCtorEq, Nat.reduceEqDiff, Nat.reduceLT, Nat.reduceLeDiff, Nat.reduceBEq, Nat.reduceAdd, Nat.reduceMul, Nat.reduceSub, Nat.reducePow, Int.reduceLE, Int.reduceLT, Int.reduceNeg, Int.reduceToNat, Int.reduceAdd, Int.reduceSub] at hr
        obtain ⟨rfl, rfl⟩ := hr
        refine ⟨vc, ?_⟩
        refine AWPL_nil ?_
        with_reducible refine thenC_normal ?_
        refine AWP_seq ?_
        -- region 7
        replace hK := bind_s hK
        obtain ⟨y4, hy, hK⟩ := hK
        replace hK := bind_s hK
        obtain ⟨y5, hy1, hK⟩ := hK
        refine AWP_drawJ ⟨187, [(2, .int .i64 a2), (3, .int .i64 a3), (4, .ptr 0 0 0), (5, .ptr 1 0 0), (12, .int .i64 y2.1), (13, .int .i64 y2.2.1), (14, .int .i64 y2.2.2), (16, .int .i64 y3.2.2), (17, .ptr 7 0 0), (18, .int .i64 y5.2.2)], [some (.gen 24 2 [[.int .i64 m_0, .ints .i64 m_1]]), some (.gen 24 2 [[.int .i64 a1_0, .ints .i64 a1_1]]), some (.ints 3 .i64 y.2), some (.ints 3 .i64 [1, 2]), some (.ints 3 .i64 y3.2.1), some (.gen 24 2 [[.int .i64 y3.1, .own 4 y3.2.1.length]]), some (.ints 3 .i64 y5.2.1), some (.gen 24 2 [[.int .i64 y5.1, .own 6 y5.2.1.length]])]⟩ mixed ?_ ?_
        · refine AWPB_memo fun AA hAA => ?_
          have hn : AA 0 #[true, true, true, true, true, true, true, true, true, true, true, true, true] ⟨187, [(2, .int .i64 a2), (3, .int .i64 a3), (4, .ptr 0 0 0), (5, .ptr 1 0 0), (12, .int .i64 y2.1), (13, .int .i64 y2.2.1), (14, .int .i64 y2.2.2), (16, .int .i64 y3.2.2), (17, .ptr 7 0 0), (18, .int .i64 y5.2.2)], [some (.gen 24 2 [[.int .i64 m_0, .ints .i64 m_1]]), some (.gen 24 2 [[.int .i64 a1_0, .ints .i64 a1_1]]), some (.ints 3 .i64 y.2), some (.ints 3 .i64 [1, 2]), some (.ints 3 .i64 y3.2.1), some (.gen 24 2 [[.int .i64 y3.1, .own 4 y3.2.1.length]]), some (.ints 3 .i64 y5.2.1), some (.gen 24 2 [[.int .i64 y5.1, .own 6 y5.2.1.length]])]⟩ := (hAA _ _ _).2 (by
            exact AWPB_end [0, 1, 2, 3, 4, 5, 6, 7] (by kernel_rfl) mkWk)
          have hn1 : AA 1 #[true, true, true, true, true, true, true, true, true, true, true, true, false] ⟨187, [(2, .int .i64 a2), (3, .int .i64 a3), (4, .ptr 0 0 0), (5, .ptr 1 0 0), (12, .int .i64 y2.1), (13, .int .i64 y2.2.1), (14, .int .i64 y2.2.2), (16, .int .i64 y3.2.2), (17, .ptr 7 0 0), (77, .int .i64 y5.2.2)], [some (.gen 24 2 [[.int .i64 m_0, .ints .i64 m_1]]), some (.gen 24 2 [[.int .i64 a1_0, .ints .i64 a1_1]]), some (.ints 3 .i64 y.2), some (.ints 3 .i64 [1, 2]), some (.ints 3 .i64 y3.2.1), some (.gen 24 2 [[.int .i64 y3.1, .own 4 y3.2.1.length]]), some (.ints 3 .i64 y5.2.1), some (.gen 24 2 [[.int .i64 y5.1, .own 6 y5.2.1.length]])]⟩ := (hAA _ _ _).2 (by
            refine AWPB_take tab_ok [2, 3, 4, 5, 12, 13, 14, 16, 17, 18] 12 _ rfl rfl (by kernel_rfl) fun c st' hr => ?_
            simp only [go_sem, reduceIte, reduceCtorEq, Nat.reduceEqDiff, Nat.reduceLT, Nat.reduceLeDiff, Nat.reduceBEq, Nat.reduceAdd, Nat.reduceMul, Nat.reduceSub, Nat.reducePow, Int.reduceLE, Int.reduceLT, Int.reduceNeg, Int.reduceToNat, Int.reduceAdd, Int.reduceSub] at hr
            obtain ⟨rfl, rfl⟩ := hr
            refine ⟨vc, ?_⟩
            exact AWPB_wk [0, 1, 2, 3, 4, 5, 6, 7] mkWk ((hAA _ _ _).1 hn))
          have hn2 : AA 2 #[true, true, true, true, true, true, true, true, true, true, true, false, false] ⟨187, [(2, .int .i64 a2), (3, .int .i64 a3), (4, .ptr 0 0 0), (5, .ptr 1 0 0), (12, .int .i64 y2.1), (13, .int .i64 y2.2.1), (14, .int .i64 y2.2.2), (16, .int .i64 y3.2.2), (17, .ptr 7 0 0), (76, .agg [.int .i64 y5.1, .own 6 y5.2.1.length]), (77, .int .i64 y5.2.2)], [some (.gen 24 2 [[.int .i64 m_0, .ints .i64 m_1]]), some (.gen 24 2 [[.int .i64 a1_0, .ints .i64 a1_1]]), some (.ints 3 .i64 y.2), some (.ints 3 .i64 [1, 2]), some (.ints 3 .i64 y3.2.1), some (.gen 24 2 [[.int .i64 y3.1, .own 4 y3.2.1.length]]), some (.ints 3 .i64 y5.2.1), some (.gen 24 2 [[.int .i64 0, .nil]])]⟩ := (hAA _ _ _).2 (by
            refine AWPB_one 11 _ (by kernel_rfl) rfl ?_
            refine AWPL_rn tab_ok 1 [2, 3, 4, 5, 12, 13, 14, 16, 17, 18, 77] fun c st' hr => ?_
            simp only [go_sem, reduceIte, reduceCtorEq, Nat.reduceEqDiff, Nat.reduceLT, Nat.reduceLeDiff, Nat.reduceBEq, Nat.reduceAdd, Nat.reduceMul, Nat.reduceSub, Nat.reducePow, Int.reduceLE, Int.reduceLT, Int.reduceNeg, Int.reduceToNat, Int.reduceAdd, Int.reduceSub] at hr
            obtain ⟨rfl, rfl⟩ := hr
            refine ⟨vc, ?_⟩
            refine AWPL_nil ?_
            refine QB_normal ?_
            exact AWPB_wk [0, 1, 2, 3, 4, 5, 6, 7] mkWk ((hAA _ _ _).1 hn1))
          have hn3 : AA 3 #[true, true, true, true, true, true, true, true, true, true, false, false, false] ⟨187, [(2, .int .i64 a2), (3, .int .i64 a3), (4, .ptr 0 0 0), (5, .ptr 1 0 0), (12, .int .i64 y2.1), (13, .int .i64 y2.2.1), (14, .int .i64 y2.2.2), (16, .int .i64 y3.2.2), (76, .agg [.int .i64 y5.1, .own 6 y5.2.1.length]), (77, .int .i64 y5.2.2)], [some (.gen 24 2 [[.int .i64 m_0, .ints .i64 m_1]]), some (.gen 24 2 [[.int .i64 a1_0, .ints .i64 a1_1]]), some (.ints 3 .i64 y.2), some (.ints 3 .i64 [1, 2]), some (.ints 3 .i64 y3.2.1), some (.gen 24 2 [[.int .i64 y3.1, .own 4 y3.2.1.length]]), some (.ints 3 .i64 y5.2.1)]⟩ := (hAA _ _ _).2 (by
            refine AWPB_one 10 _ (by kernel_rfl) rfl ?_
            refine AWPL_rn tab_ok 1 [2, 3, 4, 5, 12, 13, 14, 16, 17, 18, 76, 77] fun c st' hr => ?_
            simp only [go_sem, reduceIte, reduceCtorEq, Nat.reduceEqDiff, Nat.reduceLT, Nat.reduceLeDiff, Nat.reduceBEq, Nat.reduceAdd, Nat.reduceMul, Nat.reduceSub, Nat.reducePow, Int.reduceLE, Int.reduceLT, Int.reduceNeg, Int.reduceToNat, Int.reduceAdd, Int.reduceSub] at hr
            obtain ⟨rfl, rfl⟩ := hr
            refine ⟨vc, ?_⟩
            refine AWPL_nil ?_
            refine QB_normal ?_
            exact AWPB_wk [0, 1, 2, 3, 4, 5, 6, 7] mkWk ((hAA _ _ _).1 hn2))
          have hn4 : AA 4 #[true, true, true, true, true, true, true, true, true, false, false, false, false] ⟨187, [(2, .int .i64 a2), (3, .int .i64 a3), (4, .ptr 0 0 0), (5, .ptr 1 0 0), (12, .int .i64 y2.1), (13, .int .i64 y2.2.1), (14, .int .i64 y2.2.2), (16, .int .i64 y3.2.2), (68, .tup [.agg [.int .i64 y5.1, .own 6 y5.2.1.length], .int .i64 y5.2.2]), (76, .agg [.int .i64 y5.1, .own 6 y5.2.1.length])], [some (.gen 24 2 [[.int .i64 m_0, .ints .i64 m_1]]), some (.gen 24 2 [[.int .i64 a1_0, .ints .i64 a1_1]]), some (.ints 3 .i64 y.2), some (.ints 3 .i64 [1, 2]), some (.ints 3 .i64 y3.2.1), some (.gen 24 2 [[.int .i64 y3.1, .own 4 y3.2.1.length]]), some (.ints 3 .i64 y5.2.1)]⟩ := (hAA _ _ _).2 (by
            refine AWPB_take tab_ok [2, 3, 4, 5, 12, 13, 14, 16, 17, 18, 76, 77] 9 _ rfl rfl (by kernel_rfl) fun c st' hr => ?_
            simp only [go_sem, reduceIte, reduceCtorEq, Nat.reduceEqDiff, Nat.reduceLT, Nat.reduceLeDiff, Nat.reduceBEq, Nat.reduceAdd, Nat.reduceMul, Nat.reduceSub, Nat.reducePow, Int.reduceLE, Int.reduceLT, Int.reduceNeg, Int.reduceToNat, Int.reduceAdd, Int.reduceSub] at hr
            obtain ⟨rfl, rfl⟩ := hr
            refine ⟨vc, ?_⟩
            exact AWPB_wk [0, 1, 2, 3, 4, 5, 6] mkWk ((hAA _ _ _).1 hn3))
          have hn5 : AA 5 #[true, true, true, true, true, true, true, true, false, false, false, false, false] ⟨187, [(2, .int .i64 a2), (3, .int .i64 a3), (4, .ptr 0 0 0), (5, .ptr 1 0 0), (12, .int .i64 y2.1), (13, .int .i64 y2.2.1), (14, .int .i64 y2.2.2), (16, .int .i64 y3.2.2), (68, .tup [.agg [.int .i64 y5.1, .own 6 y5.2.1.length], .int .i64 y5.2.2])], [some (.gen 24 2 [[.int .i64 m_0, .ints .i64 m_1]]), some (.gen 24 2 [[.int .i64 a1_0, .ints .i64 a1_1]]), some (.ints 3 .i64 y.2), some (.ints 3 .i64 [1, 2]), some (.ints 3 .i64 y3.2.1), some (.gen 24 2 [[.int .i64 y3.1, .own 4 y3.2.1.length]]), some (.ints 3 .i64 y5.2.1)]⟩ := (hAA _ _ _).2 (by
            refine AWPB_take tab_ok [2, 3, 4, 5, 12, 13, 14, 16, 17, 18, 68, 76, 77] 8 _ rfl rfl (by kernel_rfl) fun c st' hr => ?_
            simp only [go_sem, reduceIte, reduceCtorEq, Nat.reduceEqDiff, Nat.reduceLT, Nat.reduceLeDiff, Nat.reduceBEq, Nat.reduceAdd, Nat.reduceMul, Nat.reduceSub, Nat.reducePow, Int.reduceLE, Int.reduceLT, Int.reduceNeg, Int.reduceToNat, Int.reduceAdd, Int.reduceSub] at hr
            obtain ⟨rfl, rfl⟩ := hr
            refine ⟨vc, ?_⟩
            exact AWPB_wk [0, 1, 2, 3, 4, 5, 6] mkWk ((hAA _ _ _).1 hn4))
          have hn6 : AA 6 #[true, true, true, true, true, true, true, false, false, false, false, false, false] ⟨187, [(2, .int .i64 a2), (3, .int .i64 a3), (4, .ptr 0 0 0), (5, .ptr 1 0 0), (12, .int .i64 y2.1), (13, .int .i64 y2.2.1), (14, .int .i64 y2.2.2), (16, .int .i64 y3.2.2), (75, .tup [.agg [.int .i64 y5.1, .own 6 y5.2.1.length], .int .i64 y5.2.2])], [some (.gen 24 2 [[.int .i64 m_0, .ints .i64 m_1]]), some (.gen 24 2 [[.int .i64 a1_0, .ints .i64 a1_1]]), some (.ints 3 .i64 y.2), some (.ints 3 .i64 [1, 2]), some (.ints 3 .i64 y3.2.1), some (.gen 24 2 [[.int .i64 y3.1, .own 4 y3.2.1.length]]), some (.ints 3 .i64 y5.2.1)]⟩ := (hAA _ _ _).2 (by
            refine AWPB_take tab_ok [2, 3, 4, 5, 12, 13, 14, 16, 17, 18, 68, 76, 77] 7 _ rfl rfl (by kernel_rfl) fun c st' hr => ?_
            simp only [go_sem, reduceIte, reduceCtorEq, Nat.reduceEqDiff, Nat.reduceLT, Nat.reduceLeDiff, Nat.reduceBEq, Nat.reduceAdd, Nat.reduceMul, Nat.reduceSub, Nat.reducePow, Int.reduceLE, Int.reduceLT, Int.reduceNeg, Int.reduceToNat, Int.reduceAdd, Int.reduceSub] at hr
            obtain ⟨rfl, rfl⟩ := hr
            refine ⟨vc, ?_⟩
            exact AWPB_wk [0, 1, 2, 3, 4, 5, 6] mkWk ((hAA _ _ _).1 hn5))
          have hn7 : AA 3 #[true, true, true, true, true, true, true, true, true, false, true, false, false] ⟨187, [(2, .int .i64 a2), (3, .int .i64 a3), (4, .ptr 0 0 0), (5, .ptr 1 0 0), (12, .int .i64 y2.1), (13, .int .i64 y2.2.1), (14, .int .i64 y2.2.2), (16, .int .i64 y3.2.2), (17, .ptr 6 0 0), (68, .tup [.agg [.int .i64 y5.1, .own 7 y5.2.1.length], .int .i64 y5.2.2]), (76, .agg [.int .i64 y5.1, .own 7 y5.2.1.length])], [some (.gen 24 2 [[.int .i64 m_0, .ints .i64 m_1]]), some (.gen 24 2 [[.int .i64 a1_0, .ints .i64 a1_1]]), some (.ints 3 .i64 y.2), some (.ints 3 .i64 [1, 2]), some (.ints 3 .i64 y3.2.1), some (.gen 24 2 [[.int .i64 y3.1, .own 4 y3.2.1.length]]), some (.gen 24 2 [[.int .i64 0, .nil]]), some (.ints 3 .i64 y5.2.1)]⟩ := (hAA _ _ _).2 (by
            refine AWPB_take tab_ok [2, 3, 4, 5, 12, 13, 14, 16, 17, 18, 76, 77] 9 _ rfl rfl (by kernel_rfl) fun c st' hr => ?_
            simp only [go_sem, reduceIte, reduceCtorEq, Nat.reduceEqDiff, Nat.reduceLT, Nat.reduceLeDiff, Nat.reduceBEq, Nat.reduceAdd, Nat.reduceMul, Nat.reduceSub, Nat.reducePow, Int.reduceLE, Int.reduceLT, Int.reduceNeg, Int.reduceToNat, Int.reduceAdd, Int.reduceSub] at hr
            obtain ⟨rfl, rfl⟩ := hr
            refine ⟨vc, ?_⟩
            exact AWPB_wk [0, 1, 2, 3, 4, 5, 7, 6] mkWk ((hAA _ _ _).1 hn2))
          have hn8 : AA 4 #[true, true, true, true, true, true, true, true, false, false, true, false, false] ⟨187, [(2, .int .i64 a2), (3, .int .i64 a3), (4, .ptr 0 0 0), (5, .ptr 1 0 0), (12, .int .i64 y2.1), (13, .int .i64 y2.2.1), (14, .int .i64 y2.2.2), (16, .int .i64 y3.2.2), (17, .ptr 6 0 0), (68, .tup [.agg [.int .i64 y5.1, .own 7 y5.2.1.length], .int .i64 y5.2.2])], [some (.gen 24 2 [[.int .i64 m_0, .ints .i64 m_1]]), some (.gen 24 2 [[.int .i64 a1_0, .ints .i64 a1_1]]), some (.ints 3 .i64 y.2), some (.ints 3 .i64 [1, 2]), some (.ints 3 .i64 y3.2.1), some (.gen 24 2 [[.int .i64 y3.1, .own 4 y3.2.1.length]]), some (.gen 24 2 [[.int .i64 0, .nil]]), some (.ints 3 .i64 y5.2.1)]⟩ := (hAA _ _ _).2 (by
            refine AWPB_take tab_ok [2, 3, 4, 5, 12, 13, 14, 16, 17, 18, 68, 76, 77] 8 _ rfl rfl (by kernel_rfl) fun c st' hr => ?_
            simp only [go_sem, reduceIte, reduceCtorEq, Nat.reduceEqDiff, Nat.reduceLT, Nat.reduceLeDiff, Nat.reduceBEq, Nat.reduceAdd, Nat.reduceMul, Nat.reduceSub, Nat.reducePow, Int.reduceLE, Int.reduceLT, Int.reduceNeg, Int.reduceToNat, Int.reduceAdd, Int.reduceSub] at hr
            obtain ⟨rfl, rfl⟩ := hr
            refine ⟨vc, ?_⟩
            exact AWPB_wk [0, 1, 2, 3, 4, 5, 6, 7] mkWk ((hAA _ _ _).1 hn7))
          have hn9 : AA 5 #[true, true, true, true, true, true, true, false, false, false, true, false, false] ⟨187, [(2, .int .i64 a2), (3, .int .i64 a3), (4, .ptr 0 0 0), (5, .ptr 1 0 0), (12, .int .i64 y2.1), (13, .int .i64 y2.2.1), (14, .int .i64 y2.2.2), (16, .int .i64 y3.2.2), (17, .ptr 6 0 0), (75, .tup [.agg [.int .i64 y5.1, .own 7 y5.2.1.length], .int .i64 y5.2.2])], [some (.gen 24 2 [[.int .i64 m_0, .ints .i64 m_1]]), some (.gen 24 2 [[.int .i64 a1_0, .ints .i64 a1_1]]), some (.ints 3 .i64 y.2), some (.ints 3 .i64 [1, 2]), some (.ints 3 .i64 y3.2.1), some (.gen 24 2 [[.int .i64 y3.1, .own 4 y3.2.1.length]]), some (.gen 24 2 [[.int .i64 0, .nil]]), some (.ints 3 .i64 y5.2.1)]⟩ := (hAA _ _ _).2 (by
            refine AWPB_take tab_ok [2, 3, 4, 5, 12, 13, 14, 16, 17, 18, 68, 76, 77] 7 _ rfl rfl (by kernel_rfl) fun c st' hr => ?_
            simp only [go_sem, reduceIte, reduceCtorEq, Nat.reduceEqDiff, Nat.reduceLT, Nat.reduceLeDiff, Nat.reduceBEq, Nat.reduceAdd, Nat.reduceMul, Nat.reduceSub, Nat.reducePow, Int.reduceLE, Int.reduceLT, Int.reduceNeg, Int.reduceToNat, Int.reduceAdd, Int.reduceSub] at hr
            obtain ⟨rfl, rfl⟩ := hr
            refine ⟨vc, ?_⟩
            exact AWPB_wk [0, 1, 2, 3, 4, 5, 6, 7] mkWk ((hAA _ _ _).1 hn8))
          have hn10 : AA 6 #[true, true, true, true, true, true, false, false, false, false, true, false, false] ⟨187, [(2, .int .i64 a2), (3, .int .i64 a3), (4, .ptr 0 0 0), (5, .ptr 1 0 0), (12, .int .i64 y2.1), (13, .int .i64 y2.2.1), (14, .int .i64 y2.2.2), (16, .int .i64 y3.2.2), (17, .ptr 6 0 0), (69, .agg [.int .i64 y3.1, .own 4 y3.2.1.length]), (74, .int .i64 y4)], [some (.gen 24 2 [[.int .i64 m_0, .ints .i64 m_1]]), some (.gen 24 2 [[.int .i64 a1_0, .ints .i64 a1_1]]), some (.ints 3 .i64 y.2), some (.ints 3 .i64 [1, 2]), some (.ints 3 .i64 y3.2.1), some (.gen 24 2 [[.int .i64 y3.1, .own 4 y3.2.1.length]]), some (.gen 24 2 [[.int .i64 0, .nil]])]⟩ := (hAA _ _ _).2 (by
            refine AWPB_one 6 _ (by kernel_rfl) rfl ?_
            refine AWPL_callK [2, 3, 4, 5, 12, 13, 14, 16, 17, 18, 68, 75, 76, 77] (W_minors_Contract hy1) rfl rfl pcT rfl Try.call12 (.cons (.agg _ _ rfl (ArgsOk.get (.cons (.atom _ rfl) (.cons (.ownI _ _ _ _ _ y3.2.1 rfl (by simp) (by first | simp | exact List.take_of_length_le (by simp))) .nil))).2) (.cons (.atom _ rfl) .nil)) (hscG trivial) (of_decide_eq_true rfl) (by first | rfl | simp [nI, nI1, nI0]) (by first | rfl | simp [nIB, nI0]) fun st' hr => ?_
            simp only [go_sem, reduceIte, reduceCtorEq, Nat.reduceEqDiff, Nat.reduceLT, Nat.reduceLeDiff, Nat.reduceBEq, Nat.reduceAdd, Nat.reduceMul, Nat.reduceSub, Nat.reducePow, Int.reduceLE, Int.reduceLT, Int.reduceNeg, Int.reduceToNat, Int.reduceAdd, Int.reduceSub] at hr
            subst hr
            refine AWPL_nil ?_
            refine QB_normal ?_
            exact AWPB_wk [0, 1, 2, 3, 4, 5, 6, 7] mkWk ((hAA _ _ _).1 hn9))
          have hn11 : AA 7 #[true, true, true, true, true, true, false, false, false, false, false, false, false] ⟨187, [(2, .int .i64 a2), (3, .int .i64 a3), (4, .ptr 0 0 0), (5, .ptr 1 0 0), (12, .int .i64 y2.1), (13, .int .i64 y2.2.1), (14, .int .i64 y2.2.2), (16, .int .i64 y3.2.2), (69, .agg [.int .i64 y3.1, .own 4 y3.2.1.length]), (74, .int .i64 y4)], [some (.gen 24 2 [[.int .i64 m_0, .ints .i64 m_1]]), some (.gen 24 2 [[.int .i64 a1_0, .ints .i64 a1_1]]), some (.ints 3 .i64 y.2), some (.ints 3 .i64 [1, 2]), some (.ints 3 .i64 y3.2.1), some (.gen 24 2 [[.int .i64 y3.1, .own 4 y3.2.1.length]])]⟩ := (hAA _ _ _).2 (by
            refine AWPB_two 6 10 _ _ (by kernel_rfl) rfl rfl ?_ ?_
            · skip
              refine AWPL_callK [2, 3, 4, 5, 12, 13, 14, 16, 17, 18, 68, 75, 76, 77] (W_minors_Contract hy1) rfl rfl pcT rfl Try.call12 (.cons (.agg _ _ rfl (ArgsOk.get (.cons (.atom _ rfl) (.cons (.ownI _ _ _ _ _ y3.2.1 rfl (by simp) (by first | simp | exact List.take_of_length_le (by simp))) .nil))).2) (.cons (.atom _ rfl) .nil)) (hscG trivial) (of_decide_eq_true rfl) (by first | rfl | simp [nI, nI1, nI0]) (by first | rfl | simp [nIB, nI0]) fun st' hr => ?_
              simp only [go_sem, reduceIte, reduceCtorEq, Nat.reduceEqDiff, Nat.reduceLT, Nat.reduceLeDiff, Nat.reduceBEq, Nat.reduceAdd, Nat.reduceMul, Nat.reduceSub, Nat.reducePow, Int.reduceLE, Int.reduceLT, Int.reduceNeg, Int.reduceToNat, Int.reduceAdd, Int.reduceSub] at hr
              subst hr
              refine AWPL_nil ?_
              refine QB_normal ?_
              exact AWPB_wk [0, 1, 2, 3, 4, 5, 6] mkWk ((hAA _ _ _).1 hn6)
            · skip
              refine AWPL_rn tab_ok 1 [2, 3, 4, 5, 12, 13, 14, 16, 17, 18, 68, 69, 74, 75, 76, 77] fun c st' hr => ?_
              simp only [go_sem, reduceIte, reduceCtorEq, Nat.reduceEqDiff, Nat.reduceLT, Nat.reduceLeDiff, Nat.reduceBEq, Nat.reduceAdd, Nat.reduceMul, Nat.reduceSub, Nat.reducePow, Int.reduceLE, Int.reduceLT, Int.reduceNeg, Int.reduceToNat, Int.reduceAdd, Int.reduceSub] at hr
              obtain ⟨rfl, rfl⟩ := hr
              refine ⟨vc, ?_⟩
              refine AWPL_nil ?_
              refine QB_normal ?_
              exact AWPB_wk [0, 1, 2, 3, 4, 5, 6] mkWk ((hAA _ _ _).1 hn10))
          have hn12 : AA 7 #[true, true, true, true, true, false, false, false, false, false, true, false, false] ⟨187, [(2, .int .i64 a2), (3, .int .i64 a3), (4, .ptr 0 0 0), (5, .ptr 1 0 0), (12, .int .i64 y2.1), (13, .int .i64 y2.2.1), (14, .int .i64 y2.2.2), (16, .int .i64 y3.2.2), (17, .ptr 6 0 0), (69, .agg [.int .i64 y3.1, .own 4 y3.2.1.length]), (71, .int .i64 m_0), (72, .int .i64 y2.1), (73, .int .i64 y2.2.1)], [some (.gen 24 2 [[.int .i64 m_0, .ints .i64 m_1]]), some (.gen 24 2 [[.int .i64 a1_0, .ints .i64 a1_1]]), some (.ints 3 .i64 y.2), some (.ints 3 .i64 [1, 2]), some (.ints 3 .i64 y3.2.1), some (.gen 24 2 [[.int .i64 y3.1, .own 4 y3.2.1.length]]), some (.gen 24 2 [[.int .i64 0, .nil]])]⟩ := (hAA _ _ _).2 (by
            refine AWPB_one 5 _ (by kernel_rfl) rfl ?_
            refine AWPL_callK [2, 3, 4, 5, 12, 13, 14, 16, 17, 18, 68, 69, 74, 75, 76, 77] (W_rotaref_Shifted hy) rfl rfl pcT rfl Try.call13 (.cons (.atom _ rfl) (.cons (.atom _ rfl) (.cons (.atom _ rfl) .nil))) (hscG trivial) (of_decide_eq_true rfl) (by first | rfl | simp [nI, nI1, nI0]) (by first | rfl | simp [nIB, nI0]) fun st' hr => ?_
            simp only [go_sem, reduceIte, reduceCtorEq, Nat.reduceEqDiff, Nat.reduceLT, Nat.reduceLeDiff, Nat.reduceBEq, Nat.reduceAdd, Nat.reduceMul, Nat.reduceSub, Nat.reducePow, Int.reduceLE, Int.reduceLT, Int.reduceNeg, Int.reduceToNat, Int.reduceAdd, Int.reduceSub] at hr
            subst hr
            refine AWPL_nil ?_
            refine QB_normal ?_
            exact AWPB_wk [0, 1, 2, 3, 4, 5, 6] mkWk ((hAA _ _ _).1 hn10))
          have hn13 : AA 8 #[true, true, true, true, true, false, false, false, false, false, false, false, false] ⟨187, [(2, .int .i64 a2), (3, .int .i64 a3), (4, .ptr 0 0 0), (5, .ptr 1 0 0), (12, .int .i64 y2.1), (13, .int .i64 y2.2.1), (14, .int .i64 y2.2.2), (16, .int .i64 y3.2.2), (69, .agg [.int .i64 y3.1, .own 4 y3.2.1.length]), (71, .int .i64 m_0), (72, .int .i64 y2.1), (73, .int .i64 y2.2.1)], [some (.gen 24 2 [[.int .i64 m_0, .ints .i64 m_1]]), some (.gen 24 2 [[.int .i64 a1_0, .ints .i64 a1_1]]), some (.ints 3 .i64 y.2), some (.ints 3 .i64 [1, 2]), some (.ints 3 .i64 y3.2.1), some (.gen 24 2 [[.int .i64 y3.1, .own 4 y3.2.1.length]])]⟩ := (hAA _ _ _).2 (by
            refine AWPB_two 5 10 _ _ (by kernel_rfl) rfl rfl ?_ ?_
            · skip
              refine AWPL_callK [2, 3, 4, 5, 12, 13, 14, 16, 17, 18, 68, 69, 74, 75, 76, 77] (W_rotaref_Shifted hy) rfl rfl pcT rfl Try.call13 (.cons (.atom _ rfl) (.cons (.atom _ rfl) (.cons (.atom _ rfl) .nil))) (hscG trivial) (of_decide_eq_true rfl) (by first | rfl | simp [nI, nI1, nI0]) (by first | rfl | simp [nIB, nI0]) fun st' hr => ?_
              simp only [go_sem, reduceIte, reduceCtorEq, Nat.reduceEqDiff, Nat.reduceLT, Nat.reduceLeDiff, Nat.reduceBEq, Nat.reduceAdd, Nat.reduceMul, Nat.reduceSub, Nat.reducePow, Int.reduceLE, Int.reduceLT, Int.reduceNeg, Int.reduceToNat, Int.reduceAdd, Int.reduceSub] at hr
              subst hr
              refine AWPL_nil ?_
              refine QB_normal ?_
              exact AWPB_wk [0, 1, 2, 3, 4, 5] mkWk ((hAA _ _ _).1 hn11)
            · skip
              refine AWPL_rn tab_ok 1 [2, 3, 4, 5, 12, 13, 14, 16, 17, 18, 68, 69, 71, 72, 73, 74, 75, 76, 77] fun c st' hr => ?_
              simp only [go_sem, reduceIte, reduceCtorEq, Nat.reduceEqDiff, Nat.reduceLT, Nat.reduceLeDiff, Nat.reduceBEq, Nat.reduceAdd, Nat.reduceMul, Nat.reduceSub, Nat.reducePow, Int.reduceLE, Int.reduceLT, Int.reduceNeg, Int.reduceToNat, Int.reduceAdd, Int.reduceSub] at hr
              obtain ⟨rfl, rfl⟩ := hr
              refine ⟨vc, ?_⟩
              refine AWPL_nil ?_
              refine QB_normal ?_
              exact AWPB_wk [0, 1, 2, 3, 4, 5, 6] mkWk ((hAA _ _ _).1 hn12))
          have hn14 : AA 8 #[true, true, false, true, true, false, false, false, false, false, true, false, false] ⟨187, [(2, .int .i64 a2), (3, .int .i64 a3), (4, .ptr 0 0 0), (5, .ptr 1 0 0), (12, .int .i64 y2.1), (13, .int .i64 y2.2.1), (14, .int .i64 y2.2.2), (16, .int .i64 y3.2.2), (17, .ptr 6 0 0), (69, .agg [.int .i64 y3.1, .own 4 y3.2.1.length]), (70, .ptr 0 0 0), (72, .int .i64 y2.1), (73, .int .i64 y2.2.1)], [some (.gen 24 2 [[.int .i64 m_0, .ints .i64 m_1]]), some (.gen 24 2 [[.int .i64 a1_0, .ints .i64 a1_1]]), some (.ints 3 .i64 y.2), some (.ints 3 .i64 [1, 2]), some (.ints 3 .i64 y3.2.1), some (.gen 24 2 [[.int .i64 y3.1, .own 4 y3.2.1.length]]), some (.gen 24 2 [[.int .i64 0, .nil]])]⟩ := (hAA _ _ _).2 (by
            refine AWPB_one 2 _ (by kernel_rfl) rfl ?_
            refine AWPL_rn tab_ok 1 [2, 3, 4, 5, 12, 13, 14, 16, 17, 18, 68, 69, 71, 72, 73, 74, 75, 76, 77] fun c st' hr => ?_
            simp only [go_sem, reduceIte, reduceCtorEq, Nat.reduceEqDiff, Nat.reduceLT, Nat.reduceLeDiff, Nat.reduceBEq, Nat.reduceAdd, Nat.reduceMul, Nat.reduceSub, Nat.reducePow, Int.reduceLE, Int.reduceLT, Int.reduceNeg, Int.reduceToNat, Int.reduceAdd, Int.reduceSub] at hr
            obtain ⟨rfl, rfl⟩ := hr
            refine ⟨vc, ?_⟩
            refine AWPL_nil ?_
            refine QB_normal ?_
            exact AWPB_wk [0, 1, 2, 3, 4, 5, 6] mkWk ((hAA _ _ _).1 hn12))
          have hn15 : AA 9 #[true, true, false, true, true, false, false, false, false, false, false, false, false] ⟨187, [(2, .int .i64 a2), (3, .int .i64 a3), (4, .ptr 0 0 0), (5, .ptr 1 0 0), (12, .int .i64 y2.1), (13, .int .i64 y2.2.1), (14, .int .i64 y2.2.2), (16, .int .i64 y3.2.2), (69, .agg [.int .i64 y3.1, .own 4 y3.2.1.length]), (70, .ptr 0 0 0), (72, .int .i64 y2.1), (73, .int .i64 y2.2.1)], [some (.gen 24 2 [[.int .i64 m_0, .ints .i64 m_1]]), some (.gen 24 2 [[.int .i64 a1_0, .ints .i64 a1_1]]), some (.ints 3 .i64 y.2), some (.ints 3 .i64 [1, 2]), some (.ints 3 .i64 y3.2.1), some (.gen 24 2 [[.int .i64 y3.1, .own 4 y3.2.1.length]])]⟩ := (hAA _ _ _).2 (by
            refine AWPB_two 2 10 _ _ (by kernel_rfl) rfl rfl ?_ ?_
            · skip
              refine AWPL_rn tab_ok 1 [2, 3, 4, 5, 12, 13, 14, 16, 17, 18, 68, 69, 71, 72, 73, 74, 75, 76, 77] fun c st' hr => ?_
              simp only [go_sem, reduceIte, reduceCtorEq, Nat.reduceEqDiff, Nat.reduceLT, Nat.reduceLeDiff, Nat.reduceBEq, Nat.reduceAdd, Nat.reduceMul, Nat.reduceSub, Nat.reducePow, Int.reduceLE, Int.reduceLT, Int.reduceNeg, Int.reduceToNat, Int.reduceAdd, Int.reduceSub] at hr
              obtain ⟨rfl, rfl⟩ := hr
              refine ⟨vc, ?_⟩
              refine AWPL_nil ?_
              refine QB_normal ?_
              exact AWPB_wk [0, 1, 2, 3, 4, 5] mkWk ((hAA _ _ _).1 hn13)
            · skip
              refine AWPL_rn tab_ok 1 [2, 3, 4, 5, 12, 13, 14, 16, 17, 18, 68, 69, 70, 71, 72, 73, 74, 75, 76, 77] fun c st' hr => ?_
              simp only [go_sem, reduceIte, reduceCtorEq, Nat.reduceEqDiff, Nat.reduceLT, Nat.reduceLeDiff, Nat.reduceBEq, Nat.reduceAdd, Nat.reduceMul, Nat.reduceSub, Nat.reducePow, Int.reduceLE, Int.reduceLT, Int.reduceNeg, Int.reduceToNat, Int.reduceAdd, Int.reduceSub] at hr
              obtain ⟨rfl, rfl⟩ := hr
              refine ⟨vc, ?_⟩
              refine AWPL_nil ?_
              refine QB_normal ?_
              exact AWPB_wk [0, 1, 2, 3, 4, 5, 6] mkWk ((hAA _ _ _).1 hn14))
          have hn16 : AA 9 #[true, false, false, true, true, false, false, false, false, false, true, false, false] ⟨187, [(2, .int .i64 a2), (3, .int .i64 a3), (4, .ptr 0 0 0), (5, .ptr 1 0 0), (12, .int .i64 y2.1), (13, .int .i64 y2.2.1), (14, .int .i64 y2.2.2), (16, .int .i64 y3.2.2), (17, .ptr 6 0 0), (69, .agg [.int .i64 y3.1, .own 4 y3.2.1.length]), (72, .int .i64 y2.1), (73, .int .i64 y2.2.1)], [some (.gen 24 2 [[.int .i64 m_0, .ints .i64 m_1]]), some (.gen 24 2 [[.int .i64 a1_0, .ints .i64 a1_1]]), some (.ints 3 .i64 y.2), some (.ints 3 .i64 [1, 2]), some (.ints 3 .i64 y3.2.1), some (.gen 24 2 [[.int .i64 y3.1, .own 4 y3.2.1.length]]), some (.gen 24 2 [[.int .i64 0, .nil]])]⟩ := (hAA _ _ _).2 (by
            refine AWPB_one 1 _ (by kernel_rfl) rfl ?_
            refine AWPL_rn tab_ok 1 [2, 3, 4, 5, 12, 13, 14, 16, 17, 18, 68, 69, 70, 71, 72, 73, 74, 75, 76, 77] fun c st' hr => ?_
            simp only [go_sem, reduceIte, reduceCtorEq, Nat.reduceEqDiff, Nat.reduceLT, Nat.reduceLeDiff, Nat.reduceBEq, Nat.reduceAdd, Nat.reduceMul, Nat.reduceSub, Nat.reducePow, Int.reduceLE, Int.reduceLT, Int.reduceNeg, Int.reduceToNat, Int.reduceAdd, Int.reduceSub] at hr
            obtain ⟨rfl, rfl⟩ := hr
            refine ⟨vc, ?_⟩
            refine AWPL_nil ?_
            refine QB_normal ?_
            exact AWPB_wk [0, 1, 2, 3, 4, 5, 6] mkWk ((hAA _ _ _).1 hn14))
          have hn17 : AA 10 #[true, false, false, true, true, false, false, false, false, false, false, false, false] ⟨187, [(2, .int .i64 a2), (3, .int .i64 a3), (4, .ptr 0 0 0), (5, .ptr 1 0 0), (12, .int .i64 y2.1), (13, .int .i64 y2.2.1), (14, .int .i64 y2.2.2), (16, .int .i64 y3.2.2), (69, .agg [.int .i64 y3.1, .own 4 y3.2.1.length]), (72, .int .i64 y2.1), (73, .int .i64 y2.2.1)], [some (.gen 24 2 [[.int .i64 m_0, .ints .i64 m_1]]), some (.gen 24 2 [[.int .i64 a1_0, .ints .i64 a1_1]]), some (.ints 3 .i64 y.2), some (.ints 3 .i64 [1, 2]), some (.ints 3 .i64 y3.2.1), some (.gen 24 2 [[.int .i64 y3.1, .own 4 y3.2.1.length]])]⟩ := (hAA _ _ _).2 (by
            refine AWPB_two 1 10 _ _ (by kernel_rfl) rfl rfl ?_ ?_
            · skip
              refine AWPL_rn tab_ok 1 [2, 3, 4, 5, 12, 13, 14, 16, 17, 18, 68, 69, 70, 71, 72, 73, 74, 75, 76, 77] fun c st' hr => ?_
              simp only [go_sem, reduceIte, reduceCtorEq, Nat.reduceEqDiff, Nat.reduceLT, Nat.reduceLeDiff, Nat.reduceBEq, Nat.reduceAdd, Nat.reduceMul, Nat.reduceSub, Nat.reducePow, Int.reduceLE, Int.reduceLT, Int.reduceNeg, Int.reduceToNat, Int.reduceAdd, Int.reduceSub] at hr
              obtain ⟨rfl, rfl⟩ := hr
              refine ⟨vc, ?_⟩
              refine AWPL_nil ?_
              refine QB_normal ?_
              exact AWPB_wk [0, 1, 2, 3, 4, 5] mkWk ((hAA _ _ _).1 hn15)
            · skip
              refine AWPL_rn tab_ok 1 [2, 3, 4, 5, 12, 13, 14, 16, 17, 18, 68, 69, 70, 71, 72, 73, 74, 75, 76, 77] fun c st' hr => ?_
              simp only [go_sem, reduceIte, reduceCtorEq, Nat.reduceEqDiff, Nat.reduceLT, Nat.reduceLeDiff, Nat.reduceBEq, Nat.reduceAdd, Nat.reduceMul, Nat.reduceSub, Nat.reducePow, Int.reduceLE, Int.reduceLT, Int.reduceNeg, Int.reduceToNat, Int.reduceAdd, Int.reduceSub] at hr
              obtain ⟨rfl, rfl⟩ := hr
              refine ⟨vc, ?_⟩
              refine AWPL_nil ?_
              refine QB_normal ?_
              exact AWPB_wk [0, 1, 2, 3, 4, 5, 6] mkWk ((hAA _ _ _).1 hn16))
          have hn18 : AA 7 #[false, true, true, true, true, true, false, false, false, false, true, false, false] ⟨187, [(2, .int .i64 a2), (3, .int .i64 a3), (4, .ptr 0 0 0), (5, .ptr 1 0 0), (12, .int .i64 y2.1), (13, .int .i64 y2.2.1), (14, .int .i64 y2.2.2), (15, .ptr 5 0 0), (16, .int .i64 y3.2.2), (17, .ptr 6 0 0), (74, .int .i64 y4)], [some (.gen 24 2 [[.int .i64 m_0, .ints .i64 m_1]]), some (.gen 24 2 [[.int .i64 a1_0, .ints .i64 a1_1]]), some (.ints 3 .i64 y.2), some (.ints 3 .i64 [1, 2]), some (.ints 3 .i64 y3.2.1), some (.gen 24 2 [[.int .i64 y3.1, .own 4 y3.2.1.length]]), some (.gen 24 2 [[.int .i64 0, .nil]])]⟩ := (hAA _ _ _).2 (by
            refine AWPB_one 0 _ (by kernel_rfl) rfl ?_
            refine AWPL_rn tab_ok 1 [2, 3, 4, 5, 12, 13, 14, 16, 17, 18, 68, 69, 74, 75, 76, 77] fun c st' hr => ?_
            simp only [go_sem, reduceIte, reduceCtorEq, Nat.reduceEqDiff, Nat.reduceLT, Nat.reduceLeDiff, Nat.reduceBEq, Nat.reduceAdd, Nat.reduceMul, Nat.reduceSub, Nat.reducePow, Int.reduceLE, Int.reduceLT, Int.reduceNeg, Int.reduceToNat, Int.reduceAdd, Int.reduceSub] at hr
            obtain ⟨rfl, rfl⟩ := hr
            refine ⟨vc, ?_⟩
            refine AWPL_nil ?_
            refine QB_normal ?_
            exact AWPB_wk [0, 1, 2, 3, 4, 5, 6] mkWk ((hAA _ _ _).1 hn10))
          have hn19 : AA 8 #[false, true, true, true, true, true, false, false, false, false, false, false, false] ⟨187, [(2, .int .i64 a2), (3, .int .i64 a3), (4, .ptr 0 0 0), (5, .ptr 1 0 0), (12, .int .i64 y2.1), (13, .int .i64 y2.2.1), (14, .int .i64 y2.2.2), (15, .ptr 5 0 0), (16, .int .i64 y3.2.2), (74, .int .i64 y4)], [some (.gen 24 2 [[.int .i64 m_0, .ints .i64 m_1]]), some (.gen 24 2 [[.int .i64 a1_0, .ints .i64 a1_1]]), some (.ints 3 .i64 y.2), some (.ints 3 .i64 [1, 2]), some (.ints 3 .i64 y3.2.1), some (.gen 24 2 [[.int .i64 y3.1, .own 4 y3.2.1.length]])]⟩ := (hAA _ _ _).2 (by
            refine AWPB_two 0 10 _ _ (by kernel_rfl) rfl rfl ?_ ?_
            · skip
              refine AWPL_rn tab_ok 1 [2, 3, 4, 5, 12, 13, 14, 16, 17, 18, 68, 69, 74, 75, 76, 77] fun c st' hr => ?_
              simp only [go_sem, reduceIte, reduceCtorEq, Nat.reduceEqDiff, Nat.reduceLT, Nat.reduceLeDiff, Nat.reduceBEq, Nat.reduceAdd, Nat.reduceMul, Nat.reduceSub, Nat.reducePow, Int.reduceLE, Int.reduceLT, Int.reduceNeg, Int.reduceToNat, Int.reduceAdd, Int.reduceSub] at hr
              obtain ⟨rfl, rfl⟩ := hr
              refine ⟨vc, ?_⟩
              refine AWPL_nil ?_
              refine QB_normal ?_
              exact AWPB_wk [0, 1, 2, 3, 4, 5] mkWk ((hAA _ _ _).1 hn11)
            · skip
              refine AWPL_rn tab_ok 1 [2, 3, 4, 5, 12, 13, 14, 15, 16, 17, 18, 68, 69, 74, 75, 76, 77] fun c st' hr => ?_
              simp only [go_sem, reduceIte, reduceCtorEq, Nat.reduceEqDiff, Nat.reduceLT, Nat.reduceLeDiff, Nat.reduceBEq, Nat.reduceAdd, Nat.reduceMul, Nat.reduceSub, Nat.reducePow, Int.reduceLE, Int.reduceLT, Int.reduceNeg, Int.reduceToNat, Int.reduceAdd, Int.reduceSub] at hr
              obtain ⟨rfl, rfl⟩ := hr
              refine ⟨vc, ?_⟩
              refine AWPL_nil ?_
              refine QB_normal ?_
              exact AWPB_wk [0, 1, 2, 3, 4, 5, 6] mkWk ((hAA _ _ _).1 hn18))
          have hn20 : AA 8 #[false, true, true, true, true, false, false, false, false, false, true, false, false] ⟨187, [(2, .int .i64 a2), (3, .int .i64 a3), (4, .ptr 0 0 0), (5, .ptr 1 0 0), (12, .int .i64 y2.1), (13, .int .i64 y2.2.1), (14, .int .i64 y2.2.2), (15, .ptr 5 0 0), (16, .int .i64 y3.2.2), (17, .ptr 6 0 0), (71, .int .i64 m_0), (72, .int .i64 y2.1), (73, .int .i64 y2.2.1)], [some (.gen 24 2 [[.int .i64 m_0, .ints .i64 m_1]]), some (.gen 24 2 [[.int .i64 a1_0, .ints .i64 a1_1]]), some (.ints 3 .i64 y.2), some (.ints 3 .i64 [1, 2]), some (.ints 3 .i64 y3.2.1), some (.gen 24 2 [[.int .i64 y3.1, .own 4 y3.2.1.length]]), some (.gen 24 2 [[.int .i64 0, .nil]])]⟩ := (hAA _ _ _).2 (by
            refine AWPB_two 0 5 _ _ (by kernel_rfl) rfl rfl ?_ ?_
            · skip
              refine AWPL_rn tab_ok 1 [2, 3, 4, 5, 12, 13, 14, 16, 17, 18, 68, 69, 71, 72, 73, 74, 75, 76, 77] fun c st' hr => ?_
              simp only [go_sem, reduceIte, reduceCtorEq, Nat.reduceEqDiff, Nat.reduceLT, Nat.reduceLeDiff, Nat.reduceBEq, Nat.reduceAdd, Nat.reduceMul, Nat.reduceSub, Nat.reducePow, Int.reduceLE, Int.reduceLT, Int.reduceNeg, Int.reduceToNat, Int.reduceAdd, Int.reduceSub] at hr
              obtain ⟨rfl, rfl⟩ := hr
              refine ⟨vc, ?_⟩
              refine AWPL_nil ?_
              refine QB_normal ?_
              exact AWPB_wk [0, 1, 2, 3, 4, 5, 6] mkWk ((hAA _ _ _).1 hn12)
            · skip
              refine AWPL_callK [2, 3, 4, 5, 12, 13, 14, 15, 16, 17, 18, 68, 69, 74, 75, 76, 77] (W_rotaref_Shifted hy) rfl rfl pcT rfl Try.call13 (.cons (.atom _ rfl) (.cons (.atom _ rfl) (.cons (.atom _ rfl) .nil))) (hscG trivial) (of_decide_eq_true rfl) (by first | rfl | simp [nI, nI1, nI0]) (by first | rfl | simp [nIB, nI0]) fun st' hr => ?_
              simp only [go_sem, reduceIte, reduceCtorEq, Nat.reduceEqDiff, Nat.reduceLT, Nat.reduceLeDiff, Nat.reduceBEq, Nat.reduceAdd, Nat.reduceMul, Nat.reduceSub, Nat.reducePow, Int.reduceLE, Int.reduceLT, Int.reduceNeg, Int.reduceToNat, Int.reduceAdd, Int.reduceSub] at hr
              subst hr
              refine AWPL_nil ?_
              refine QB_normal ?_
              exact AWPB_wk [0, 1, 2, 3, 4, 5, 6] mkWk ((hAA _ _ _).1 hn18))
          have hn21 : AA 9 #[false, true, true, true, true, false, false, false, false, false, false, false, false] ⟨187, [(2, .int .i64 a2), (3, .int .i64 a3), (4, .ptr 0 0 0), (5, .ptr 1 0 0), (12, .int .i64 y2.1), (13, .int .i64 y2.2.1), (14, .int .i64 y2.2.2), (15, .ptr 5 0 0), (16, .int .i64 y3.2.2), (71, .int .i64 m_0), (72, .int .i64 y2.1), (73, .int .i64 y2.2.1)], [some (.gen 24 2 [[.int .i64 m_0, .ints .i64 m_1]]), some (.gen 24 2 [[.int .i64 a1_0, .ints .i64 a1_1]]), some (.ints 3 .i64 y.2), some (.ints 3 .i64 [1, 2]), some (.ints 3 .i64 y3.2.1), some (.gen 24 2 [[.int .i64 y3.1, .own 4 y3.2.1.length]])]⟩ := (hAA _ _ _).2 (by
            refine AWPB_three 0 5 10 _ _ _ (by kernel_rfl) rfl rfl rfl ?_ ?_ ?_
            · skip
              refine AWPL_rn tab_ok 1 [2, 3, 4, 5, 12, 13, 14, 16, 17, 18, 68, 69, 71, 72, 73, 74, 75, 76, 77] fun c st' hr => ?_
              simp only [go_sem, reduceIte, reduceCtorEq, Nat.reduceEqDiff, Nat.reduceLT, Nat.reduceLeDiff, Nat.reduceBEq, Nat.reduceAdd, Nat.reduceMul, Nat.reduceSub, Nat.reducePow, Int.reduceLE, Int.reduceLT, Int.reduceNeg, Int.reduceToNat, Int.reduceAdd, Int.reduceSub] at hr
              obtain ⟨rfl, rfl⟩ := hr
              refine ⟨vc, ?_⟩
              refine AWPL_nil ?_
              refine QB_normal ?_
              exact AWPB_wk [0, 1, 2, 3, 4, 5] mkWk ((hAA _ _ _).1 hn13)
            · skip
              refine AWPL_callK [2, 3, 4, 5, 12, 13, 14, 15, 16, 17, 18, 68, 69, 74, 75, 76, 77] (W_rotaref_Shifted hy) rfl rfl pcT rfl Try.call13 (.cons (.atom _ rfl) (.cons (.atom _ rfl) (.cons (.atom _ rfl) .nil))) (hscG trivial) (of_decide_eq_true rfl) (by first | rfl | simp [nI, nI1, nI0]) (by first | rfl | simp [nIB, nI0]) fun st' hr => ?_
              simp only [go_sem, reduceIte, reduceCtorEq, Nat.reduceEqDiff, Nat.reduceLT, Nat.reduceLeDiff, Nat.reduceBEq, Nat.reduceAdd, Nat.reduceMul, Nat.reduceSub, Nat.reducePow, Int.reduceLE, Int.reduceLT, Int.reduceNeg, Int.reduceToNat, Int.reduceAdd, Int.reduceSub] at hr
              subst hr
              refine AWPL_nil ?_
              refine QB_normal ?_
              exact AWPB_wk [0, 1, 2, 3, 4, 5] mkWk ((hAA _ _ _).1 hn19)
            · skip
              refine AWPL_rn tab_ok 1 [2, 3, 4, 5, 12, 13, 14, 15, 16, 17, 18, 68, 69, 71, 72, 73, 74, 75, 76, 77] fun c st' hr => ?_
              simp only [go_sem, reduceIte, reduceCtorEq, Nat.reduceEqDiff, Nat.reduceLT, Nat.reduceLeDiff, Nat.reduceBEq, Nat.reduceAdd, Nat.reduceMul, Nat.reduceSub, Nat.reducePow, Int.reduceLE, Int.reduceLT, Int.reduceNeg, Int.reduceToNat, Int.reduceAdd, Int.reduceSub] at hr
              obtain ⟨rfl, rfl⟩ := hr
              refine ⟨vc, ?_⟩
              refine AWPL_nil ?_
              refine QB_normal ?_
              exact AWPB_wk [0, 1, 2, 3, 4, 5, 6] mkWk ((hAA _ _ _).1 hn20))
          have hn22 : AA 9 #[false, true, false, true, true, false, false, false, false, false, true, false, false] ⟨187, [(2, .int .i64 a2), (3, .int .i64 a3), (4, .ptr 0 0 0), (5, .ptr 1 0 0), (12, .int .i64 y2.1), (13, .int .i64 y2.2.1), (14, .int .i64 y2.2.2), (15, .ptr 5 0 0), (16, .int .i64 y3.2.2), (17, .ptr 6 0 0), (70, .ptr 0 0 0), (72, .int .i64 y2.1), (73, .int .i64 y2.2.1)], [some (.gen 24 2 [[.int .i64 m_0, .ints .i64 m_1]]), some (.gen 24 2 [[.int .i64 a1_0, .ints .i64 a1_1]]), some (.ints 3 .i64 y.2), some (.ints 3 .i64 [1, 2]), some (.ints 3 .i64 y3.2.1), some (.gen 24 2 [[.int .i64 y3.1, .own 4 y3.2.1.length]]), some (.gen 24 2 [[.int .i64 0, .nil]])]⟩ := (hAA _ _ _).2 (by
            refine AWPB_two 0 2 _ _ (by kernel_rfl) rfl rfl ?_ ?_
            · skip
              refine AWPL_rn tab_ok 1 [2, 3, 4, 5, 12, 13, 14, 16, 17, 18, 68, 69, 70, 71, 72, 73, 74, 75, 76, 77] fun c st' hr => ?_
              simp only [go_sem, reduceIte, reduceCtorEq, Nat.reduceEqDiff, Nat.reduceLT, Nat.reduceLeDiff, Nat.reduceBEq, Nat.reduceAdd, Nat.reduceMul, Nat.reduceSub, Nat.reducePow, Int.reduceLE, Int.reduceLT, Int.reduceNeg, Int.reduceToNat, Int.reduceAdd, Int.reduceSub] at hr
              obtain ⟨rfl, rfl⟩ := hr
              refine ⟨vc, ?_⟩
              refine AWPL_nil ?_
              refine QB_normal ?_
              exact AWPB_wk [0, 1, 2, 3, 4, 5, 6] mkWk ((hAA _ _ _).1 hn14)
            · skip
              refine AWPL_rn tab_ok 1 [2, 3, 4, 5, 12, 13, 14, 15, 16, 17, 18, 68, 69, 71, 72, 73, 74, 75, 76, 77] fun c st' hr => ?_
              simp only [go_sem, reduceIte, reduceCtorEq, Nat.reduceEqDiff, Nat.reduceLT, Nat.reduceLeDiff, Nat.reduceBEq, Nat.reduceAdd, Nat.reduceMul, Nat.reduceSub, Nat.reducePow, Int.reduceLE, Int.reduceLT, Int.reduceNeg, Int.reduceToNat, Int.reduceAdd, Int.reduceSub] at hr
              obtain ⟨rfl, rfl⟩ := hr
              refine ⟨vc, ?_⟩
              refine AWPL_nil ?_
              refine QB_normal ?_
              exact AWPB_wk [0, 1, 2, 3, 4, 5, 6] mkWk ((hAA _ _ _).1 hn20))
          have hn23 : AA 10 #[false, true, false, true, true, false, false, false, false, false, false, false, false] ⟨187, [(2, .int .i64 a2), (3, .int .i64 a3), (4, .ptr 0 0 0), (5, .ptr 1 0 0), (12, .int .i64 y2.1), (13, .int .i64 y2.2.1), (14, .int .i64 y2.2.2), (15, .ptr 5 0 0), (16, .int .i64 y3.2.2), (70, .ptr 0 0 0), (72, .int .i64 y2.1), (73, .int .i64 y2.2.1)], [some (.gen 24 2 [[.int .i64 m_0, .ints .i64 m_1]]), some (.gen 24 2 [[.int .i64 a1_0, .ints .i64 a1_1]]), some (.ints 3 .i64 y.2), some (.ints 3 .i64 [1, 2]), some (.ints 3 .i64 y3.2.1), some (.gen 24 2 [[.int .i64 y3.1, .own 4 y3.2.1.length]])]⟩ := (hAA _ _ _).2 (by
            refine AWPB_three 0 2 10 _ _ _ (by kernel_rfl) rfl rfl rfl ?_ ?_ ?_
            · skip
              refine AWPL_rn tab_ok 1 [2, 3, 4, 5, 12, 13, 14, 16, 17, 18, 68, 69, 70, 71, 72, 73, 74, 75, 76, 77] fun c st' hr => ?_
              simp only [go_sem, reduceIte, reduceCtorEq, Nat.reduceEqDiff, Nat.reduceLT, Nat.reduceLeDiff, Nat.reduceBEq, Nat.reduceAdd, Nat.reduceMul, Nat.reduceSub, Nat.reducePow, Int.reduceLE, Int.reduceLT, Int.reduceNeg, Int.reduceToNat, Int.reduceAdd, Int.reduceSub] at hr
              obtain ⟨rfl, rfl⟩ := hr
              refine ⟨vc, ?_⟩
              refine AWPL_nil ?_
              refine QB_normal ?_
              exact AWPB_wk [0, 1, 2, 3, 4, 5] mkWk ((hAA _ _ _).1 hn15)
            · skip
              refine AWPL_rn tab_ok 1 [2, 3, 4, 5, 12, 13, 14, 15, 16, 17, 18, 68, 69, 71, 72, 73, 74, 75, 76, 77] fun c st' hr => ?_
              simp only [go_sem, reduceIte, reduceCtorEq, Nat.reduceEqDiff, Nat.reduceLT, Nat.reduceLeDiff, Nat.reduceBEq, Nat.reduceAdd, Nat.reduceMul, Nat.reduceSub, Nat.reducePow, Int.reduceLE, Int.reduceLT, Int.reduceNeg, Int.reduceToNat, Int.reduceAdd, Int.reduceSub] at hr
              obtain ⟨rfl, rfl⟩ := hr
              refine ⟨vc, ?_⟩
              refine AWPL_nil ?_
              refine QB_normal ?_
              exact AWPB_wk [0, 1, 2, 3, 4, 5] mkWk ((hAA _ _ _).1 hn21)
            · skip
              refine AWPL_rn tab_ok 1 [2, 3, 4, 5, 12, 13, 14, 15, 16, 17, 18, 68, 69, 70, 71, 72, 73, 74, 75, 76, 77] fun c st' hr => ?_
              simp only [go_sem, reduceIte, reduceCtorEq, Nat.reduceEqDiff, Nat.reduceLT, Nat.reduceLeDiff, Nat.reduceBEq, Nat.reduceAdd, Nat.reduceMul, Nat.reduceSub, Nat.reducePow, Int.reduceLE, Int.reduceLT, Int.reduceNeg, Int.reduceToNat, Int.reduceAdd, Int.reduceSub] at hr
              obtain ⟨rfl, rfl⟩ := hr
              refine ⟨vc, ?_⟩
              refine AWPL_nil ?_
              refine QB_normal ?_
              exact AWPB_wk [0, 1, 2, 3, 4, 5, 6] mkWk ((hAA _ _ _).1 hn22))
          have hn24 : AA 10 #[false, false, false, true, true, false, false, false, false, false, true, false, false] ⟨187, [(2, .int .i64 a2), (3, .int .i64 a3), (4, .ptr 0 0 0), (5, .ptr 1 0 0), (12, .int .i64 y2.1), (13, .int .i64 y2.2.1), (14, .int .i64 y2.2.2), (15, .ptr 5 0 0), (16, .int .i64 y3.2.2), (17, .ptr 6 0 0), (72, .int .i64 y2.1), (73, .int .i64 y2.2.1)], [some (.gen 24 2 [[.int .i64 m_0, .ints .i64 m_1]]), some (.gen 24 2 [[.int .i64 a1_0, .ints .i64 a1_1]]), some (.ints 3 .i64 y.2), some (.ints 3 .i64 [1, 2]), some (.ints 3 .i64 y3.2.1), some (.gen 24 2 [[.int .i64 y3.1, .own 4 y3.2.1.length]]), some (.gen 24 2 [[.int .i64 0, .nil]])]⟩ := (hAA _ _ _).2 (by
            refine AWPB_two 0 1 _ _ (by kernel_rfl) rfl rfl ?_ ?_
            · skip
              refine AWPL_rn tab_ok 1 [2, 3, 4, 5, 12, 13, 14, 16, 17, 18, 68, 69, 70, 71, 72, 73, 74, 75, 76, 77] fun c st' hr => ?_
              simp only [go_sem, reduceIte, reduceCtorEq, Nat.reduceEqDiff, Nat.reduceLT, Nat.reduceLeDiff, Nat.reduceBEq, Nat.reduceAdd, Nat.reduceMul, Nat.reduceSub, Nat.reducePow, Int.reduceLE, Int.reduceLT, Int.reduceNeg, Int.reduceToNat, Int.reduceAdd, Int.reduceSub] at hr
              obtain ⟨rfl, rfl⟩ := hr
              refine ⟨vc, ?_⟩
              refine AWPL_nil ?_
              refine QB_normal ?_
              exact AWPB_wk [0, 1, 2, 3, 4, 5, 6] mkWk ((hAA _ _ _).1 hn16)
            · skip
              refine AWPL_rn tab_ok 1 [2, 3, 4, 5, 12, 13, 14, 15, 16, 17, 18, 68, 69, 70, 71, 72, 73, 74, 75, 76, 77] fun c st' hr => ?_
              simp only [go_sem, reduceIte, reduceCtorEq, Nat.reduceEqDiff, Nat.reduceLT, Nat.reduceLeDiff, Nat.reduceBEq, Nat.reduceAdd, Nat.reduceMul, Nat.reduceSub, Nat.reducePow, Int.reduceLE, Int.reduceLT, Int.reduceNeg, Int.reduceToNat, Int.reduceAdd, Int.reduceSub] at hr
              obtain ⟨rfl, rfl⟩ := hr
              refine ⟨vc, ?_⟩
              refine AWPL_nil ?_
              refine QB_normal ?_
              exact AWPB_wk [0, 1, 2, 3, 4, 5, 6] mkWk ((hAA _ _ _).1 hn22))
          have hn25 : AA 11 #[false, false, false, true, true, false, false, false, false, false, false, false, false] ⟨187, [(2, .int .i64 a2), (3, .int .i64 a3), (4, .ptr 0 0 0), (5, .ptr 1 0 0), (12, .int .i64 y2.1), (13, .int .i64 y2.2.1), (14, .int .i64 y2.2.2), (15, .ptr 5 0 0), (16, .int .i64 y3.2.2), (72, .int .i64 y2.1), (73, .int .i64 y2.2.1)], [some (.gen 24 2 [[.int .i64 m_0, .ints .i64 m_1]]), some (.gen 24 2 [[.int .i64 a1_0, .ints .i64 a1_1]]), some (.ints 3 .i64 y.2), some (.ints 3 .i64 [1, 2]), some (.ints 3 .i64 y3.2.1), some (.gen 24 2 [[.int .i64 y3.1, .own 4 y3.2.1.length]])]⟩ := (hAA _ _ _).2 (by
            refine AWPB_three 0 1 10 _ _ _ (by kernel_rfl) rfl rfl rfl ?_ ?_ ?_
            · skip
              refine AWPL_rn tab_ok 1 [2, 3, 4, 5, 12, 13, 14, 16, 17, 18, 68, 69, 70, 71, 72, 73, 74, 75, 76, 77] fun c st' hr => ?_
              simp only [go_sem, reduceIte, reduceCtorEq, Nat.reduceEqDiff, Nat.reduceLT, Nat.reduceLeDiff, Nat.reduceBEq, Nat.reduceAdd, Nat.reduceMul, Nat.reduceSub, Nat.reducePow, Int.reduceLE, Int.reduceLT, Int.reduceNeg, Int.reduceToNat, Int.reduceAdd, Int.reduceSub] at hr
              obtain ⟨rfl, rfl⟩ := hr
              refine ⟨vc, ?_⟩
              refine AWPL_nil ?_
              refine QB_normal ?_
              exact AWPB_wk [0, 1, 2, 3, 4, 5] mkWk ((hAA _ _ _).1 hn17)
            · skip
              refine AWPL_rn tab_ok 1 [2, 3, 4, 5, 12, 13, 14, 15, 16, 17, 18, 68, 69, 70, 71, 72, 73, 74, 75, 76, 77] fun c st' hr => ?_
              simp only [go_sem, reduceIte, reduceCtorEq, Nat.reduceEqDiff, Nat.reduceLT, Nat.reduceLeDiff, Nat.reduceBEq, Nat.reduceAdd, Nat.reduceMul, Nat.reduceSub, Nat.reducePow, Int.reduceLE, Int.reduceLT, Int.reduceNeg, Int.reduceToNat, Int.reduceAdd, Int.reduceSub] at hr
              obtain ⟨rfl, rfl⟩ := hr
              refine ⟨vc, ?_⟩
              refine AWPL_nil ?_
              refine QB_normal ?_
              exact AWPB_wk [0, 1, 2, 3, 4, 5] mkWk ((hAA _ _ _).1 hn23)
            · skip
              refine AWPL_rn tab_ok 1 [2, 3, 4, 5, 12, 13, 14, 15, 16, 17, 18, 68, 69, 70, 71, 72, 73, 74, 75, 76, 77] fun c st' hr => ?_
              simp only [go_sem, reduceIte, reduceCtorEq, Nat.reduceEqDiff, Nat.reduceLT, Nat.reduceLeDiff, Nat.reduceBEq, Nat.reduceAdd, Nat.reduceMul, Nat.reduceSub, Nat.reducePow, Int.reduceLE, Int.reduceLT, Int.reduceNeg, Int.reduceToNat, Int.reduceAdd, Int.reduceSub] at hr
              obtain ⟨rfl, rfl⟩ := hr
              refine ⟨vc, ?_⟩
              refine AWPL_nil ?_
              refine QB_normal ?_
              exact AWPB_wk [0, 1, 2, 3, 4, 5, 6] mkWk ((hAA _ _ _).1 hn24))
          have hn26 : AA 12 #[false, false, false, true, false, false, false, false, false, false, false, false, false] ⟨187, [(2, .int .i64 a2), (3, .int .i64 a3), (4, .ptr 0 0 0), (5, .ptr 1 0 0), (12, .int .i64 y2.1), (13, .int .i64 y2.2.1), (14, .int .i64 y2.2.2), (15, .ptr 5 0 0), (16, .int .i64 y3.2.2), (72, .int .i64 y2.1)], [some (.gen 24 2 [[.int .i64 m_0, .ints .i64 m_1]]), some (.gen 24 2 [[.int .i64 a1_0, .ints .i64 a1_1]]), some (.ints 3 .i64 y.2), some (.ints 3 .i64 [1, 2]), some (.ints 3 .i64 y3.2.1), some (.gen 24 2 [[.int .i64 y3.1, .own 4 y3.2.1.length]])]⟩ := (hAA _ _ _).2 (by
            refine AWPB_take tab_ok [2, 3, 4, 5, 12, 13, 14, 15, 16, 17, 18, 68, 69, 70, 71, 72, 73, 74, 75, 76, 77] 4 _ rfl rfl (by kernel_rfl) fun c st' hr => ?_
            simp only [go_sem, reduceIte, reduceCtorEq, Nat.reduceEqDiff, Nat.reduceLT, Nat.reduceLeDiff, Nat.reduceBEq, Nat.reduceAdd, Nat.reduceMul, Nat.reduceSub, Nat.reducePow, Int.reduceLE, Int.reduceLT, Int.reduceNeg, Int.reduceToNat, Int.reduceAdd, Int.reduceSub] at hr
            obtain ⟨rfl, rfl⟩ := hr
            refine ⟨vc, ?_⟩
            exact AWPB_wk [0, 1, 2, 3, 4, 5] mkWk ((hAA _ _ _).1 hn25))
          have hn27 : AA 13 #[false, false, false, false, false, false, false, false, false, false, false, false, false] ⟨187, [(2, .int .i64 a2), (3, .int .i64 a3), (4, .ptr 0 0 0), (5, .ptr 1 0 0), (12, .int .i64 y2.1), (13, .int .i64 y2.2.1), (14, .int .i64 y2.2.2), (15, .ptr 5 0 0), (16, .int .i64 y3.2.2)], [some (.gen 24 2 [[.int .i64 m_0, .ints .i64 m_1]]), some (.gen 24 2 [[.int .i64 a1_0, .ints .i64 a1_1]]), some (.ints 3 .i64 y.2), some (.ints 3 .i64 [1, 2]), some (.ints 3 .i64 y3.2.1), some (.gen 24 2 [[.int .i64 y3.1, .own 4 y3.2.1.length]])]⟩ := (hAA _ _ _).2 (by
            refine AWPB_take tab_ok [2, 3, 4, 5, 12, 13, 14, 15, 16, 17, 18, 68, 69, 70, 71, 72, 73, 74, 75, 76, 77] 3 _ rfl rfl (by kernel_rfl) fun c st' hr => ?_
            simp only [go_sem, reduceIte, reduceCtorEq, Nat.reduceEqDiff, Nat.reduceLT, Nat.reduceLeDiff, Nat.reduceBEq, Nat.reduceAdd, Nat.reduceMul, Nat.reduceSub, Nat.reducePow, Int.reduceLE, Int.reduceLT, Int.reduceNeg, Int.reduceToNat, Int.reduceAdd, Int.reduceSub] at hr
            obtain ⟨rfl, rfl⟩ := hr
            refine ⟨vc, ?_⟩
            exact AWPB_wk [0, 1, 2, 3, 4, 5] mkWk ((hAA _ _ _).1 hn26))
          exact (hAA _ _ _).2 (AWPB_wk [0, 1, 2, 3, 4, 5] mkWk ((hAA _ _ _).1 hn27))
        with_reducible refine thenC_normal ?_
        refine AWP_seq ?_
        -- region 8
        refine AWP_rl ?_
        refine AWPL_rn tab_ok 2 [2, 3, 4, 5, 12, 13, 14, 16, 18, 79, 80] fun c st' hr => ?_
        simp only [go_sem, reduceIte, reduceCtorEq, Nat.reduceEqDiff, Nat.reduceLT, Nat.reduceLeDiff, Nat.reduceBEq, Nat.reduceAdd, Nat.reduceMul, Nat.reduceSub, Nat.reducePow, Int.reduceLE, Int.reduceLT, Int.reduceNeg, Int.reduceToNat, Int.reduceAdd, Int.reduceSub] at hr
        obtain ⟨rfl, rfl⟩ := hr
        refine ⟨vc, ?_⟩
        replace hK := bind_s hK
        obtain ⟨y6, hy, hK⟩ := hK
        refine AWPL_callK [2, 3, 4, 5, 12, 13, 14, 16, 18, 81] (W_same_Isomorphic hy) rfl rfl pcT rfl Try.call14 (.cons (.agg _ _ rfl (ArgsOk.get (.cons (.atom _ rfl) (.cons (.ownI _ _ _ _ _ y5.2.1 rfl (by simp) (by first | simp | exact List.take_of_length_le (by simp))) .nil))).2) (.cons (.agg _ _ rfl (ArgsOk.get (.cons (.atom _ rfl) (.cons (.atom _ rfl) .nil))).2) .nil)) (hscG trivial) (of_decide_eq_true rfl) (by first | rfl | simp [nI, nI1, nI0]) (by first | rfl | simp [nIB, nI0]) fun st' hr => ?_
        simp only [go_sem, reduceIte, reduceCtorEq, Nat.reduceEqDiff, Nat.reduceLT, Nat.reduceLeDiff, Nat.reduceBEq, Nat.reduceAdd, Nat.reduceMul, Nat.reduceSub, Nat.reducePow, Int.reduceLE, Int.reduceLT, Int.reduceNeg, Int.reduceToNat, Int.reduceAdd, Int.reduceSub] at hr
        subst hr
        clear hy
        refine AWPL_rn tab_ok 5 [2, 3, 4, 5, 12, 13, 14, 16, 18, 20] fun c st' hr => ?_
        simp only [go_sem, reduceIte, reduceCtorEq, Nat.reduceEqDiff, Nat.reduceLT, Nat.reduceLeDiff, Nat.reduceBEq, Nat.reduceAdd, Nat.reduceMul, Nat.reduceSub, Nat.reducePow, Int.reduceLE, Int.reduceLT, Int.reduceNeg, Int.reduceToNat, Int.reduceAdd, Int.reduceSub] at hr
        obtain ⟨rfl, rfl⟩ := hr
        refine ⟨vc, ?_⟩
        refine AWPL_nil ?_
        with_reducible refine thenC_normal ?_
        refine AWP_seq ?_
        -- region 9
        refine AWP_rg tab_ok [2, 3, 4, 5, 12, 13, 14, 99] fun c st' hr => ?_
        simp only [go_sem, reduceIte, reduceCtorEq, Nat.reduceEqDiff, Nat.reduceLT, Nat.reduceLeDiff, Nat.reduceBEq, Nat.reduceAdd, Nat.reduceMul, Nat.reduceSub, Nat.reducePow, Int.reduceLE, Int.reduceLT, Int.reduceNeg, Int.reduceToNat, Int.reduceAdd, Int.reduceSub] at hr
        obtain ⟨rfl, rfl⟩ := hr
        refine ⟨vc, ?_⟩
        with_reducible refine thenC_normal ?_
        refine AWP_condP ((((y3.2.2 ≠ 0 ∨ y5.2.2 ≠ 0) ∨ y6.2 ≠ 0) ∨ iand y2.1 y2.2.1 ≠ 0)) rfl bd (fun hb2 => ?_) (fun hb2 => ?_)
        · replace hK := ite_t hK hb2
          refine AWP_seq ?_
          -- region 10
          refine AWP_rg tab_ok [8] fun c st' hr => ?_
          simp only [go_sem, reduceIte, reduceCtorEq, Nat.reduceEqDiff, Nat.reduceLT, Nat.reduceLeDiff, Nat.reduceBEq, Nat.reduceAdd, Nat.reduceMul, Nat.reduceSub, Nat.reducePow, Int.reduceLE, Int.reduceLT, Int.reduceNeg, Int.reduceToNat, Int.reduceAdd, Int.reduceSub] at hr
          obtain ⟨rfl, rfl⟩ := hr
          refine ⟨vc, ?_⟩
          with_reducible refine thenC_normal ?_
          refine AWP_ret ?_
          with_reducible refine join_r ?_
          cases hK
          refine EndsRW [] (.inl rfl) (of_decide_eq_true rfl) (by simp) rfl (fun c x hr => ?_) trivial
          simp only [go_sem, reduceIte, reduceCtorEq, Nat.reduceEqDiff, Nat.reduceLT, Nat.reduceLeDiff, Nat.reduceBEq, Nat.reduceAdd, Nat.reduceMul, Nat.reduceSub, Nat.reducePow, Int.reduceLE, Int.reduceLT, Int.reduceNeg, Int.reduceToNat, Int.reduceAdd, Int.reduceSub] at hr
          obtain ⟨rfl, rfl⟩ := hr
          exact ⟨rfl, endR⟩
        · replace hK := ite_f hK hb2
          refine AWP_skip ?_
          refine join_n () [0, 1] hK mkWk
      · replace hK := ite_f hK hb1
        refine AWP_skip ?_
        refine join_n () [0, 1] hK mkWk
    · clear hK; intro q hK
      try dsimp only at hK
      change AWP _ _ _ _ ⟨187, [(2, .int .i64 a2), (3, .int .i64 a3), (4, .ptr 0 0 0), (5, .ptr 1 0 0), (12, .int .i64 y2.1), (13, .int .i64 y2.2.1), (14, .int .i64 y2.2.2)], [some (.gen 24 2 [[.int .i64 m_0, .ints .i64 m_1]]), some (.gen 24 2 [[.int .i64 a1_0, .ints .i64 a1_1]])]⟩
      refine AWP_seq ?_
      refine AWP_seq ?_
      -- region 11
      refine AWP_rl ?_
      refine AWPL_rn tab_ok 1 [2, 3, 4, 5, 12, 13, 14, 100] fun c st' hr => ?_
      simp only [go_sem, reduceIte, reduceCtorEq, Nat.reduceEqDiff, Nat.reduceLT, Nat.reduceLeDiff, Nat.reduceBEq, Nat.reduceAdd, Nat.reduceMul, Nat.reduceSub, Nat.reducePow, Int.reduceLE, Int.reduceLT, Int.reduceNeg, Int.reduceToNat, Int.reduceAdd, Int.reduceSub] at hr
      obtain ⟨rfl, rfl⟩ := hr
      refine ⟨vc, ?_⟩
      replace hK := bind_s hK
      obtain ⟨y7, hy, hK⟩ := hK
      refine AWPL_callK [2, 3, 4, 5, 12, 13, 14, 101] (W_axioms_Check hy) rfl rfl pcT rfl Try.call15 (.cons (.agg _ _ rfl (ArgsOk.get (.cons (.atom _ rfl) (.cons (.atom _ rfl) .nil))).2) .nil) (hscG trivial) (of_decide_eq_true rfl) (by first | rfl | simp [nI, nI1, nI0]) (by first | rfl | simp [nIB, nI0]) fun st' hr => ?_
      simp only [go_sem, reduceIte, reduceCtorEq, Nat.reduceEqDiff, Nat.reduceLT, Nat.reduceLeDiff, Nat.reduceBEq, Nat.reduceAdd, Nat.reduceMul, Nat.reduceSub, Nat.reducePow, Int.reduceLE, Int.reduceLT, Int.reduceNeg, Int.reduceToNat, Int.reduceAdd, Int.reduceSub] at hr
      subst hr
      clear hy
      refine AWPL_rn tab_ok 3 [2, 3, 4, 5, 12, 13, 14, 103, 104] fun c st' hr => ?_
      simp only [go_sem, reduceIte, reduceCtorEq, Nat.reduceEqDiff, Nat.reduceLT, Nat.reduceLeDiff, Nat.reduceBEq, Nat.reduceAdd, Nat.reduceMul, Nat.reduceSub, Nat.reducePow, Int.reduceLE, Int.reduceLT, Int.reduceNeg, Int.reduceToNat, Int.reduceAdd, Int.reduceSub] at hr
      obtain ⟨rfl, rfl⟩ := hr
      refine ⟨vc, ?_⟩
      replace hK := bind_s hK
      obtain ⟨y8, hy, hK⟩ := hK
      refine AWPL_callGP [2, 3, 4, 5, 12, 13, 14, 103, 105] (¬ (y7 ≠ 0)) (fun hg => (W_axioms_Check (ite_t hy hg))) rfl rfl pcG rfl Try.call15 (.cons (.agg _ _ rfl (ArgsOk.get (.cons (.atom _ rfl) (.cons (.atom _ rfl) .nil))).2) .nil) (fun hg => hscG hg) (of_decide_eq_true rfl) (by first | rfl | simp [nI, nI1, nI0]) (by first | rfl | simp [sh, sh1, sh0]) fun st' hr => ?_
      simp only [go_sem, reduceIte, reduceCtorEq, Nat.reduceEqDiff, Nat.reduceLT, Nat.reduceLeDiff, Nat.reduceBEq, Nat.reduceAdd, Nat.reduceMul, Nat.reduceSub, Nat.reducePow, Int.reduceLE, Int.reduceLT, Int.reduceNeg, Int.reduceToNat, Int.reduceAdd, Int.reduceSub] at hr
      subst hr
      clear hy
      refine AWPL_rn tab_ok 2 [2, 3, 4, 5, 12, 13, 14, 107] fun c st' hr => ?_
      simp only [go_sem, reduceIte, reduceCtorEq, Nat.reduceEqDiff, Nat.reduceLT, Nat.reduceLeDiff, Nat.reduceBEq, Nat.reduceAdd, Nat.reduceMul, Nat.reduceSub, Nat.reducePow, Int.reduceLE, Int.reduceLT, Int.reduceNeg, Int.reduceToNat, Int.reduceAdd, Int.reduceSub] at hr
      obtain ⟨rfl, rfl⟩ := hr
      refine ⟨vc, ?_⟩
      refine AWPL_nil ?_
      with_reducible refine thenC_normal ?_
      refine AWP_condP ((y7 ≠ 0 ∨ y8 ≠ 0)) rfl bd (fun hb3 => ?_) (fun hb3 => ?_)
      · replace hK := ite_t hK hb3
        refine AWP_seq ?_
        -- region 12
        refine AWP_rg tab_ok [8] fun c st' hr => ?_
        simp only [go_sem, reduceIte, reduceCtorEq, Nat.reduceEqDiff, Nat.reduceLT, Nat.reduceLeDiff, Nat.reduceBEq, Nat.reduceAdd, Nat.reduceMul, Nat.reduceSub, Nat.reducePow, Int.reduceLE, Int.reduceLT, Int.reduceNeg, Int.reduceToNat, Int.reduceAdd, Int.reduceSub] at hr
        obtain ⟨rfl, rfl⟩ := hr
        refine ⟨vc, ?_⟩
        with_reducible refine thenC_normal ?_
        refine AWP_ret ?_
        with_reducible refine thenC_ret ?_
        cases hK
        refine EndsRW [] (.inl rfl) (of_decide_eq_true rfl) (by simp) rfl (fun c x hr => ?_) trivial
        simp only [go_sem, reduceIte, reduceCtorEq, Nat.reduceEqDiff, Nat.reduceLT, Nat.reduceLeDiff, Nat.reduceBEq, Nat.reduceAdd, Nat.reduceMul, Nat.reduceSub, Nat.reducePow, Int.reduceLE, Int.reduceLT, Int.reduceNeg, Int.reduceToNat, Int.reduceAdd, Int.reduceSub] at hr
        obtain ⟨rfl, rfl⟩ := hr
        exact ⟨rfl, endR⟩
      · replace hK := ite_f hK hb3
        refine AWP_skip ?_
        with_reducible refine thenC_normal ?_
        refine AWP_seq ?_
        -- region 13
        refine AWP_rl ?_
        refine AWPL_rn tab_ok 1 [2, 3, 4, 5, 14, 119] fun c st' hr => ?_
        simp only [go_sem, reduceIte, reduceCtorEq, Nat.reduceEqDiff, Nat.reduceLT, Nat.reduceLeDiff, Nat.reduceBEq, Nat.reduceAdd, Nat.reduceMul, Nat.reduceSub, Nat.reducePow, Int.reduceLE, Int.reduceLT, Int.reduceNeg, Int.reduceToNat, Int.reduceAdd, Int.reduceSub] at hr
        obtain ⟨rfl, rfl⟩ := hr
        refine ⟨vc, ?_⟩
        replace hK := bind_s hK
        obtain ⟨y9, hy, hK⟩ := hK
        refine AWPL_callK [2, 3, 4, 5, 14, 120] (W_minors_Dual hy) rfl rfl pcT rfl Try.call16 (.cons (.agg _ _ rfl (ArgsOk.get (.cons (.atom _ rfl) (.cons (.atom _ rfl) .nil))).2) .nil) (hscG trivial) (of_decide_eq_true rfl) (by first | rfl | simp [nI, nI1, nI0]) (by first | rfl | simp [nIB, nI0]) fun st' hr => ?_
        simp only [go_sem, reduceIte, reduceCtorEq, Nat.reduceEqDiff, Nat.reduceLT, Nat.reduceLeDiff, Nat.reduceBEq, Nat.reduceAdd, Nat.reduceMul, Nat.reduceSub, Nat.reducePow, Int.reduceLE, Int.reduceLT, Int.reduceNeg, Int.reduceToNat, Int.reduceAdd, Int.reduceSub] at hr
        subst hr
        clear hy
        refine AWPL_rn tab_ok 6 [2, 3, 4, 5, 14, 21] fun c st' hr => ?_
        simp only [go_sem, reduceIte, reduceCtorEq, Nat.reduceEqDiff, Nat.reduceLT, Nat.reduceLeDiff, Nat.reduceBEq, Nat.reduceAdd, Nat.reduceMul, Nat.reduceSub, Nat.reducePow, Int.reduceLE, Int.reduceLT, Int.reduceNeg, Int.reduceToNat, Int.reduceAdd, Int.reduceSub] at hr
        obtain ⟨rfl, rfl⟩ := hr
        refine ⟨vc, ?_⟩
        refine AWPL_nil ?_
        with_reducible refine thenC_normal ?_
        refine AWP_seq ?_
        -- region 14
        refine AWP_rl ?_
        refine AWPL_rn tab_ok 1 [2, 3, 4, 14, 21, 124] fun c st' hr => ?_
        simp only [go_sem, reduceIte, reduceCtorEq, Nat.reduceEqDiff, Nat.reduceLT, Nat.reduceLeDiff, Nat.reduceBEq, Nat.reduceAdd, Nat.reduceMul, Nat.reduceSub, Nat.reducePow, Int.reduceLE, Int.reduceLT, Int.reduceNeg, Int.reduceToNat, Int.reduceAdd, Int.reduceSub] at hr
        obtain ⟨rfl, rfl⟩ := hr
        refine ⟨vc, ?_⟩
        replace hK := bind_s hK
        obtain ⟨y10, hy, hK⟩ := hK
        refine AWPL_callK [2, 3, 4, 14, 21, 125] (W_minors_Dual hy) rfl rfl pcT rfl Try.call16 (.cons (.agg _ _ rfl (ArgsOk.get (.cons (.atom _ rfl) (.cons (.atom _ rfl) .nil))).2) .nil) (hscG trivial) (of_decide_eq_true rfl) (by first | rfl | simp [nI, nI1, nI0]) (by first | rfl | simp [nIB, nI0]) fun st' hr => ?_
        simp only [go_sem, reduceIte, reduceCtorEq, Nat.reduceEqDiff, Nat.reduceLT, Nat.reduceLeDiff, Nat.reduceBEq, Nat.reduceAdd, Nat.reduceMul, Nat.reduceSub, Nat.reducePow, Int.reduceLE, Int.reduceLT, Int.reduceNeg, Int.reduceToNat, Int.reduceAdd, Int.reduceSub] at hr
        subst hr
        clear hy
        refine AWPL_rn tab_ok 6 [2, 3, 4, 14, 21, 23] fun c st' hr => ?_
        simp only [go_sem, reduceIte, reduceCtorEq, Nat.reduceEqDiff, Nat.reduceLT, Nat.reduceLeDiff, Nat.reduceBEq, Nat.reduceAdd, Nat.reduceMul, Nat.reduceSub, Nat.reducePow, Int.reduceLE, Int.reduceLT, Int.reduceNeg, Int.reduceToNat, Int.reduceAdd, Int.reduceSub] at hr
        obtain ⟨rfl, rfl⟩ := hr
        refine ⟨vc, ?_⟩
        refine AWPL_nil ?_
        with_reducible refine thenC_normal ?_
        refine AWP_seq ?_
        -- region 15
        refine AWP_rl ?_
        refine AWPL_rn tab_ok 2 [2, 3, 4, 14, 129, 130] fun c st' hr => ?_
        simp only [go_sem, reduceIte, reduceCtorEq, Nat.reduceEqDiff, Nat.reduceLT, Nat.reduceLeDiff, Nat.reduceBEq, Nat.reduceAdd, Nat.reduceMul, Nat.reduceSub, Nat.reducePow, Int.reduceLE, Int.reduceLT, Int.reduceNeg, Int.reduceToNat, Int.reduceAdd, Int.reduceSub] at hr
        obtain ⟨rfl, rfl⟩ := hr
        refine ⟨vc, ?_⟩
        replace hK := bind_s hK
        obtain ⟨y11, hy, hK⟩ := hK
        refine AWPL_callK [2, 3, 4, 14, 131] (W_same_Minor hy) rfl rfl pcT rfl Try.call9 (.cons (.agg _ _ rfl (ArgsOk.get (.cons (.atom _ rfl) (.cons (.ownI _ _ _ _ _ y9.2.1 rfl (by simp) (by first | simp | exact List.take_of_length_le (by simp))) .nil))).2) (.cons (.agg _ _ rfl (ArgsOk.get (.cons (.atom _ rfl) (.cons (.ownI _ _ _ _ _ y10.2.1 rfl (by simp) (by first | simp | exact List.take_of_length_le (by simp))) .nil))).2) .nil)) (hscG trivial) (of_decide_eq_true rfl) (by first | rfl | simp [nI, nI1, nI0]) (by first | rfl | simp [nIB, nI0]) fun st' hr => ?_
        simp only [go_sem, reduceIte, reduceCtorEq, Nat.reduceEqDiff, Nat.reduceLT, Nat.reduceLeDiff, Nat.reduceBEq, Nat.reduceAdd, Nat.reduceMul, Nat.reduceSub, Nat.reducePow, Int.reduceLE, Int.reduceLT, Int.reduceNeg, Int.reduceToNat, Int.reduceAdd, Int.reduceSub] at hr
        subst hr
        clear hy
        refine AWPL_rn tab_ok 7 [2, 3, 4, 14, 27] fun c st' hr => ?_
        simp only [go_sem, reduceIte, reduceCtorEq, Nat.reduceEqDiff, Nat.reduceLT, Nat.reduceLeDiff, Nat.reduceBEq, Nat.reduceAdd, Nat.reduceMul, Nat.reduceSub, Nat.reducePow, Int.reduceLE, Int.reduceLT, Int.reduceNeg, Int.reduceToNat, Int.reduceAdd, Int.reduceSub] at hr
        obtain ⟨rfl, rfl⟩ := hr
        refine ⟨vc, ?_⟩
        refine AWPL_nil ?_
        with_reducible refine thenC_normal ?_
        refine AWP_seq ?_
        refine AWP_seq ?_
        -- region 16
        refine AWP_rg tab_ok [2, 3, 4, 139] fun c st' hr => ?_
        simp only [go_sem, reduceIte, reduceCtorEq, Nat.reduceEqDiff, Nat.reduceLT, Nat.reduceLeDiff, Nat.reduceBEq, Nat.reduceAdd, Nat.reduceMul, Nat.reduceSub, Nat.reducePow, Int.reduceLE, Int.reduceLT, Int.reduceNeg, Int.reduceToNat, Int.reduceAdd, Int.reduceSub] at hr
        obtain ⟨rfl, rfl⟩ := hr
        refine ⟨vc, ?_⟩
        with_reducible refine thenC_normal ?_
        refine AWP_condP (¬ (y2.2.2 = 0 ↔ y11.2.2 = 0)) rfl bd (fun hb4 => ?_) (fun hb4 => ?_)
        · replace hK := ite_t hK hb4
          refine AWP_seq ?_
          -- region 17
          refine AWP_rg tab_ok [8] fun c st' hr => ?_
          simp only [go_sem, reduceIte, reduceCtorEq, Nat.reduceEqDiff, Nat.reduceLT, Nat.reduceLeDiff, Nat.reduceBEq, Nat.reduceAdd, Nat.reduceMul, Nat.reduceSub, Nat.reducePow, Int.reduceLE, Int.reduceLT, Int.reduceNeg, Int.reduceToNat, Int.reduceAdd, Int.reduceSub] at hr
          obtain ⟨rfl, rfl⟩ := hr
          refine ⟨vc, ?_⟩
          with_reducible refine thenC_normal ?_
          refine AWP_ret ?_
          with_reducible refine thenC_ret ?_
          cases hK
          refine EndsRW [] (.inl rfl) (of_decide_eq_true rfl) (by simp) rfl (fun c x hr => ?_) trivial
          simp only [go_sem, reduceIte, reduceCtorEq, Nat.reduceEqDiff, Nat.reduceLT, Nat.reduceLeDiff, Nat.reduceBEq, Nat.reduceAdd, Nat.reduceMul, Nat.reduceSub, Nat.reducePow, Int.reduceLE, Int.reduceLT, Int.reduceNeg, Int.reduceToNat, Int.reduceAdd, Int.reduceSub] at hr
          obtain ⟨rfl, rfl⟩ := hr
          exact ⟨rfl, endR⟩
        · replace hK := ite_f hK hb4
          refine AWP_skip ?_
          with_reducible refine thenC_normal ?_
          refine AWP_seq ?_
          refine AWP_seq ?_
          -- region 18
          refine AWP_rl ?_
          refine AWPL_rn tab_ok 3 [2, 3, 4, 141, 142] fun c st' hr => ?_
          simp only [go_sem, reduceIte, reduceCtorEq, Nat.reduceEqDiff, Nat.reduceLT, Nat.reduceLeDiff, Nat.reduceBEq, Nat.reduceAdd, Nat.reduceMul, Nat.reduceSub, Nat.reducePow, Int.reduceLE, Int.reduceLT, Int.reduceNeg, Int.reduceToNat, Int.reduceAdd, Int.reduceSub] at hr
          obtain ⟨rfl, rfl⟩ := hr
          refine ⟨vc, ?_⟩
          replace hK := bind_s hK
          obtain ⟨y12, hy, hK⟩ := hK
          refine AWPL_callK [2, 3, 4, 143] (W_rotaref_IsSet hy) rfl rfl pcT rfl Try.call17 (.cons (.atom _ rfl) (.cons (.atom _ rfl) .nil)) (hscG trivial) (of_decide_eq_true rfl) (by first | rfl | simp [nI, nI1, nI0]) (by first | rfl | simp [nIB, nI0]) fun st' hr => ?_
          simp only [go_sem, reduceIte, reduceCtorEq, Nat.reduceEqDiff, Nat.reduceLT, Nat.reduceLeDiff, Nat.reduceBEq, Nat.reduceAdd, Nat.reduceMul, Nat.reduceSub, Nat.reducePow, Int.reduceLE, Int.reduceLT, Int.reduceNeg, Int.reduceToNat, Int.reduceAdd, Int.reduceSub] at hr
          subst hr
          clear hy
          refine AWPL_rn tab_ok 5 [2, 3, 4, 145, 147, 148] fun c st' hr => ?_
          simp only [go_sem, reduceIte, reduceCtorEq, Nat.reduceEqDiff, Nat.reduceLT, Nat.reduceLeDiff, Nat.reduceBEq, Nat.reduceAdd, Nat.reduceMul, Nat.reduceSub, Nat.reducePow, Int.reduceLE, Int.reduceLT, Int.reduceNeg, Int.reduceToNat, Int.reduceAdd, Int.reduceSub] at hr
          obtain ⟨rfl, rfl⟩ := hr
          refine ⟨vc, ?_⟩
          replace hK := bind_s hK
          obtain ⟨y13, hy, hK⟩ := hK
          refine AWPL_callGP [2, 3, 4, 145, 149] (¬ (¬ (y12 = true))) (fun hg => (W_rotaref_IsSet (ite_t hy hg))) rfl rfl pcG rfl Try.call17 (.cons (.atom _ rfl) (.cons (.atom _ rfl) .nil)) (fun hg => hscG hg) (of_decide_eq_true rfl) (by first | rfl | simp [nI, nI1, nI0]) (by first | rfl | simp [sh, sh1, sh0]) fun st' hr => ?_
          simp only [go_sem, reduceIte, reduceCtorEq, Nat.reduceEqDiff, Nat.reduceLT, Nat.reduceLeDiff, Nat.reduceBEq, Nat.reduceAdd, Nat.reduceMul, Nat.reduceSub, Nat.reducePow, Int.reduceLE, Int.reduceLT, Int.reduceNeg, Int.reduceToNat, Int.reduceAdd, Int.reduceSub] at hr
          subst hr
          clear hy
          refine AWPL_rn tab_ok 8 [2, 3, 4, 157] fun c st' hr => ?_
          simp only [go_sem, reduceIte, reduceCtorEq, Nat.reduceEqDiff, Nat.reduceLT, Nat.reduceLeDiff, Nat.reduceBEq, Nat.reduceAdd, Nat.reduceMul, Nat.reduceSub, Nat.reducePow, Int.reduceLE, Int.reduceLT, Int.reduceNeg, Int.reduceToNat, Int.reduceAdd, Int.reduceSub] at hr
          obtain ⟨rfl, rfl⟩ := hr
          refine ⟨vc, ?_⟩
          refine AWPL_nil ?_
          with_reducible refine thenC_normal ?_
          refine AWP_condP (((¬ (y12 = true) ∨ ¬ (y13 = true)) ∨ iand a2 a3 ≠ 0)) rfl bd (fun hb5 => ?_) (fun hb5 => ?_)
          · replace hK := ite_t hK hb5
            refine AWP_seq ?_
            -- region 19
            refine AWP_rg tab_ok [8] fun c st' hr => ?_
            simp only [go_sem, reduceIte, reduceCtorEq, Nat.reduceEqDiff, Nat.reduceLT, Nat.reduceLeDiff, Nat.reduceBEq, Nat.reduceAdd, Nat.reduceMul, Nat.reduceSub, Nat.reducePow, Int.reduceLE, Int.reduceLT, Int.reduceNeg, Int.reduceToNat, Int.reduceAdd, Int.reduceSub] at hr
            obtain ⟨rfl, rfl⟩ := hr
            refine ⟨vc, ?_⟩
            with_reducible refine thenC_normal ?_
            refine AWP_ret ?_
            with_reducible refine thenC_ret ?_
            cases hK
            refine EndsRW [] (.inl rfl) (of_decide_eq_true rfl) (by simp) rfl (fun c x hr => ?_) trivial
            simp only [go_sem, reduceIte, reduceCtorEq, Nat.reduceEqDiff, Nat.reduceLT, Nat.reduceLeDiff, Nat.reduceBEq, Nat.reduceAdd, Nat.reduceMul, Nat.reduceSub, Nat.reducePow, Int.reduceLE, Int.reduceLT, Int.reduceNeg, Int.reduceToNat, Int.reduceAdd, Int.reduceSub] at hr
            obtain ⟨rfl, rfl⟩ := hr
            exact ⟨rfl, endR⟩
          · replace hK := ite_f hK hb5
            refine AWP_skip ?_
            with_reducible refine thenC_normal ?_
            refine AWP_seq ?_
            -- region 20
            refine AWP_rl ?_
            refine AWPL_rn tab_ok 2 [2, 3, 4, 159, 160] fun c st' hr => ?_
            simp only [go_sem, reduceIte, reduceCtorEq, Nat.reduceEqDiff, Nat.reduceLT, Nat.reduceLeDiff, Nat.reduceBEq, Nat.reduceAdd, Nat.reduceMul, Nat.reduceSub, Nat.reducePow, Int.reduceLE, Int.reduceLT, Int.reduceNeg, Int.reduceToNat, Int.reduceAdd, Int.reduceSub] at hr
            obtain ⟨rfl, rfl⟩ := hr
            refine ⟨vc, ?_⟩
            replace hK := bind_s hK
            obtain ⟨y14, hy, hK⟩ := hK
            refine AWPL_callK [2, 3, 4, 161] (W_minors_Delete hy) rfl rfl pcT rfl Try.call11 (.cons (.agg _ _ rfl (ArgsOk.get (.cons (.atom _ rfl) (.cons (.atom _ rfl) .nil))).2) (.cons (.atom _ rfl) .nil)) (hscG trivial) (of_decide_eq_true rfl) (by first | rfl | simp [nI, nI1, nI0]) (by first | rfl | simp [nIB, nI0]) fun st' hr => ?_
            simp only [go_sem, reduceIte, reduceCtorEq, Nat.reduceEqDiff, Nat.reduceLT, Nat.reduceLeDiff, Nat.reduceBEq, Nat.reduceAdd, Nat.reduceMul, Nat.reduceSub, Nat.reducePow, Int.reduceLE, Int.reduceLT, Int.reduceNeg, Int.reduceToNat, Int.reduceAdd, Int.reduceSub] at hr
            subst hr
            clear hy
            refine AWPL_rn tab_ok 6 [2, 3, 4, 28] fun c st' hr => ?_
            simp only [go_sem, reduceIte, reduceCtorEq, Nat.reduceEqDiff, Nat.reduceLT, Nat.reduceLeDiff, Nat.reduceBEq, Nat.reduceAdd, Nat.reduceMul, Nat.reduceSub, Nat.reducePow, Int.reduceLE, Int.reduceLT, Int.reduceNeg, Int.reduceToNat, Int.reduceAdd, Int.reduceSub] at hr
            obtain ⟨rfl, rfl⟩ := hr
            refine ⟨vc, ?_⟩
            refine AWPL_nil ?_
            with_reducible refine thenC_normal ?_
            refine AWP_seq ?_
            -- region 21
            replace hK := bind_s hK
            obtain ⟨y15, hy2, hK⟩ := hK
            replace hK := bind_s hK
            obtain ⟨y16, hy3, hK⟩ := hK
            refine AWP_drawJ ⟨187, [(4, .ptr 0 0 0), (30, .ptr 9 0 0), (31, .int .i64 y16.2.2)], [some (.gen 24 2 [[.int .i64 m_0, .ints .i64 m_1]]), some (.gen 24 2 [[.int .i64 a1_0, .ints .i64 a1_1]]), some (.ints 3 .i64 y9.2.1), some (.gen 24 2 [[.int .i64 y9.1, .own 2 y9.2.1.length]]), some (.ints 3 .i64 y10.2.1), some (.gen 24 2 [[.int .i64 y10.1, .own 4 y10.2.1.length]]), some (.ints 3 .i64 y14.2.1), some (.gen 24 2 [[.int .i64 y14.1, .own 6 y14.2.1.length]]), some (.ints 3 .i64 y16.2.1), some (.gen 24 2 [[.int .i64 y16.1, .own 8 y16.2.1.length]])]⟩ mixed ?_ ?_
            · refine AWPB_memo fun AA hAA => ?_
              have hn28 : AA 0 #[true, true, true, true, true, true, true, true, true, true, true, true, true] ⟨187, [(4, .ptr 0 0 0), (30, .ptr 9 0 0), (31, .int .i64 y16.2.2)], [some (.gen 24 2 [[.int .i64 m_0, .ints .i64 m_1]]), some (.gen 24 2 [[.int .i64 a1_0, .ints .i64 a1_1]]), some (.ints 3 .i64 y9.2.1), some (.gen 24 2 [[.int .i64 y9.1, .own 2 y9.2.1.length]]), some (.ints 3 .i64 y10.2.1), some (.gen 24 2 [[.int .i64 y10.1, .own 4 y10.2.1.length]]), some (.ints 3 .i64 y14.2.1), some (.gen 24 2 [[.int .i64 y14.1, .own 6 y14.2.1.length]]), some (.ints 3 .i64 y16.2.1), some (.gen 24 2 [[.int .i64 y16.1, .own 8 y16.2.1.length]])]⟩ := (hAA _ _ _).2 (by
                exact AWPB_end [0, 1, 2, 3, 4, 5, 6, 7, 8, 9] (by kernel_rfl) mkWk)
              have hn29 : AA 1 #[true, true, true, true, true, true, true, true, true, true, true, true, false] ⟨187, [(4, .ptr 0 0 0), (30, .ptr 9 0 0), (173, .int .i64 y16.2.2)], [some (.gen 24 2 [[.int .i64 m_0, .ints .i64 m_1]]), some (.gen 24 2 [[.int .i64 a1_0, .ints .i64 a1_1]]), some (.ints 3 .i64 y9.2.1), some (.gen 24 2 [[.int .i64 y9.1, .own 2 y9.2.1.length]]), some (.ints 3 .i64 y10.2.1), some (.gen 24 2 [[.int .i64 y10.1, .own 4 y10.2.1.length]]), some (.ints 3 .i64 y14.2.1), some (.gen 24 2 [[.int .i64 y14.1, .own 6 y14.2.1.length]]), some (.ints 3 .i64 y16.2.1), some (.gen 24 2 [[.int .i64 y16.1, .own 8 y16.2.1.length]])]⟩ := (hAA _ _ _).2 (by
                refine AWPB_take tab_ok [4, 30, 31] 12 _ rfl rfl (by kernel_rfl) fun c st' hr => ?_
                simp only [go_sem, reduceIte, reduceCtorEq, Nat.reduceEqDiff, Nat.reduceLT, Nat.reduceLeDiff, Nat.reduceBEq, Nat.reduceAdd, Nat.reduceMul, Nat.reduceSub, Nat.reducePow, Int.reduceLE, Int.reduceLT, Int.reduceNeg, Int.reduceToNat, Int.reduceAdd, Int.reduceSub] at hr
                obtain ⟨rfl, rfl⟩ := hr
                refine ⟨vc, ?_⟩
                exact AWPB_wk [0, 1, 2, 3, 4, 5, 6, 7, 8, 9] mkWk ((hAA _ _ _).1 hn28))
              have hn30 : AA 2 #[true, true, true, true, true, true, true, true, true, true, true, false, false] ⟨187, [(4, .ptr 0 0 0), (30, .ptr 9 0 0), (172, .agg [.int .i64 y16.1, .own 8 y16.2.1.length]), (173, .int .i64 y16.2.2)], [some (.gen 24 2 [[.int .i64 m_0, .ints .i64 m_1]]), some (.gen 24 2 [[.int .i64 a1_0, .ints .i64 a1_1]]), some (.ints 3 .i64 y9.2.1), some (.gen 24 2 [[.int .i64 y9.1, .own 2 y9.2.1.length]]), some (.ints 3 .i64 y10.2.1), some (.gen 24 2 [[.int .i64 y10.1, .own 4 y10.2.1.length]]), some (.ints 3 .i64 y14.2.1), some (.gen 24 2 [[.int .i64 y14.1, .own 6 y14.2.1.length]]), some (.ints 3 .i64 y16.2.1), some (.gen 24 2 [[.int .i64 0, .nil]])]⟩ := (hAA _ _ _).2 (by
                refine AWPB_one 11 _ (by kernel_rfl) rfl ?_
                refine AWPL_rn tab_ok 1 [4, 30, 31, 173] fun c st' hr => ?_
                simp only [go_sem, reduceIte, reduceCtorEq, Nat.reduceEqDiff, Nat.reduceLT, Nat.reduceLeDiff, Nat.reduceBEq, Nat.reduceAdd, Nat.reduceMul, Nat.reduceSub, Nat.reducePow, Int.reduceLE, Int.reduceLT, Int.reduceNeg, Int.reduceToNat, Int.reduceAdd, Int.reduceSub] at hr
                obtain ⟨rfl, rfl⟩ := hr
                refine ⟨vc, ?_⟩
                refine AWPL_nil ?_
                refine QB_normal ?_
                exact AWPB_wk [0, 1, 2, 3, 4, 5, 6, 7, 8, 9] mkWk ((hAA _ _ _).1 hn29))
              have hn31 : AA 3 #[true, true, true, true, true, true, true, true, true, true, false, false, false] ⟨187, [(4, .ptr 0 0 0), (172, .agg [.int .i64 y16.1, .own 8 y16.2.1.length]), (173, .int .i64 y16.2.2)], [some (.gen 24 2 [[.int .i64 m_0, .ints .i64 m_1]]), some (.gen 24 2 [[.int .i64 a1_0, .ints .i64 a1_1]]), some (.ints 3 .i64 y9.2.1), some (.gen 24 2 [[.int .i64 y9.1, .own 2 y9.2.1.length]]), some (.ints 3 .i64 y10.2.1), some (.gen 24 2 [[.int .i64 y10.1, .own 4 y10.2.1.length]]), some (.ints 3 .i64 y14.2.1), some (.gen 24 2 [[.int .i64 y14.1, .own 6 y14.2.1.length]]), some (.ints 3 .i64 y16.2.1)]⟩ := (hAA _ _ _).2 (by
                refine AWPB_one 10 _ (by kernel_rfl) rfl ?_
                refine AWPL_rn tab_ok 1 [4, 30, 31, 172, 173] fun c st' hr => ?_
                simp only [go_sem, reduceIte, reduceCtorEq, Nat.reduceEqDiff, Nat.reduceLT, Nat.reduceLeDiff, Nat.reduceBEq, Nat.reduceAdd, Nat.reduceMul, Nat.reduceSub, Nat.reducePow, Int.reduceLE, Int.reduceLT, Int.reduceNeg, Int.reduceToNat, Int.reduceAdd, Int.reduceSub] at hr
                obtain ⟨rfl, rfl⟩ := hr
                refine ⟨vc, ?_⟩
                refine AWPL_nil ?_
                refine QB_normal ?_
                exact AWPB_wk [0, 1, 2, 3, 4, 5, 6, 7, 8, 9] mkWk ((hAA _ _ _).1 hn30))
              have hn32 : AA 4 #[true, true, true, true, true, true, true, true, true, false, false, false, false] ⟨187, [(4, .ptr 0 0 0), (164, .tup [.agg [.int .i64 y16.1, .own 8 y16.2.1.length], .int .i64 y16.2.2]), (172, .agg [.int .i64 y16.1, .own 8 y16.2.1.length])], [some (.gen 24 2 [[.int .i64 m_0, .ints .i64 m_1]]), some (.gen 24 2 [[.int .i64 a1_0, .ints .i64 a1_1]]), some (.ints 3 .i64 y9.2.1), some (.gen 24 2 [[.int .i64 y9.1, .own 2 y9.2.1.length]]), some (.ints 3 .i64 y10.2.1), some (.gen 24 2 [[.int .i64 y10.1, .own 4 y10.2.1.length]]), some (.ints 3 .i64 y14.2.1), some (.gen 24 2 [[.int .i64 y14.1, .own 6 y14.2.1.length]]), some (.ints 3 .i64 y16.2.1)]⟩ := (hAA _ _ _).2 (by
                refine AWPB_take tab_ok [4, 30, 31, 172, 173] 9 _ rfl rfl (by kernel_rfl) fun c st' hr => ?_
                simp only [go_sem, reduceIte, reduceCtorEq, Nat.reduceEqDiff, Nat.reduceLT, Nat.reduceLeDiff, Nat.reduceBEq, Nat.reduceAdd, Nat.reduceMul, Nat.reduceSub, Nat.reducePow, Int.reduceLE, Int.reduceLT, Int.reduceNeg, Int.reduceToNat, Int.reduceAdd, Int.reduceSub] at hr
                obtain ⟨rfl, rfl⟩ := hr
                refine ⟨vc, ?_⟩
                exact AWPB_wk [0, 1, 2, 3, 4, 5, 6, 7, 8] mkWk ((hAA _ _ _).1 hn31))
              have hn33 : AA 5 #[true, true, true, true, true, true, true, true, false, false, false, false, false] ⟨187, [(4, .ptr 0 0 0), (164, .tup [.agg [.int .i64 y16.1, .own 8 y16.2.1.length], .int .i64 y16.2.2])], [some (.gen 24 2 [[.int .i64 m_0, .ints .i64 m_1]]), some (.gen 24 2 [[.int .i64 a1_0, .ints .i64 a1_1]]), some (.ints 3 .i64 y9.2.1), some (.gen 24 2 [[.int .i64 y9.1, .own 2 y9.2.1.length]]), some (.ints 3 .i64 y10.2.1), some (.gen 24 2 [[.int .i64 y10.1, .own 4 y10.2.1.length]]), some (.ints 3 .i64 y14.2.1), some (.gen 24 2 [[.int .i64 y14.1, .own 6 y14.2.1.length]]), some (.ints 3 .i64 y16.2.1)]⟩ := (hAA _ _ _).2 (by
                refine AWPB_take tab_ok [4, 30, 31, 164, 172, 173] 8 _ rfl rfl (by kernel_rfl) fun c st' hr => ?_
                simp only [go_sem, reduceIte, reduceCtorEq, Nat.reduceEqDiff, Nat.reduceLT, Nat.reduceLeDiff, Nat.reduceBEq, Nat.reduceAdd, Nat.reduceMul, Nat.reduceSub, Nat.reducePow, Int.reduceLE, Int.reduceLT, Int.reduceNeg, Int.reduceToNat, Int.reduceAdd, Int.reduceSub] at hr
                obtain ⟨rfl, rfl⟩ := hr
                refine ⟨vc, ?_⟩
                exact AWPB_wk [0, 1, 2, 3, 4, 5, 6, 7, 8] mkWk ((hAA _ _ _).1 hn32))
              have hn34 : AA 6 #[true, true, true, true, true, true, true, false, false, false, false, false, false] ⟨187, [(4, .ptr 0 0 0), (171, .tup [.agg [.int .i64 y16.1, .own 8 y16.2.1.length], .int .i64 y16.2.2])], [some (.gen 24 2 [[.int .i64 m_0, .ints .i64 m_1]]), some (.gen 24 2 [[.int .i64 a1_0, .ints .i64 a1_1]]), some (.ints 3 .i64 y9.2.1), some (.gen 24 2 [[.int .i64 y9.1, .own 2 y9.2.1.length]]), some (.ints 3 .i64 y10.2.1), some (.gen 24 2 [[.int .i64 y10.1, .own 4 y10.2.1.length]]), some (.ints 3 .i64 y14.2.1), some (.gen 24 2 [[.int .i64 y14.1, .own 6 y14.2.1.length]]), some (.ints 3 .i64 y16.2.1)]⟩ := (hAA _ _ _).2 (by
                refine AWPB_take tab_ok [4, 30, 31, 164, 172, 173] 7 _ rfl rfl (by kernel_rfl) fun c st' hr => ?_
                simp only [go_sem, reduceIte, reduceCtorEq, Nat.reduceEqDiff, Nat.reduceLT, Nat.reduceLeDiff, Nat.reduceBEq, Nat.reduceAdd, Nat.reduceMul, Nat.reduceSub, Nat.reducePow, Int.reduceLE, Int.reduceLT, Int.reduceNeg, Int.reduceToNat, Int.reduceAdd, Int.reduceSub] at hr
                obtain ⟨rfl, rfl⟩ := hr
                refine ⟨vc, ?_⟩
                exact AWPB_wk [0, 1, 2, 3, 4, 5, 6, 7, 8] mkWk ((hAA _ _ _).1 hn33))
              have hn35 : AA 3 #[true, true, true, true, true, true, true, true, true, false, true, false, false] ⟨187, [(4, .ptr 0 0 0), (30, .ptr 8 0 0), (164, .tup [.agg [.int .i64 y16.1, .own 9 y16.2.1.length], .int .i64 y16.2.2]), (172, .agg [.int .i64 y16.1, .own 9 y16.2.1.length])], [some (.gen 24 2 [[.int .i64 m_0, .ints .i64 m_1]]), some (.gen 24 2 [[.int .i64 a1_0, .ints .i64 a1_1]]), some (.ints 3 .i64 y9.2.1), some (.gen 24 2 [[.int .i64 y9.1, .own 2 y9.2.1.length]]), some (.ints 3 .i64 y10.2.1), some (.gen 24 2 [[.int .i64 y10.1, .own 4 y10.2.1.length]]), some (.ints 3 .i64 y14.2.1), some (.gen 24 2 [[.int .i64 y14.1, .own 6 y14.2.1.length]]), some (.gen 24 2 [[.int .i64 0, .nil]]), some (.ints 3 .i64 y16.2.1)]⟩ := (hAA _ _ _).2 (by
                refine AWPB_take tab_ok [4, 30, 31, 172, 173] 9 _ rfl rfl (by kernel_rfl) fun c st' hr => ?_
                simp only [go_sem, reduceIte, reduceCtorEq, Nat.reduceEqDiff, Nat.reduceLT, Nat.reduceLeDiff, Nat.reduceBEq, Nat.reduceAdd, Nat.reduceMul, Nat.reduceSub, Nat.reducePow, Int.reduceLE, Int.reduceLT, Int.reduceNeg, Int.reduceToNat, Int.reduceAdd, Int.reduceSub] at hr
                obtain ⟨rfl, rfl⟩ := hr
                refine ⟨vc, ?_⟩
                exact AWPB_wk [0, 1, 2, 3, 4, 5, 6, 7, 9, 8] mkWk ((hAA _ _ _).1 hn30))
              have hn36 : AA 4 #[true, true, true, true, true, true, true, true, false, false, true, false, false] ⟨187, [(4, .ptr 0 0 0), (30, .ptr 8 0 0), (164, .tup [.agg [.int .i64 y16.1, .own 9 y16.2.1.length], .int .i64 y16.2.2])], [some (.gen 24 2 [[.int .i64 m_0, .ints .i64 m_1]]), some (.gen 24 2 [[.int .i64 a1_0, .ints .i64 a1_1]]), some (.ints 3 .i64 y9.2.1), some (.gen 24 2 [[.int .i64 y9.1, .own 2 y9.2.1.length]]), some (.ints 3 .i64 y10.2.1), some (.gen 24 2 [[.int .i64 y10.1, .own 4 y10.2.1.length]]), some (.ints 3 .i64 y14.2.1), some (.gen 24 2 [[.int .i64 y14.1, .own 6 y14.2.1.length]]), some (.gen 24 2 [[.int .i64 0, .nil]]), some (.ints 3 .i64 y16.2.1)]⟩ := (hAA _ _ _).2 (by
                refine AWPB_take tab_ok [4, 30, 31, 164, 172, 173] 8 _ rfl rfl (by kernel_rfl) fun c st' hr => ?_
                simp only [go_sem, reduceIte, reduceCtorEq, Nat.reduceEqDiff, Nat.reduceLT, Nat.reduceLeDiff, Nat.reduceBEq, Nat.reduceAdd, Nat.reduceMul, Nat.reduceSub, Nat.reducePow, Int.reduceLE, Int.reduceLT, Int.reduceNeg, Int.reduceToNat, Int.reduceAdd, Int.reduceSub] at hr
                obtain ⟨rfl, rfl⟩ := hr
                refine ⟨vc, ?_⟩
                exact AWPB_wk [0, 1, 2, 3, 4, 5, 6, 7, 8, 9] mkWk ((hAA _ _ _).1 hn35))
              have hn37 : AA 5 #[true, true, true, true, true, true, true, false, false, false, true, false, false] ⟨187, [(4, .ptr 0 0 0), (30, .ptr 8 0 0), (171, .tup [.agg [.int .i64 y16.1, .own 9 y16.2.1.length], .int .i64 y16.2.2])], [some (.gen 24 2 [[.int .i64 m_0, .ints .i64 m_1]]), some (.gen 24 2 [[.int .i64 a1_0, .ints .i64 a1_1]]), some (.ints 3 .i64 y9.2.1), some (.gen 24 2 [[.int .i64 y9.1, .own 2 y9.2.1.length]]), some (.ints 3 .i64 y10.2.1), some (.gen 24 2 [[.int .i64 y10.1, .own 4 y10.2.1.length]]), some (.ints 3 .i64 y14.2.1), some (.gen 24 2 [[.int .i64 y14.1, .own 6 y14.2.1.length]]), some (.gen 24 2 [[.int .i64 0, .nil]]), some (.ints 3 .i64 y16.2.1)]⟩ := (hAA _ _ _).2 (by
                refine AWPB_take tab_ok [4, 30, 31, 164, 172, 173] 7 _ rfl rfl (by kernel_rfl) fun c st' hr => ?_
                simp only [go_sem, reduceIte, reduceCtorEq, Nat.reduceEqDiff, Nat.reduceLT, Nat.reduceLeDiff, Nat.reduceBEq, Nat.reduceAdd, Nat.reduceMul, Nat.reduceSub, Nat.reducePow, Int.reduceLE, Int.reduceLT, Int.reduceNeg, Int.reduceToNat, Int.reduceAdd, Int.reduceSub] at hr
                obtain ⟨rfl, rfl⟩ := hr
                refine ⟨vc, ?_⟩
                exact AWPB_wk [0, 1, 2, 3, 4, 5, 6, 7, 8, 9] mkWk ((hAA _ _ _).1 hn36))
              have hn38 : AA 6 #[true, true, true, true, true, true, false, false, false, false, true, false, false] ⟨187, [(4, .ptr 0 0 0), (30, .ptr 8 0 0), (165, .agg [.int .i64 y14.1, .own 6 y14.2.1.length]), (170, .int .i64 y15)], [some (.gen 24 2 [[.int .i64 m_0, .ints .i64 m_1]]), some (.gen 24 2 [[.int .i64 a1_0, .ints .i64 a1_1]]), some (.ints 3 .i64 y9.2.1), some (.gen 24 2 [[.int .i64 y9.1, .own 2 y9.2.1.length]]), some (.ints 3 .i64 y10.2.1), some (.gen 24 2 [[.int .i64 y10.1, .own 4 y10.2.1.length]]), some (.ints 3 .i64 y14.2.1), some (.gen 24 2 [[.int .i64 y14.1, .own 6 y14.2.1.length]]), some (.gen 24 2 [[.int .i64 0, .nil]])]⟩ := (hAA _ _ _).2 (by
                refine AWPB_one 6 _ (by kernel_rfl) rfl ?_
                refine AWPL_callK [4, 30, 31, 164, 171, 172, 173] (W_minors_Contract hy3) rfl rfl pcT rfl Try.call12 (.cons (.agg _ _ rfl (ArgsOk.get (.cons (.atom _ rfl) (.cons (.ownI _ _ _ _ _ y14.2.1 rfl (by simp) (by first | simp | exact List.take_of_length_le (by simp))) .nil))).2) (.cons (.atom _ rfl) .nil)) (hscG trivial) (of_decide_eq_true rfl) (by first | rfl | simp [nI, nI1, nI0]) (by first | rfl | simp [nIB, nI0]) fun st' hr => ?_
                simp only [go_sem, reduceIte, reduceCtorEq, Nat.reduceEqDiff, Nat.reduceLT, Nat.reduceLeDiff, Nat.reduceBEq, Nat.reduceAdd, Nat.reduceMul, Nat.reduceSub, Nat.reducePow, Int.reduceLE, Int.reduceLT, Int.reduceNeg, Int.reduceToNat, Int.reduceAdd, Int.reduceSub] at hr
                subst hr
                refine AWPL_nil ?_
                refine QB_normal ?_
                exact AWPB_wk [0, 1, 2, 3, 4, 5, 6, 7, 8, 9] mkWk ((hAA _ _ _).1 hn37))
              have hn39 : AA 7 #[true, true, true, true, true, true, false, false, false, false, false, false, false] ⟨187, [(4, .ptr 0 0 0), (165, .agg [.int .i64 y14.1, .own 6 y14.2.1.length]), (170, .int .i64 y15)], [some (.gen 24 2 [[.int .i64 m_0, .ints .i64 m_1]]), some (.gen 24 2 [[.int .i64 a1_0, .ints .i64 a1_1]]), some (.ints 3 .i64 y9.2.1), some (.gen 24 2 [[.int .i64 y9.1, .own 2 y9.2.1.length]]), some (.ints 3 .i64 y10.2.1), some (.gen 24 2 [[.int .i64 y10.1, .own 4 y10.2.1.length]]), some (.ints 3 .i64 y14.2.1), some (.gen 24 2 [[.int .i64 y14.1, .own 6 y14.2.1.length]])]⟩ := (hAA _ _ _).2 (by
                refine AWPB_two 6 10 _ _ (by kernel_rfl) rfl rfl ?_ ?_
                · skip
                  refine AWPL_callK [4, 30, 31, 164, 171, 172, 173] (W_minors_Contract hy3) rfl rfl pcT rfl Try.call12 (.cons (.agg _ _ rfl (ArgsOk.get (.cons (.atom _ rfl) (.cons (.ownI _ _ _ _ _ y14.2.1 rfl (by simp) (by first | simp | exact List.take_of_length_le (by simp))) .nil))).2) (.cons (.atom _ rfl) .nil)) (hscG trivial) (of_decide_eq_true rfl) (by first | rfl | simp [nI, nI1, nI0]) (by first | rfl | simp [nIB, nI0]) fun st' hr => ?_
                  simp only [go_sem, reduceIte, reduceCtorEq, Nat.reduceEqDiff, Nat.reduceLT, Nat.reduceLeDiff, Nat.reduceBEq, Nat.reduceAdd, Nat.reduceMul, Nat.reduceSub, Nat.reducePow, Int.reduceLE, Int.reduceLT, Int.reduceNeg, Int.reduceToNat, Int.reduceAdd, Int.reduceSub] at hr
                  subst hr
                  refine AWPL_nil ?_
                  refine QB_normal ?_
                  exact AWPB_wk [0, 1, 2, 3, 4, 5, 6, 7, 8] mkWk ((hAA _ _ _).1 hn34)
                · skip
                  refine AWPL_rn tab_ok 1 [4, 30, 31, 164, 165, 170, 171, 172, 173] fun c st' hr => ?_
                  simp only [go_sem, reduceIte, reduceCtorEq, Nat.reduceEqDiff, Nat.reduceLT, Nat.reduceLeDiff, Nat.reduceBEq, Nat.reduceAdd, Nat.reduceMul, Nat.reduceSub, Nat.reducePow, Int.reduceLE, Int.reduceLT, Int.reduceNeg, Int.reduceToNat, Int.reduceAdd, Int.reduceSub] at hr
                  obtain ⟨rfl, rfl⟩ := hr
                  refine ⟨vc, ?_⟩
                  refine AWPL_nil ?_
                  refine QB_normal ?_
                  exact AWPB_wk [0, 1, 2, 3, 4, 5, 6, 7, 8] mkWk ((hAA _ _ _).1 hn38))
              have hn40 : AA 7 #[true, true, true, true, true, false, false, false, false, false, true, false, false] ⟨187, [(4, .ptr 0 0 0), (30, .ptr 8 0 0), (165, .agg [.int .i64 y14.1, .own 6 y14.2.1.length]), (167, .int .i64 m_0), (168, .int .i64 a2), (169, .int .i64 a3)], [some (.gen 24 2 [[.int .i64 m_0, .ints .i64 m_1]]), some (.gen 24 2 [[.int .i64 a1_0, .ints .i64 a1_1]]), some (.ints 3 .i64 y9.2.1), some (.gen 24 2 [[.int .i64 y9.1, .own 2 y9.2.1.length]]), some (.ints 3 .i64 y10.2.1), some (.gen 24 2 [[.int .i64 y10.1, .own 4 y10.2.1.length]]), some (.ints 3 .i64 y14.2.1), some (.gen 24 2 [[.int .i64 y14.1, .own 6 y14.2.1.length]]), some (.gen 24 2 [[.int .i64 0, .nil]])]⟩ := (hAA _ _ _).2 (by
                refine AWPB_one 5 _ (by kernel_rfl) rfl ?_
                refine AWPL_callK [4, 30, 31, 164, 165, 170, 171, 172, 173] (W_rotaref_Shifted hy2) rfl rfl pcT rfl Try.call13 (.cons (.atom _ rfl) (.cons (.atom _ rfl) (.cons (.atom _ rfl) .nil))) (hscG trivial) (of_decide_eq_true rfl) (by first | rfl | simp [nI, nI1, nI0]) (by first | rfl | simp [nIB, nI0]) fun st' hr => ?_
                simp only [go_sem, reduceIte, reduceCtorEq, Nat.reduceEqDiff, Nat.reduceLT, Nat.reduceLeDiff, Nat.reduceBEq, Nat.reduceAdd, Nat.reduceMul, Nat.reduceSub, Nat.reducePow, Int.reduceLE, Int.reduceLT, Int.reduceNeg, Int.reduceToNat, Int.reduceAdd, Int.reduceSub] at hr
                subst hr
                refine AWPL_nil ?_
                refine QB_normal ?_
                exact AWPB_wk [0, 1, 2, 3, 4, 5, 6, 7, 8] mkWk ((hAA _ _ _).1 hn38))
              have hn41 : AA 8 #[true, true, true, true, true, false, false, false, false, false, false, false, false] ⟨187, [(4, .ptr 0 0 0), (165, .agg [.int .i64 y14.1, .own 6 y14.2.1.length]), (167, .int .i64 m_0), (168, .int .i64 a2), (169, .int .i64 a3)], [some (.gen 24 2 [[.int .i64 m_0, .ints .i64 m_1]]), some (.gen 24 2 [[.int .i64 a1_0, .ints .i64 a1_1]]), some (.ints 3 .i64 y9.2.1), some (.gen 24 2 [[.int .i64 y9.1, .own 2 y9.2.1.length]]), some (.ints 3 .i64 y10.2.1), some (.gen 24 2 [[.int .i64 y10.1, .own 4 y10.2.1.length]]), some (.ints 3 .i64 y14.2.1), some (.gen 24 2 [[.int .i64 y14.1, .own 6 y14.2.1.length]])]⟩ := (hAA _ _ _).2 (by
                refine AWPB_two 5 10 _ _ (by kernel_rfl) rfl rfl ?_ ?_
                · skip
                  refine AWPL_callK [4, 30, 31, 164, 165, 170, 171, 172, 173] (W_rotaref_Shifted hy2) rfl rfl pcT rfl Try.call13 (.cons (.atom _ rfl) (.cons (.atom _ rfl) (.cons (.atom _ rfl) .nil))) (hscG trivial) (of_decide_eq_true rfl) (by first | rfl | simp [nI, nI1, nI0]) (by first | rfl | simp [nIB, nI0]) fun st' hr => ?_
                  simp only [go_sem, reduceIte, reduceCtorEq, Nat.reduceEqDiff, Nat.reduceLT, Nat.reduceLeDiff, Nat.reduceBEq, Nat.reduceAdd, Nat.reduceMul, Nat.reduceSub, Nat.reducePow, Int.reduceLE, Int.reduceLT, Int.reduceNeg, Int.reduceToNat, Int.reduceAdd, Int.reduceSub] at hr
                  subst hr
                  refine AWPL_nil ?_
                  refine QB_normal ?_
                  exact AWPB_wk [0, 1, 2, 3, 4, 5, 6, 7] mkWk ((hAA _ _ _).1 hn39)
                · skip
                  refine AWPL_rn tab_ok 1 [4, 30, 31, 164, 165, 167, 168, 169, 170, 171, 172, 173] fun c st' hr => ?_
                  simp only [go_sem, reduceIte, reduceCtorEq, Nat.reduceEqDiff, Nat.reduceLT, Nat.reduceLeDiff, Nat.reduceBEq, Nat.reduceAdd, Nat.reduceMul, Nat.reduceSub, Nat.reducePow, Int.reduceLE, Int.reduceLT, Int.reduceNeg, Int.reduceToNat, Int.reduceAdd, Int.reduceSub] at hr
                  obtain ⟨rfl, rfl⟩ := hr
                  refine ⟨vc, ?_⟩
                  refine AWPL_nil ?_
                  refine QB_normal ?_
                  exact AWPB_wk [0, 1, 2, 3, 4, 5, 6, 7, 8] mkWk ((hAA _ _ _).1 hn40))
              have hn42 : AA 8 #[true, true, false, true, true, false, false, false, false, false, true, false, false] ⟨187, [(4, .ptr 0 0 0), (30, .ptr 8 0 0), (165, .agg [.int .i64 y14.1, .own 6 y14.2.1.length]), (166, .ptr 0 0 0), (168, .int .i64 a2), (169, .int .i64 a3)], [some (.gen 24 2 [[.int .i64 m_0, .ints .i64 m_1]]), some (.gen 24 2 [[.int .i64 a1_0, .ints .i64 a1_1]]), some (.ints 3 .i64 y9.2.1), some (.gen 24 2 [[.int .i64 y9.1, .own 2 y9.2.1.length]]), some (.ints 3 .i64 y10.2.1), some (.gen 24 2 [[.int .i64 y10.1, .own 4 y10.2.1.length]]), some (.ints 3 .i64 y14.2.1), some (.gen 24 2 [[.int .i64 y14.1, .own 6 y14.2.1.length]]), some (.gen 24 2 [[.int .i64 0, .nil]])]⟩ := (hAA _ _ _).2 (by
                refine AWPB_one 2 _ (by kernel_rfl) rfl ?_
                refine AWPL_rn tab_ok 1 [4, 30, 31, 164, 165, 167, 168, 169, 170, 171, 172, 173] fun c st' hr => ?_
                simp only [go_sem, reduceIte, reduceCtorEq, Nat.reduceEqDiff, Nat.reduceLT, Nat.reduceLeDiff, Nat.reduceBEq, Nat.reduceAdd, Nat.reduceMul, Nat.reduceSub, Nat.reducePow, Int.reduceLE, Int.reduceLT, Int.reduceNeg, Int.reduceToNat, Int.reduceAdd, Int.reduceSub] at hr
                obtain ⟨rfl, rfl⟩ := hr
                refine ⟨vc, ?_⟩
                refine AWPL_nil ?_
                refine QB_normal ?_
                exact AWPB_wk [0, 1, 2, 3, 4, 5, 6, 7, 8] mkWk ((hAA _ _ _).1 hn40))
              have hn43 : AA 9 #[true, true, false, true, true, false, false, false, false, false, false, false, false] ⟨187, [(4, .ptr 0 0 0), (165, .agg [.int .i64 y14.1, .own 6 y14.2.1.length]), (166, .ptr 0 0 0), (168, .int .i64 a2), (169, .int .i64 a3)], [some (.gen 24 2 [[.int .i64 m_0, .ints .i64 m_1]]), some (.gen 24 2 [[.int .i64 a1_0, .ints .i64 a1_1]]), some (.ints 3 .i64 y9.2.1), some (.gen 24 2 [[.int .i64 y9.1, .own 2 y9.2.1.length]]), some (.ints 3 .i64 y10.2.1), some (.gen 24 2 [[.int .i64 y10.1, .own 4 y10.2.1.length]]), some (.ints 3 .i64 y14.2.1), some (.gen 24 2 [[.int .i64 y14.1, .own 6 y14.2.1.length]])]⟩ := (hAA _ _ _).2 (by
                refine AWPB_two 2 10 _ _ (by kernel_rfl) rfl rfl ?_ ?_
                · skip
                  refine AWPL_rn tab_ok 1 [4, 30, 31, 164, 165, 167, 168, 169, 170, 171, 172, 173] fun c st' hr => ?_
                  simp only [go_sem, reduceIte, reduceCtorEq, Nat.reduceEqDiff, Nat.reduceLT, Nat.reduceLeDiff, Nat.reduceBEq, Nat.reduceAdd, Nat.reduceMul, Nat.reduceSub, Nat.reducePow, Int.reduceLE, Int.reduceLT, Int.reduceNeg, Int.reduceToNat, Int.reduceAdd, Int.reduceSub] at hr
                  obtain ⟨rfl, rfl⟩ := hr
                  refine ⟨vc, ?_⟩
                  refine AWPL_nil ?_
                  refine QB_normal ?_
                  exact AWPB_wk [0, 1, 2, 3, 4, 5, 6, 7] mkWk ((hAA _ _ _).1 hn41)
                · skip
                  refine AWPL_rn tab_ok 1 [4, 30, 31, 164, 165, 166, 167, 168, 169, 170, 171, 172, 173] fun c st' hr => ?_
                  simp only [go_sem, reduceIte, reduceCtorEq, Nat.reduceEqDiff, Nat.reduceLT, Nat.reduceLeDiff, Nat.reduceBEq, Nat.reduceAdd, Nat.reduceMul, Nat.reduceSub, Nat.reducePow, Int.reduceLE, Int.reduceLT, Int.reduceNeg, Int.reduceToNat, Int.reduceAdd, Int.reduceSub] at hr
                  obtain ⟨rfl, rfl⟩ := hr
                  refine ⟨vc, ?_⟩
                  refine AWPL_nil ?_
                  refine QB_normal ?_
                  exact AWPB_wk [0, 1, 2, 3, 4, 5, 6, 7, 8] mkWk ((hAA _ _ _).1 hn42))
              have hn44 : AA 9 #[true, false, false, true, true, false, false, false, false, false, true, false, false] ⟨187, [(4, .ptr 0 0 0), (30, .ptr 8 0 0), (165, .agg [.int .i64 y14.1, .own 6 y14.2.1.length]), (168, .int .i64 a2), (169, .int .i64 a3)], [some (.gen 24 2 [[.int .i64 m_0, .ints .i64 m_1]]), some (.gen 24 2 [[.int .i64 a1_0, .ints .i64 a1_1]]), some (.ints 3 .i64 y9.2.1), some (.gen 24 2 [[.int .i64 y9.1, .own 2 y9.2.1.length]]), some (.ints 3 .i64 y10.2.1), some (.gen 24 2 [[.int .i64 y10.1, .own 4 y10.2.1.length]]), some (.ints 3 .i64 y14.2.1), some (.gen 24 2 [[.int .i64 y14.1, .own 6 y14.2.1.length]]), some (.gen 24 2 [[.int .i64 0, .nil]])]⟩ := (hAA _ _ _).2 (by
                refine AWPB_one 1 _ (by kernel_rfl) rfl ?_
                refine AWPL_rn tab_ok 1 [4, 30, 31, 164, 165, 166, 167, 168, 169, 170, 171, 172, 173] fun c st' hr => ?_
                simp only [go_sem, reduceIte, reduceCtorEq, Nat.reduceEqDiff, Nat.reduceLT, Nat.reduceLeDiff, Nat.reduceBEq, Nat.reduceAdd, Nat.reduceMul, Nat.reduceSub, Nat.reducePow, Int.reduceLE, Int.reduceLT, Int.reduceNeg, Int.reduceToNat, Int.reduceAdd, Int.reduceSub] at hr
                obtain ⟨rfl, rfl⟩ := hr
                refine ⟨vc, ?_⟩
                refine AWPL_nil ?_
                refine QB_normal ?_
                exact AWPB_wk [0, 1, 2, 3, 4, 5, 6, 7, 8] mkWk ((hAA _ _ _).1 hn42))
              have hn45 : AA 10 #[true, false, false, true, true, false, false, false, false, false, false, false, false] ⟨187, [(4, .ptr 0 0 0), (165, .agg [.int .i64 y14.1, .own 6 y14.2.1.length]), (168, .int .i64 a2), (169, .int .i64 a3)], [some (.gen 24 2 [[.int .i64 m_0, .ints .i64 m_1]]), some (.gen 24 2 [[.int .i64 a1_0, .ints .i64 a1_1]]), some (.ints 3 .i64 y9.2.1), some (.gen 24 2 [[.int .i64 y9.1, .own 2 y9.2.1.length]]), some (.ints 3 .i64 y10.2.1), some (.gen 24 2 [[.int .i64 y10.1, .own 4 y10.2.1.length]]), some (.ints 3 .i64 y14.2.1), some (.gen 24 2 [[.int .i64 y14.1, .own 6 y14.2.1.length]])]⟩ := (hAA _ _ _).2 (by
                refine AWPB_two 1 10 _ _ (by kernel_rfl) rfl rfl ?_ ?_
                · skip
                  refine AWPL_rn tab_ok 1 [4, 30, 31, 164, 165, 166, 167, 168, 169, 170, 171, 172, 173] fun c st' hr => ?_
                  simp only [go_sem, reduceIte, reduceCtorEq, Nat.reduceEqDiff, Nat.reduceLT, Nat.reduceLeDiff, Nat.reduceBEq, Nat.reduceAdd, Nat.reduceMul, Nat.reduceSub, Nat.reducePow, Int.reduceLE, Int.reduceLT, Int.reduceNeg, Int.reduceToNat, Int.reduceAdd, Int.reduceSub] at hr
                  obtain ⟨rfl, rfl⟩ := hr
                  refine ⟨vc, ?_⟩
                  refine AWPL_nil ?_
                  refine QB_normal ?_
                  exact AWPB_wk [0, 1, 2, 3, 4, 5, 6, 7] mkWk ((hAA _ _ _).1 hn43)
                · skip
                  refine AWPL_rn tab_ok 1 [4, 30, 31, 164, 165, 166, 167, 168, 169, 170, 171, 172, 173] fun c st' hr => ?_
                  simp only [go_sem, reduceIte, reduceCtorEq, Nat.reduceEqDiff, Nat.reduceLT, Nat.reduceLeDiff, Nat.reduceBEq, Nat.reduceAdd, Nat.reduceMul, Nat.reduceSub, Nat.reducePow, Int.reduceLE, Int.reduceLT, Int.reduceNeg, Int.reduceToNat, Int.reduceAdd, Int.reduceSub] at hr
                  obtain ⟨rfl, rfl⟩ := hr
                  refine ⟨vc, ?_⟩
                  refine AWPL_nil ?_
                  refine QB_normal ?_
                  exact AWPB_wk [0, 1, 2, 3, 4, 5, 6, 7, 8] mkWk ((hAA _ _ _).1 hn44))
              have hn46 : AA 7 #[false, true, true, true, true, true, false, false, false, false, true, false, false] ⟨187, [(4, .ptr 0 0 0), (28, .ptr 7 0 0), (30, .ptr 8 0 0), (170, .int .i64 y15)], [some (.gen 24 2 [[.int .i64 m_0, .ints .i64 m_1]]), some (.gen 24 2 [[.int .i64 a1_0, .ints .i64 a1_1]]), some (.ints 3 .i64 y9.2.1), some (.gen 24 2 [[.int .i64 y9.1, .own 2 y9.2.1.length]]), some (.ints 3 .i64 y10.2.1), some (.gen 24 2 [[.int .i64 y10.1, .own 4 y10.2.1.length]]), some (.ints 3 .i64 y14.2.1), some (.gen 24 2 [[.int .i64 y14.1, .own 6 y14.2.1.length]]), some (.gen 24 2 [[.int .i64 0, .nil]])]⟩ := (hAA _ _ _).2 (by
                refine AWPB_one 0 _ (by kernel_rfl) rfl ?_
                refine AWPL_rn tab_ok 1 [4, 30, 31, 164, 165, 170, 171, 172, 173] fun c st' hr => ?_
                simp only [go_sem, reduceIte, reduceCtorEq, Nat.reduceEqDiff, Nat.reduceLT, Nat.reduceLeDiff, Nat.reduceBEq, Nat.reduceAdd, Nat.reduceMul, Nat.reduceSub, Nat.reducePow, Int.reduceLE, Int.reduceLT, Int.reduceNeg, Int.reduceToNat, Int.reduceAdd, Int.reduceSub] at hr
                obtain ⟨rfl, rfl⟩ := hr
                refine ⟨vc, ?_⟩
                refine AWPL_nil ?_
                refine QB_normal ?_
                exact AWPB_wk [0, 1, 2, 3, 4, 5, 6, 7, 8] mkWk ((hAA _ _ _).1 hn38))
              have hn47 : AA 8 #[false, true, true, true, true, true, false, false, false, false, false, false, false] ⟨187, [(4, .ptr 0 0 0), (28, .ptr 7 0 0), (170, .int .i64 y15)], [some (.gen 24 2 [[.int .i64 m_0, .ints .i64 m_1]]), some (.gen 24 2 [[.int .i64 a1_0, .ints .i64 a1_1]]), some (.ints 3 .i64 y9.2.1), some (.gen 24 2 [[.int .i64 y9.1, .own 2 y9.2.1.length]]), some (.ints 3 .i64 y10.2.1), some (.gen 24 2 [[.int .i64 y10.1, .own 4 y10.2.1.length]]), some (.ints 3 .i64 y14.2.1), some (.gen 24 2 [[.int .i64 y14.1, .own 6 y14.2.1.length]])]⟩ := (hAA _ _ _).2 (by
                refine AWPB_two 0 10 _ _ (by kernel_rfl) rfl rfl ?_ ?_
                · skip
                  refine AWPL_rn tab_ok 1 [4, 30, 31, 164, 165, 170, 171, 172, 173] fun c st' hr => ?_
                  simp only [go_sem, reduceIte, reduceCtorEq, Nat.reduceEqDiff, Nat.reduceLT, Nat.reduceLeDiff, Nat.reduceBEq, Nat.reduceAdd, Nat.reduceMul, Nat.reduceSub, Nat.reducePow, Int.reduceLE, Int.reduceLT, Int.reduceNeg, Int.reduceToNat, Int.reduceAdd, Int.reduceSub] at hr
                  obtain ⟨rfl, rfl⟩ := hr
                  refine ⟨vc, ?_⟩
                  refine AWPL_nil ?_
                  refine QB_normal ?_
                  exact AWPB_wk [0, 1, 2, 3, 4, 5, 6, 7] mkWk ((hAA _ _ _).1 hn39)
                · skip
                  refine AWPL_rn tab_ok 1 [4, 28, 30, 31, 164, 165, 170, 171, 172, 173] fun c st' hr => ?_
                  simp only [go_sem, reduceIte, reduceCtorEq, Nat.reduceEqDiff, Nat.reduceLT, Nat.reduceLeDiff, Nat.reduceBEq, Nat.reduceAdd, Nat.reduceMul, Nat.reduceSub, Nat.reducePow, Int.reduceLE, Int.reduceLT, Int.reduceNeg, Int.reduceToNat, Int.reduceAdd, Int.reduceSub] at hr
                  obtain ⟨rfl, rfl⟩ := hr
                  refine ⟨vc, ?_⟩
                  refine AWPL_nil ?_
                  refine QB_normal ?_
                  exact AWPB_wk [0, 1, 2, 3, 4, 5, 6, 7, 8] mkWk ((hAA _ _ _).1 hn46))
              have hn48 : AA 8 #[false, true, true, true, true, false, false, false, false, false, true, false, false] ⟨187, [(4, .ptr 0 0 0), (28, .ptr 7 0 0), (30, .ptr 8 0 0), (167, .int .i64 m_0), (168, .int .i64 a2), (169, .int .i64 a3)], [some (.gen 24 2 [[.int .i64 m_0, .ints .i64 m_1]]), some (.gen 24 2 [[.int .i64 a1_0, .ints .i64 a1_1]]), some (.ints 3 .i64 y9.2.1), some (.gen 24 2 [[.int .i64 y9.1, .own 2 y9.2.1.length]]), some (.ints 3 .i64 y10.2.1), some (.gen 24 2 [[.int .i64 y10.1, .own 4 y10.2.1.length]]), some (.ints 3 .i64 y14.2.1), some (.gen 24 2 [[.int .i64 y14.1, .own 6 y14.2.1.length]]), some (.gen 24 2 [[.int .i64 0, .nil]])]⟩ := (hAA _ _ _).2 (by
                refine AWPB_two 0 5 _ _ (by kernel_rfl) rfl rfl ?_ ?_
                · skip
                  refine AWPL_rn tab_ok 1 [4, 30, 31, 164, 165, 167, 168, 169, 170, 171, 172, 173] fun c st' hr => ?_
                  simp only [go_sem, reduceIte, reduceCtorEq, Nat.reduceEqDiff, Nat.reduceLT, Nat.reduceLeDiff, Nat.reduceBEq, Nat.reduceAdd, Nat.reduceMul, Nat.reduceSub, Nat.reducePow, Int.reduceLE, Int.reduceLT, Int.reduceNeg, Int.reduceToNat, Int.reduceAdd, Int.reduceSub] at hr
                  obtain ⟨rfl, rfl⟩ := hr
                  refine ⟨vc, ?_⟩
                  refine AWPL_nil ?_
                  refine QB_normal ?_
                  exact AWPB_wk [0, 1, 2, 3, 4, 5, 6, 7, 8] mkWk ((hAA _ _ _).1 hn40)
                · skip
                  refine AWPL_callK [4, 28, 30, 31, 164, 165, 170, 171, 172, 173] (W_rotaref_Shifted hy2) rfl rfl pcT rfl Try.call13 (.cons (.atom _ rfl) (.cons (.atom _ rfl) (.cons (.atom _ rfl) .nil))) (hscG trivial) (of_decide_eq_true rfl) (by first | rfl | simp [nI, nI1, nI0]) (by first | rfl | simp [nIB, nI0]) fun st' hr => ?_
                  simp only [go_sem, reduceIte, reduceCtorEq, Nat.reduceEqDiff, Nat.reduceLT, Nat.reduceLeDiff, Nat.reduceBEq, Nat.reduceAdd, Nat.reduceMul, Nat.reduceSub, Nat.reducePow, Int.reduceLE, Int.reduceLT, Int.reduceNeg, Int.reduceToNat, Int.reduceAdd, Int.reduceSub] at hr
                  subst hr
                  refine AWPL_nil ?_
                  refine QB_normal ?_
                  exact AWPB_wk [0, 1, 2, 3, 4, 5, 6, 7, 8] mkWk ((hAA _ _ _).1 hn46))
              have hn49 : AA 9 #[false, true, true, true, true, false, false, false, false, false, false, false, false] ⟨187, [(4, .ptr 0 0 0), (28, .ptr 7 0 0), (167, .int .i64 m_0), (168, .int .i64 a2), (169, .int .i64 a3)], [some (.gen 24 2 [[.int .i64 m_0, .ints .i64 m_1]]), some (.gen 24 2 [[.int .i64 a1_0, .ints .i64 a1_1]]), some (.ints 3 .i64 y9.2.1), some (.gen 24 2 [[.int .i64 y9.1, .own 2 y9.2.1.length]]), some (.ints 3 .i64 y10.2.1), some (.gen 24 2 [[.int .i64 y10.1, .own 4 y10.2.1.length]]), some (.ints 3 .i64 y14.2.1), some (.gen 24 2 [[.int .i64 y14.1, .own 6 y14.2.1.length]])]⟩ := (hAA _ _ _).2 (by
                refine AWPB_three 0 5 10 _ _ _ (by kernel_rfl) rfl rfl rfl ?_ ?_ ?_
                · skip
                  refine AWPL_rn tab_ok 1 [4, 30, 31, 164, 165, 167, 168, 169, 170, 171, 172, 173] fun c st' hr => ?_
                  simp only [go_sem, reduceIte, reduceCtorEq, Nat.reduceEqDiff, Nat.reduceLT, Nat.reduceLeDiff, Nat.reduceBEq, Nat.reduceAdd, Nat.reduceMul, Nat.reduceSub, Nat.reducePow, Int.reduceLE, Int.reduceLT, Int.reduceNeg, Int.reduceToNat, Int.reduceAdd, Int.reduceSub] at hr
                  obtain ⟨rfl, rfl⟩ := hr
                  refine ⟨vc, ?_⟩
                  refine AWPL_nil ?_
                  refine QB_normal ?_
                  exact AWPB_wk [0, 1, 2, 3, 4, 5, 6, 7] mkWk ((hAA _ _ _).1 hn41)
                · skip
                  refine AWPL_callK [4, 28, 30, 31, 164, 165, 170, 171, 172, 173] (W_rotaref_Shifted hy2) rfl rfl pcT rfl Try.call13 (.cons (.atom _ rfl) (.cons (.atom _ rfl) (.cons (.atom _ rfl) .nil))) (hscG trivial) (of_decide_eq_true rfl) (by first | rfl | simp [nI, nI1, nI0]) (by first | rfl | simp [nIB, nI0]) fun st' hr => ?_
                  simp only [go_sem, reduceIte, reduceCtorEq, Nat.reduceEqDiff, Nat.reduceLT, Nat.reduceLeDiff, Nat.reduceBEq, Nat.reduceAdd, Nat.reduceMul, Nat.reduceSub, Nat.reducePow, Int.reduceLE, Int.reduceLT, Int.reduceNeg, Int.reduceToNat, Int.reduceAdd, Int.reduceSub] at hr
                  subst hr
                  refine AWPL_nil ?_
                  refine QB_normal ?_
                  exact AWPB_wk [0, 1, 2, 3, 4, 5, 6, 7] mkWk ((hAA _ _ _).1 hn47)
                · skip
                  refine AWPL_rn tab_ok 1 [4, 28, 30, 31, 164, 165, 167, 168, 169, 170, 171, 172, 173] fun c st' hr => ?_
                  simp only [go_sem, reduceIte, reduceCtorEq, Nat.reduceEqDiff, Nat.reduceLT, Nat.reduceLeDiff, Nat.reduceBEq, Nat.reduceAdd, Nat.reduceMul, Nat.reduceSub, Nat.reducePow, Int.reduceLE, Int.reduceLT, Int.reduceNeg, Int.reduceToNat, Int.reduceAdd, Int.reduceSub] at hr
                  obtain ⟨rfl, rfl⟩ := hr
                  refine ⟨vc, ?_⟩
                  refine AWPL_nil ?_
                  refine QB_normal ?_
                  exact AWPB_wk [0, 1, 2, 3, 4, 5, 6, 7, 8] mkWk ((hAA _ _ _).1 hn48))
              have hn50 : AA 9 #[false, true, false, true, true, false, false, false, false, false, true, false, false] ⟨187, [(4, .ptr 0 0 0), (28, .ptr 7 0 0), (30, .ptr 8 0 0), (166, .ptr 0 0 0), (168, .int .i64 a2), (169, .int .i64 a3)], [some (.gen 24 2 [[.int .i64 m_0, .ints .i64 m_1]]), some (.gen 24 2 [[.int .i64 a1_0, .ints .i64 a1_1]]), some (.ints 3 .i64 y9.2.1), some (.gen 24 2 [[.int .i64 y9.1, .own 2 y9.2.1.length]]), some (.ints 3 .i64 y10.2.1), some (.gen 24 2 [[.int .i64 y10.1, .own 4 y10.2.1.length]]), some (.ints 3 .i64 y14.2.1), some (.gen 24 2 [[.int .i64 y14.1, .own 6 y14.2.1.length]]), some (.gen 24 2 [[.int .i64 0, .nil]])]⟩ := (hAA _ _ _).2 (by
                refine AWPB_two 0 2 _ _ (by kernel_rfl) rfl rfl ?_ ?_
                · skip
                  refine AWPL_rn tab_ok 1 [4, 30, 31, 164, 165, 166, 167, 168, 169, 170, 171, 172, 173] fun c st' hr => ?_
                  simp only [go_sem, reduceIte, reduceCtorEq, Nat.reduceEqDiff, Nat.reduceLT, Nat.reduceLeDiff, Nat.reduceBEq, Nat.reduceAdd, Nat.reduceMul, Nat.reduceSub, Nat.reducePow, Int.reduceLE, Int.reduceLT, Int.reduceNeg, Int.reduceToNat, Int.reduceAdd, Int.reduceSub] at hr
                  obtain ⟨rfl, rfl⟩ := hr
                  refine ⟨vc, ?_⟩
                  refine AWPL_nil ?_
                  refine QB_normal ?_
                  exact AWPB_wk [0, 1, 2, 3, 4, 5, 6, 7, 8] mkWk ((hAA _ _ _).1 hn42)
                · skip
                  refine AWPL_rn tab_ok 1 [4, 28, 30, 31, 164, 165, 167, 168, 169, 170, 171, 172, 173] fun c st' hr => ?_
                  simp only [go_sem, reduceIte, reduceCtorEq, Nat.reduceEqDiff, Nat.reduceLT, Nat.reduceLeDiff, Nat.reduceBEq, Nat.reduceAdd, Nat.reduceMul, Nat.reduceSub, Nat.reducePow, Int.reduceLE, Int.reduceLT, Int.reduceNeg, Int.reduceToNat, Int.reduceAdd, Int.reduceSub] at hr
                  obtain ⟨rfl, rfl⟩ := hr
                  refine ⟨vc, ?_⟩
                  refine AWPL_nil ?_
                  refine QB_normal ?_
                  exact AWPB_wk [0, 1, 2, 3, 4, 5, 6, 7, 8] mkWk ((hAA _ _ _).1 hn48))
              have hn51 : AA 10 #[false, true, false, true, true, false, false, false, false, false, false, false, false] ⟨187, [(4, .ptr 0 0 0), (28, .ptr 7 0 0), (166, .ptr 0 0 0), (168, .int .i64 a2), (169, .int .i64 a3)], [some (.gen 24 2 [[.int .i64 m_0, .ints .i64 m_1]]), some (.gen 24 2 [[.int .i64 a1_0, .ints .i64 a1_1]]), some (.ints 3 .i64 y9.2.1), some (.gen 24 2 [[.int .i64 y9.1, .own 2 y9.2.1.length]]), some (.ints 3 .i64 y10.2.1), some (.gen 24 2 [[.int .i64 y10.1, .own 4 y10.2.1.length]]), some (.ints 3 .i64 y14.2.1), some (.gen 24 2 [[.int .i64 y14.1, .own 6 y14.2.1.length]])]⟩ := (hAA _ _ _).2 (by
                refine AWPB_three 0 2 10 _ _ _ (by kernel_rfl) rfl rfl rfl ?_ ?_ ?_
                · skip
                  refine AWPL_rn tab_ok 1 [4, 30, 31, 164, 165, 166, 167, 168, 169, 170, 171, 172, 173] fun c st' hr => ?_
                  simp only [go_sem, reduceIte, reduceCtorEq, Nat.reduceEqDiff, Nat.reduceLT, Nat.reduceLeDiff, Nat.reduceBEq, Nat.reduceAdd, Nat.reduceMul, Nat.reduceSub, Nat.reducePow, Int.reduceLE, Int.reduceLT, Int.reduceNeg, Int.reduceToNat, Int.reduceAdd, Int.reduceSub] at hr
                  obtain ⟨rfl, rfl⟩ := hr
                  refine ⟨vc, ?_⟩
                  refine AWPL_nil ?_
                  refine QB_normal ?_
                  exact AWPB_wk [0, 1, 2, 3, 4, 5, 6, 7] mkWk ((hAA _ _ _).1 hn43)
                · skip
                  refine AWPL_rn tab_ok 1 [4, 28, 30, 31, 164, 165, 167, 168, 169, 170, 171, 172, 173] fun c st' hr => ?_
                  simp only [go_sem, reduceIte, reduceCtorEq, Nat.reduceEqDiff, Nat.reduceLT, Nat.reduceLeDiff, Nat.reduceBEq, Nat.reduceAdd, Nat.reduceMul, Nat.reduceSub, Nat.reducePow, Int.reduceLE, Int.reduceLT, Int.reduceNeg, Int.reduceToNat, Int.reduceAdd, Int.reduceSub] at hr
                  obtain ⟨rfl, rfl⟩ := hr
                  refine ⟨vc, ?_⟩
                  refine AWPL_nil ?_
                  refine QB_normal ?_
                  exact AWPB_wk [0, 1, 2, 3, 4, 5, 6, 7] mkWk ((hAA _ _ _).1 hn49)
                · skip
                  refine AWPL_rn tab_ok 1 [4, 28, 30, 31, 164, 165, 166, 167, 168, 169, 170, 171, 172, 173] fun c st' hr => ?_
                  simp only [go_sem, reduceIte, reduceCtorEq, Nat.reduceEqDiff, Nat.reduceLT, Nat.reduceLeDiff, Nat.reduceBEq, Nat.reduceAdd, Nat.reduceMul, Nat.reduceSub, Nat.reducePow, Int.reduceLE, Int.reduceLT, Int.reduceNeg, Int.reduceToNat, Int.reduceAdd, Int.reduceSub] at hr
                  obtain ⟨rfl, rfl⟩ := hr
                  refine ⟨vc, ?_⟩
                  refine AWPL_nil ?_
                  refine QB_normal ?_
                  exact AWPB_wk [0, 1, 2, 3, 4, 5, 6, 7, 8] mkWk ((hAA _ _ _).1 hn50))
              have hn52 : AA 10 #[false, false, false, true, true, false, false, false, false, false, true, false, false] ⟨187, [(4, .ptr 0 0 0), (28, .ptr 7 0 0), (30, .ptr 8 0 0), (168, .int .i64 a2), (169, .int .i64 a3)], [some (.gen 24 2 [[.int .i64 m_0, .ints .i64 m_1]]), some (.gen 24 2 [[.int .i64 a1_0, .ints .i64 a1_1]]), some (.ints 3 .i64 y9.2.1), some (.gen 24 2 [[.int .i64 y9.1, .own 2 y9.2.1.length]]), some (.ints 3 .i64 y10.2.1), some (.gen 24 2 [[.int .i64 y10.1, .own 4 y10.2.1.length]]), some (.ints 3 .i64 y14.2.1), some (.gen 24 2 [[.int .i64 y14.1, .own 6 y14.2.1.length]]), some (.gen 24 2 [[.int .i64 0, .nil]])]⟩ := (hAA _ _ _).2 (by
                refine AWPB_two 0 1 _ _ (by kernel_rfl) rfl rfl ?_ ?_
                · skip
                  refine AWPL_rn tab_ok 1 [4, 30, 31, 164, 165, 166, 167, 168, 169, 170, 171, 172, 173] fun c st' hr => ?_
                  simp only [go_sem, reduceIte, reduceCtorEq, Nat.reduceEqDiff, Nat.reduceLT, Nat.reduceLeDiff, Nat.reduceBEq, Nat.reduceAdd, Nat.reduceMul, Nat.reduceSub, Nat.reducePow, Int.reduceLE, Int.reduceLT, Int.reduceNeg, Int.reduceToNat, Int.reduceAdd, Int.reduceSub] at hr
                  obtain ⟨rfl, rfl⟩ := hr
                  refine ⟨vc, ?_⟩
                  refine AWPL_nil ?_
                  refine QB_normal ?_
                  exact AWPB_wk [0, 1, 2, 3, 4, 5, 6, 7, 8] mkWk ((hAA _ _ _).1 hn44)
                · skip
                  refine AWPL_rn tab_ok 1 [4, 28, 30, 31, 164, 165, 166, 167, 168, 169, 170, 171, 172, 173] fun c st' hr => ?_
                  simp only [go_sem, reduceIte, reduceCtorEq, Nat.reduceEqDiff, Nat.reduceLT, Nat.reduceLeDiff, Nat.reduceBEq, Nat.reduceAdd, Nat.reduceMul, Nat.reduceSub, Nat.reducePow, Int.reduceLE, Int.reduceLT, Int.reduceNeg, Int.reduceToNat, Int.reduceAdd, Int.reduceSub] at hr
                  obtain ⟨rfl, rfl⟩ := hr
                  refine ⟨vc, ?_⟩
                  refine AWPL_nil ?_
                  refine QB_normal ?_
                  exact AWPB_wk [0, 1, 2, 3, 4, 5, 6, 7, 8] mkWk ((hAA _ _ _).1 hn50))
              have hn53 : AA 11 #[false, false, false, true, true, false, false, false, false, false, false, false, false] ⟨187, [(4, .ptr 0 0 0), (28, .ptr 7 0 0), (168, .int .i64 a2), (169, .int .i64 a3)], [some (.gen 24 2 [[.int .i64 m_0, .ints .i64 m_1]]), some (.gen 24 2 [[.int .i64 a1_0, .ints .i64 a1_1]]), some (.ints 3 .i64 y9.2.1), some (.gen 24 2 [[.int .i64 y9.1, .own 2 y9.2.1.length]]), some (.ints 3 .i64 y10.2.1), some (.gen 24 2 [[.int .i64 y10.1, .own 4 y10.2.1.length]]), some (.ints 3 .i64 y14.2.1), some (.gen 24 2 [[.int .i64 y14.1, .own 6 y14.2.1.length]])]⟩ := (hAA _ _ _).2 (by
                refine AWPB_three 0 1 10 _ _ _ (by kernel_rfl) rfl rfl rfl ?_ ?_ ?_
                · skip
                  refine AWPL_rn tab_ok 1 [4, 30, 31, 164, 165, 166, 167, 168, 169, 170, 171, 172, 173] fun c st' hr => ?_
                  simp only [go_sem, reduceIte, reduceCtorEq, Nat.reduceEqDiff, Nat.reduceLT, Nat.reduceLeDiff, Nat.reduceBEq, Nat.reduceAdd, Nat.reduceMul, Nat.reduceSub, Nat.reducePow, Int.reduceLE, Int.reduceLT, Int.reduceNeg, Int.reduceToNat, Int.reduceAdd, Int.reduceSub] at hr
                  obtain ⟨rfl, rfl⟩ := hr
                  refine ⟨vc, ?_⟩
                  refine AWPL_nil ?_
                  refine QB_normal ?_
                  exact AWPB_wk [0, 1, 2, 3, 4, 5, 6, 7] mkWk ((hAA _ _ _).1 hn45)
                · skip
                  refine AWPL_rn tab_ok 1 [4, 28, 30, 31, 164, 165, 166, 167, 168, 169, 170, 171, 172, 173] fun c st' hr => ?_
                  simp only [go_sem, reduceIte, reduceCtorEq, Nat.reduceEqDiff, Nat.reduceLT, Nat.reduceLeDiff, Nat.reduceBEq, Nat.reduceAdd, Nat.reduceMul, Nat.reduceSub, Nat.reducePow, Int.reduceLE, Int.reduceLT, Int.reduceNeg, Int.reduceToNat, Int.reduceAdd, Int.reduceSub] at hr
                  obtain ⟨rfl, rfl⟩ := hr
                  refine ⟨vc, ?_⟩
                  refine AWPL_nil ?_
                  refine QB_normal ?_
                  exact AWPB_wk [0, 1, 2, 3, 4, 5, 6, 7] mkWk ((hAA _ _ _).1 hn51)
                · skip
                  refine AWPL_rn tab_ok 1 [4, 28, 30, 31, 164, 165, 166, 167, 168, 169, 170, 171, 172, 173] fun c st' hr => ?_
                  simp only [go_sem, reduceIte, reduceCtorEq, Nat.reduceEqDiff, Nat.reduceLT, Nat.reduceLeDiff, Nat.reduceBEq, Nat.reduceAdd, Nat.reduceMul, Nat.reduceSub, Nat.reducePow, Int.reduceLE, Int.reduceLT, Int.reduceNeg, Int.reduceToNat, Int.reduceAdd, Int.reduceSub] at hr
                  obtain ⟨rfl, rfl⟩ := hr
                  refine ⟨vc, ?_⟩
                  refine AWPL_nil ?_
                  refine QB_normal ?_
                  exact AWPB_wk [0, 1, 2, 3, 4, 5, 6, 7, 8] mkWk ((hAA _ _ _).1 hn52))
              have hn54 : AA 12 #[false, false, false, true, false, false, false, false, false, false, false, false, false] ⟨187, [(3, .int .i64 a3), (4, .ptr 0 0 0), (28, .ptr 7 0 0), (168, .int .i64 a2)], [some (.gen 24 2 [[.int .i64 m_0, .ints .i64 m_1]]), some (.gen 24 2 [[.int .i64 a1_0, .ints .i64 a1_1]]), some (.ints 3 .i64 y9.2.1), some (.gen 24 2 [[.int .i64 y9.1, .own 2 y9.2.1.length]]), some (.ints 3 .i64 y10.2.1), some (.gen 24 2 [[.int .i64 y10.1, .own 4 y10.2.1.length]]), some (.ints 3 .i64 y14.2.1), some (.gen 24 2 [[.int .i64 y14.1, .own 6 y14.2.1.length]])]⟩ := (hAA _ _ _).2 (by
                refine AWPB_take tab_ok [4, 28, 30, 31, 164, 165, 166, 167, 168, 169, 170, 171, 172, 173] 4 _ rfl rfl (by kernel_rfl) fun c st' hr => ?_
                simp only [go_sem, reduceIte, reduceCtorEq, Nat.reduceEqDiff, Nat.reduceLT, Nat.reduceLeDiff, Nat.reduceBEq, Nat.reduceAdd, Nat.reduceMul, Nat.reduceSub, Nat.reducePow, Int.reduceLE, Int.reduceLT, Int.reduceNeg, Int.reduceToNat, Int.reduceAdd, Int.reduceSub] at hr
                obtain ⟨rfl, rfl⟩ := hr
                refine ⟨vc, ?_⟩
                exact AWPB_wk [0, 1, 2, 3, 4, 5, 6, 7] mkWk ((hAA _ _ _).1 hn53))
              have hn55 : AA 13 #[false, false, false, false, false, false, false, false, false, false, false, false, false] ⟨187, [(2, .int .i64 a2), (3, .int .i64 a3), (4, .ptr 0 0 0), (28, .ptr 7 0 0)], [some (.gen 24 2 [[.int .i64 m_0, .ints .i64 m_1]]), some (.gen 24 2 [[.int .i64 a1_0, .ints .i64 a1_1]]), some (.ints 3 .i64 y9.2.1), some (.gen 24 2 [[.int .i64 y9.1, .own 2 y9.2.1.length]]), some (.ints 3 .i64 y10.2.1), some (.gen 24 2 [[.int .i64 y10.1, .own 4 y10.2.1.length]]), some (.ints 3 .i64 y14.2.1), some (.gen 24 2 [[.int .i64 y14.1, .own 6 y14.2.1.length]])]⟩ := (hAA _ _ _).2 (by
                refine AWPB_take tab_ok [3, 4, 28, 30, 31, 164, 165, 166, 167, 168, 169, 170, 171, 172, 173] 3 _ rfl rfl (by kernel_rfl) fun c st' hr => ?_
                simp only [go_sem, reduceIte, reduceCtorEq, Nat.reduceEqDiff, Nat.reduceLT, Nat.reduceLeDiff, Nat.reduceBEq, Nat.reduceAdd, Nat.reduceMul, Nat.reduceSub, Nat.reducePow, Int.reduceLE, Int.reduceLT, Int.reduceNeg, Int.reduceToNat, Int.reduceAdd, Int.reduceSub] at hr
                obtain ⟨rfl, rfl⟩ := hr
                refine ⟨vc, ?_⟩
                exact AWPB_wk [0, 1, 2, 3, 4, 5, 6, 7] mkWk ((hAA _ _ _).1 hn54))
              exact (hAA _ _ _).2 (AWPB_wk [0, 1, 2, 3, 4, 5, 6, 7] mkWk ((hAA _ _ _).1 hn55))
            with_reducible refine thenC_normal ?_
            refine AWP_seq ?_
            -- region 22
            refine AWP_rl ?_
            refine AWPL_rn tab_ok 2 [31, 175, 176] fun c st' hr => ?_
            simp only [go_sem, reduceIte, reduceCtorEq, Nat.reduceEqDiff, Nat.reduceLT, Nat.reduceLeDiff, Nat.reduceBEq, Nat.reduceAdd, Nat.reduceMul, Nat.reduceSub, Nat.reducePow, Int.reduceLE, Int.reduceLT, Int.reduceNeg, Int.reduceToNat, Int.reduceAdd, Int.reduceSub] at hr
            obtain ⟨rfl, rfl⟩ := hr
            refine ⟨vc, ?_⟩
            replace hK := bind_s hK
            obtain ⟨y17, hy, hK⟩ := hK
            refine AWPL_callK [31, 177] (W_same_Minor hy) rfl rfl pcT rfl Try.call9 (.cons (.agg _ _ rfl (ArgsOk.get (.cons (.atom _ rfl) (.cons (.atom _ rfl) .nil))).2) (.cons (.agg _ _ rfl (ArgsOk.get (.cons (.atom _ rfl) (.cons (.ownI _ _ _ _ _ y16.2.1 rfl (by simp) (by first | simp | exact List.take_of_length_le (by simp))) .nil))).2) .nil)) (hscG trivial) (of_decide_eq_true rfl) (by first | rfl | simp [nI, nI1, nI0]) (by first | rfl | simp [nIB, nI0]) fun st' hr => ?_
            simp only [go_sem, reduceIte, reduceCtorEq, Nat.reduceEqDiff, Nat.reduceLT, Nat.reduceLeDiff, Nat.reduceBEq, Nat.reduceAdd, Nat.reduceMul, Nat.reduceSub, Nat.reducePow, Int.reduceLE, Int.reduceLT, Int.reduceNeg, Int.reduceToNat, Int.reduceAdd, Int.reduceSub] at hr
            subst hr
            clear hy
            refine AWPL_rn tab_ok 7 [31, 34] fun c st' hr => ?_
            simp only [go_sem, reduceIte, reduceCtorEq, Nat.reduceEqDiff, Nat.reduceLT, Nat.reduceLeDiff, Nat.reduceBEq, Nat.reduceAdd, Nat.reduceMul, Nat.reduceSub, Nat.reducePow, Int.reduceLE, Int.reduceLT, Int.reduceNeg, Int.reduceToNat, Int.reduceAdd, Int.reduceSub] at hr
            obtain ⟨rfl, rfl⟩ := hr
            refine ⟨vc, ?_⟩
            refine AWPL_nil ?_
            with_reducible refine thenC_normal ?_
            refine AWP_seq ?_
            -- region 23
            refine AWP_rg tab_ok [8] fun c st' hr => ?_
            simp only [go_sem, reduceIte, reduceCtorEq, Nat.reduceEqDiff, Nat.reduceLT, Nat.reduceLeDiff, Nat.reduceBEq, Nat.reduceAdd, Nat.reduceMul, Nat.reduceSub, Nat.reducePow, Int.reduceLE, Int.reduceLT, Int.reduceNeg, Int.reduceToNat, Int.reduceAdd, Int.reduceSub] at hr
            obtain ⟨rfl, rfl⟩ := hr
            refine ⟨vc, ?_⟩
            with_reducible refine thenC_normal ?_
            refine AWP_ret ?_
            cases hK
            refine EndsRW [] (.inl rfl) (of_decide_eq_true rfl) (by simp) rfl (fun c x hr => ?_) trivial
            simp only [go_sem, reduceIte, reduceCtorEq, Nat.reduceEqDiff, Nat.reduceLT, Nat.reduceLeDiff, Nat.reduceBEq, Nat.reduceAdd, Nat.reduceMul, Nat.reduceSub, Nat.reducePow, Int.reduceLE, Int.reduceLT, Int.reduceNeg, Int.reduceToNat, Int.reduceAdd, Int.reduceSub] at hr
            obtain ⟨rfl, rfl⟩ := hr
            exact ⟨rfl, endR⟩

end Go.SH
