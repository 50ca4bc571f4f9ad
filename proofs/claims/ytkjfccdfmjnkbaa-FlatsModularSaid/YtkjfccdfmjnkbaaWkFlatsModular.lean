/-
  That the code computes these functions: rotakeep_FlatsModular. By a program of mine (shal.py). Conditions: none.
-/
import Derived.Test.YtkjfccdfmjnkbaaAxT
import Derived.Test.YtkjfccdfmjnkbaaAxR
import Derived.Test.YtkjfccdfmjnkbaaAxJm
import Derived.Test.YtkjfccdfmjnkbaaAxW
import Derived.Test.YtkjfccdfmjnkbaaSkFlatsModular
import Derived.Test.YtkjfccdfmjnkbaaWpflats
import Derived.Test.YtkjfccdfmjnkbaaWpminors
import Derived.Test.YtkjfccdfmjnkbaaWprotakeep
import Derived.Test.YtkjfccdfmjnkbaaWprotaref
import Derived.Test.YtkjfccdfmjnkbaaWpslices
set_option linter.unusedVariables false
set_option linter.unusedSimpArgs false
namespace Go.SH
open Go Go.AX Go.AX.Try Go.Proofs

set_option maxRecDepth 8000 in
set_option maxHeartbeats 4000000 in
theorem W_rotakeep_FlatsModular {m_0 : Int} {m_1 : List Int} {a1 : Int} {r : Bool} (hK : rotakeep_FlatsModular m_0 m_1 a1 = some r) : Pure Try.prog 7 [.agg [.int .i64 m_0, .ints .i64 m_1], .int .i64 a1] (.bool r) [] := by
  refine Pure_introF tab_ok (n := 120) (l := [.tmp 4]) Try.func7 rfl rfl rfl (by simp) fun hfact w0 => ?_
  simp only [factL1, fact1, fact0, factL0, lo, hi, maxLen, and_true] at hfact
  unfold rotakeep_FlatsModular at hK
  refine AWP_seq ?_
  -- region 0
  refine AWP_rg tab_ok [1, 2] fun c st' hr => ?_
  simp only [go_sem, reduceIte, reduceCtorEq, Nat.reduceEqDiff, Nat.reduceLT, Nat.reduceLeDiff, Nat.reduceBEq, Nat.reduceAdd, Nat.reduceMul, Nat.reduceSub, Nat.reducePow, Int.reduceLE, Int.reduceLT, Int.reduceNeg, Int.reduceToNat, Int.reduceAdd, Int.reduceSub] at hr
  obtain ⟨rfl, rfl⟩ := hr
  refine ⟨vc, ?_⟩
  with_reducible refine thenC_normal ?_
  refine AWP_seq ?_
  refine AWP_seq ?_
  -- region 1
  refine AWP_rl ?_
  replace hK := bind_s hK
  obtain ⟨y, hy, hK⟩ := hK
  refine AWPL_callK [1, 2, 20] (W_rotakeep_two hy) rfl rfl pcT rfl Try.call14 .nil (hscG trivial) (of_decide_eq_true rfl) (by first | rfl | simp [nI, nI1, nI0]) (by first | rfl | simp [nIB, nI0]) fun st' hr => ?_
  simp only [go_sem, reduceIte, reduceCtorEq, Nat.reduceEqDiff, Nat.reduceLT, Nat.reduceLeDiff, Nat.reduceBEq, Nat.reduceAdd, Nat.reduceMul, Nat.reduceSub, Nat.reducePow, Int.reduceLE, Int.reduceLT, Int.reduceNeg, Int.reduceToNat, Int.reduceAdd, Int.reduceSub] at hr
  subst hr
  clear hy
  replace hK := bind_s hK
  obtain ⟨y1, hy, hK⟩ := hK
  refine AWPL_callK [1, 2, 21] (W_flats_Modular hy) rfl rfl pcT rfl Try.call33 (.cons (.agg _ _ rfl (ArgsOk.get (.cons (.atom _ rfl) (.cons (.ownI _ _ _ _ _ y.2 rfl (by simp) (by simp)) .nil))).2) (.cons (.atom _ rfl) .nil)) (hscG trivial) (of_decide_eq_true rfl) (by first | rfl | simp [nI, nI1, nI0]) (by first | rfl | simp [nIB, nI0]) fun st' hr => ?_
  simp only [go_sem, reduceIte, reduceCtorEq, Nat.reduceEqDiff, Nat.reduceLT, Nat.reduceLeDiff, Nat.reduceBEq, Nat.reduceAdd, Nat.reduceMul, Nat.reduceSub, Nat.reducePow, Int.reduceLE, Int.reduceLT, Int.reduceNeg, Int.reduceToNat, Int.reduceAdd, Int.reduceSub] at hr
  subst hr
  clear hy
  refine AWPL_rn tab_ok 5 [1, 2, 5, 6] fun c st' hr => ?_
  simp only [go_sem, reduceIte, reduceCtorEq, Nat.reduceEqDiff, Nat.reduceLT, Nat.reduceLeDiff, Nat.reduceBEq, Nat.reduceAdd, Nat.reduceMul, Nat.reduceSub, Nat.reducePow, Int.reduceLE, Int.reduceLT, Int.reduceNeg, Int.reduceToNat, Int.reduceAdd, Int.reduceSub] at hr
  obtain ⟨rfl, rfl⟩ := hr
  refine ⟨vc, ?_⟩
  refine AWPL_nil ?_
  with_reducible refine thenC_normal ?_
  refine AWP_seq ?_
  -- region 2
  refine AWP_rg tab_ok [1, 2, 29] fun c st' hr => ?_
  simp only [go_sem, reduceIte, reduceCtorEq, Nat.reduceEqDiff, Nat.reduceLT, Nat.reduceLeDiff, Nat.reduceBEq, Nat.reduceAdd, Nat.reduceMul, Nat.reduceSub, Nat.reducePow, Int.reduceLE, Int.reduceLT, Int.reduceNeg, Int.reduceToNat, Int.reduceAdd, Int.reduceSub] at hr
  obtain ⟨rfl, rfl⟩ := hr
  refine ⟨vc, ?_⟩
  with_reducible refine thenC_normal ?_
  refine AWP_condP ((y1.2 ≠ 0 ∨ ¬ (y1.1 = true))) rfl bd (fun hb => ?_) (fun hb => ?_)
  · replace hK := ite_t hK hb
    refine AWP_seq ?_
    -- region 3
    refine AWP_rg tab_ok [4] fun c st' hr => ?_
    simp only [go_sem, reduceIte, reduceCtorEq, Nat.reduceEqDiff, Nat.reduceLT, Nat.reduceLeDiff, Nat.reduceBEq, Nat.reduceAdd, Nat.reduceMul, Nat.reduceSub, Nat.reducePow, Int.reduceLE, Int.reduceLT, Int.reduceNeg, Int.reduceToNat, Int.reduceAdd, Int.reduceSub] at hr
    obtain ⟨rfl, rfl⟩ := hr
    refine ⟨vc, ?_⟩
    with_reducible refine thenC_normal ?_
    refine AWP_ret ?_
    with_reducible refine thenC_ret ?_
    cases hK
    refine EndsRW [] (.inl rfl) (of_decide_eq_true rfl) (by simp) rfl (fun c x hr => ?_) trivial
    simp only [go_sem, reduceIte, reduceCtorEq, Nat.reduceEqDiff, Nat.reduceLT, Nat.reduceLeDiff, Nat.reduceBEq, Nat.reduceAdd, Nat.reduceMul, Nat.reduceSub, Nat.reducePow, Int.reduceLE, Int.reduceLT, Int.reduceNeg, Int.reduceToNat, Int.reduceAdd, Int.reduceSub] at hr
    obtain ⟨rfl, rfl⟩ := hr
    exact ⟨rfl, endR⟩
  · replace hK := ite_f hK hb
    refine AWP_skip ?_
    with_reducible refine thenC_normal ?_
    refine AWP_seq ?_
    -- region 4
    refine AWP_rl ?_
    refine AWPL_rn tab_ok 2 [1, 2, 31, 32] fun c st' hr => ?_
    simp only [go_sem, reduceIte, reduceCtorEq, Nat.reduceEqDiff, Nat.reduceLT, Nat.reduceLeDiff, Nat.reduceBEq, Nat.reduceAdd, Nat.reduceMul, Nat.reduceSub, Nat.reducePow, Int.reduceLE, Int.reduceLT, Int.reduceNeg, Int.reduceToNat, Int.reduceAdd, Int.reduceSub] at hr
    obtain ⟨rfl, rfl⟩ := hr
    refine ⟨vc, ?_⟩
    replace hK := bind_s hK
    obtain ⟨y2, hy, hK⟩ := hK
    refine AWPL_callK [1, 2, 33] (W_flats_Modular hy) rfl rfl pcT rfl Try.call33 (.cons (.agg _ _ rfl (ArgsOk.get (.cons (.atom _ rfl) (.cons (.atom _ rfl) .nil))).2) (.cons (.atom _ rfl) .nil)) (hscG trivial) (of_decide_eq_true rfl) (by first | rfl | simp [nI, nI1, nI0]) (by first | rfl | simp [nIB, nI0]) fun st' hr => ?_
    simp only [go_sem, reduceIte, reduceCtorEq, Nat.reduceEqDiff, Nat.reduceLT, Nat.reduceLeDiff, Nat.reduceBEq, Nat.reduceAdd, Nat.reduceMul, Nat.reduceSub, Nat.reducePow, Int.reduceLE, Int.reduceLT, Int.reduceNeg, Int.reduceToNat, Int.reduceAdd, Int.reduceSub] at hr
    subst hr
    clear hy
    refine AWPL_rn tab_ok 5 [1, 2, 7, 8] fun c st' hr => ?_
    simp only [go_sem, reduceIte, reduceCtorEq, Nat.reduceEqDiff, Nat.reduceLT, Nat.reduceLeDiff, Nat.reduceBEq, Nat.reduceAdd, Nat.reduceMul, Nat.reduceSub, Nat.reducePow, Int.reduceLE, Int.reduceLT, Int.reduceNeg, Int.reduceToNat, Int.reduceAdd, Int.reduceSub] at hr
    obtain ⟨rfl, rfl⟩ := hr
    refine ⟨vc, ?_⟩
    refine AWPL_nil ?_
    with_reducible refine thenC_normal ?_
    refine AWP_seq ?_
    refine AWP_seq ?_
    -- region 5
    refine AWP_rg tab_ok [1, 2, 7, 41] fun c st' hr => ?_
    simp only [go_sem, reduceIte, reduceCtorEq, Nat.reduceEqDiff, Nat.reduceLT, Nat.reduceLeDiff, Nat.reduceBEq, Nat.reduceAdd, Nat.reduceMul, Nat.reduceSub, Nat.reducePow, Int.reduceLE, Int.reduceLT, Int.reduceNeg, Int.reduceToNat, Int.reduceAdd, Int.reduceSub] at hr
    obtain ⟨rfl, rfl⟩ := hr
    refine ⟨vc, ?_⟩
    with_reducible refine thenC_normal ?_
    refine AWP_condP ((y2.2 ≠ 0 ∨ ¬ (y2.1 = true))) rfl bd (fun hb1 => ?_) (fun hb1 => ?_)
    · replace hK := ite_t hK hb1
      refine AWP_seq ?_
      -- region 6
      refine AWP_rg tab_ok [4] fun c st' hr => ?_
      simp only [go_sem, reduceIte, reduceCtorEq, Nat.reduceEqDiff, Nat.reduceLT, Nat.reduceLeDiff, Nat.reduceBEq, Nat.reduceAdd, Nat.reduceMul, Nat.reduceSub, Nat.reducePow, Int.reduceLE, Int.reduceLT, Int.reduceNeg, Int.reduceToNat, Int.reduceAdd, Int.reduceSub] at hr
      obtain ⟨rfl, rfl⟩ := hr
      refine ⟨vc, ?_⟩
      with_reducible refine thenC_normal ?_
      refine AWP_ret ?_
      with_reducible refine thenC_ret ?_
      cases hK
      refine EndsRW [] (.inl rfl) (of_decide_eq_true rfl) (by simp) rfl (fun c x hr => ?_) trivial
      simp only [go_sem, reduceIte, reduceCtorEq, Nat.reduceEqDiff, Nat.reduceLT, Nat.reduceLeDiff, Nat.reduceBEq, Nat.reduceAdd, Nat.reduceMul, Nat.reduceSub, Nat.reducePow, Int.reduceLE, Int.reduceLT, Int.reduceNeg, Int.reduceToNat, Int.reduceAdd, Int.reduceSub] at hr
      obtain ⟨rfl, rfl⟩ := hr
      exact ⟨rfl, endR⟩
    · replace hK := ite_f hK hb1
      refine AWP_skip ?_
      with_reducible refine thenC_normal ?_
      refine AWP_seq ?_
      -- region 7
      replace hK := bind_s hK
      obtain ⟨y3, hy, hK⟩ := hK
      replace hK := bind_s hK
      obtain ⟨y4, hy1, hK⟩ := hK
      refine AWP_drawJ ⟨120, [(2, .ptr 0 0 0), (9, .ptr 3 0 0), (10, .int .i64 y4.2.2)], [some (.gen 24 2 [[.int .i64 m_0, .ints .i64 m_1]]), some (.ints 3 .i64 y.2), some (.ints 3 .i64 y4.2.1), some (.gen 24 2 [[.int .i64 y4.1, .own 2 y4.2.1.length]])]⟩ mixed ?_ ?_
      · refine AWPB_memo fun AA hAA => ?_
        have hn : AA 0 #[true, true, true, true, true, true, true, true, true, true, true, true, true] ⟨120, [(2, .ptr 0 0 0), (9, .ptr 3 0 0), (10, .int .i64 y4.2.2)], [some (.gen 24 2 [[.int .i64 m_0, .ints .i64 m_1]]), some (.ints 3 .i64 y.2), some (.ints 3 .i64 y4.2.1), some (.gen 24 2 [[.int .i64 y4.1, .own 2 y4.2.1.length]])]⟩ := (hAA _ _ _).2 (by
          exact AWPB_end [0, 1, 2, 3] (by kernel_rfl) mkWk)
        have hn1 : AA 1 #[true, true, true, true, true, true, true, true, true, true, true, true, false] ⟨120, [(2, .ptr 0 0 0), (9, .ptr 3 0 0), (53, .int .i64 y4.2.2)], [some (.gen 24 2 [[.int .i64 m_0, .ints .i64 m_1]]), some (.ints 3 .i64 y.2), some (.ints 3 .i64 y4.2.1), some (.gen 24 2 [[.int .i64 y4.1, .own 2 y4.2.1.length]])]⟩ := (hAA _ _ _).2 (by
          refine AWPB_take tab_ok [2, 9, 10] 12 _ rfl rfl (by kernel_rfl) fun c st' hr => ?_
          simp only [go_sem, reduceIte, reduceCtorEq, Nat.reduceEqDiff, Nat.reduceLT, Nat.reduceLeDiff, Nat.reduceBEq, Nat.reduceAdd, Nat.reduceMul, Nat.reduceSub, Nat.reducePow, Int.reduceLE, Int.reduceLT, Int.reduceNeg, Int.reduceToNat, Int.reduceAdd, Int.reduceSub] at hr
          obtain ⟨rfl, rfl⟩ := hr
          refine ⟨vc, ?_⟩
          exact AWPB_wk [0, 1, 2, 3] mkWk ((hAA _ _ _).1 hn))
        have hn2 : AA 2 #[true, true, true, true, true, true, true, true, true, true, true, false, false] ⟨120, [(2, .ptr 0 0 0), (9, .ptr 3 0 0), (52, .agg [.int .i64 y4.1, .own 2 y4.2.1.length]), (53, .int .i64 y4.2.2)], [some (.gen 24 2 [[.int .i64 m_0, .ints .i64 m_1]]), some (.ints 3 .i64 y.2), some (.ints 3 .i64 y4.2.1), some (.gen 24 2 [[.int .i64 0, .nil]])]⟩ := (hAA _ _ _).2 (by
          refine AWPB_one 11 _ (by kernel_rfl) rfl ?_
          refine AWPL_rn tab_ok 1 [2, 9, 10, 53] fun c st' hr => ?_
          simp only [go_sem, reduceIte, reduceCtorEq, Nat.reduceEqDiff, Nat.reduceLT, Nat.reduceLeDiff, Nat.reduceBEq, Nat.reduceAdd, Nat.reduceMul, Nat.reduceSub, Nat.reducePow, Int.reduceLE, Int.reduceLT, Int.reduceNeg, Int.reduceToNat, Int.reduceAdd, Int.reduceSub] at hr
          obtain ⟨rfl, rfl⟩ := hr
          refine ⟨vc, ?_⟩
          refine AWPL_nil ?_
          refine QB_normal ?_
          exact AWPB_wk [0, 1, 2, 3] mkWk ((hAA _ _ _).1 hn1))
        have hn3 : AA 3 #[true, true, true, true, true, true, true, true, true, true, false, false, false] ⟨120, [(2, .ptr 0 0 0), (52, .agg [.int .i64 y4.1, .own 2 y4.2.1.length]), (53, .int .i64 y4.2.2)], [some (.gen 24 2 [[.int .i64 m_0, .ints .i64 m_1]]), some (.ints 3 .i64 y.2), some (.ints 3 .i64 y4.2.1)]⟩ := (hAA _ _ _).2 (by
          refine AWPB_one 10 _ (by kernel_rfl) rfl ?_
          refine AWPL_rn tab_ok 1 [2, 9, 10, 52, 53] fun c st' hr => ?_
          simp only [go_sem, reduceIte, reduceCtorEq, Nat.reduceEqDiff, Nat.reduceLT, Nat.reduceLeDiff, Nat.reduceBEq, Nat.reduceAdd, Nat.reduceMul, Nat.reduceSub, Nat.reducePow, Int.reduceLE, Int.reduceLT, Int.reduceNeg, Int.reduceToNat, Int.reduceAdd, Int.reduceSub] at hr
          obtain ⟨rfl, rfl⟩ := hr
          refine ⟨vc, ?_⟩
          refine AWPL_nil ?_
          refine QB_normal ?_
          exact AWPB_wk [0, 1, 2, 3] mkWk ((hAA _ _ _).1 hn2))
        have hn4 : AA 4 #[true, true, true, true, true, true, true, true, true, false, false, false, false] ⟨120, [(2, .ptr 0 0 0), (44, .tup [.agg [.int .i64 y4.1, .own 2 y4.2.1.length], .int .i64 y4.2.2]), (52, .agg [.int .i64 y4.1, .own 2 y4.2.1.length])], [some (.gen 24 2 [[.int .i64 m_0, .ints .i64 m_1]]), some (.ints 3 .i64 y.2), some (.ints 3 .i64 y4.2.1)]⟩ := (hAA _ _ _).2 (by
          refine AWPB_take tab_ok [2, 9, 10, 52, 53] 9 _ rfl rfl (by kernel_rfl) fun c st' hr => ?_
          simp only [go_sem, reduceIte, reduceCtorEq, Nat.reduceEqDiff, Nat.reduceLT, Nat.reduceLeDiff, Nat.reduceBEq, Nat.reduceAdd, Nat.reduceMul, Nat.reduceSub, Nat.reducePow, Int.reduceLE, Int.reduceLT, Int.reduceNeg, Int.reduceToNat, Int.reduceAdd, Int.reduceSub] at hr
          obtain ⟨rfl, rfl⟩ := hr
          refine ⟨vc, ?_⟩
          exact AWPB_wk [0, 1, 2] mkWk ((hAA _ _ _).1 hn3))
        have hn5 : AA 5 #[true, true, true, true, true, true, true, true, false, false, false, false, false] ⟨120, [(2, .ptr 0 0 0), (44, .tup [.agg [.int .i64 y4.1, .own 2 y4.2.1.length], .int .i64 y4.2.2])], [some (.gen 24 2 [[.int .i64 m_0, .ints .i64 m_1]]), some (.ints 3 .i64 y.2), some (.ints 3 .i64 y4.2.1)]⟩ := (hAA _ _ _).2 (by
          refine AWPB_take tab_ok [2, 9, 10, 44, 52, 53] 8 _ rfl rfl (by kernel_rfl) fun c st' hr => ?_
          simp only [go_sem, reduceIte, reduceCtorEq, Nat.reduceEqDiff, Nat.reduceLT, Nat.reduceLeDiff, Nat.reduceBEq, Nat.reduceAdd, Nat.reduceMul, Nat.reduceSub, Nat.reducePow, Int.reduceLE, Int.reduceLT, Int.reduceNeg, Int.reduceToNat, Int.reduceAdd, Int.reduceSub] at hr
          obtain ⟨rfl, rfl⟩ := hr
          refine ⟨vc, ?_⟩
          exact AWPB_wk [0, 1, 2] mkWk ((hAA _ _ _).1 hn4))
        have hn6 : AA 6 #[true, true, true, true, true, true, true, false, false, false, false, false, false] ⟨120, [(2, .ptr 0 0 0), (51, .tup [.agg [.int .i64 y4.1, .own 2 y4.2.1.length], .int .i64 y4.2.2])], [some (.gen 24 2 [[.int .i64 m_0, .ints .i64 m_1]]), some (.ints 3 .i64 y.2), some (.ints 3 .i64 y4.2.1)]⟩ := (hAA _ _ _).2 (by
          refine AWPB_take tab_ok [2, 9, 10, 44, 52, 53] 7 _ rfl rfl (by kernel_rfl) fun c st' hr => ?_
          simp only [go_sem, reduceIte, reduceCtorEq, Nat.reduceEqDiff, Nat.reduceLT, Nat.reduceLeDiff, Nat.reduceBEq, Nat.reduceAdd, Nat.reduceMul, Nat.reduceSub, Nat.reducePow, Int.reduceLE, Int.reduceLT, Int.reduceNeg, Int.reduceToNat, Int.reduceAdd, Int.reduceSub] at hr
          obtain ⟨rfl, rfl⟩ := hr
          refine ⟨vc, ?_⟩
          exact AWPB_wk [0, 1, 2] mkWk ((hAA _ _ _).1 hn5))
        have hn7 : AA 3 #[true, true, true, true, true, true, true, true, true, false, true, false, false] ⟨120, [(2, .ptr 0 0 0), (9, .ptr 2 0 0), (44, .tup [.agg [.int .i64 y4.1, .own 3 y4.2.1.length], .int .i64 y4.2.2]), (52, .agg [.int .i64 y4.1, .own 3 y4.2.1.length])], [some (.gen 24 2 [[.int .i64 m_0, .ints .i64 m_1]]), some (.ints 3 .i64 y.2), some (.gen 24 2 [[.int .i64 0, .nil]]), some (.ints 3 .i64 y4.2.1)]⟩ := (hAA _ _ _).2 (by
          refine AWPB_take tab_ok [2, 9, 10, 52, 53] 9 _ rfl rfl (by kernel_rfl) fun c st' hr => ?_
          simp only [go_sem, reduceIte, reduceCtorEq, Nat.reduceEqDiff, Nat.reduceLT, Nat.reduceLeDiff, Nat.reduceBEq, Nat.reduceAdd, Nat.reduceMul, Nat.reduceSub, Nat.reducePow, Int.reduceLE, Int.reduceLT, Int.reduceNeg, Int.reduceToNat, Int.reduceAdd, Int.reduceSub] at hr
          obtain ⟨rfl, rfl⟩ := hr
          refine ⟨vc, ?_⟩
          exact AWPB_wk [0, 1, 3, 2] mkWk ((hAA _ _ _).1 hn2))
        have hn8 : AA 4 #[true, true, true, true, true, true, true, true, false, false, true, false, false] ⟨120, [(2, .ptr 0 0 0), (9, .ptr 2 0 0), (44, .tup [.agg [.int .i64 y4.1, .own 3 y4.2.1.length], .int .i64 y4.2.2])], [some (.gen 24 2 [[.int .i64 m_0, .ints .i64 m_1]]), some (.ints 3 .i64 y.2), some (.gen 24 2 [[.int .i64 0, .nil]]), some (.ints 3 .i64 y4.2.1)]⟩ := (hAA _ _ _).2 (by
          refine AWPB_take tab_ok [2, 9, 10, 44, 52, 53] 8 _ rfl rfl (by kernel_rfl) fun c st' hr => ?_
          simp only [go_sem, reduceIte, reduceCtorEq, Nat.reduceEqDiff, Nat.reduceLT, Nat.reduceLeDiff, Nat.reduceBEq, Nat.reduceAdd, Nat.reduceMul, Nat.reduceSub, Nat.reducePow, Int.reduceLE, Int.reduceLT, Int.reduceNeg, Int.reduceToNat, Int.reduceAdd, Int.reduceSub] at hr
          obtain ⟨rfl, rfl⟩ := hr
          refine ⟨vc, ?_⟩
          exact AWPB_wk [0, 1, 2, 3] mkWk ((hAA _ _ _).1 hn7))
        have hn9 : AA 5 #[true, true, true, true, true, true, true, false, false, false, true, false, false] ⟨120, [(2, .ptr 0 0 0), (9, .ptr 2 0 0), (51, .tup [.agg [.int .i64 y4.1, .own 3 y4.2.1.length], .int .i64 y4.2.2])], [some (.gen 24 2 [[.int .i64 m_0, .ints .i64 m_1]]), some (.ints 3 .i64 y.2), some (.gen 24 2 [[.int .i64 0, .nil]]), some (.ints 3 .i64 y4.2.1)]⟩ := (hAA _ _ _).2 (by
          refine AWPB_take tab_ok [2, 9, 10, 44, 52, 53] 7 _ rfl rfl (by kernel_rfl) fun c st' hr => ?_
          simp only [go_sem, reduceIte, reduceCtorEq, Nat.reduceEqDiff, Nat.reduceLT, Nat.reduceLeDiff, Nat.reduceBEq, Nat.reduceAdd, Nat.reduceMul, Nat.reduceSub, Nat.reducePow, Int.reduceLE, Int.reduceLT, Int.reduceNeg, Int.reduceToNat, Int.reduceAdd, Int.reduceSub] at hr
          obtain ⟨rfl, rfl⟩ := hr
          refine ⟨vc, ?_⟩
          exact AWPB_wk [0, 1, 2, 3] mkWk ((hAA _ _ _).1 hn8))
        have hn10 : AA 6 #[true, true, true, true, true, true, false, false, false, false, true, false, false] ⟨120, [(2, .ptr 0 0 0), (9, .ptr 2 0 0), (45, .agg [.int .i64 m_0, .ints .i64 m_1]), (50, .int .i64 (iandnot y3 a1))], [some (.gen 24 2 [[.int .i64 m_0, .ints .i64 m_1]]), some (.ints 3 .i64 y.2), some (.gen 24 2 [[.int .i64 0, .nil]])]⟩ := (hAA _ _ _).2 (by
          refine AWPB_one 6 _ (by kernel_rfl) rfl ?_
          refine AWPL_callK [2, 9, 10, 44, 51, 52, 53] (W_minors_Delete hy1) rfl rfl pcT rfl Try.call29 (.cons (.agg _ _ rfl (ArgsOk.get (.cons (.atom _ rfl) (.cons (.atom _ rfl) .nil))).2) (.cons (.atom _ rfl) .nil)) (hscG trivial) (of_decide_eq_true rfl) (by first | rfl | simp [nI, nI1, nI0]) (by first | rfl | simp [nIB, nI0]) fun st' hr => ?_
          simp only [go_sem, reduceIte, reduceCtorEq, Nat.reduceEqDiff, Nat.reduceLT, Nat.reduceLeDiff, Nat.reduceBEq, Nat.reduceAdd, Nat.reduceMul, Nat.reduceSub, Nat.reducePow, Int.reduceLE, Int.reduceLT, Int.reduceNeg, Int.reduceToNat, Int.reduceAdd, Int.reduceSub] at hr
          subst hr
          refine AWPL_nil ?_
          refine QB_normal ?_
          exact AWPB_wk [0, 1, 2, 3] mkWk ((hAA _ _ _).1 hn9))
        have hn11 : AA 7 #[true, true, true, true, true, true, false, false, false, false, false, false, false] ⟨120, [(2, .ptr 0 0 0), (45, .agg [.int .i64 m_0, .ints .i64 m_1]), (50, .int .i64 (iandnot y3 a1))], [some (.gen 24 2 [[.int .i64 m_0, .ints .i64 m_1]]), some (.ints 3 .i64 y.2)]⟩ := (hAA _ _ _).2 (by
          refine AWPB_two 6 10 _ _ (by kernel_rfl) rfl rfl ?_ ?_
          · skip
            refine AWPL_callK [2, 9, 10, 44, 51, 52, 53] (W_minors_Delete hy1) rfl rfl pcT rfl Try.call29 (.cons (.agg _ _ rfl (ArgsOk.get (.cons (.atom _ rfl) (.cons (.atom _ rfl) .nil))).2) (.cons (.atom _ rfl) .nil)) (hscG trivial) (of_decide_eq_true rfl) (by first | rfl | simp [nI, nI1, nI0]) (by first | rfl | simp [nIB, nI0]) fun st' hr => ?_
            simp only [go_sem, reduceIte, reduceCtorEq, Nat.reduceEqDiff, Nat.reduceLT, Nat.reduceLeDiff, Nat.reduceBEq, Nat.reduceAdd, Nat.reduceMul, Nat.reduceSub, Nat.reducePow, Int.reduceLE, Int.reduceLT, Int.reduceNeg, Int.reduceToNat, Int.reduceAdd, Int.reduceSub] at hr
            subst hr
            refine AWPL_nil ?_
            refine QB_normal ?_
            exact AWPB_wk [0, 1, 2] mkWk ((hAA _ _ _).1 hn6)
          · skip
            refine AWPL_rn tab_ok 1 [2, 9, 10, 44, 45, 50, 51, 52, 53] fun c st' hr => ?_
            simp only [go_sem, reduceIte, reduceCtorEq, Nat.reduceEqDiff, Nat.reduceLT, Nat.reduceLeDiff, Nat.reduceBEq, Nat.reduceAdd, Nat.reduceMul, Nat.reduceSub, Nat.reducePow, Int.reduceLE, Int.reduceLT, Int.reduceNeg, Int.reduceToNat, Int.reduceAdd, Int.reduceSub] at hr
            obtain ⟨rfl, rfl⟩ := hr
            refine ⟨vc, ?_⟩
            refine AWPL_nil ?_
            refine QB_normal ?_
            exact AWPB_wk [0, 1, 2] mkWk ((hAA _ _ _).1 hn10))
        have hn12 : AA 7 #[true, true, true, true, true, false, false, false, false, false, true, false, false] ⟨120, [(2, .ptr 0 0 0), (9, .ptr 2 0 0), (45, .agg [.int .i64 m_0, .ints .i64 m_1]), (48, .int .i64 y3), (49, .int .i64 a1)], [some (.gen 24 2 [[.int .i64 m_0, .ints .i64 m_1]]), some (.ints 3 .i64 y.2), some (.gen 24 2 [[.int .i64 0, .nil]])]⟩ := (hAA _ _ _).2 (by
          refine AWPB_one 5 _ (by kernel_rfl) rfl ?_
          refine AWPL_rn tab_ok 1 [2, 9, 10, 44, 45, 50, 51, 52, 53] fun c st' hr => ?_
          simp only [go_sem, reduceIte, reduceCtorEq, Nat.reduceEqDiff, Nat.reduceLT, Nat.reduceLeDiff, Nat.reduceBEq, Nat.reduceAdd, Nat.reduceMul, Nat.reduceSub, Nat.reducePow, Int.reduceLE, Int.reduceLT, Int.reduceNeg, Int.reduceToNat, Int.reduceAdd, Int.reduceSub] at hr
          obtain ⟨rfl, rfl⟩ := hr
          refine ⟨vc, ?_⟩
          refine AWPL_nil ?_
          refine QB_normal ?_
          exact AWPB_wk [0, 1, 2] mkWk ((hAA _ _ _).1 hn10))
        have hn13 : AA 8 #[true, true, true, true, true, false, false, false, false, false, false, false, false] ⟨120, [(2, .ptr 0 0 0), (45, .agg [.int .i64 m_0, .ints .i64 m_1]), (48, .int .i64 y3), (49, .int .i64 a1)], [some (.gen 24 2 [[.int .i64 m_0, .ints .i64 m_1]]), some (.ints 3 .i64 y.2)]⟩ := (hAA _ _ _).2 (by
          refine AWPB_two 5 10 _ _ (by kernel_rfl) rfl rfl ?_ ?_
          · skip
            refine AWPL_rn tab_ok 1 [2, 9, 10, 44, 45, 50, 51, 52, 53] fun c st' hr => ?_
            simp only [go_sem, reduceIte, reduceCtorEq, Nat.reduceEqDiff, Nat.reduceLT, Nat.reduceLeDiff, Nat.reduceBEq, Nat.reduceAdd, Nat.reduceMul, Nat.reduceSub, Nat.reducePow, Int.reduceLE, Int.reduceLT, Int.reduceNeg, Int.reduceToNat, Int.reduceAdd, Int.reduceSub] at hr
            obtain ⟨rfl, rfl⟩ := hr
            refine ⟨vc, ?_⟩
            refine AWPL_nil ?_
            refine QB_normal ?_
            exact AWPB_wk [0, 1] mkWk ((hAA _ _ _).1 hn11)
          · skip
            refine AWPL_rn tab_ok 1 [2, 9, 10, 44, 45, 48, 49, 50, 51, 52, 53] fun c st' hr => ?_
            simp only [go_sem, reduceIte, reduceCtorEq, Nat.reduceEqDiff, Nat.reduceLT, Nat.reduceLeDiff, Nat.reduceBEq, Nat.reduceAdd, Nat.reduceMul, Nat.reduceSub, Nat.reducePow, Int.reduceLE, Int.reduceLT, Int.reduceNeg, Int.reduceToNat, Int.reduceAdd, Int.reduceSub] at hr
            obtain ⟨rfl, rfl⟩ := hr
            refine ⟨vc, ?_⟩
            refine AWPL_nil ?_
            refine QB_normal ?_
            exact AWPB_wk [0, 1, 2] mkWk ((hAA _ _ _).1 hn12))
        have hn14 : AA 8 #[true, true, true, false, true, false, false, false, false, false, true, false, false] ⟨120, [(2, .ptr 0 0 0), (9, .ptr 2 0 0), (45, .agg [.int .i64 m_0, .ints .i64 m_1]), (47, .int .i64 m_0), (49, .int .i64 a1)], [some (.gen 24 2 [[.int .i64 m_0, .ints .i64 m_1]]), some (.ints 3 .i64 y.2), some (.gen 24 2 [[.int .i64 0, .nil]])]⟩ := (hAA _ _ _).2 (by
          refine AWPB_one 3 _ (by kernel_rfl) rfl ?_
          refine AWPL_callK [2, 9, 10, 44, 45, 48, 49, 50, 51, 52, 53] (W_rotaref_All hy) rfl rfl pcT rfl Try.call34 (.cons (.atom _ rfl) .nil) (hscG trivial) (of_decide_eq_true rfl) (by first | rfl | simp [nI, nI1, nI0]) (by first | rfl | simp [nIB, nI0]) fun st' hr => ?_
          simp only [go_sem, reduceIte, reduceCtorEq, Nat.reduceEqDiff, Nat.reduceLT, Nat.reduceLeDiff, Nat.reduceBEq, Nat.reduceAdd, Nat.reduceMul, Nat.reduceSub, Nat.reducePow, Int.reduceLE, Int.reduceLT, Int.reduceNeg, Int.reduceToNat, Int.reduceAdd, Int.reduceSub] at hr
          subst hr
          refine AWPL_nil ?_
          refine QB_normal ?_
          exact AWPB_wk [0, 1, 2] mkWk ((hAA _ _ _).1 hn12))
        have hn15 : AA 9 #[true, true, true, false, true, false, false, false, false, false, false, false, false] ⟨120, [(2, .ptr 0 0 0), (45, .agg [.int .i64 m_0, .ints .i64 m_1]), (47, .int .i64 m_0), (49, .int .i64 a1)], [some (.gen 24 2 [[.int .i64 m_0, .ints .i64 m_1]]), some (.ints 3 .i64 y.2)]⟩ := (hAA _ _ _).2 (by
          refine AWPB_two 3 10 _ _ (by kernel_rfl) rfl rfl ?_ ?_
          · skip
            refine AWPL_callK [2, 9, 10, 44, 45, 48, 49, 50, 51, 52, 53] (W_rotaref_All hy) rfl rfl pcT rfl Try.call34 (.cons (.atom _ rfl) .nil) (hscG trivial) (of_decide_eq_true rfl) (by first | rfl | simp [nI, nI1, nI0]) (by first | rfl | simp [nIB, nI0]) fun st' hr => ?_
            simp only [go_sem, reduceIte, reduceCtorEq, Nat.reduceEqDiff, Nat.reduceLT, Nat.reduceLeDiff, Nat.reduceBEq, Nat.reduceAdd, Nat.reduceMul, Nat.reduceSub, Nat.reducePow, Int.reduceLE, Int.reduceLT, Int.reduceNeg, Int.reduceToNat, Int.reduceAdd, Int.reduceSub] at hr
            subst hr
            refine AWPL_nil ?_
            refine QB_normal ?_
            exact AWPB_wk [0, 1] mkWk ((hAA _ _ _).1 hn13)
          · skip
            refine AWPL_rn tab_ok 1 [2, 9, 10, 44, 45, 47, 48, 49, 50, 51, 52, 53] fun c st' hr => ?_
            simp only [go_sem, reduceIte, reduceCtorEq, Nat.reduceEqDiff, Nat.reduceLT, Nat.reduceLeDiff, Nat.reduceBEq, Nat.reduceAdd, Nat.reduceMul, Nat.reduceSub, Nat.reducePow, Int.reduceLE, Int.reduceLT, Int.reduceNeg, Int.reduceToNat, Int.reduceAdd, Int.reduceSub] at hr
            obtain ⟨rfl, rfl⟩ := hr
            refine ⟨vc, ?_⟩
            refine AWPL_nil ?_
            refine QB_normal ?_
            exact AWPB_wk [0, 1, 2] mkWk ((hAA _ _ _).1 hn14))
        have hn16 : AA 9 #[true, true, false, false, true, false, false, false, false, false, true, false, false] ⟨120, [(2, .ptr 0 0 0), (9, .ptr 2 0 0), (45, .agg [.int .i64 m_0, .ints .i64 m_1]), (46, .ptr 0 0 0), (49, .int .i64 a1)], [some (.gen 24 2 [[.int .i64 m_0, .ints .i64 m_1]]), some (.ints 3 .i64 y.2), some (.gen 24 2 [[.int .i64 0, .nil]])]⟩ := (hAA _ _ _).2 (by
          refine AWPB_one 2 _ (by kernel_rfl) rfl ?_
          refine AWPL_rn tab_ok 1 [2, 9, 10, 44, 45, 47, 48, 49, 50, 51, 52, 53] fun c st' hr => ?_
          simp only [go_sem, reduceIte, reduceCtorEq, Nat.reduceEqDiff, Nat.reduceLT, Nat.reduceLeDiff, Nat.reduceBEq, Nat.reduceAdd, Nat.reduceMul, Nat.reduceSub, Nat.reducePow, Int.reduceLE, Int.reduceLT, Int.reduceNeg, Int.reduceToNat, Int.reduceAdd, Int.reduceSub] at hr
          obtain ⟨rfl, rfl⟩ := hr
          refine ⟨vc, ?_⟩
          refine AWPL_nil ?_
          refine QB_normal ?_
          exact AWPB_wk [0, 1, 2] mkWk ((hAA _ _ _).1 hn14))
        have hn17 : AA 10 #[true, true, false, false, true, false, false, false, false, false, false, false, false] ⟨120, [(2, .ptr 0 0 0), (45, .agg [.int .i64 m_0, .ints .i64 m_1]), (46, .ptr 0 0 0), (49, .int .i64 a1)], [some (.gen 24 2 [[.int .i64 m_0, .ints .i64 m_1]]), some (.ints 3 .i64 y.2)]⟩ := (hAA _ _ _).2 (by
          refine AWPB_two 2 10 _ _ (by kernel_rfl) rfl rfl ?_ ?_
          · skip
            refine AWPL_rn tab_ok 1 [2, 9, 10, 44, 45, 47, 48, 49, 50, 51, 52, 53] fun c st' hr => ?_
            simp only [go_sem, reduceIte, reduceCtorEq, Nat.reduceEqDiff, Nat.reduceLT, Nat.reduceLeDiff, Nat.reduceBEq, Nat.reduceAdd, Nat.reduceMul, Nat.reduceSub, Nat.reducePow, Int.reduceLE, Int.reduceLT, Int.reduceNeg, Int.reduceToNat, Int.reduceAdd, Int.reduceSub] at hr
            obtain ⟨rfl, rfl⟩ := hr
            refine ⟨vc, ?_⟩
            refine AWPL_nil ?_
            refine QB_normal ?_
            exact AWPB_wk [0, 1] mkWk ((hAA _ _ _).1 hn15)
          · skip
            refine AWPL_rn tab_ok 1 [2, 9, 10, 44, 45, 46, 47, 48, 49, 50, 51, 52, 53] fun c st' hr => ?_
            simp only [go_sem, reduceIte, reduceCtorEq, Nat.reduceEqDiff, Nat.reduceLT, Nat.reduceLeDiff, Nat.reduceBEq, Nat.reduceAdd, Nat.reduceMul, Nat.reduceSub, Nat.reducePow, Int.reduceLE, Int.reduceLT, Int.reduceNeg, Int.reduceToNat, Int.reduceAdd, Int.reduceSub] at hr
            obtain ⟨rfl, rfl⟩ := hr
            refine ⟨vc, ?_⟩
            refine AWPL_nil ?_
            refine QB_normal ?_
            exact AWPB_wk [0, 1, 2] mkWk ((hAA _ _ _).1 hn16))
        have hn18 : AA 10 #[true, false, false, false, true, false, false, false, false, false, true, false, false] ⟨120, [(2, .ptr 0 0 0), (9, .ptr 2 0 0), (45, .agg [.int .i64 m_0, .ints .i64 m_1]), (49, .int .i64 a1)], [some (.gen 24 2 [[.int .i64 m_0, .ints .i64 m_1]]), some (.ints 3 .i64 y.2), some (.gen 24 2 [[.int .i64 0, .nil]])]⟩ := (hAA _ _ _).2 (by
          refine AWPB_one 1 _ (by kernel_rfl) rfl ?_
          refine AWPL_rn tab_ok 1 [2, 9, 10, 44, 45, 46, 47, 48, 49, 50, 51, 52, 53] fun c st' hr => ?_
          simp only [go_sem, reduceIte, reduceCtorEq, Nat.reduceEqDiff, Nat.reduceLT, Nat.reduceLeDiff, Nat.reduceBEq, Nat.reduceAdd, Nat.reduceMul, Nat.reduceSub, Nat.reducePow, Int.reduceLE, Int.reduceLT, Int.reduceNeg, Int.reduceToNat, Int.reduceAdd, Int.reduceSub] at hr
          obtain ⟨rfl, rfl⟩ := hr
          refine ⟨vc, ?_⟩
          refine AWPL_nil ?_
          refine QB_normal ?_
          exact AWPB_wk [0, 1, 2] mkWk ((hAA _ _ _).1 hn16))
        have hn19 : AA 11 #[true, false, false, false, true, false, false, false, false, false, false, false, false] ⟨120, [(2, .ptr 0 0 0), (45, .agg [.int .i64 m_0, .ints .i64 m_1]), (49, .int .i64 a1)], [some (.gen 24 2 [[.int .i64 m_0, .ints .i64 m_1]]), some (.ints 3 .i64 y.2)]⟩ := (hAA _ _ _).2 (by
          refine AWPB_two 1 10 _ _ (by kernel_rfl) rfl rfl ?_ ?_
          · skip
            refine AWPL_rn tab_ok 1 [2, 9, 10, 44, 45, 46, 47, 48, 49, 50, 51, 52, 53] fun c st' hr => ?_
            simp only [go_sem, reduceIte, reduceCtorEq, Nat.reduceEqDiff, Nat.reduceLT, Nat.reduceLeDiff, Nat.reduceBEq, Nat.reduceAdd, Nat.reduceMul, Nat.reduceSub, Nat.reducePow, Int.reduceLE, Int.reduceLT, Int.reduceNeg, Int.reduceToNat, Int.reduceAdd, Int.reduceSub] at hr
            obtain ⟨rfl, rfl⟩ := hr
            refine ⟨vc, ?_⟩
            refine AWPL_nil ?_
            refine QB_normal ?_
            exact AWPB_wk [0, 1] mkWk ((hAA _ _ _).1 hn17)
          · skip
            refine AWPL_rn tab_ok 1 [2, 9, 10, 44, 45, 46, 47, 48, 49, 50, 51, 52, 53] fun c st' hr => ?_
            simp only [go_sem, reduceIte, reduceCtorEq, Nat.reduceEqDiff, Nat.reduceLT, Nat.reduceLeDiff, Nat.reduceBEq, Nat.reduceAdd, Nat.reduceMul, Nat.reduceSub, Nat.reducePow, Int.reduceLE, Int.reduceLT, Int.reduceNeg, Int.reduceToNat, Int.reduceAdd, Int.reduceSub] at hr
            obtain ⟨rfl, rfl⟩ := hr
            refine ⟨vc, ?_⟩
            refine AWPL_nil ?_
            refine QB_normal ?_
            exact AWPB_wk [0, 1, 2] mkWk ((hAA _ _ _).1 hn18))
        have hn20 : AA 7 #[false, true, true, true, true, true, false, false, false, false, true, false, false] ⟨120, [(2, .ptr 0 0 0), (9, .ptr 2 0 0), (50, .int .i64 (iandnot y3 a1))], [some (.gen 24 2 [[.int .i64 m_0, .ints .i64 m_1]]), some (.ints 3 .i64 y.2), some (.gen 24 2 [[.int .i64 0, .nil]])]⟩ := (hAA _ _ _).2 (by
          refine AWPB_one 0 _ (by kernel_rfl) rfl ?_
          refine AWPL_rn tab_ok 1 [2, 9, 10, 44, 45, 50, 51, 52, 53] fun c st' hr => ?_
          simp only [go_sem, reduceIte, reduceCtorEq, Nat.reduceEqDiff, Nat.reduceLT, Nat.reduceLeDiff, Nat.reduceBEq, Nat.reduceAdd, Nat.reduceMul, Nat.reduceSub, Nat.reducePow, Int.reduceLE, Int.reduceLT, Int.reduceNeg, Int.reduceToNat, Int.reduceAdd, Int.reduceSub] at hr
          obtain ⟨rfl, rfl⟩ := hr
          refine ⟨vc, ?_⟩
          refine AWPL_nil ?_
          refine QB_normal ?_
          exact AWPB_wk [0, 1, 2] mkWk ((hAA _ _ _).1 hn10))
        have hn21 : AA 8 #[false, true, true, true, true, true, false, false, false, false, false, false, false] ⟨120, [(2, .ptr 0 0 0), (50, .int .i64 (iandnot y3 a1))], [some (.gen 24 2 [[.int .i64 m_0, .ints .i64 m_1]]), some (.ints 3 .i64 y.2)]⟩ := (hAA _ _ _).2 (by
          refine AWPB_two 0 10 _ _ (by kernel_rfl) rfl rfl ?_ ?_
          · skip
            refine AWPL_rn tab_ok 1 [2, 9, 10, 44, 45, 50, 51, 52, 53] fun c st' hr => ?_
            simp only [go_sem, reduceIte, reduceCtorEq, Nat.reduceEqDiff, Nat.reduceLT, Nat.reduceLeDiff, Nat.reduceBEq, Nat.reduceAdd, Nat.reduceMul, Nat.reduceSub, Nat.reducePow, Int.reduceLE, Int.reduceLT, Int.reduceNeg, Int.reduceToNat, Int.reduceAdd, Int.reduceSub] at hr
            obtain ⟨rfl, rfl⟩ := hr
            refine ⟨vc, ?_⟩
            refine AWPL_nil ?_
            refine QB_normal ?_
            exact AWPB_wk [0, 1] mkWk ((hAA _ _ _).1 hn11)
          · skip
            refine AWPL_rn tab_ok 1 [2, 9, 10, 44, 45, 50, 51, 52, 53] fun c st' hr => ?_
            simp only [go_sem, reduceIte, reduceCtorEq, Nat.reduceEqDiff, Nat.reduceLT, Nat.reduceLeDiff, Nat.reduceBEq, Nat.reduceAdd, Nat.reduceMul, Nat.reduceSub, Nat.reducePow, Int.reduceLE, Int.reduceLT, Int.reduceNeg, Int.reduceToNat, Int.reduceAdd, Int.reduceSub] at hr
            obtain ⟨rfl, rfl⟩ := hr
            refine ⟨vc, ?_⟩
            refine AWPL_nil ?_
            refine QB_normal ?_
            exact AWPB_wk [0, 1, 2] mkWk ((hAA _ _ _).1 hn20))
        have hn22 : AA 8 #[false, true, true, true, true, false, false, false, false, false, true, false, false] ⟨120, [(2, .ptr 0 0 0), (9, .ptr 2 0 0), (48, .int .i64 y3), (49, .int .i64 a1)], [some (.gen 24 2 [[.int .i64 m_0, .ints .i64 m_1]]), some (.ints 3 .i64 y.2), some (.gen 24 2 [[.int .i64 0, .nil]])]⟩ := (hAA _ _ _).2 (by
          refine AWPB_two 0 5 _ _ (by kernel_rfl) rfl rfl ?_ ?_
          · skip
            refine AWPL_rn tab_ok 1 [2, 9, 10, 44, 45, 48, 49, 50, 51, 52, 53] fun c st' hr => ?_
            simp only [go_sem, reduceIte, reduceCtorEq, Nat.reduceEqDiff, Nat.reduceLT, Nat.reduceLeDiff, Nat.reduceBEq, Nat.reduceAdd, Nat.reduceMul, Nat.reduceSub, Nat.reducePow, Int.reduceLE, Int.reduceLT, Int.reduceNeg, Int.reduceToNat, Int.reduceAdd, Int.reduceSub] at hr
            obtain ⟨rfl, rfl⟩ := hr
            refine ⟨vc, ?_⟩
            refine AWPL_nil ?_
            refine QB_normal ?_
            exact AWPB_wk [0, 1, 2] mkWk ((hAA _ _ _).1 hn12)
          · skip
            refine AWPL_rn tab_ok 1 [2, 9, 10, 44, 45, 50, 51, 52, 53] fun c st' hr => ?_
            simp only [go_sem, reduceIte, reduceCtorEq, Nat.reduceEqDiff, Nat.reduceLT, Nat.reduceLeDiff, Nat.reduceBEq, Nat.reduceAdd, Nat.reduceMul, Nat.reduceSub, Nat.reducePow, Int.reduceLE, Int.reduceLT, Int.reduceNeg, Int.reduceToNat, Int.reduceAdd, Int.reduceSub] at hr
            obtain ⟨rfl, rfl⟩ := hr
            refine ⟨vc, ?_⟩
            refine AWPL_nil ?_
            refine QB_normal ?_
            exact AWPB_wk [0, 1, 2] mkWk ((hAA _ _ _).1 hn20))
        have hn23 : AA 9 #[false, true, true, true, true, false, false, false, false, false, false, false, false] ⟨120, [(2, .ptr 0 0 0), (48, .int .i64 y3), (49, .int .i64 a1)], [some (.gen 24 2 [[.int .i64 m_0, .ints .i64 m_1]]), some (.ints 3 .i64 y.2)]⟩ := (hAA _ _ _).2 (by
          refine AWPB_three 0 5 10 _ _ _ (by kernel_rfl) rfl rfl rfl ?_ ?_ ?_
          · skip
            refine AWPL_rn tab_ok 1 [2, 9, 10, 44, 45, 48, 49, 50, 51, 52, 53] fun c st' hr => ?_
            simp only [go_sem, reduceIte, reduceCtorEq, Nat.reduceEqDiff, Nat.reduceLT, Nat.reduceLeDiff, Nat.reduceBEq, Nat.reduceAdd, Nat.reduceMul, Nat.reduceSub, Nat.reducePow, Int.reduceLE, Int.reduceLT, Int.reduceNeg, Int.reduceToNat, Int.reduceAdd, Int.reduceSub] at hr
            obtain ⟨rfl, rfl⟩ := hr
            refine ⟨vc, ?_⟩
            refine AWPL_nil ?_
            refine QB_normal ?_
            exact AWPB_wk [0, 1] mkWk ((hAA _ _ _).1 hn13)
          · skip
            refine AWPL_rn tab_ok 1 [2, 9, 10, 44, 45, 50, 51, 52, 53] fun c st' hr => ?_
            simp only [go_sem, reduceIte, reduceCtorEq, Nat.reduceEqDiff, Nat.reduceLT, Nat.reduceLeDiff, Nat.reduceBEq, Nat.reduceAdd, Nat.reduceMul, Nat.reduceSub, Nat.reducePow, Int.reduceLE, Int.reduceLT, Int.reduceNeg, Int.reduceToNat, Int.reduceAdd, Int.reduceSub] at hr
            obtain ⟨rfl, rfl⟩ := hr
            refine ⟨vc, ?_⟩
            refine AWPL_nil ?_
            refine QB_normal ?_
            exact AWPB_wk [0, 1] mkWk ((hAA _ _ _).1 hn21)
          · skip
            refine AWPL_rn tab_ok 1 [2, 9, 10, 44, 45, 48, 49, 50, 51, 52, 53] fun c st' hr => ?_
            simp only [go_sem, reduceIte, reduceCtorEq, Nat.reduceEqDiff, Nat.reduceLT, Nat.reduceLeDiff, Nat.reduceBEq, Nat.reduceAdd, Nat.reduceMul, Nat.reduceSub, Nat.reducePow, Int.reduceLE, Int.reduceLT, Int.reduceNeg, Int.reduceToNat, Int.reduceAdd, Int.reduceSub] at hr
            obtain ⟨rfl, rfl⟩ := hr
            refine ⟨vc, ?_⟩
            refine AWPL_nil ?_
            refine QB_normal ?_
            exact AWPB_wk [0, 1, 2] mkWk ((hAA _ _ _).1 hn22))
        have hn24 : AA 9 #[false, true, true, false, true, false, false, false, false, false, true, false, false] ⟨120, [(2, .ptr 0 0 0), (9, .ptr 2 0 0), (47, .int .i64 m_0), (49, .int .i64 a1)], [some (.gen 24 2 [[.int .i64 m_0, .ints .i64 m_1]]), some (.ints 3 .i64 y.2), some (.gen 24 2 [[.int .i64 0, .nil]])]⟩ := (hAA _ _ _).2 (by
          refine AWPB_two 0 3 _ _ (by kernel_rfl) rfl rfl ?_ ?_
          · skip
            refine AWPL_rn tab_ok 1 [2, 9, 10, 44, 45, 47, 48, 49, 50, 51, 52, 53] fun c st' hr => ?_
            simp only [go_sem, reduceIte, reduceCtorEq, Nat.reduceEqDiff, Nat.reduceLT, Nat.reduceLeDiff, Nat.reduceBEq, Nat.reduceAdd, Nat.reduceMul, Nat.reduceSub, Nat.reducePow, Int.reduceLE, Int.reduceLT, Int.reduceNeg, Int.reduceToNat, Int.reduceAdd, Int.reduceSub] at hr
            obtain ⟨rfl, rfl⟩ := hr
            refine ⟨vc, ?_⟩
            refine AWPL_nil ?_
            refine QB_normal ?_
            exact AWPB_wk [0, 1, 2] mkWk ((hAA _ _ _).1 hn14)
          · skip
            refine AWPL_callK [2, 9, 10, 44, 45, 48, 49, 50, 51, 52, 53] (W_rotaref_All hy) rfl rfl pcT rfl Try.call34 (.cons (.atom _ rfl) .nil) (hscG trivial) (of_decide_eq_true rfl) (by first | rfl | simp [nI, nI1, nI0]) (by first | rfl | simp [nIB, nI0]) fun st' hr => ?_
            simp only [go_sem, reduceIte, reduceCtorEq, Nat.reduceEqDiff, Nat.reduceLT, Nat.reduceLeDiff, Nat.reduceBEq, Nat.reduceAdd, Nat.reduceMul, Nat.reduceSub, Nat.reducePow, Int.reduceLE, Int.reduceLT, Int.reduceNeg, Int.reduceToNat, Int.reduceAdd, Int.reduceSub] at hr
            subst hr
            refine AWPL_nil ?_
            refine QB_normal ?_
            exact AWPB_wk [0, 1, 2] mkWk ((hAA _ _ _).1 hn22))
        have hn25 : AA 10 #[false, true, true, false, true, false, false, false, false, false, false, false, false] ⟨120, [(2, .ptr 0 0 0), (47, .int .i64 m_0), (49, .int .i64 a1)], [some (.gen 24 2 [[.int .i64 m_0, .ints .i64 m_1]]), some (.ints 3 .i64 y.2)]⟩ := (hAA _ _ _).2 (by
          refine AWPB_three 0 3 10 _ _ _ (by kernel_rfl) rfl rfl rfl ?_ ?_ ?_
          · skip
            refine AWPL_rn tab_ok 1 [2, 9, 10, 44, 45, 47, 48, 49, 50, 51, 52, 53] fun c st' hr => ?_
            simp only [go_sem, reduceIte, reduceCtorEq, Nat.reduceEqDiff, Nat.reduceLT, Nat.reduceLeDiff, Nat.reduceBEq, Nat.reduceAdd, Nat.reduceMul, Nat.reduceSub, Nat.reducePow, Int.reduceLE, Int.reduceLT, Int.reduceNeg, Int.reduceToNat, Int.reduceAdd, Int.reduceSub] at hr
            obtain ⟨rfl, rfl⟩ := hr
            refine ⟨vc, ?_⟩
            refine AWPL_nil ?_
            refine QB_normal ?_
            exact AWPB_wk [0, 1] mkWk ((hAA _ _ _).1 hn15)
          · skip
            refine AWPL_callK [2, 9, 10, 44, 45, 48, 49, 50, 51, 52, 53] (W_rotaref_All hy) rfl rfl pcT rfl Try.call34 (.cons (.atom _ rfl) .nil) (hscG trivial) (of_decide_eq_true rfl) (by first | rfl | simp [nI, nI1, nI0]) (by first | rfl | simp [nIB, nI0]) fun st' hr => ?_
            simp only [go_sem, reduceIte, reduceCtorEq, Nat.reduceEqDiff, Nat.reduceLT, Nat.reduceLeDiff, Nat.reduceBEq, Nat.reduceAdd, Nat.reduceMul, Nat.reduceSub, Nat.reducePow, Int.reduceLE, Int.reduceLT, Int.reduceNeg, Int.reduceToNat, Int.reduceAdd, Int.reduceSub] at hr
            subst hr
            refine AWPL_nil ?_
            refine QB_normal ?_
            exact AWPB_wk [0, 1] mkWk ((hAA _ _ _).1 hn23)
          · skip
            refine AWPL_rn tab_ok 1 [2, 9, 10, 44, 45, 47, 48, 49, 50, 51, 52, 53] fun c st' hr => ?_
            simp only [go_sem, reduceIte, reduceCtorEq, Nat.reduceEqDiff, Nat.reduceLT, Nat.reduceLeDiff, Nat.reduceBEq, Nat.reduceAdd, Nat.reduceMul, Nat.reduceSub, Nat.reducePow, Int.reduceLE, Int.reduceLT, Int.reduceNeg, Int.reduceToNat, Int.reduceAdd, Int.reduceSub] at hr
            obtain ⟨rfl, rfl⟩ := hr
            refine ⟨vc, ?_⟩
            refine AWPL_nil ?_
            refine QB_normal ?_
            exact AWPB_wk [0, 1, 2] mkWk ((hAA _ _ _).1 hn24))
        have hn26 : AA 10 #[false, true, false, false, true, false, false, false, false, false, true, false, false] ⟨120, [(2, .ptr 0 0 0), (9, .ptr 2 0 0), (46, .ptr 0 0 0), (49, .int .i64 a1)], [some (.gen 24 2 [[.int .i64 m_0, .ints .i64 m_1]]), some (.ints 3 .i64 y.2), some (.gen 24 2 [[.int .i64 0, .nil]])]⟩ := (hAA _ _ _).2 (by
          refine AWPB_two 0 2 _ _ (by kernel_rfl) rfl rfl ?_ ?_
          · skip
            refine AWPL_rn tab_ok 1 [2, 9, 10, 44, 45, 46, 47, 48, 49, 50, 51, 52, 53] fun c st' hr => ?_
            simp only [go_sem, reduceIte, reduceCtorEq, Nat.reduceEqDiff, Nat.reduceLT, Nat.reduceLeDiff, Nat.reduceBEq, Nat.reduceAdd, Nat.reduceMul, Nat.reduceSub, Nat.reducePow, Int.reduceLE, Int.reduceLT, Int.reduceNeg, Int.reduceToNat, Int.reduceAdd, Int.reduceSub] at hr
            obtain ⟨rfl, rfl⟩ := hr
            refine ⟨vc, ?_⟩
            refine AWPL_nil ?_
            refine QB_normal ?_
            exact AWPB_wk [0, 1, 2] mkWk ((hAA _ _ _).1 hn16)
          · skip
            refine AWPL_rn tab_ok 1 [2, 9, 10, 44, 45, 47, 48, 49, 50, 51, 52, 53] fun c st' hr => ?_
            simp only [go_sem, reduceIte, reduceCtorEq, Nat.reduceEqDiff, Nat.reduceLT, Nat.reduceLeDiff, Nat.reduceBEq, Nat.reduceAdd, Nat.reduceMul, Nat.reduceSub, Nat.reducePow, Int.reduceLE, Int.reduceLT, Int.reduceNeg, Int.reduceToNat, Int.reduceAdd, Int.reduceSub] at hr
            obtain ⟨rfl, rfl⟩ := hr
            refine ⟨vc, ?_⟩
            refine AWPL_nil ?_
            refine QB_normal ?_
            exact AWPB_wk [0, 1, 2] mkWk ((hAA _ _ _).1 hn24))
        have hn27 : AA 11 #[false, true, false, false, true, false, false, false, false, false, false, false, false] ⟨120, [(2, .ptr 0 0 0), (46, .ptr 0 0 0), (49, .int .i64 a1)], [some (.gen 24 2 [[.int .i64 m_0, .ints .i64 m_1]]), some (.ints 3 .i64 y.2)]⟩ := (hAA _ _ _).2 (by
          refine AWPB_three 0 2 10 _ _ _ (by kernel_rfl) rfl rfl rfl ?_ ?_ ?_
          · skip
            refine AWPL_rn tab_ok 1 [2, 9, 10, 44, 45, 46, 47, 48, 49, 50, 51, 52, 53] fun c st' hr => ?_
            simp only [go_sem, reduceIte, reduceCtorEq, Nat.reduceEqDiff, Nat.reduceLT, Nat.reduceLeDiff, Nat.reduceBEq, Nat.reduceAdd, Nat.reduceMul, Nat.reduceSub, Nat.reducePow, Int.reduceLE, Int.reduceLT, Int.reduceNeg, Int.reduceToNat, Int.reduceAdd, Int.reduceSub] at hr
            obtain ⟨rfl, rfl⟩ := hr
            refine ⟨vc, ?_⟩
            refine AWPL_nil ?_
            refine QB_normal ?_
            exact AWPB_wk [0, 1] mkWk ((hAA _ _ _).1 hn17)
          · skip
            refine AWPL_rn tab_ok 1 [2, 9, 10, 44, 45, 47, 48, 49, 50, 51, 52, 53] fun c st' hr => ?_
            simp only [go_sem, reduceIte, reduceCtorEq, Nat.reduceEqDiff, Nat.reduceLT, Nat.reduceLeDiff, Nat.reduceBEq, Nat.reduceAdd, Nat.reduceMul, Nat.reduceSub, Nat.reducePow, Int.reduceLE, Int.reduceLT, Int.reduceNeg, Int.reduceToNat, Int.reduceAdd, Int.reduceSub] at hr
            obtain ⟨rfl, rfl⟩ := hr
            refine ⟨vc, ?_⟩
            refine AWPL_nil ?_
            refine QB_normal ?_
            exact AWPB_wk [0, 1] mkWk ((hAA _ _ _).1 hn25)
          · skip
            refine AWPL_rn tab_ok 1 [2, 9, 10, 44, 45, 46, 47, 48, 49, 50, 51, 52, 53] fun c st' hr => ?_
            simp only [go_sem, reduceIte, reduceCtorEq, Nat.reduceEqDiff, Nat.reduceLT, Nat.reduceLeDiff, Nat.reduceBEq, Nat.reduceAdd, Nat.reduceMul, Nat.reduceSub, Nat.reducePow, Int.reduceLE, Int.reduceLT, Int.reduceNeg, Int.reduceToNat, Int.reduceAdd, Int.reduceSub] at hr
            obtain ⟨rfl, rfl⟩ := hr
            refine ⟨vc, ?_⟩
            refine AWPL_nil ?_
            refine QB_normal ?_
            exact AWPB_wk [0, 1, 2] mkWk ((hAA _ _ _).1 hn26))
        have hn28 : AA 11 #[false, false, false, false, true, false, false, false, false, false, true, false, false] ⟨120, [(2, .ptr 0 0 0), (9, .ptr 2 0 0), (49, .int .i64 a1)], [some (.gen 24 2 [[.int .i64 m_0, .ints .i64 m_1]]), some (.ints 3 .i64 y.2), some (.gen 24 2 [[.int .i64 0, .nil]])]⟩ := (hAA _ _ _).2 (by
          refine AWPB_two 0 1 _ _ (by kernel_rfl) rfl rfl ?_ ?_
          · skip
            refine AWPL_rn tab_ok 1 [2, 9, 10, 44, 45, 46, 47, 48, 49, 50, 51, 52, 53] fun c st' hr => ?_
            simp only [go_sem, reduceIte, reduceCtorEq, Nat.reduceEqDiff, Nat.reduceLT, Nat.reduceLeDiff, Nat.reduceBEq, Nat.reduceAdd, Nat.reduceMul, Nat.reduceSub, Nat.reducePow, Int.reduceLE, Int.reduceLT, Int.reduceNeg, Int.reduceToNat, Int.reduceAdd, Int.reduceSub] at hr
            obtain ⟨rfl, rfl⟩ := hr
            refine ⟨vc, ?_⟩
            refine AWPL_nil ?_
            refine QB_normal ?_
            exact AWPB_wk [0, 1, 2] mkWk ((hAA _ _ _).1 hn18)
          · skip
            refine AWPL_rn tab_ok 1 [2, 9, 10, 44, 45, 46, 47, 48, 49, 50, 51, 52, 53] fun c st' hr => ?_
            simp only [go_sem, reduceIte, reduceCtorEq, Nat.reduceEqDiff, Nat.reduceLT, Nat.reduceLeDiff, Nat.reduceBEq, Nat.reduceAdd, Nat.reduceMul, Nat.reduceSub, Nat.reducePow, Int.reduceLE, Int.reduceLT, Int.reduceNeg, Int.reduceToNat, Int.reduceAdd, Int.reduceSub] at hr
            obtain ⟨rfl, rfl⟩ := hr
            refine ⟨vc, ?_⟩
            refine AWPL_nil ?_
            refine QB_normal ?_
            exact AWPB_wk [0, 1, 2] mkWk ((hAA _ _ _).1 hn26))
        have hn29 : AA 12 #[false, false, false, false, true, false, false, false, false, false, false, false, false] ⟨120, [(2, .ptr 0 0 0), (49, .int .i64 a1)], [some (.gen 24 2 [[.int .i64 m_0, .ints .i64 m_1]]), some (.ints 3 .i64 y.2)]⟩ := (hAA _ _ _).2 (by
          refine AWPB_three 0 1 10 _ _ _ (by kernel_rfl) rfl rfl rfl ?_ ?_ ?_
          · skip
            refine AWPL_rn tab_ok 1 [2, 9, 10, 44, 45, 46, 47, 48, 49, 50, 51, 52, 53] fun c st' hr => ?_
            simp only [go_sem, reduceIte, reduceCtorEq, Nat.reduceEqDiff, Nat.reduceLT, Nat.reduceLeDiff, Nat.reduceBEq, Nat.reduceAdd, Nat.reduceMul, Nat.reduceSub, Nat.reducePow, Int.reduceLE, Int.reduceLT, Int.reduceNeg, Int.reduceToNat, Int.reduceAdd, Int.reduceSub] at hr
            obtain ⟨rfl, rfl⟩ := hr
            refine ⟨vc, ?_⟩
            refine AWPL_nil ?_
            refine QB_normal ?_
            exact AWPB_wk [0, 1] mkWk ((hAA _ _ _).1 hn19)
          · skip
            refine AWPL_rn tab_ok 1 [2, 9, 10, 44, 45, 46, 47, 48, 49, 50, 51, 52, 53] fun c st' hr => ?_
            simp only [go_sem, reduceIte, reduceCtorEq, Nat.reduceEqDiff, Nat.reduceLT, Nat.reduceLeDiff, Nat.reduceBEq, Nat.reduceAdd, Nat.reduceMul, Nat.reduceSub, Nat.reducePow, Int.reduceLE, Int.reduceLT, Int.reduceNeg, Int.reduceToNat, Int.reduceAdd, Int.reduceSub] at hr
            obtain ⟨rfl, rfl⟩ := hr
            refine ⟨vc, ?_⟩
            refine AWPL_nil ?_
            refine QB_normal ?_
            exact AWPB_wk [0, 1] mkWk ((hAA _ _ _).1 hn27)
          · skip
            refine AWPL_rn tab_ok 1 [2, 9, 10, 44, 45, 46, 47, 48, 49, 50, 51, 52, 53] fun c st' hr => ?_
            simp only [go_sem, reduceIte, reduceCtorEq, Nat.reduceEqDiff, Nat.reduceLT, Nat.reduceLeDiff, Nat.reduceBEq, Nat.reduceAdd, Nat.reduceMul, Nat.reduceSub, Nat.reducePow, Int.reduceLE, Int.reduceLT, Int.reduceNeg, Int.reduceToNat, Int.reduceAdd, Int.reduceSub] at hr
            obtain ⟨rfl, rfl⟩ := hr
            refine ⟨vc, ?_⟩
            refine AWPL_nil ?_
            refine QB_normal ?_
            exact AWPB_wk [0, 1, 2] mkWk ((hAA _ _ _).1 hn28))
        have hn30 : AA 13 #[false, false, false, false, false, false, false, false, false, false, false, false, false] ⟨120, [(1, .int .i64 a1), (2, .ptr 0 0 0)], [some (.gen 24 2 [[.int .i64 m_0, .ints .i64 m_1]]), some (.ints 3 .i64 y.2)]⟩ := (hAA _ _ _).2 (by
          refine AWPB_take tab_ok [2, 9, 10, 44, 45, 46, 47, 48, 49, 50, 51, 52, 53] 4 _ rfl rfl (by kernel_rfl) fun c st' hr => ?_
          simp only [go_sem, reduceIte, reduceCtorEq, Nat.reduceEqDiff, Nat.reduceLT, Nat.reduceLeDiff, Nat.reduceBEq, Nat.reduceAdd, Nat.reduceMul, Nat.reduceSub, Nat.reducePow, Int.reduceLE, Int.reduceLT, Int.reduceNeg, Int.reduceToNat, Int.reduceAdd, Int.reduceSub] at hr
          obtain ⟨rfl, rfl⟩ := hr
          refine ⟨vc, ?_⟩
          exact AWPB_wk [0, 1] mkWk ((hAA _ _ _).1 hn29))
        exact (hAA _ _ _).2 (AWPB_wk [0, 1] mkWk ((hAA _ _ _).1 hn30))
      with_reducible refine thenC_normal ?_
      refine AWP_seq ?_
      -- region 8
      refine AWP_rl ?_
      refine AWPL_rn tab_ok 1 [2, 10, 55] fun c st' hr => ?_
      simp only [go_sem, reduceIte, reduceCtorEq, Nat.reduceEqDiff, Nat.reduceLT, Nat.reduceLeDiff, Nat.reduceBEq, Nat.reduceAdd, Nat.reduceMul, Nat.reduceSub, Nat.reducePow, Int.reduceLE, Int.reduceLT, Int.reduceNeg, Int.reduceToNat, Int.reduceAdd, Int.reduceSub] at hr
      obtain ⟨rfl, rfl⟩ := hr
      refine ⟨vc, ?_⟩
      replace hK := bind_s hK
      obtain ⟨y5, hy, hK⟩ := hK
      refine AWPL_callK [2, 10, 56] (W_flats_Characteristic hy) rfl rfl pcT rfl Try.call35 (.cons (.agg _ _ rfl (ArgsOk.get (.cons (.atom _ rfl) (.cons (.ownI _ _ _ _ _ y4.2.1 rfl (by simp) (by simp)) .nil))).2) .nil) (hscG trivial) (of_decide_eq_true rfl) (by first | rfl | simp [nI, nI1, nI0]) (by first | rfl | simp [nIB, nI0]) fun st' hr => ?_
      simp only [go_sem, reduceIte, reduceCtorEq, Nat.reduceEqDiff, Nat.reduceLT, Nat.reduceLeDiff, Nat.reduceBEq, Nat.reduceAdd, Nat.reduceMul, Nat.reduceSub, Nat.reducePow, Int.reduceLE, Int.reduceLT, Int.reduceNeg, Int.reduceToNat, Int.reduceAdd, Int.reduceSub] at hr
      subst hr
      clear hy
      refine AWPL_rn tab_ok 5 [2, 10, 11, 12] fun c st' hr => ?_
      simp only [go_sem, reduceIte, reduceCtorEq, Nat.reduceEqDiff, Nat.reduceLT, Nat.reduceLeDiff, Nat.reduceBEq, Nat.reduceAdd, Nat.reduceMul, Nat.reduceSub, Nat.reducePow, Int.reduceLE, Int.reduceLT, Int.reduceNeg, Int.reduceToNat, Int.reduceAdd, Int.reduceSub] at hr
      obtain ⟨rfl, rfl⟩ := hr
      refine ⟨vc, ?_⟩
      refine AWPL_nil ?_
      with_reducible refine thenC_normal ?_
      refine AWP_seq ?_
      -- region 9
      refine AWP_rl ?_
      refine AWPL_rn tab_ok 1 [10, 11, 12, 60] fun c st' hr => ?_
      simp only [go_sem, reduceIte, reduceCtorEq, Nat.reduceEqDiff, Nat.reduceLT, Nat.reduceLeDiff, Nat.reduceBEq, Nat.reduceAdd, Nat.reduceMul, Nat.reduceSub, Nat.reducePow, Int.reduceLE, Int.reduceLT, Int.reduceNeg, Int.reduceToNat, Int.reduceAdd, Int.reduceSub] at hr
      obtain ⟨rfl, rfl⟩ := hr
      refine ⟨vc, ?_⟩
      replace hK := bind_s hK
      obtain ⟨y6, hy, hK⟩ := hK
      refine AWPL_callK [10, 11, 12, 61] (W_flats_Characteristic hy) rfl rfl pcT rfl Try.call35 (.cons (.agg _ _ rfl (ArgsOk.get (.cons (.atom _ rfl) (.cons (.atom _ rfl) .nil))).2) .nil) (hscG trivial) (of_decide_eq_true rfl) (by first | rfl | simp [nI, nI1, nI0]) (by first | rfl | simp [nIB, nI0]) fun st' hr => ?_
      simp only [go_sem, reduceIte, reduceCtorEq, Nat.reduceEqDiff, Nat.reduceLT, Nat.reduceLeDiff, Nat.reduceBEq, Nat.reduceAdd, Nat.reduceMul, Nat.reduceSub, Nat.reducePow, Int.reduceLE, Int.reduceLT, Int.reduceNeg, Int.reduceToNat, Int.reduceAdd, Int.reduceSub] at hr
      subst hr
      clear hy
      refine AWPL_rn tab_ok 5 [10, 11, 12, 13, 14] fun c st' hr => ?_
      simp only [go_sem, reduceIte, reduceCtorEq, Nat.reduceEqDiff, Nat.reduceLT, Nat.reduceLeDiff, Nat.reduceBEq, Nat.reduceAdd, Nat.reduceMul, Nat.reduceSub, Nat.reducePow, Int.reduceLE, Int.reduceLT, Int.reduceNeg, Int.reduceToNat, Int.reduceAdd, Int.reduceSub] at hr
      obtain ⟨rfl, rfl⟩ := hr
      refine ⟨vc, ?_⟩
      refine AWPL_nil ?_
      with_reducible refine thenC_normal ?_
      refine AWP_seq ?_
      refine AWP_seq ?_
      -- region 10
      refine AWP_rg tab_ok [11, 13, 73] fun c st' hr => ?_
      simp only [go_sem, reduceIte, reduceCtorEq, Nat.reduceEqDiff, Nat.reduceLT, Nat.reduceLeDiff, Nat.reduceBEq, Nat.reduceAdd, Nat.reduceMul, Nat.reduceSub, Nat.reducePow, Int.reduceLE, Int.reduceLT, Int.reduceNeg, Int.reduceToNat, Int.reduceAdd, Int.reduceSub] at hr
      obtain ⟨rfl, rfl⟩ := hr
      refine ⟨vc, ?_⟩
      with_reducible refine thenC_normal ?_
      refine AWP_condP (((y4.2.2 ≠ 0 ∨ y5.2 ≠ 0) ∨ y6.2 ≠ 0)) rfl bd (fun hb2 => ?_) (fun hb2 => ?_)
      · replace hK := ite_t hK hb2
        refine AWP_seq ?_
        -- region 11
        refine AWP_rg tab_ok [4] fun c st' hr => ?_
        simp only [go_sem, reduceIte, reduceCtorEq, Nat.reduceEqDiff, Nat.reduceLT, Nat.reduceLeDiff, Nat.reduceBEq, Nat.reduceAdd, Nat.reduceMul, Nat.reduceSub, Nat.reducePow, Int.reduceLE, Int.reduceLT, Int.reduceNeg, Int.reduceToNat, Int.reduceAdd, Int.reduceSub] at hr
        obtain ⟨rfl, rfl⟩ := hr
        refine ⟨vc, ?_⟩
        with_reducible refine thenC_normal ?_
        refine AWP_ret ?_
        with_reducible refine thenC_ret ?_
        cases hK
        refine EndsRW [] (.inl rfl) (of_decide_eq_true rfl) (by simp) rfl (fun c x hr => ?_) trivial
        simp only [go_sem, reduceIte, reduceCtorEq, Nat.reduceEqDiff, Nat.reduceLT, Nat.reduceLeDiff, Nat.reduceBEq, Nat.reduceAdd, Nat.reduceMul, Nat.reduceSub, Nat.reducePow, Int.reduceLE, Int.reduceLT, Int.reduceNeg, Int.reduceToNat, Int.reduceAdd, Int.reduceSub] at hr
        obtain ⟨rfl, rfl⟩ := hr
        exact ⟨rfl, endR⟩
      · replace hK := ite_f hK hb2
        refine AWP_skip ?_
        with_reducible refine thenC_normal ?_
        refine AWP_seq ?_
        refine AWP_seq ?_
        -- region 12
        refine AWP_rl ?_
        refine AWPL_rn tab_ok 1 [11, 13, 74] fun c st' hr => ?_
        simp only [go_sem, reduceIte, reduceCtorEq, Nat.reduceEqDiff, Nat.reduceLT, Nat.reduceLeDiff, Nat.reduceBEq, Nat.reduceAdd, Nat.reduceMul, Nat.reduceSub, Nat.reducePow, Int.reduceLE, Int.reduceLT, Int.reduceNeg, Int.reduceToNat, Int.reduceAdd, Int.reduceSub] at hr
        obtain ⟨rfl, rfl⟩ := hr
        refine ⟨vc, ?_⟩
        replace hK := bind_s hK
        obtain ⟨y7, hy, hK⟩ := hK
        refine AWPL_callK [11, 13, 75] (W_slices_ContainsFunc_int64_int64 Try.call37 rfl (fun _ _ hh => by simpa using W_rotakeep_FlatsModular_1 hh) hy) rfl rfl pcT rfl Try.call36 (.cons (.ownI _ _ _ _ _ y6.1 rfl (by simp) (by simp)) (.cons (.funcOf .nil) .nil)) (hscG trivial) (of_decide_eq_true rfl) (by first | rfl | simp [nI, nI1, nI0]) (by first | rfl | simp [nIB, nI0]) fun st' hr => ?_
        simp only [go_sem, reduceIte, reduceCtorEq, Nat.reduceEqDiff, Nat.reduceLT, Nat.reduceLeDiff, Nat.reduceBEq, Nat.reduceAdd, Nat.reduceMul, Nat.reduceSub, Nat.reducePow, Int.reduceLE, Int.reduceLT, Int.reduceNeg, Int.reduceToNat, Int.reduceAdd, Int.reduceSub] at hr
        subst hr
        clear hy
        refine AWPL_rn tab_ok 1 [11, 13, 76] fun c st' hr => ?_
        simp only [go_sem, reduceIte, reduceCtorEq, Nat.reduceEqDiff, Nat.reduceLT, Nat.reduceLeDiff, Nat.reduceBEq, Nat.reduceAdd, Nat.reduceMul, Nat.reduceSub, Nat.reducePow, Int.reduceLE, Int.reduceLT, Int.reduceNeg, Int.reduceToNat, Int.reduceAdd, Int.reduceSub] at hr
        obtain ⟨rfl, rfl⟩ := hr
        refine ⟨vc, ?_⟩
        refine AWPL_nil ?_
        with_reducible refine thenC_normal ?_
        refine AWP_condP (¬ (y7 = true)) rfl bd (fun hb3 => ?_) (fun hb3 => ?_)
        · replace hK := ite_t hK hb3
          refine AWP_seq ?_
          -- region 13
          refine AWP_rg tab_ok [4] fun c st' hr => ?_
          simp only [go_sem, reduceIte, reduceCtorEq, Nat.reduceEqDiff, Nat.reduceLT, Nat.reduceLeDiff, Nat.reduceBEq, Nat.reduceAdd, Nat.reduceMul, Nat.reduceSub, Nat.reducePow, Int.reduceLE, Int.reduceLT, Int.reduceNeg, Int.reduceToNat, Int.reduceAdd, Int.reduceSub] at hr
          obtain ⟨rfl, rfl⟩ := hr
          refine ⟨vc, ?_⟩
          with_reducible refine thenC_normal ?_
          refine AWP_ret ?_
          with_reducible refine thenC_ret ?_
          cases hK
          refine EndsRW [] (.inl rfl) (of_decide_eq_true rfl) (by simp) rfl (fun c x hr => ?_) trivial
          simp only [go_sem, reduceIte, reduceCtorEq, Nat.reduceEqDiff, Nat.reduceLT, Nat.reduceLeDiff, Nat.reduceBEq, Nat.reduceAdd, Nat.reduceMul, Nat.reduceSub, Nat.reducePow, Int.reduceLE, Int.reduceLT, Int.reduceNeg, Int.reduceToNat, Int.reduceAdd, Int.reduceSub] at hr
          obtain ⟨rfl, rfl⟩ := hr
          exact ⟨rfl, endR⟩
        · replace hK := ite_f hK hb3
          refine AWP_skip ?_
          with_reducible refine thenC_normal ?_
          refine AWP_seq ?_
          -- region 14
          refine AWP_rl ?_
          refine AWPL_rn tab_ok 1 [11, 77] fun c st' hr => ?_
          simp only [go_sem, reduceIte, reduceCtorEq, Nat.reduceEqDiff, Nat.reduceLT, Nat.reduceLeDiff, Nat.reduceBEq, Nat.reduceAdd, Nat.reduceMul, Nat.reduceSub, Nat.reducePow, Int.reduceLE, Int.reduceLT, Int.reduceNeg, Int.reduceToNat, Int.reduceAdd, Int.reduceSub] at hr
          obtain ⟨rfl, rfl⟩ := hr
          refine ⟨vc, ?_⟩
          replace hK := bind_s hK
          obtain ⟨y8, hy, hK⟩ := hK
          refine AWPL_callK [11, 78] (W_slices_Clone_int64_int64 hy) rfl rfl pcT rfl Try.call38 (.cons (.ownI _ _ _ _ _ y6.1 rfl (by simp) (by simp)) .nil) (hscG trivial) (of_decide_eq_true rfl) (by first | rfl | simp [nI, nI1, nI0]) (by first | rfl | simp [nIB, nI0]) fun st' hr => ?_
          simp only [go_sem, reduceIte, reduceCtorEq, Nat.reduceEqDiff, Nat.reduceLT, Nat.reduceLeDiff, Nat.reduceBEq, Nat.reduceAdd, Nat.reduceMul, Nat.reduceSub, Nat.reducePow, Int.reduceLE, Int.reduceLT, Int.reduceNeg, Int.reduceToNat, Int.reduceAdd, Int.reduceSub] at hr
          subst hr
          clear hy
          refine AWPL_rn tab_ok 1 [11, 15] fun c st' hr => ?_
          simp only [go_sem, reduceIte, reduceCtorEq, Nat.reduceEqDiff, Nat.reduceLT, Nat.reduceLeDiff, Nat.reduceBEq, Nat.reduceAdd, Nat.reduceMul, Nat.reduceSub, Nat.reducePow, Int.reduceLE, Int.reduceLT, Int.reduceNeg, Int.reduceToNat, Int.reduceAdd, Int.reduceSub] at hr
          obtain ⟨rfl, rfl⟩ := hr
          refine ⟨vc, ?_⟩
          refine AWPL_nil ?_
          with_reducible refine thenC_normal ?_
          refine AWP_seq ?_
          refine AWP_seq ?_
          -- region 15
          replace hK := chk_some hK
          obtain ⟨h, hK⟩ := hK
          refine AWP_rg tab_ok [11, 15, 16] fun c st' hr => ?_
          simp only [go_sem, reduceIte, reduceCtorEq, Nat.reduceEqDiff, Nat.reduceLT, Nat.reduceLeDiff, Nat.reduceBEq, Nat.reduceAdd, Nat.reduceMul, Nat.reduceSub, Nat.reducePow, Int.reduceLE, Int.reduceLT, Int.reduceNeg, Int.reduceToNat, Int.reduceAdd, Int.reduceSub] at hr
          obtain ⟨rfl, rfl⟩ := hr
          refine ⟨vc, ?_⟩
          with_reducible refine thenC_normal ?_
          refine AWP_block ?_
          refine AWP_loopX 0 (fun ((v, v1) : List Int × Int) => ⟨120, [(11, .own 0 y5.1.length), (15, .own 1 v.length), (16, .int .i64 v1)], [some (.ints 2 .i64 y5.1), some (.ints 2 .i64 v)]⟩) (fun (v2 : List Int) => ⟨120, [(15, .own 0 v2.length)], [some (.ints 2 .i64 v2)]⟩) (fun v => v) (y8, (y8.length : Int) - 1) [4, 6] hK mkWk ?_ ?_
          · clear hK; rintro ⟨v, v1⟩ b hK hpost1
            try dsimp only at hK
            change AWP _ _ _ _ ⟨120, [(11, .own 0 y5.1.length), (15, .own 1 v.length), (16, .int .i64 v1)], [some (.ints 2 .i64 y5.1), some (.ints 2 .i64 v)]⟩
            refine AWP_seq ?_
            refine AWP_seq ?_
            -- region 16
            replace hK := chk_some hK
            obtain ⟨h1, hK⟩ := hK
            refine AWP_rg tab_ok [11, 15, 16, 86] fun c st' hr => ?_
            simp only [go_sem, reduceIte, reduceCtorEq, Nat.reduceEqDiff, Nat.reduceLT, Nat.reduceLeDiff, Nat.reduceBEq, Nat.reduceAdd, Nat.reduceMul, Nat.reduceSub, Nat.reducePow, Int.reduceLE, Int.reduceLT, Int.reduceNeg, Int.reduceToNat, Int.reduceAdd, Int.reduceSub] at hr
            obtain ⟨rfl, rfl⟩ := hr
            refine ⟨vc, ?_⟩
            with_reducible refine thenC_normal ?_
            refine AWP_condP ((y5.1.length : Int) - 1 ≤ v1) rfl bd (fun hb4 => ?_) (fun hb4 => ?_)
            · replace hK := ite_t hK hb4
              refine AWP_skip ?_
              with_reducible refine thenC_normal ?_
              refine AWP_seq ?_
              refine AWP_block ?_
              refine AWP_seq ?_
              -- region 18
              replace hK := chk_some hK
              obtain ⟨h2, hK⟩ := hK
              refine AWP_rg tab_ok [11, 15, 16, 17] fun c st' hr => ?_
              simp only [go_sem, reduceIte, reduceCtorEq, Nat.reduceEqDiff, Nat.reduceLT, Nat.reduceLeDiff, Nat.reduceBEq, Nat.reduceAdd, Nat.reduceMul, Nat.reduceSub, Nat.reducePow, Int.reduceLE, Int.reduceLT, Int.reduceNeg, Int.reduceToNat, Int.reduceAdd, Int.reduceSub] at hr
              obtain ⟨rfl, rfl⟩ := hr
              refine ⟨vc, ?_⟩
              with_reducible refine thenC_normal ?_
              refine AWP_seq ?_
              -- region 19
              refine AWP_rg tab_ok [11, 15, 16, 17, 94, 95] fun c st' hr => ?_
              simp only [go_sem, reduceIte, reduceCtorEq, Nat.reduceEqDiff, Nat.reduceLT, Nat.reduceLeDiff, Nat.reduceBEq, Nat.reduceAdd, Nat.reduceMul, Nat.reduceSub, Nat.reducePow, Int.reduceLE, Int.reduceLT, Int.reduceNeg, Int.reduceToNat, Int.reduceAdd, Int.reduceSub] at hr
              obtain ⟨rfl, rfl⟩ := hr
              refine ⟨vc, ?_⟩
              with_reducible refine thenC_normal ?_
              refine AWP_block ?_
              refine AWP_loopX 2 (fun ((v3, v4) : List Int × Int) => ⟨120, [(11, .own 0 y5.1.length), (15, .own 1 v3.length), (16, .int .i64 v1), (17, .int .i64 (v.getD v1.toNat 0)), (94, .int .i64 (y5.1.length : Int)), (95, .int .i64 v4)], [some (.ints 2 .i64 y5.1), some (.ints 2 .i64 v3)]⟩) (fun (v5 : List Int) => ⟨120, [(11, .own 0 y5.1.length), (15, .own 1 v5.length), (16, .int .i64 v1)], [some (.ints 2 .i64 y5.1), some (.ints 2 .i64 v5)]⟩) (fun v => v) (v, 0) [0, 1] hK mkWk ?_ ?_
              · clear hK; rintro ⟨v3, v4⟩ b1 hK hpost2
                try dsimp only at hK
                change AWP _ _ _ _ ⟨120, [(11, .own 0 y5.1.length), (15, .own 1 v3.length), (16, .int .i64 v1), (17, .int .i64 (v.getD v1.toNat 0)), (94, .int .i64 (y5.1.length : Int)), (95, .int .i64 v4)], [some (.ints 2 .i64 y5.1), some (.ints 2 .i64 v3)]⟩
                refine AWP_seq ?_
                -- region 20
                refine AWP_rg tab_ok [11, 15, 16, 17, 94, 95, 96] fun c st' hr => ?_
                simp only [go_sem, reduceIte, reduceCtorEq, Nat.reduceEqDiff, Nat.reduceLT, Nat.reduceLeDiff, Nat.reduceBEq, Nat.reduceAdd, Nat.reduceMul, Nat.reduceSub, Nat.reducePow, Int.reduceLE, Int.reduceLT, Int.reduceNeg, Int.reduceToNat, Int.reduceAdd, Int.reduceSub] at hr
                obtain ⟨rfl, rfl⟩ := hr
                refine ⟨vc, ?_⟩
                with_reducible refine thenC_normal ?_
                refine AWP_seq ?_
                refine AWP_condP (v4 < (y5.1.length : Int)) rfl bd (fun hb5 => ?_) (fun hb5 => ?_)
                · replace hK := ite_t hK hb5
                  refine AWP_skip ?_
                  with_reducible refine thenC_normal ?_
                  refine AWP_seq ?_
                  refine AWP_block ?_
                  refine AWP_seq ?_
                  -- region 21
                  refine AWP_rg tab_ok [11, 15, 16, 17, 18, 94, 95] fun c st' hr => ?_
                  simp only [go_sem, reduceIte, reduceCtorEq, Nat.reduceEqDiff, Nat.reduceLT, Nat.reduceLeDiff, Nat.reduceBEq, Nat.reduceAdd, Nat.reduceMul, Nat.reduceSub, Nat.reducePow, Int.reduceLE, Int.reduceLT, Int.reduceNeg, Int.reduceToNat, Int.reduceAdd, Int.reduceSub] at hr
                  obtain ⟨rfl, rfl⟩ := hr
                  refine ⟨vc, ?_⟩
                  with_reducible refine thenC_normal ?_
                  -- region 22
                  replace hK := chk_some hK
                  obtain ⟨h3, hK⟩ := hK
                  refine AWP_dt tab_ok 18 [11, 15, 16, 17, 94, 95] mixed (by kernel_rfl) fun c st' hr => ?_
                  simp only [go_sem, reduceIte, reduceCtorEq, Nat.reduceEqDiff, Nat.reduceLT, Nat.reduceLeDiff, Nat.reduceBEq, Nat.reduceAdd, Nat.reduceMul, Nat.reduceSub, Nat.reducePow, Int.reduceLE, Int.reduceLT, Int.reduceNeg, Int.reduceToNat, Int.reduceAdd, Int.reduceSub] at hr
                  obtain ⟨rfl, rfl⟩ := hr
                  refine ⟨vc, ?_⟩
                  with_reducible refine inBlockA_normal (thenC_normal ?_)
                  -- region 23
                  refine AWP_facts (by simp) fun hfx => ?_
                  simp only [factS, factV, fact1, fact0, factL0, lo, hi, maxLen, and_true, true_and] at hfx
                  refine AWP_rg tab_ok [11, 15, 16, 17, 94, 95] fun c st' hr => ?_
                  simp only [go_sem, reduceIte, reduceCtorEq, Nat.reduceEqDiff, Nat.reduceLT, Nat.reduceLeDiff, Nat.reduceBEq, Nat.reduceAdd, Nat.reduceMul, Nat.reduceSub, Nat.reducePow, Int.reduceLE, Int.reduceLT, Int.reduceNeg, Int.reduceToNat, Int.reduceAdd, Int.reduceSub] at hr
                  obtain ⟨rfl, rfl⟩ := hr
                  refine ⟨vc, ?_⟩
                  clear hfx
                  refine again_n (v3.set (v1 - v4).toNat ((v3.getD (v1 - v4).toNat 0) - ((v.getD v1.toNat 0) * (y5.1.getD (((y5.1.length : Int) - 1) - v4).toNat 0))), v4 + 1) [0, 1] hK mkWk
                · replace hK := ite_f hK hb5
                  refine AWP_exit ?_
                  with_reducible refine thenC_exit (again_x ?_)
                  refine cutX_here v3 [0, 1] (by have hq := hpost2 _ hK; exact hq) mkWk
              · clear hK; rintro v5 hK
                try dsimp only at hK
                refine exS ⟨120, [(11, .own 0 y5.1.length), (15, .own 1 v5.length), (16, .int .i64 v1)], [some (.ints 2 .i64 y5.1), some (.ints 2 .i64 v5)]⟩ rfl ?_
                with_reducible refine inBlockA_exit (inBlockA_normal (thenC_normal ?_))
                -- region 17
                replace hK := chk_some hK
                obtain ⟨h4, hK⟩ := hK
                refine AWP_rg tab_ok [11, 15, 16] fun c st' hr => ?_
                simp only [go_sem, reduceIte, reduceCtorEq, Nat.reduceEqDiff, Nat.reduceLT, Nat.reduceLeDiff, Nat.reduceBEq, Nat.reduceAdd, Nat.reduceMul, Nat.reduceSub, Nat.reducePow, Int.reduceLE, Int.reduceLT, Int.reduceNeg, Int.reduceToNat, Int.reduceAdd, Int.reduceSub] at hr
                obtain ⟨rfl, rfl⟩ := hr
                refine ⟨vc, ?_⟩
                refine again_n (v5, v1 - 1) [0, 1] hK mkWk
            · replace hK := ite_f hK hb4
              refine AWP_exit ?_
              with_reducible refine thenC_exit (again_x ?_)
              refine cutX_here v [1] (by have hq := hpost1 _ hK; exact hq) mkWk
          · clear hK; rintro v2 hK
            try dsimp only at hK
            refine exS ⟨120, [(15, .own 0 v2.length)], [some (.ints 2 .i64 v2)]⟩ rfl ?_
            with_reducible refine inBlockA_exit (thenC_normal ?_)
            refine AWP_seq ?_
            -- region 24
            refine AWP_rl ?_
            refine AWPL_rn tab_ok 1 [117] fun c st' hr => ?_
            simp only [go_sem, reduceIte, reduceCtorEq, Nat.reduceEqDiff, Nat.reduceLT, Nat.reduceLeDiff, Nat.reduceBEq, Nat.reduceAdd, Nat.reduceMul, Nat.reduceSub, Nat.reducePow, Int.reduceLE, Int.reduceLT, Int.reduceNeg, Int.reduceToNat, Int.reduceAdd, Int.reduceSub] at hr
            obtain ⟨rfl, rfl⟩ := hr
            refine ⟨vc, ?_⟩
            replace hK := bind_s hK
            obtain ⟨y9, hy, hK⟩ := hK
            refine AWPL_callK [118] (W_slices_ContainsFunc_int64_int64 Try.call39 rfl (fun _ _ hh => by simpa using W_rotakeep_FlatsModular_2 hh) hy) rfl rfl pcT rfl Try.call36 (.cons (.ownI _ _ _ _ _ v2 rfl (by simp) (by simp)) (.cons (.funcOf .nil) .nil)) (hscG trivial) (of_decide_eq_true rfl) (by first | rfl | simp [nI, nI1, nI0]) (by first | rfl | simp [nIB, nI0]) fun st' hr => ?_
            simp only [go_sem, reduceIte, reduceCtorEq, Nat.reduceEqDiff, Nat.reduceLT, Nat.reduceLeDiff, Nat.reduceBEq, Nat.reduceAdd, Nat.reduceMul, Nat.reduceSub, Nat.reducePow, Int.reduceLE, Int.reduceLT, Int.reduceNeg, Int.reduceToNat, Int.reduceAdd, Int.reduceSub] at hr
            subst hr
            clear hy
            refine AWPL_rn tab_ok 2 [4] fun c st' hr => ?_
            simp only [go_sem, reduceIte, reduceCtorEq, Nat.reduceEqDiff, Nat.reduceLT, Nat.reduceLeDiff, Nat.reduceBEq, Nat.reduceAdd, Nat.reduceMul, Nat.reduceSub, Nat.reducePow, Int.reduceLE, Int.reduceLT, Int.reduceNeg, Int.reduceToNat, Int.reduceAdd, Int.reduceSub] at hr
            obtain ⟨rfl, rfl⟩ := hr
            refine ⟨vc, ?_⟩
            refine AWPL_nil ?_
            with_reducible refine thenC_normal ?_
            refine AWP_ret ?_
            cases hK
            refine EndsRW [] (.inl rfl) (of_decide_eq_true rfl) (by simp) rfl (fun c x hr => ?_) trivial
            simp only [go_sem, reduceIte, reduceCtorEq, Nat.reduceEqDiff, Nat.reduceLT, Nat.reduceLeDiff, Nat.reduceBEq, Nat.reduceAdd, Nat.reduceMul, Nat.reduceSub, Nat.reducePow, Int.reduceLE, Int.reduceLT, Int.reduceNeg, Int.reduceToNat, Int.reduceAdd, Int.reduceSub] at hr
            obtain ⟨rfl, rfl⟩ := hr
            exact ⟨rfl, endR⟩

end Go.SH
