/-
  That the code computes these functions: minors_Relax. By a program of mine (shal.py). Conditions: none.
-/
import Derived.Test.YtkjfccdfmjnkbaaAxT
import Derived.Test.YtkjfccdfmjnkbaaAxR
import Derived.Test.YtkjfccdfmjnkbaaAxJm
import Derived.Test.YtkjfccdfmjnkbaaAxZ
import Derived.Test.YtkjfccdfmjnkbaaAxW
import Derived.Test.YtkjfccdfmjnkbaaAxU
import Derived.Test.YtkjfccdfmjnkbaaAxP
import Derived.Test.YtkjfccdfmjnkbaaShelf
import Derived.Test.YtkjfccdfmjnkbaaSpminorsr
import Derived.Test.YtkjfccdfmjnkbaaWpaxioms
import Derived.Test.YtkjfccdfmjnkbaaWpminors
import Derived.Test.YtkjfccdfmjnkbaaWpslices
set_option linter.unusedVariables false
set_option linter.unusedSimpArgs false
namespace Go.SH
open Go Go.AX Go.AX.Try Go.Proofs

set_option maxRecDepth 8000 in
set_option maxHeartbeats 4000000 in
theorem W_minors_Relax {m_0 : Int} {m_1 : List Int} {s : Int} {r : Int × List Int × Int} (hK : minors_Relax m_0 m_1 s = some r) : Pure Try.prog 32 [.agg [.int .i64 m_0, .ints .i64 m_1], .int .i64 s] (.tup [.agg [.int .i64 r.1, .own 0 r.2.1.length], .int .i64 r.2.2]) [(.ints 3 .i64 r.2.1)] := by
  refine Pure_introF tab_ok (n := 48) (l := [.cell 4 24, .tmp 5]) Try.func32 rfl rfl rfl (by simp) fun hfact w0 => ?_
  simp only [factL1, fact1, fact0, factL0, lo, hi, maxLen, and_true] at hfact
  unfold minors_Relax at hK
  refine AWP_seq ?_
  -- region 0
  refine AWP_rg tab_ok [1, 2, 4] fun c st' hr => ?_
  simp only [go_sem, reduceIte, reduceCtorEq, Nat.reduceEqDiff, Nat.reduceLT, Nat.reduceLeDiff, Nat.reduceBEq, Nat.reduceAdd, Nat.reduceMul, Nat.reduceSub, Nat.reducePow, Int.reduceLE, Int.reduceLT, Int.reduceNeg, Int.reduceToNat, Int.reduceAdd, Int.reduceSub] at hr
  obtain ⟨rfl, rfl⟩ := hr
  refine ⟨vc, ?_⟩
  with_reducible refine thenC_normal ?_
  refine AWP_ownH 1 1 (.ints 3 .i64 []) rfl rfl rfl fun st' hr => ?_
  simp only [go_sem, reduceIte, reduceCtorEq, Nat.reduceEqDiff, Nat.reduceLT, Nat.reduceLeDiff, Nat.reduceBEq, Nat.reduceAdd, Nat.reduceMul, Nat.reduceSub, Nat.reducePow, Int.reduceLE, Int.reduceLT, Int.reduceNeg, Int.reduceToNat, Int.reduceAdd, Int.reduceSub] at hr
  subst hr
  refine AWP_seq ?_
  refine AWP_seq ?_
  -- region 1
  refine AWP_rl ?_
  refine AWPL_rn tab_ok 2 [1, 2, 4, 11, 12] fun c st' hr => ?_
  simp only [go_sem, reduceIte, reduceCtorEq, Nat.reduceEqDiff, Nat.reduceLT, Nat.reduceLeDiff, Nat.reduceBEq, Nat.reduceAdd, Nat.reduceMul, Nat.reduceSub, Nat.reducePow, Int.reduceLE, Int.reduceLT, Int.reduceNeg, Int.reduceToNat, Int.reduceAdd, Int.reduceSub] at hr
  obtain ⟨rfl, rfl⟩ := hr
  refine ⟨vc, ?_⟩
  replace hK := bind_s hK
  obtain ⟨y, hy, hK⟩ := hK
  refine AWPL_callK [1, 2, 4, 13] (W_minors_right hy) rfl rfl pcT rfl Try.call71 (.cons (.agg _ _ rfl (ArgsOk.get (.cons (.atom _ rfl) (.cons (.atom _ rfl) .nil))).2) (.cons (.atom _ rfl) .nil)) (hscG trivial) (of_decide_eq_true rfl) (by first | rfl | simp [nI, nI1, nI0]) (by first | rfl | simp [nIB, nI0]) fun st' hr => ?_
  simp only [go_sem, reduceIte, reduceCtorEq, Nat.reduceEqDiff, Nat.reduceLT, Nat.reduceLeDiff, Nat.reduceBEq, Nat.reduceAdd, Nat.reduceMul, Nat.reduceSub, Nat.reducePow, Int.reduceLE, Int.reduceLT, Int.reduceNeg, Int.reduceToNat, Int.reduceAdd, Int.reduceSub] at hr
  subst hr
  clear hy
  refine AWPL_rn tab_ok 1 [1, 2, 4, 6] fun c st' hr => ?_
  simp only [go_sem, reduceIte, reduceCtorEq, Nat.reduceEqDiff, Nat.reduceLT, Nat.reduceLeDiff, Nat.reduceBEq, Nat.reduceAdd, Nat.reduceMul, Nat.reduceSub, Nat.reducePow, Int.reduceLE, Int.reduceLT, Int.reduceNeg, Int.reduceToNat, Int.reduceAdd, Int.reduceSub] at hr
  obtain ⟨rfl, rfl⟩ := hr
  refine ⟨vc, ?_⟩
  refine AWPL_nil ?_
  with_reducible refine thenC_normal ?_
  refine AWP_seq ?_
  -- region 2
  refine AWP_rg tab_ok [1, 2, 4, 6, 15] fun c st' hr => ?_
  simp only [go_sem, reduceIte, reduceCtorEq, Nat.reduceEqDiff, Nat.reduceLT, Nat.reduceLeDiff, Nat.reduceBEq, Nat.reduceAdd, Nat.reduceMul, Nat.reduceSub, Nat.reducePow, Int.reduceLE, Int.reduceLT, Int.reduceNeg, Int.reduceToNat, Int.reduceAdd, Int.reduceSub] at hr
  obtain ⟨rfl, rfl⟩ := hr
  refine ⟨vc, ?_⟩
  with_reducible refine thenC_normal ?_
  refine AWP_condP (y ≠ 0) rfl bd (fun hb => ?_) (fun hb => ?_)
  · replace hK := ite_t hK hb
    refine AWP_seq ?_
    -- region 3
    refine AWP_rg tab_ok [4, 5] fun c st' hr => ?_
    simp only [go_sem, reduceIte, reduceCtorEq, Nat.reduceEqDiff, Nat.reduceLT, Nat.reduceLeDiff, Nat.reduceBEq, Nat.reduceAdd, Nat.reduceMul, Nat.reduceSub, Nat.reducePow, Int.reduceLE, Int.reduceLT, Int.reduceNeg, Int.reduceToNat, Int.reduceAdd, Int.reduceSub] at hr
    obtain ⟨rfl, rfl⟩ := hr
    refine ⟨vc, ?_⟩
    with_reducible refine thenC_normal ?_
    refine AWP_ownH 1 1 (.ints 3 .i64 []) rfl rfl rfl fun st' hr => ?_
    simp only [go_sem, reduceIte, reduceCtorEq, Nat.reduceEqDiff, Nat.reduceLT, Nat.reduceLeDiff, Nat.reduceBEq, Nat.reduceAdd, Nat.reduceMul, Nat.reduceSub, Nat.reducePow, Int.reduceLE, Int.reduceLT, Int.reduceNeg, Int.reduceToNat, Int.reduceAdd, Int.reduceSub] at hr
    subst hr
    refine AWP_ret ?_
    with_reducible refine thenC_ret ?_
    cases hK
    refine EndsRW [3] (.inl rfl) (of_decide_eq_true rfl) (by simp) rfl (fun c x hr => ?_) endH
    simp only [go_sem, reduceIte, reduceCtorEq, Nat.reduceEqDiff, Nat.reduceLT, Nat.reduceLeDiff, Nat.reduceBEq, Nat.reduceAdd, Nat.reduceMul, Nat.reduceSub, Nat.reducePow, Int.reduceLE, Int.reduceLT, Int.reduceNeg, Int.reduceToNat, Int.reduceAdd, Int.reduceSub] at hr
    obtain ⟨rfl, rfl⟩ := hr
    exact ⟨rfl, endR⟩
  · replace hK := ite_f hK hb
    refine AWP_skip ?_
    with_reducible refine thenC_normal ?_
    refine AWP_seq ?_
    -- region 4
    refine AWP_rl ?_
    refine AWPL_rn tab_ok 1 [1, 2, 4, 19] fun c st' hr => ?_
    simp only [go_sem, reduceIte, reduceCtorEq, Nat.reduceEqDiff, Nat.reduceLT, Nat.reduceLeDiff, Nat.reduceBEq, Nat.reduceAdd, Nat.reduceMul, Nat.reduceSub, Nat.reducePow, Int.reduceLE, Int.reduceLT, Int.reduceNeg, Int.reduceToNat, Int.reduceAdd, Int.reduceSub] at hr
    obtain ⟨rfl, rfl⟩ := hr
    refine ⟨vc, ?_⟩
    replace hK := bind_s hK
    obtain ⟨y1, hy, hK⟩ := hK
    refine AWPL_callK [1, 2, 4, 20] (W_axioms_Circuits hy) rfl rfl pcT rfl Try.call77 (.cons (.agg _ _ rfl (ArgsOk.get (.cons (.atom _ rfl) (.cons (.atom _ rfl) .nil))).2) .nil) (hscG trivial) (of_decide_eq_true rfl) (by first | rfl | simp [nI, nI1, nI0]) (by first | rfl | simp [nIB, nI0]) fun st' hr => ?_
    simp only [go_sem, reduceIte, reduceCtorEq, Nat.reduceEqDiff, Nat.reduceLT, Nat.reduceLeDiff, Nat.reduceBEq, Nat.reduceAdd, Nat.reduceMul, Nat.reduceSub, Nat.reducePow, Int.reduceLE, Int.reduceLT, Int.reduceNeg, Int.reduceToNat, Int.reduceAdd, Int.reduceSub] at hr
    subst hr
    clear hy
    refine AWPL_rn tab_ok 5 [1, 2, 4, 7] fun c st' hr => ?_
    simp only [go_sem, reduceIte, reduceCtorEq, Nat.reduceEqDiff, Nat.reduceLT, Nat.reduceLeDiff, Nat.reduceBEq, Nat.reduceAdd, Nat.reduceMul, Nat.reduceSub, Nat.reducePow, Int.reduceLE, Int.reduceLT, Int.reduceNeg, Int.reduceToNat, Int.reduceAdd, Int.reduceSub] at hr
    obtain ⟨rfl, rfl⟩ := hr
    refine ⟨vc, ?_⟩
    refine AWPL_nil ?_
    with_reducible refine thenC_normal ?_
    refine AWP_seq ?_
    -- region 5
    refine AWP_rl ?_
    refine AWPL_rn tab_ok 1 [1, 2, 4, 7, 24] fun c st' hr => ?_
    simp only [go_sem, reduceIte, reduceCtorEq, Nat.reduceEqDiff, Nat.reduceLT, Nat.reduceLeDiff, Nat.reduceBEq, Nat.reduceAdd, Nat.reduceMul, Nat.reduceSub, Nat.reducePow, Int.reduceLE, Int.reduceLT, Int.reduceNeg, Int.reduceToNat, Int.reduceAdd, Int.reduceSub] at hr
    obtain ⟨rfl, rfl⟩ := hr
    refine ⟨vc, ?_⟩
    replace hK := bind_s hK
    obtain ⟨y2, hy, hK⟩ := hK
    refine AWPL_callK [1, 2, 4, 7, 25] (W_axioms_Hyperplanes hy) rfl rfl pcT rfl Try.call78 (.cons (.agg _ _ rfl (ArgsOk.get (.cons (.atom _ rfl) (.cons (.atom _ rfl) .nil))).2) .nil) (hscG trivial) (of_decide_eq_true rfl) (by first | rfl | simp [nI, nI1, nI0]) (by first | rfl | simp [nIB, nI0]) fun st' hr => ?_
    simp only [go_sem, reduceIte, reduceCtorEq, Nat.reduceEqDiff, Nat.reduceLT, Nat.reduceLeDiff, Nat.reduceBEq, Nat.reduceAdd, Nat.reduceMul, Nat.reduceSub, Nat.reducePow, Int.reduceLE, Int.reduceLT, Int.reduceNeg, Int.reduceToNat, Int.reduceAdd, Int.reduceSub] at hr
    subst hr
    clear hy
    refine AWPL_rn tab_ok 5 [1, 2, 4, 7, 9] fun c st' hr => ?_
    simp only [go_sem, reduceIte, reduceCtorEq, Nat.reduceEqDiff, Nat.reduceLT, Nat.reduceLeDiff, Nat.reduceBEq, Nat.reduceAdd, Nat.reduceMul, Nat.reduceSub, Nat.reducePow, Int.reduceLE, Int.reduceLT, Int.reduceNeg, Int.reduceToNat, Int.reduceAdd, Int.reduceSub] at hr
    obtain ⟨rfl, rfl⟩ := hr
    refine ⟨vc, ?_⟩
    refine AWPL_nil ?_
    with_reducible refine thenC_normal ?_
    refine AWP_seq ?_
    refine AWP_seq ?_
    -- region 6
    refine AWP_rl ?_
    refine AWPL_rn tab_ok 2 [1, 2, 4, 9, 28, 29] fun c st' hr => ?_
    simp only [go_sem, reduceIte, reduceCtorEq, Nat.reduceEqDiff, Nat.reduceLT, Nat.reduceLeDiff, Nat.reduceBEq, Nat.reduceAdd, Nat.reduceMul, Nat.reduceSub, Nat.reducePow, Int.reduceLE, Int.reduceLT, Int.reduceNeg, Int.reduceToNat, Int.reduceAdd, Int.reduceSub] at hr
    obtain ⟨rfl, rfl⟩ := hr
    refine ⟨vc, ?_⟩
    replace hK := bind_s hK
    obtain ⟨y3, hy, hK⟩ := hK
    refine AWPL_callK [1, 2, 4, 9, 30] (W_slices_Contains_int_int hy) rfl rfl pcT rfl Try.call16 (.cons (.ownI _ _ _ _ _ y1.1 rfl (by simp) (by simp)) (.cons (.atom _ rfl) .nil)) (hscG trivial) (of_decide_eq_true rfl) (by first | rfl | simp [nI, nI1, nI0]) (by first | rfl | simp [nIB, nI0]) fun st' hr => ?_
    simp only [go_sem, reduceIte, reduceCtorEq, Nat.reduceEqDiff, Nat.reduceLT, Nat.reduceLeDiff, Nat.reduceBEq, Nat.reduceAdd, Nat.reduceMul, Nat.reduceSub, Nat.reducePow, Int.reduceLE, Int.reduceLT, Int.reduceNeg, Int.reduceToNat, Int.reduceAdd, Int.reduceSub] at hr
    subst hr
    clear hy
    refine AWPL_rn tab_ok 4 [1, 2, 4, 32, 33, 34] fun c st' hr => ?_
    simp only [go_sem, reduceIte, reduceCtorEq, Nat.reduceEqDiff, Nat.reduceLT, Nat.reduceLeDiff, Nat.reduceBEq, Nat.reduceAdd, Nat.reduceMul, Nat.reduceSub, Nat.reducePow, Int.reduceLE, Int.reduceLT, Int.reduceNeg, Int.reduceToNat, Int.reduceAdd, Int.reduceSub] at hr
    obtain ⟨rfl, rfl⟩ := hr
    refine ⟨vc, ?_⟩
    replace hK := bind_s hK
    obtain ⟨y4, hy, hK⟩ := hK
    refine AWPL_callGP [1, 2, 4, 32, 35] (¬ (¬ (y3 = true))) (fun hg => (W_slices_Contains_int_int (ite_t hy hg))) rfl rfl pcG rfl Try.call16 (.cons (.ownI _ _ _ _ _ y2.1 rfl (by simp) (by simp)) (.cons (.atom _ rfl) .nil)) (fun hg => hscG hg) (of_decide_eq_true rfl) (by first | rfl | simp [nI, nI1, nI0]) (by first | rfl | simp [sh, sh1, sh0]) fun st' hr => ?_
    simp only [go_sem, reduceIte, reduceCtorEq, Nat.reduceEqDiff, Nat.reduceLT, Nat.reduceLeDiff, Nat.reduceBEq, Nat.reduceAdd, Nat.reduceMul, Nat.reduceSub, Nat.reducePow, Int.reduceLE, Int.reduceLT, Int.reduceNeg, Int.reduceToNat, Int.reduceAdd, Int.reduceSub] at hr
    subst hr
    clear hy
    refine AWPL_rn tab_ok 2 [1, 2, 4, 37] fun c st' hr => ?_
    simp only [go_sem, reduceIte, reduceCtorEq, Nat.reduceEqDiff, Nat.reduceLT, Nat.reduceLeDiff, Nat.reduceBEq, Nat.reduceAdd, Nat.reduceMul, Nat.reduceSub, Nat.reducePow, Int.reduceLE, Int.reduceLT, Int.reduceNeg, Int.reduceToNat, Int.reduceAdd, Int.reduceSub] at hr
    obtain ⟨rfl, rfl⟩ := hr
    refine ⟨vc, ?_⟩
    refine AWPL_nil ?_
    with_reducible refine thenC_normal ?_
    refine AWP_condP ((¬ (y3 = true) ∨ ¬ (y4 = true))) rfl bd (fun hb1 => ?_) (fun hb1 => ?_)
    · replace hK := ite_t hK hb1
      refine AWP_seq ?_
      -- region 7
      refine AWP_rg tab_ok [4, 5] fun c st' hr => ?_
      simp only [go_sem, reduceIte, reduceCtorEq, Nat.reduceEqDiff, Nat.reduceLT, Nat.reduceLeDiff, Nat.reduceBEq, Nat.reduceAdd, Nat.reduceMul, Nat.reduceSub, Nat.reducePow, Int.reduceLE, Int.reduceLT, Int.reduceNeg, Int.reduceToNat, Int.reduceAdd, Int.reduceSub] at hr
      obtain ⟨rfl, rfl⟩ := hr
      refine ⟨vc, ?_⟩
      with_reducible refine thenC_normal ?_
      refine AWP_ownH 1 1 (.ints 3 .i64 []) rfl rfl rfl fun st' hr => ?_
      simp only [go_sem, reduceIte, reduceCtorEq, Nat.reduceEqDiff, Nat.reduceLT, Nat.reduceLeDiff, Nat.reduceBEq, Nat.reduceAdd, Nat.reduceMul, Nat.reduceSub, Nat.reducePow, Int.reduceLE, Int.reduceLT, Int.reduceNeg, Int.reduceToNat, Int.reduceAdd, Int.reduceSub] at hr
      subst hr
      refine AWP_ret ?_
      with_reducible refine thenC_ret ?_
      cases hK
      refine EndsRW [5] (.inl rfl) (of_decide_eq_true rfl) (by simp) rfl (fun c x hr => ?_) endH
      simp only [go_sem, reduceIte, reduceCtorEq, Nat.reduceEqDiff, Nat.reduceLT, Nat.reduceLeDiff, Nat.reduceBEq, Nat.reduceAdd, Nat.reduceMul, Nat.reduceSub, Nat.reducePow, Int.reduceLE, Int.reduceLT, Int.reduceNeg, Int.reduceToNat, Int.reduceAdd, Int.reduceSub] at hr
      obtain ⟨rfl, rfl⟩ := hr
      exact ⟨rfl, endR⟩
    · replace hK := ite_f hK hb1
      refine AWP_skip ?_
      with_reducible refine thenC_normal ?_
      refine AWP_seq ?_
      -- region 8
      replace hK := chk_some hK
      obtain ⟨h, hK⟩ := hK
      replace hK := chk_some hK
      obtain ⟨h1, hK⟩ := hK
      replace hK := bind_s hK
      obtain ⟨y5, hy, hK⟩ := hK
      refine AWP_drawJ ⟨48, [(4, .ptr 1 0 0), (5, .int .i64 0)], [some (.gen 24 2 [[.int .i64 m_0, .ints .i64 m_1]]), some (.gen 24 2 [[.int .i64 y5.1, .own 8 y5.2.length]]), some (.ints 3 .i64 []), some (.ints 3 .i64 y1.1), some (.ints 3 .i64 y2.1), none, some (.ints 3 .i64 [s]), none, some (.ints 3 .i64 y5.2)]⟩ mixed ?_ ?_
      · refine AWPB_memo fun AA hAA => ?_
        have hn : AA 0 #[true, true, true, true, true, true, true, true, true, true, true] ⟨48, [(4, .ptr 1 0 0), (5, .int .i64 0)], [some (.gen 24 2 [[.int .i64 m_0, .ints .i64 m_1]]), some (.gen 24 2 [[.int .i64 y5.1, .own 8 y5.2.length]]), some (.ints 3 .i64 []), some (.ints 3 .i64 y1.1), some (.ints 3 .i64 y2.1), none, some (.ints 3 .i64 [s]), none, some (.ints 3 .i64 y5.2)]⟩ := (hAA _ _ _).2 (by
          exact AWPB_end [0, 1, 2, 3, 4, 5, 6, 7, 8] (by kernel_rfl) mkWk)
        have hn1 : AA 1 #[true, true, true, true, true, true, true, true, true, true, false] ⟨48, [(4, .ptr 1 0 0)], [some (.gen 24 2 [[.int .i64 m_0, .ints .i64 m_1]]), some (.gen 24 2 [[.int .i64 y5.1, .own 8 y5.2.length]]), some (.ints 3 .i64 []), some (.ints 3 .i64 y1.1), some (.ints 3 .i64 y2.1), none, some (.ints 3 .i64 [s]), none, some (.ints 3 .i64 y5.2)]⟩ := (hAA _ _ _).2 (by
          refine AWPB_take tab_ok [4, 5] 10 _ rfl rfl (by kernel_rfl) fun c st' hr => ?_
          simp only [go_sem, reduceIte, reduceCtorEq, Nat.reduceEqDiff, Nat.reduceLT, Nat.reduceLeDiff, Nat.reduceBEq, Nat.reduceAdd, Nat.reduceMul, Nat.reduceSub, Nat.reducePow, Int.reduceLE, Int.reduceLT, Int.reduceNeg, Int.reduceToNat, Int.reduceAdd, Int.reduceSub] at hr
          obtain ⟨rfl, rfl⟩ := hr
          refine ⟨vc, ?_⟩
          exact AWPB_wk [0, 1, 2, 3, 4, 5, 6, 7, 8] mkWk ((hAA _ _ _).1 hn))
        have hn2 : AA 2 #[true, true, true, true, true, true, true, true, true, false, false] ⟨48, [(4, .ptr 1 0 0), (47, .agg [.int .i64 y5.1, .own 8 y5.2.length])], [some (.gen 24 2 [[.int .i64 m_0, .ints .i64 m_1]]), some (.gen 24 2 [[.int .i64 0, .own 2 0]]), some (.ints 3 .i64 []), some (.ints 3 .i64 y1.1), some (.ints 3 .i64 y2.1), none, some (.ints 3 .i64 [s]), none, some (.ints 3 .i64 y5.2)]⟩ := (hAA _ _ _).2 (by
          refine AWPB_one 9 _ (by kernel_rfl) rfl ?_
          refine AWPL_rn tab_ok 1 [4, 5] fun c st' hr => ?_
          simp only [go_sem, reduceIte, reduceCtorEq, Nat.reduceEqDiff, Nat.reduceLT, Nat.reduceLeDiff, Nat.reduceBEq, Nat.reduceAdd, Nat.reduceMul, Nat.reduceSub, Nat.reducePow, Int.reduceLE, Int.reduceLT, Int.reduceNeg, Int.reduceToNat, Int.reduceAdd, Int.reduceSub] at hr
          obtain ⟨rfl, rfl⟩ := hr
          refine ⟨vc, ?_⟩
          refine AWPL_nil ?_
          refine QB_normal ?_
          exact AWPB_wk [0, 1, 2, 3, 4, 5, 6, 7, 8] mkWk ((hAA _ _ _).1 hn1))
        have hn3 : AA 3 #[true, true, true, true, true, true, true, true, false, false, false] ⟨48, [(4, .ptr 1 0 0), (40, .int .i64 m_0), (46, .own 7 ((m_1 ++ [s]).length))], [some (.gen 24 2 [[.int .i64 m_0, .ints .i64 m_1]]), some (.gen 24 2 [[.int .i64 0, .own 2 0]]), some (.ints 3 .i64 []), some (.ints 3 .i64 y1.1), some (.ints 3 .i64 y2.1), none, some (.ints 3 .i64 [s]), some (.ints 3 .i64 (m_1 ++ [s]))]⟩ := (hAA _ _ _).2 (by
          refine AWPB_one 8 _ (by kernel_rfl) rfl ?_
          refine AWPL_stP [(4, .ptr 1 0 0), (40, .int .i64 m_0), (46, .own 7 ((m_1 ++ [s]).length))] (by first | rfl | (simp [SameS, AX.look]; done)) ?_
          refine AWPL_consK [4, 5, 47] (id := 7) (W_minors_made hy) rfl rfl pcT rfl Try.call61 rfl (.cons (.atom _ rfl) (.own .nil)) (hscG trivial) (of_decide_eq_true rfl) (by first | rfl | simp [nI, nI1, nI0]) (by first | rfl | simp [nIB, nI0]) fun st' hr => ?_
          simp only [go_sem, reduceIte, reduceCtorEq, Nat.reduceEqDiff, Nat.reduceLT, Nat.reduceLeDiff, Nat.reduceBEq, Nat.reduceAdd, Nat.reduceMul, Nat.reduceSub, Nat.reducePow, Int.reduceLE, Int.reduceLT, Int.reduceNeg, Int.reduceToNat, Int.reduceAdd, Int.reduceSub, List.set_cons_zero, List.set_cons_succ] at hr
          subst hr
          refine AWPL_nil ?_
          refine QB_normal ?_
          exact AWPB_wk [0, 1, 2, 3, 4, 5, 6, 7, 8] mkWk ((hAA _ _ _).1 hn2))
        have hn4 : AA 4 #[true, true, true, true, true, true, true, false, false, false, false] ⟨48, [(4, .ptr 1 0 0), (40, .int .i64 m_0), (43, .own 5 m_1.length), (45, .own 6 1)], [some (.gen 24 2 [[.int .i64 m_0, .ints .i64 m_1]]), some (.gen 24 2 [[.int .i64 0, .own 2 0]]), some (.ints 3 .i64 []), some (.ints 3 .i64 y1.1), some (.ints 3 .i64 y2.1), some (.ints 3 .i64 m_1), some (.ints 3 .i64 [s])]⟩ := (hAA _ _ _).2 (by
          refine AWPB_one 7 _ (by kernel_rfl) rfl ?_
          refine AWPL_rn tab_ok 1 [4, 5, 40, 46, 47] fun c st' hr => ?_
          simp only [go_sem, reduceIte, reduceCtorEq, Nat.reduceEqDiff, Nat.reduceLT, Nat.reduceLeDiff, Nat.reduceBEq, Nat.reduceAdd, Nat.reduceMul, Nat.reduceSub, Nat.reducePow, Int.reduceLE, Int.reduceLT, Int.reduceNeg, Int.reduceToNat, Int.reduceAdd, Int.reduceSub] at hr
          obtain ⟨rfl, rfl⟩ := hr
          refine ⟨vc, ?_⟩
          refine AWPL_nil ?_
          refine QB_normal ?_
          exact AWPB_wk [0, 1, 2, 3, 4, 5, 6, 7] mkWk ((hAA _ _ _).1 hn3))
        have hn5 : AA 5 #[true, true, true, true, true, true, false, false, false, false, false] ⟨48, [(4, .ptr 1 0 0), (40, .int .i64 m_0), (43, .own 5 m_1.length), (44, .int .i64 s)], [some (.gen 24 2 [[.int .i64 m_0, .ints .i64 m_1]]), some (.gen 24 2 [[.int .i64 0, .own 2 0]]), some (.ints 3 .i64 []), some (.ints 3 .i64 y1.1), some (.ints 3 .i64 y2.1), some (.ints 3 .i64 m_1)]⟩ := (hAA _ _ _).2 (by
          refine AWPB_one 6 _ (by kernel_rfl) rfl ?_
          refine AWPL_rn tab_ok 1 [4, 5, 40, 43, 45, 46, 47] fun c st' hr => ?_
          simp only [go_sem, reduceIte, reduceCtorEq, Nat.reduceEqDiff, Nat.reduceLT, Nat.reduceLeDiff, Nat.reduceBEq, Nat.reduceAdd, Nat.reduceMul, Nat.reduceSub, Nat.reducePow, Int.reduceLE, Int.reduceLT, Int.reduceNeg, Int.reduceToNat, Int.reduceAdd, Int.reduceSub] at hr
          obtain ⟨rfl, rfl⟩ := hr
          refine ⟨vc, ?_⟩
          refine AWPL_nil ?_
          refine QB_normal ?_
          exact AWPB_wk [0, 1, 2, 3, 4, 5, 6] mkWk ((hAA _ _ _).1 hn4))
        have hn6 : AA 5 #[true, true, true, true, false, true, true, false, false, false, false] ⟨48, [(4, .ptr 1 0 0), (40, .int .i64 m_0), (42, .ints .i64 m_1), (45, .own 5 1)], [some (.gen 24 2 [[.int .i64 m_0, .ints .i64 m_1]]), some (.gen 24 2 [[.int .i64 0, .own 2 0]]), some (.ints 3 .i64 []), some (.ints 3 .i64 y1.1), some (.ints 3 .i64 y2.1), some (.ints 3 .i64 [s])]⟩ := (hAA _ _ _).2 (by
          refine AWPB_one 4 _ (by kernel_rfl) rfl ?_
          refine AWPL_cloneI [4, 5, 40, 43, 45, 46, 47] 3 Try.laysNm215 rfl rfl pcT rfl Try.call64 (of_decide_eq_true rfl) rfl h rfl fun st' hr => ?_
          simp only [go_sem, reduceIte, reduceCtorEq, Nat.reduceEqDiff, Nat.reduceLT, Nat.reduceLeDiff, Nat.reduceBEq, Nat.reduceAdd, Nat.reduceMul, Nat.reduceSub, Nat.reducePow, Int.reduceLE, Int.reduceLT, Int.reduceNeg, Int.reduceToNat, Int.reduceAdd, Int.reduceSub] at hr
          subst hr
          refine AWPL_nil ?_
          refine QB_normal ?_
          exact AWPB_wk [0, 1, 2, 3, 4, 6, 5] mkWk ((hAA _ _ _).1 hn4))
        have hn7 : AA 6 #[true, true, true, true, false, true, false, false, false, false, false] ⟨48, [(4, .ptr 1 0 0), (40, .int .i64 m_0), (42, .ints .i64 m_1), (44, .int .i64 s)], [some (.gen 24 2 [[.int .i64 m_0, .ints .i64 m_1]]), some (.gen 24 2 [[.int .i64 0, .own 2 0]]), some (.ints 3 .i64 []), some (.ints 3 .i64 y1.1), some (.ints 3 .i64 y2.1)]⟩ := (hAA _ _ _).2 (by
          refine AWPB_two 4 6 _ _ (by kernel_rfl) rfl rfl ?_ ?_
          · skip
            refine AWPL_cloneI [4, 5, 40, 43, 44, 45, 46, 47] 3 Try.laysNm215 rfl rfl pcT rfl Try.call64 (of_decide_eq_true rfl) rfl h rfl fun st' hr => ?_
            simp only [go_sem, reduceIte, reduceCtorEq, Nat.reduceEqDiff, Nat.reduceLT, Nat.reduceLeDiff, Nat.reduceBEq, Nat.reduceAdd, Nat.reduceMul, Nat.reduceSub, Nat.reducePow, Int.reduceLE, Int.reduceLT, Int.reduceNeg, Int.reduceToNat, Int.reduceAdd, Int.reduceSub] at hr
            subst hr
            refine AWPL_nil ?_
            refine QB_normal ?_
            exact AWPB_wk [0, 1, 2, 3, 4, 5] mkWk ((hAA _ _ _).1 hn5)
          · skip
            refine AWPL_rn tab_ok 1 [4, 5, 40, 42, 43, 45, 46, 47] fun c st' hr => ?_
            simp only [go_sem, reduceIte, reduceCtorEq, Nat.reduceEqDiff, Nat.reduceLT, Nat.reduceLeDiff, Nat.reduceBEq, Nat.reduceAdd, Nat.reduceMul, Nat.reduceSub, Nat.reducePow, Int.reduceLE, Int.reduceLT, Int.reduceNeg, Int.reduceToNat, Int.reduceAdd, Int.reduceSub] at hr
            obtain ⟨rfl, rfl⟩ := hr
            refine ⟨vc, ?_⟩
            refine AWPL_nil ?_
            refine QB_normal ?_
            exact AWPB_wk [0, 1, 2, 3, 4, 5] mkWk ((hAA _ _ _).1 hn6))
        have hn8 : AA 6 #[true, true, true, false, false, true, true, false, false, false, false] ⟨48, [(4, .ptr 1 0 0), (40, .int .i64 m_0), (41, .ptr 0 0 1), (45, .own 5 1)], [some (.gen 24 2 [[.int .i64 m_0, .ints .i64 m_1]]), some (.gen 24 2 [[.int .i64 0, .own 2 0]]), some (.ints 3 .i64 []), some (.ints 3 .i64 y1.1), some (.ints 3 .i64 y2.1), some (.ints 3 .i64 [s])]⟩ := (hAA _ _ _).2 (by
          refine AWPB_one 3 _ (by kernel_rfl) rfl ?_
          refine AWPL_rn tab_ok 1 [4, 5, 40, 42, 43, 45, 46, 47] fun c st' hr => ?_
          simp only [go_sem, reduceIte, reduceCtorEq, Nat.reduceEqDiff, Nat.reduceLT, Nat.reduceLeDiff, Nat.reduceBEq, Nat.reduceAdd, Nat.reduceMul, Nat.reduceSub, Nat.reducePow, Int.reduceLE, Int.reduceLT, Int.reduceNeg, Int.reduceToNat, Int.reduceAdd, Int.reduceSub] at hr
          obtain ⟨rfl, rfl⟩ := hr
          refine ⟨vc, ?_⟩
          refine AWPL_nil ?_
          refine QB_normal ?_
          exact AWPB_wk [0, 1, 2, 3, 4, 5] mkWk ((hAA _ _ _).1 hn6))
        have hn9 : AA 7 #[true, true, true, false, false, true, false, false, false, false, false] ⟨48, [(4, .ptr 1 0 0), (40, .int .i64 m_0), (41, .ptr 0 0 1), (44, .int .i64 s)], [some (.gen 24 2 [[.int .i64 m_0, .ints .i64 m_1]]), some (.gen 24 2 [[.int .i64 0, .own 2 0]]), some (.ints 3 .i64 []), some (.ints 3 .i64 y1.1), some (.ints 3 .i64 y2.1)]⟩ := (hAA _ _ _).2 (by
          refine AWPB_two 3 6 _ _ (by kernel_rfl) rfl rfl ?_ ?_
          · skip
            refine AWPL_rn tab_ok 1 [4, 5, 40, 42, 43, 44, 45, 46, 47] fun c st' hr => ?_
            simp only [go_sem, reduceIte, reduceCtorEq, Nat.reduceEqDiff, Nat.reduceLT, Nat.reduceLeDiff, Nat.reduceBEq, Nat.reduceAdd, Nat.reduceMul, Nat.reduceSub, Nat.reducePow, Int.reduceLE, Int.reduceLT, Int.reduceNeg, Int.reduceToNat, Int.reduceAdd, Int.reduceSub] at hr
            obtain ⟨rfl, rfl⟩ := hr
            refine ⟨vc, ?_⟩
            refine AWPL_nil ?_
            refine QB_normal ?_
            exact AWPB_wk [0, 1, 2, 3, 4] mkWk ((hAA _ _ _).1 hn7)
          · skip
            refine AWPL_rn tab_ok 1 [4, 5, 40, 41, 42, 43, 45, 46, 47] fun c st' hr => ?_
            simp only [go_sem, reduceIte, reduceCtorEq, Nat.reduceEqDiff, Nat.reduceLT, Nat.reduceLeDiff, Nat.reduceBEq, Nat.reduceAdd, Nat.reduceMul, Nat.reduceSub, Nat.reducePow, Int.reduceLE, Int.reduceLT, Int.reduceNeg, Int.reduceToNat, Int.reduceAdd, Int.reduceSub] at hr
            obtain ⟨rfl, rfl⟩ := hr
            refine ⟨vc, ?_⟩
            refine AWPL_nil ?_
            refine QB_normal ?_
            exact AWPB_wk [0, 1, 2, 3, 4, 5] mkWk ((hAA _ _ _).1 hn8))
        have hn10 : AA 7 #[true, true, false, false, false, true, true, false, false, false, false] ⟨48, [(2, .ptr 0 0 0), (4, .ptr 1 0 0), (40, .int .i64 m_0), (45, .own 5 1)], [some (.gen 24 2 [[.int .i64 m_0, .ints .i64 m_1]]), some (.gen 24 2 [[.int .i64 0, .own 2 0]]), some (.ints 3 .i64 []), some (.ints 3 .i64 y1.1), some (.ints 3 .i64 y2.1), some (.ints 3 .i64 [s])]⟩ := (hAA _ _ _).2 (by
          refine AWPB_one 2 _ (by kernel_rfl) rfl ?_
          refine AWPL_rn tab_ok 1 [4, 5, 40, 41, 42, 43, 45, 46, 47] fun c st' hr => ?_
          simp only [go_sem, reduceIte, reduceCtorEq, Nat.reduceEqDiff, Nat.reduceLT, Nat.reduceLeDiff, Nat.reduceBEq, Nat.reduceAdd, Nat.reduceMul, Nat.reduceSub, Nat.reducePow, Int.reduceLE, Int.reduceLT, Int.reduceNeg, Int.reduceToNat, Int.reduceAdd, Int.reduceSub] at hr
          obtain ⟨rfl, rfl⟩ := hr
          refine ⟨vc, ?_⟩
          refine AWPL_nil ?_
          refine QB_normal ?_
          exact AWPB_wk [0, 1, 2, 3, 4, 5] mkWk ((hAA _ _ _).1 hn8))
        have hn11 : AA 8 #[true, true, false, false, false, true, false, false, false, false, false] ⟨48, [(2, .ptr 0 0 0), (4, .ptr 1 0 0), (40, .int .i64 m_0), (44, .int .i64 s)], [some (.gen 24 2 [[.int .i64 m_0, .ints .i64 m_1]]), some (.gen 24 2 [[.int .i64 0, .own 2 0]]), some (.ints 3 .i64 []), some (.ints 3 .i64 y1.1), some (.ints 3 .i64 y2.1)]⟩ := (hAA _ _ _).2 (by
          refine AWPB_two 2 6 _ _ (by kernel_rfl) rfl rfl ?_ ?_
          · skip
            refine AWPL_rn tab_ok 1 [4, 5, 40, 41, 42, 43, 44, 45, 46, 47] fun c st' hr => ?_
            simp only [go_sem, reduceIte, reduceCtorEq, Nat.reduceEqDiff, Nat.reduceLT, Nat.reduceLeDiff, Nat.reduceBEq, Nat.reduceAdd, Nat.reduceMul, Nat.reduceSub, Nat.reducePow, Int.reduceLE, Int.reduceLT, Int.reduceNeg, Int.reduceToNat, Int.reduceAdd, Int.reduceSub] at hr
            obtain ⟨rfl, rfl⟩ := hr
            refine ⟨vc, ?_⟩
            refine AWPL_nil ?_
            refine QB_normal ?_
            exact AWPB_wk [0, 1, 2, 3, 4] mkWk ((hAA _ _ _).1 hn9)
          · skip
            refine AWPL_rn tab_ok 1 [2, 4, 5, 40, 41, 42, 43, 45, 46, 47] fun c st' hr => ?_
            simp only [go_sem, reduceIte, reduceCtorEq, Nat.reduceEqDiff, Nat.reduceLT, Nat.reduceLeDiff, Nat.reduceBEq, Nat.reduceAdd, Nat.reduceMul, Nat.reduceSub, Nat.reducePow, Int.reduceLE, Int.reduceLT, Int.reduceNeg, Int.reduceToNat, Int.reduceAdd, Int.reduceSub] at hr
            obtain ⟨rfl, rfl⟩ := hr
            refine ⟨vc, ?_⟩
            refine AWPL_nil ?_
            refine QB_normal ?_
            exact AWPB_wk [0, 1, 2, 3, 4, 5] mkWk ((hAA _ _ _).1 hn10))
        have hn12 : AA 4 #[true, false, true, true, true, true, true, true, false, false, false] ⟨48, [(4, .ptr 1 0 0), (39, .ptr 0 0 0), (46, .own 7 ((m_1 ++ [s]).length))], [some (.gen 24 2 [[.int .i64 m_0, .ints .i64 m_1]]), some (.gen 24 2 [[.int .i64 0, .own 2 0]]), some (.ints 3 .i64 []), some (.ints 3 .i64 y1.1), some (.ints 3 .i64 y2.1), none, some (.ints 3 .i64 [s]), some (.ints 3 .i64 (m_1 ++ [s]))]⟩ := (hAA _ _ _).2 (by
          refine AWPB_one 1 _ (by kernel_rfl) rfl ?_
          refine AWPL_rn tab_ok 1 [4, 5, 40, 46, 47] fun c st' hr => ?_
          simp only [go_sem, reduceIte, reduceCtorEq, Nat.reduceEqDiff, Nat.reduceLT, Nat.reduceLeDiff, Nat.reduceBEq, Nat.reduceAdd, Nat.reduceMul, Nat.reduceSub, Nat.reducePow, Int.reduceLE, Int.reduceLT, Int.reduceNeg, Int.reduceToNat, Int.reduceAdd, Int.reduceSub] at hr
          obtain ⟨rfl, rfl⟩ := hr
          refine ⟨vc, ?_⟩
          refine AWPL_nil ?_
          refine QB_normal ?_
          exact AWPB_wk [0, 1, 2, 3, 4, 5, 6, 7] mkWk ((hAA _ _ _).1 hn3))
        have hn13 : AA 5 #[true, false, true, true, true, true, true, false, false, false, false] ⟨48, [(4, .ptr 1 0 0), (39, .ptr 0 0 0), (43, .own 5 m_1.length), (45, .own 6 1)], [some (.gen 24 2 [[.int .i64 m_0, .ints .i64 m_1]]), some (.gen 24 2 [[.int .i64 0, .own 2 0]]), some (.ints 3 .i64 []), some (.ints 3 .i64 y1.1), some (.ints 3 .i64 y2.1), some (.ints 3 .i64 m_1), some (.ints 3 .i64 [s])]⟩ := (hAA _ _ _).2 (by
          refine AWPB_two 1 7 _ _ (by kernel_rfl) rfl rfl ?_ ?_
          · skip
            refine AWPL_rn tab_ok 1 [4, 5, 40, 43, 45, 46, 47] fun c st' hr => ?_
            simp only [go_sem, reduceIte, reduceCtorEq, Nat.reduceEqDiff, Nat.reduceLT, Nat.reduceLeDiff, Nat.reduceBEq, Nat.reduceAdd, Nat.reduceMul, Nat.reduceSub, Nat.reducePow, Int.reduceLE, Int.reduceLT, Int.reduceNeg, Int.reduceToNat, Int.reduceAdd, Int.reduceSub] at hr
            obtain ⟨rfl, rfl⟩ := hr
            refine ⟨vc, ?_⟩
            refine AWPL_nil ?_
            refine QB_normal ?_
            exact AWPB_wk [0, 1, 2, 3, 4, 5, 6] mkWk ((hAA _ _ _).1 hn4)
          · skip
            refine AWPL_rn tab_ok 1 [4, 5, 39, 40, 46, 47] fun c st' hr => ?_
            simp only [go_sem, reduceIte, reduceCtorEq, Nat.reduceEqDiff, Nat.reduceLT, Nat.reduceLeDiff, Nat.reduceBEq, Nat.reduceAdd, Nat.reduceMul, Nat.reduceSub, Nat.reducePow, Int.reduceLE, Int.reduceLT, Int.reduceNeg, Int.reduceToNat, Int.reduceAdd, Int.reduceSub] at hr
            obtain ⟨rfl, rfl⟩ := hr
            refine ⟨vc, ?_⟩
            refine AWPL_nil ?_
            refine QB_normal ?_
            exact AWPB_wk [0, 1, 2, 3, 4, 5, 6, 7] mkWk ((hAA _ _ _).1 hn12))
        have hn14 : AA 6 #[true, false, true, true, true, true, false, false, false, false, false] ⟨48, [(4, .ptr 1 0 0), (39, .ptr 0 0 0), (43, .own 5 m_1.length), (44, .int .i64 s)], [some (.gen 24 2 [[.int .i64 m_0, .ints .i64 m_1]]), some (.gen 24 2 [[.int .i64 0, .own 2 0]]), some (.ints 3 .i64 []), some (.ints 3 .i64 y1.1), some (.ints 3 .i64 y2.1), some (.ints 3 .i64 m_1)]⟩ := (hAA _ _ _).2 (by
          refine AWPB_two 1 6 _ _ (by kernel_rfl) rfl rfl ?_ ?_
          · skip
            refine AWPL_rn tab_ok 1 [4, 5, 40, 43, 44, 45, 46, 47] fun c st' hr => ?_
            simp only [go_sem, reduceIte, reduceCtorEq, Nat.reduceEqDiff, Nat.reduceLT, Nat.reduceLeDiff, Nat.reduceBEq, Nat.reduceAdd, Nat.reduceMul, Nat.reduceSub, Nat.reducePow, Int.reduceLE, Int.reduceLT, Int.reduceNeg, Int.reduceToNat, Int.reduceAdd, Int.reduceSub] at hr
            obtain ⟨rfl, rfl⟩ := hr
            refine ⟨vc, ?_⟩
            refine AWPL_nil ?_
            refine QB_normal ?_
            exact AWPB_wk [0, 1, 2, 3, 4, 5] mkWk ((hAA _ _ _).1 hn5)
          · skip
            refine AWPL_rn tab_ok 1 [4, 5, 39, 40, 43, 45, 46, 47] fun c st' hr => ?_
            simp only [go_sem, reduceIte, reduceCtorEq, Nat.reduceEqDiff, Nat.reduceLT, Nat.reduceLeDiff, Nat.reduceBEq, Nat.reduceAdd, Nat.reduceMul, Nat.reduceSub, Nat.reducePow, Int.reduceLE, Int.reduceLT, Int.reduceNeg, Int.reduceToNat, Int.reduceAdd, Int.reduceSub] at hr
            obtain ⟨rfl, rfl⟩ := hr
            refine ⟨vc, ?_⟩
            refine AWPL_nil ?_
            refine QB_normal ?_
            exact AWPB_wk [0, 1, 2, 3, 4, 5, 6] mkWk ((hAA _ _ _).1 hn13))
        have hn15 : AA 6 #[true, false, true, true, false, true, true, false, false, false, false] ⟨48, [(4, .ptr 1 0 0), (39, .ptr 0 0 0), (42, .ints .i64 m_1), (45, .own 5 1)], [some (.gen 24 2 [[.int .i64 m_0, .ints .i64 m_1]]), some (.gen 24 2 [[.int .i64 0, .own 2 0]]), some (.ints 3 .i64 []), some (.ints 3 .i64 y1.1), some (.ints 3 .i64 y2.1), some (.ints 3 .i64 [s])]⟩ := (hAA _ _ _).2 (by
          refine AWPB_two 1 4 _ _ (by kernel_rfl) rfl rfl ?_ ?_
          · skip
            refine AWPL_rn tab_ok 1 [4, 5, 40, 42, 43, 45, 46, 47] fun c st' hr => ?_
            simp only [go_sem, reduceIte, reduceCtorEq, Nat.reduceEqDiff, Nat.reduceLT, Nat.reduceLeDiff, Nat.reduceBEq, Nat.reduceAdd, Nat.reduceMul, Nat.reduceSub, Nat.reducePow, Int.reduceLE, Int.reduceLT, Int.reduceNeg, Int.reduceToNat, Int.reduceAdd, Int.reduceSub] at hr
            obtain ⟨rfl, rfl⟩ := hr
            refine ⟨vc, ?_⟩
            refine AWPL_nil ?_
            refine QB_normal ?_
            exact AWPB_wk [0, 1, 2, 3, 4, 5] mkWk ((hAA _ _ _).1 hn6)
          · skip
            refine AWPL_cloneI [4, 5, 39, 40, 43, 45, 46, 47] 3 Try.laysNm215 rfl rfl pcT rfl Try.call64 (of_decide_eq_true rfl) rfl h rfl fun st' hr => ?_
            simp only [go_sem, reduceIte, reduceCtorEq, Nat.reduceEqDiff, Nat.reduceLT, Nat.reduceLeDiff, Nat.reduceBEq, Nat.reduceAdd, Nat.reduceMul, Nat.reduceSub, Nat.reducePow, Int.reduceLE, Int.reduceLT, Int.reduceNeg, Int.reduceToNat, Int.reduceAdd, Int.reduceSub] at hr
            subst hr
            refine AWPL_nil ?_
            refine QB_normal ?_
            exact AWPB_wk [0, 1, 2, 3, 4, 6, 5] mkWk ((hAA _ _ _).1 hn13))
        have hn16 : AA 7 #[true, false, true, true, false, true, false, false, false, false, false] ⟨48, [(4, .ptr 1 0 0), (39, .ptr 0 0 0), (42, .ints .i64 m_1), (44, .int .i64 s)], [some (.gen 24 2 [[.int .i64 m_0, .ints .i64 m_1]]), some (.gen 24 2 [[.int .i64 0, .own 2 0]]), some (.ints 3 .i64 []), some (.ints 3 .i64 y1.1), some (.ints 3 .i64 y2.1)]⟩ := (hAA _ _ _).2 (by
          refine AWPB_three 1 4 6 _ _ _ (by kernel_rfl) rfl rfl rfl ?_ ?_ ?_
          · skip
            refine AWPL_rn tab_ok 1 [4, 5, 40, 42, 43, 44, 45, 46, 47] fun c st' hr => ?_
            simp only [go_sem, reduceIte, reduceCtorEq, Nat.reduceEqDiff, Nat.reduceLT, Nat.reduceLeDiff, Nat.reduceBEq, Nat.reduceAdd, Nat.reduceMul, Nat.reduceSub, Nat.reducePow, Int.reduceLE, Int.reduceLT, Int.reduceNeg, Int.reduceToNat, Int.reduceAdd, Int.reduceSub] at hr
            obtain ⟨rfl, rfl⟩ := hr
            refine ⟨vc, ?_⟩
            refine AWPL_nil ?_
            refine QB_normal ?_
            exact AWPB_wk [0, 1, 2, 3, 4] mkWk ((hAA _ _ _).1 hn7)
          · skip
            refine AWPL_cloneI [4, 5, 39, 40, 43, 44, 45, 46, 47] 3 Try.laysNm215 rfl rfl pcT rfl Try.call64 (of_decide_eq_true rfl) rfl h rfl fun st' hr => ?_
            simp only [go_sem, reduceIte, reduceCtorEq, Nat.reduceEqDiff, Nat.reduceLT, Nat.reduceLeDiff, Nat.reduceBEq, Nat.reduceAdd, Nat.reduceMul, Nat.reduceSub, Nat.reducePow, Int.reduceLE, Int.reduceLT, Int.reduceNeg, Int.reduceToNat, Int.reduceAdd, Int.reduceSub] at hr
            subst hr
            refine AWPL_nil ?_
            refine QB_normal ?_
            exact AWPB_wk [0, 1, 2, 3, 4, 5] mkWk ((hAA _ _ _).1 hn14)
          · skip
            refine AWPL_rn tab_ok 1 [4, 5, 39, 40, 42, 43, 45, 46, 47] fun c st' hr => ?_
            simp only [go_sem, reduceIte, reduceCtorEq, Nat.reduceEqDiff, Nat.reduceLT, Nat.reduceLeDiff, Nat.reduceBEq, Nat.reduceAdd, Nat.reduceMul, Nat.reduceSub, Nat.reducePow, Int.reduceLE, Int.reduceLT, Int.reduceNeg, Int.reduceToNat, Int.reduceAdd, Int.reduceSub] at hr
            obtain ⟨rfl, rfl⟩ := hr
            refine ⟨vc, ?_⟩
            refine AWPL_nil ?_
            refine QB_normal ?_
            exact AWPB_wk [0, 1, 2, 3, 4, 5] mkWk ((hAA _ _ _).1 hn15))
        have hn17 : AA 7 #[true, false, true, false, false, true, true, false, false, false, false] ⟨48, [(4, .ptr 1 0 0), (39, .ptr 0 0 0), (41, .ptr 0 0 1), (45, .own 5 1)], [some (.gen 24 2 [[.int .i64 m_0, .ints .i64 m_1]]), some (.gen 24 2 [[.int .i64 0, .own 2 0]]), some (.ints 3 .i64 []), some (.ints 3 .i64 y1.1), some (.ints 3 .i64 y2.1), some (.ints 3 .i64 [s])]⟩ := (hAA _ _ _).2 (by
          refine AWPB_two 1 3 _ _ (by kernel_rfl) rfl rfl ?_ ?_
          · skip
            refine AWPL_rn tab_ok 1 [4, 5, 40, 41, 42, 43, 45, 46, 47] fun c st' hr => ?_
            simp only [go_sem, reduceIte, reduceCtorEq, Nat.reduceEqDiff, Nat.reduceLT, Nat.reduceLeDiff, Nat.reduceBEq, Nat.reduceAdd, Nat.reduceMul, Nat.reduceSub, Nat.reducePow, Int.reduceLE, Int.reduceLT, Int.reduceNeg, Int.reduceToNat, Int.reduceAdd, Int.reduceSub] at hr
            obtain ⟨rfl, rfl⟩ := hr
            refine ⟨vc, ?_⟩
            refine AWPL_nil ?_
            refine QB_normal ?_
            exact AWPB_wk [0, 1, 2, 3, 4, 5] mkWk ((hAA _ _ _).1 hn8)
          · skip
            refine AWPL_rn tab_ok 1 [4, 5, 39, 40, 42, 43, 45, 46, 47] fun c st' hr => ?_
            simp only [go_sem, reduceIte, reduceCtorEq, Nat.reduceEqDiff, Nat.reduceLT, Nat.reduceLeDiff, Nat.reduceBEq, Nat.reduceAdd, Nat.reduceMul, Nat.reduceSub, Nat.reducePow, Int.reduceLE, Int.reduceLT, Int.reduceNeg, Int.reduceToNat, Int.reduceAdd, Int.reduceSub] at hr
            obtain ⟨rfl, rfl⟩ := hr
            refine ⟨vc, ?_⟩
            refine AWPL_nil ?_
            refine QB_normal ?_
            exact AWPB_wk [0, 1, 2, 3, 4, 5] mkWk ((hAA _ _ _).1 hn15))
        have hn18 : AA 8 #[true, false, true, false, false, true, false, false, false, false, false] ⟨48, [(4, .ptr 1 0 0), (39, .ptr 0 0 0), (41, .ptr 0 0 1), (44, .int .i64 s)], [some (.gen 24 2 [[.int .i64 m_0, .ints .i64 m_1]]), some (.gen 24 2 [[.int .i64 0, .own 2 0]]), some (.ints 3 .i64 []), some (.ints 3 .i64 y1.1), some (.ints 3 .i64 y2.1)]⟩ := (hAA _ _ _).2 (by
          refine AWPB_three 1 3 6 _ _ _ (by kernel_rfl) rfl rfl rfl ?_ ?_ ?_
          · skip
            refine AWPL_rn tab_ok 1 [4, 5, 40, 41, 42, 43, 44, 45, 46, 47] fun c st' hr => ?_
            simp only [go_sem, reduceIte, reduceCtorEq, Nat.reduceEqDiff, Nat.reduceLT, Nat.reduceLeDiff, Nat.reduceBEq, Nat.reduceAdd, Nat.reduceMul, Nat.reduceSub, Nat.reducePow, Int.reduceLE, Int.reduceLT, Int.reduceNeg, Int.reduceToNat, Int.reduceAdd, Int.reduceSub] at hr
            obtain ⟨rfl, rfl⟩ := hr
            refine ⟨vc, ?_⟩
            refine AWPL_nil ?_
            refine QB_normal ?_
            exact AWPB_wk [0, 1, 2, 3, 4] mkWk ((hAA _ _ _).1 hn9)
          · skip
            refine AWPL_rn tab_ok 1 [4, 5, 39, 40, 42, 43, 44, 45, 46, 47] fun c st' hr => ?_
            simp only [go_sem, reduceIte, reduceCtorEq, Nat.reduceEqDiff, Nat.reduceLT, Nat.reduceLeDiff, Nat.reduceBEq, Nat.reduceAdd, Nat.reduceMul, Nat.reduceSub, Nat.reducePow, Int.reduceLE, Int.reduceLT, Int.reduceNeg, Int.reduceToNat, Int.reduceAdd, Int.reduceSub] at hr
            obtain ⟨rfl, rfl⟩ := hr
            refine ⟨vc, ?_⟩
            refine AWPL_nil ?_
            refine QB_normal ?_
            exact AWPB_wk [0, 1, 2, 3, 4] mkWk ((hAA _ _ _).1 hn16)
          · skip
            refine AWPL_rn tab_ok 1 [4, 5, 39, 40, 41, 42, 43, 45, 46, 47] fun c st' hr => ?_
            simp only [go_sem, reduceIte, reduceCtorEq, Nat.reduceEqDiff, Nat.reduceLT, Nat.reduceLeDiff, Nat.reduceBEq, Nat.reduceAdd, Nat.reduceMul, Nat.reduceSub, Nat.reducePow, Int.reduceLE, Int.reduceLT, Int.reduceNeg, Int.reduceToNat, Int.reduceAdd, Int.reduceSub] at hr
            obtain ⟨rfl, rfl⟩ := hr
            refine ⟨vc, ?_⟩
            refine AWPL_nil ?_
            refine QB_normal ?_
            exact AWPB_wk [0, 1, 2, 3, 4, 5] mkWk ((hAA _ _ _).1 hn17))
        have hn19 : AA 8 #[true, false, false, false, false, true, true, false, false, false, false] ⟨48, [(2, .ptr 0 0 0), (4, .ptr 1 0 0), (39, .ptr 0 0 0), (45, .own 5 1)], [some (.gen 24 2 [[.int .i64 m_0, .ints .i64 m_1]]), some (.gen 24 2 [[.int .i64 0, .own 2 0]]), some (.ints 3 .i64 []), some (.ints 3 .i64 y1.1), some (.ints 3 .i64 y2.1), some (.ints 3 .i64 [s])]⟩ := (hAA _ _ _).2 (by
          refine AWPB_two 1 2 _ _ (by kernel_rfl) rfl rfl ?_ ?_
          · skip
            refine AWPL_rn tab_ok 1 [2, 4, 5, 40, 41, 42, 43, 45, 46, 47] fun c st' hr => ?_
            simp only [go_sem, reduceIte, reduceCtorEq, Nat.reduceEqDiff, Nat.reduceLT, Nat.reduceLeDiff, Nat.reduceBEq, Nat.reduceAdd, Nat.reduceMul, Nat.reduceSub, Nat.reducePow, Int.reduceLE, Int.reduceLT, Int.reduceNeg, Int.reduceToNat, Int.reduceAdd, Int.reduceSub] at hr
            obtain ⟨rfl, rfl⟩ := hr
            refine ⟨vc, ?_⟩
            refine AWPL_nil ?_
            refine QB_normal ?_
            exact AWPB_wk [0, 1, 2, 3, 4, 5] mkWk ((hAA _ _ _).1 hn10)
          · skip
            refine AWPL_rn tab_ok 1 [4, 5, 39, 40, 41, 42, 43, 45, 46, 47] fun c st' hr => ?_
            simp only [go_sem, reduceIte, reduceCtorEq, Nat.reduceEqDiff, Nat.reduceLT, Nat.reduceLeDiff, Nat.reduceBEq, Nat.reduceAdd, Nat.reduceMul, Nat.reduceSub, Nat.reducePow, Int.reduceLE, Int.reduceLT, Int.reduceNeg, Int.reduceToNat, Int.reduceAdd, Int.reduceSub] at hr
            obtain ⟨rfl, rfl⟩ := hr
            refine ⟨vc, ?_⟩
            refine AWPL_nil ?_
            refine QB_normal ?_
            exact AWPB_wk [0, 1, 2, 3, 4, 5] mkWk ((hAA _ _ _).1 hn17))
        have hn20 : AA 9 #[true, false, false, false, false, true, false, false, false, false, false] ⟨48, [(2, .ptr 0 0 0), (4, .ptr 1 0 0), (39, .ptr 0 0 0), (44, .int .i64 s)], [some (.gen 24 2 [[.int .i64 m_0, .ints .i64 m_1]]), some (.gen 24 2 [[.int .i64 0, .own 2 0]]), some (.ints 3 .i64 []), some (.ints 3 .i64 y1.1), some (.ints 3 .i64 y2.1)]⟩ := (hAA _ _ _).2 (by
          refine AWPB_three 1 2 6 _ _ _ (by kernel_rfl) rfl rfl rfl ?_ ?_ ?_
          · skip
            refine AWPL_rn tab_ok 1 [2, 4, 5, 40, 41, 42, 43, 44, 45, 46, 47] fun c st' hr => ?_
            simp only [go_sem, reduceIte, reduceCtorEq, Nat.reduceEqDiff, Nat.reduceLT, Nat.reduceLeDiff, Nat.reduceBEq, Nat.reduceAdd, Nat.reduceMul, Nat.reduceSub, Nat.reducePow, Int.reduceLE, Int.reduceLT, Int.reduceNeg, Int.reduceToNat, Int.reduceAdd, Int.reduceSub] at hr
            obtain ⟨rfl, rfl⟩ := hr
            refine ⟨vc, ?_⟩
            refine AWPL_nil ?_
            refine QB_normal ?_
            exact AWPB_wk [0, 1, 2, 3, 4] mkWk ((hAA _ _ _).1 hn11)
          · skip
            refine AWPL_rn tab_ok 1 [4, 5, 39, 40, 41, 42, 43, 44, 45, 46, 47] fun c st' hr => ?_
            simp only [go_sem, reduceIte, reduceCtorEq, Nat.reduceEqDiff, Nat.reduceLT, Nat.reduceLeDiff, Nat.reduceBEq, Nat.reduceAdd, Nat.reduceMul, Nat.reduceSub, Nat.reducePow, Int.reduceLE, Int.reduceLT, Int.reduceNeg, Int.reduceToNat, Int.reduceAdd, Int.reduceSub] at hr
            obtain ⟨rfl, rfl⟩ := hr
            refine ⟨vc, ?_⟩
            refine AWPL_nil ?_
            refine QB_normal ?_
            exact AWPB_wk [0, 1, 2, 3, 4] mkWk ((hAA _ _ _).1 hn18)
          · skip
            refine AWPL_rn tab_ok 1 [2, 4, 5, 39, 40, 41, 42, 43, 45, 46, 47] fun c st' hr => ?_
            simp only [go_sem, reduceIte, reduceCtorEq, Nat.reduceEqDiff, Nat.reduceLT, Nat.reduceLeDiff, Nat.reduceBEq, Nat.reduceAdd, Nat.reduceMul, Nat.reduceSub, Nat.reducePow, Int.reduceLE, Int.reduceLT, Int.reduceNeg, Int.reduceToNat, Int.reduceAdd, Int.reduceSub] at hr
            obtain ⟨rfl, rfl⟩ := hr
            refine ⟨vc, ?_⟩
            refine AWPL_nil ?_
            refine QB_normal ?_
            exact AWPB_wk [0, 1, 2, 3, 4, 5] mkWk ((hAA _ _ _).1 hn19))
        have hn21 : AA 5 #[false, false, true, true, true, true, true, true, false, false, false] ⟨48, [(2, .ptr 0 0 0), (4, .ptr 1 0 0), (46, .own 7 ((m_1 ++ [s]).length))], [some (.gen 24 2 [[.int .i64 m_0, .ints .i64 m_1]]), some (.gen 24 2 [[.int .i64 0, .own 2 0]]), some (.ints 3 .i64 []), some (.ints 3 .i64 y1.1), some (.ints 3 .i64 y2.1), none, some (.ints 3 .i64 [s]), some (.ints 3 .i64 (m_1 ++ [s]))]⟩ := (hAA _ _ _).2 (by
          refine AWPB_one 0 _ (by kernel_rfl) rfl ?_
          refine AWPL_rn tab_ok 1 [4, 5, 39, 40, 46, 47] fun c st' hr => ?_
          simp only [go_sem, reduceIte, reduceCtorEq, Nat.reduceEqDiff, Nat.reduceLT, Nat.reduceLeDiff, Nat.reduceBEq, Nat.reduceAdd, Nat.reduceMul, Nat.reduceSub, Nat.reducePow, Int.reduceLE, Int.reduceLT, Int.reduceNeg, Int.reduceToNat, Int.reduceAdd, Int.reduceSub] at hr
          obtain ⟨rfl, rfl⟩ := hr
          refine ⟨vc, ?_⟩
          refine AWPL_nil ?_
          refine QB_normal ?_
          exact AWPB_wk [0, 1, 2, 3, 4, 5, 6, 7] mkWk ((hAA _ _ _).1 hn12))
        have hn22 : AA 6 #[false, false, true, true, true, true, true, false, false, false, false] ⟨48, [(2, .ptr 0 0 0), (4, .ptr 1 0 0), (43, .own 5 m_1.length), (45, .own 6 1)], [some (.gen 24 2 [[.int .i64 m_0, .ints .i64 m_1]]), some (.gen 24 2 [[.int .i64 0, .own 2 0]]), some (.ints 3 .i64 []), some (.ints 3 .i64 y1.1), some (.ints 3 .i64 y2.1), some (.ints 3 .i64 m_1), some (.ints 3 .i64 [s])]⟩ := (hAA _ _ _).2 (by
          refine AWPB_two 0 7 _ _ (by kernel_rfl) rfl rfl ?_ ?_
          · skip
            refine AWPL_rn tab_ok 1 [4, 5, 39, 40, 43, 45, 46, 47] fun c st' hr => ?_
            simp only [go_sem, reduceIte, reduceCtorEq, Nat.reduceEqDiff, Nat.reduceLT, Nat.reduceLeDiff, Nat.reduceBEq, Nat.reduceAdd, Nat.reduceMul, Nat.reduceSub, Nat.reducePow, Int.reduceLE, Int.reduceLT, Int.reduceNeg, Int.reduceToNat, Int.reduceAdd, Int.reduceSub] at hr
            obtain ⟨rfl, rfl⟩ := hr
            refine ⟨vc, ?_⟩
            refine AWPL_nil ?_
            refine QB_normal ?_
            exact AWPB_wk [0, 1, 2, 3, 4, 5, 6] mkWk ((hAA _ _ _).1 hn13)
          · skip
            refine AWPL_rn tab_ok 1 [2, 4, 5, 39, 40, 46, 47] fun c st' hr => ?_
            simp only [go_sem, reduceIte, reduceCtorEq, Nat.reduceEqDiff, Nat.reduceLT, Nat.reduceLeDiff, Nat.reduceBEq, Nat.reduceAdd, Nat.reduceMul, Nat.reduceSub, Nat.reducePow, Int.reduceLE, Int.reduceLT, Int.reduceNeg, Int.reduceToNat, Int.reduceAdd, Int.reduceSub] at hr
            obtain ⟨rfl, rfl⟩ := hr
            refine ⟨vc, ?_⟩
            refine AWPL_nil ?_
            refine QB_normal ?_
            exact AWPB_wk [0, 1, 2, 3, 4, 5, 6, 7] mkWk ((hAA _ _ _).1 hn21))
        have hn23 : AA 7 #[false, false, true, true, true, true, false, false, false, false, false] ⟨48, [(2, .ptr 0 0 0), (4, .ptr 1 0 0), (43, .own 5 m_1.length), (44, .int .i64 s)], [some (.gen 24 2 [[.int .i64 m_0, .ints .i64 m_1]]), some (.gen 24 2 [[.int .i64 0, .own 2 0]]), some (.ints 3 .i64 []), some (.ints 3 .i64 y1.1), some (.ints 3 .i64 y2.1), some (.ints 3 .i64 m_1)]⟩ := (hAA _ _ _).2 (by
          refine AWPB_two 0 6 _ _ (by kernel_rfl) rfl rfl ?_ ?_
          · skip
            refine AWPL_rn tab_ok 1 [4, 5, 39, 40, 43, 44, 45, 46, 47] fun c st' hr => ?_
            simp only [go_sem, reduceIte, reduceCtorEq, Nat.reduceEqDiff, Nat.reduceLT, Nat.reduceLeDiff, Nat.reduceBEq, Nat.reduceAdd, Nat.reduceMul, Nat.reduceSub, Nat.reducePow, Int.reduceLE, Int.reduceLT, Int.reduceNeg, Int.reduceToNat, Int.reduceAdd, Int.reduceSub] at hr
            obtain ⟨rfl, rfl⟩ := hr
            refine ⟨vc, ?_⟩
            refine AWPL_nil ?_
            refine QB_normal ?_
            exact AWPB_wk [0, 1, 2, 3, 4, 5] mkWk ((hAA _ _ _).1 hn14)
          · skip
            refine AWPL_rn tab_ok 1 [2, 4, 5, 39, 40, 43, 45, 46, 47] fun c st' hr => ?_
            simp only [go_sem, reduceIte, reduceCtorEq, Nat.reduceEqDiff, Nat.reduceLT, Nat.reduceLeDiff, Nat.reduceBEq, Nat.reduceAdd, Nat.reduceMul, Nat.reduceSub, Nat.reducePow, Int.reduceLE, Int.reduceLT, Int.reduceNeg, Int.reduceToNat, Int.reduceAdd, Int.reduceSub] at hr
            obtain ⟨rfl, rfl⟩ := hr
            refine ⟨vc, ?_⟩
            refine AWPL_nil ?_
            refine QB_normal ?_
            exact AWPB_wk [0, 1, 2, 3, 4, 5, 6] mkWk ((hAA _ _ _).1 hn22))
        have hn24 : AA 7 #[false, false, true, true, false, true, true, false, false, false, false] ⟨48, [(2, .ptr 0 0 0), (4, .ptr 1 0 0), (42, .ints .i64 m_1), (45, .own 5 1)], [some (.gen 24 2 [[.int .i64 m_0, .ints .i64 m_1]]), some (.gen 24 2 [[.int .i64 0, .own 2 0]]), some (.ints 3 .i64 []), some (.ints 3 .i64 y1.1), some (.ints 3 .i64 y2.1), some (.ints 3 .i64 [s])]⟩ := (hAA _ _ _).2 (by
          refine AWPB_two 0 4 _ _ (by kernel_rfl) rfl rfl ?_ ?_
          · skip
            refine AWPL_rn tab_ok 1 [4, 5, 39, 40, 42, 43, 45, 46, 47] fun c st' hr => ?_
            simp only [go_sem, reduceIte, reduceCtorEq, Nat.reduceEqDiff, Nat.reduceLT, Nat.reduceLeDiff, Nat.reduceBEq, Nat.reduceAdd, Nat.reduceMul, Nat.reduceSub, Nat.reducePow, Int.reduceLE, Int.reduceLT, Int.reduceNeg, Int.reduceToNat, Int.reduceAdd, Int.reduceSub] at hr
            obtain ⟨rfl, rfl⟩ := hr
            refine ⟨vc, ?_⟩
            refine AWPL_nil ?_
            refine QB_normal ?_
            exact AWPB_wk [0, 1, 2, 3, 4, 5] mkWk ((hAA _ _ _).1 hn15)
          · skip
            refine AWPL_cloneI [2, 4, 5, 39, 40, 43, 45, 46, 47] 3 Try.laysNm215 rfl rfl pcT rfl Try.call64 (of_decide_eq_true rfl) rfl h rfl fun st' hr => ?_
            simp only [go_sem, reduceIte, reduceCtorEq, Nat.reduceEqDiff, Nat.reduceLT, Nat.reduceLeDiff, Nat.reduceBEq, Nat.reduceAdd, Nat.reduceMul, Nat.reduceSub, Nat.reducePow, Int.reduceLE, Int.reduceLT, Int.reduceNeg, Int.reduceToNat, Int.reduceAdd, Int.reduceSub] at hr
            subst hr
            refine AWPL_nil ?_
            refine QB_normal ?_
            exact AWPB_wk [0, 1, 2, 3, 4, 6, 5] mkWk ((hAA _ _ _).1 hn22))
        have hn25 : AA 8 #[false, false, true, true, false, true, false, false, false, false, false] ⟨48, [(2, .ptr 0 0 0), (4, .ptr 1 0 0), (42, .ints .i64 m_1), (44, .int .i64 s)], [some (.gen 24 2 [[.int .i64 m_0, .ints .i64 m_1]]), some (.gen 24 2 [[.int .i64 0, .own 2 0]]), some (.ints 3 .i64 []), some (.ints 3 .i64 y1.1), some (.ints 3 .i64 y2.1)]⟩ := (hAA _ _ _).2 (by
          refine AWPB_three 0 4 6 _ _ _ (by kernel_rfl) rfl rfl rfl ?_ ?_ ?_
          · skip
            refine AWPL_rn tab_ok 1 [4, 5, 39, 40, 42, 43, 44, 45, 46, 47] fun c st' hr => ?_
            simp only [go_sem, reduceIte, reduceCtorEq, Nat.reduceEqDiff, Nat.reduceLT, Nat.reduceLeDiff, Nat.reduceBEq, Nat.reduceAdd, Nat.reduceMul, Nat.reduceSub, Nat.reducePow, Int.reduceLE, Int.reduceLT, Int.reduceNeg, Int.reduceToNat, Int.reduceAdd, Int.reduceSub] at hr
            obtain ⟨rfl, rfl⟩ := hr
            refine ⟨vc, ?_⟩
            refine AWPL_nil ?_
            refine QB_normal ?_
            exact AWPB_wk [0, 1, 2, 3, 4] mkWk ((hAA _ _ _).1 hn16)
          · skip
            refine AWPL_cloneI [2, 4, 5, 39, 40, 43, 44, 45, 46, 47] 3 Try.laysNm215 rfl rfl pcT rfl Try.call64 (of_decide_eq_true rfl) rfl h rfl fun st' hr => ?_
            simp only [go_sem, reduceIte, reduceCtorEq, Nat.reduceEqDiff, Nat.reduceLT, Nat.reduceLeDiff, Nat.reduceBEq, Nat.reduceAdd, Nat.reduceMul, Nat.reduceSub, Nat.reducePow, Int.reduceLE, Int.reduceLT, Int.reduceNeg, Int.reduceToNat, Int.reduceAdd, Int.reduceSub] at hr
            subst hr
            refine AWPL_nil ?_
            refine QB_normal ?_
            exact AWPB_wk [0, 1, 2, 3, 4, 5] mkWk ((hAA _ _ _).1 hn23)
          · skip
            refine AWPL_rn tab_ok 1 [2, 4, 5, 39, 40, 42, 43, 45, 46, 47] fun c st' hr => ?_
            simp only [go_sem, reduceIte, reduceCtorEq, Nat.reduceEqDiff, Nat.reduceLT, Nat.reduceLeDiff, Nat.reduceBEq, Nat.reduceAdd, Nat.reduceMul, Nat.reduceSub, Nat.reducePow, Int.reduceLE, Int.reduceLT, Int.reduceNeg, Int.reduceToNat, Int.reduceAdd, Int.reduceSub] at hr
            obtain ⟨rfl, rfl⟩ := hr
            refine ⟨vc, ?_⟩
            refine AWPL_nil ?_
            refine QB_normal ?_
            exact AWPB_wk [0, 1, 2, 3, 4, 5] mkWk ((hAA _ _ _).1 hn24))
        have hn26 : AA 8 #[false, false, true, false, false, true, true, false, false, false, false] ⟨48, [(2, .ptr 0 0 0), (4, .ptr 1 0 0), (41, .ptr 0 0 1), (45, .own 5 1)], [some (.gen 24 2 [[.int .i64 m_0, .ints .i64 m_1]]), some (.gen 24 2 [[.int .i64 0, .own 2 0]]), some (.ints 3 .i64 []), some (.ints 3 .i64 y1.1), some (.ints 3 .i64 y2.1), some (.ints 3 .i64 [s])]⟩ := (hAA _ _ _).2 (by
          refine AWPB_two 0 3 _ _ (by kernel_rfl) rfl rfl ?_ ?_
          · skip
            refine AWPL_rn tab_ok 1 [4, 5, 39, 40, 41, 42, 43, 45, 46, 47] fun c st' hr => ?_
            simp only [go_sem, reduceIte, reduceCtorEq, Nat.reduceEqDiff, Nat.reduceLT, Nat.reduceLeDiff, Nat.reduceBEq, Nat.reduceAdd, Nat.reduceMul, Nat.reduceSub, Nat.reducePow, Int.reduceLE, Int.reduceLT, Int.reduceNeg, Int.reduceToNat, Int.reduceAdd, Int.reduceSub] at hr
            obtain ⟨rfl, rfl⟩ := hr
            refine ⟨vc, ?_⟩
            refine AWPL_nil ?_
            refine QB_normal ?_
            exact AWPB_wk [0, 1, 2, 3, 4, 5] mkWk ((hAA _ _ _).1 hn17)
          · skip
            refine AWPL_rn tab_ok 1 [2, 4, 5, 39, 40, 42, 43, 45, 46, 47] fun c st' hr => ?_
            simp only [go_sem, reduceIte, reduceCtorEq, Nat.reduceEqDiff, Nat.reduceLT, Nat.reduceLeDiff, Nat.reduceBEq, Nat.reduceAdd, Nat.reduceMul, Nat.reduceSub, Nat.reducePow, Int.reduceLE, Int.reduceLT, Int.reduceNeg, Int.reduceToNat, Int.reduceAdd, Int.reduceSub] at hr
            obtain ⟨rfl, rfl⟩ := hr
            refine ⟨vc, ?_⟩
            refine AWPL_nil ?_
            refine QB_normal ?_
            exact AWPB_wk [0, 1, 2, 3, 4, 5] mkWk ((hAA _ _ _).1 hn24))
        have hn27 : AA 9 #[false, false, true, false, false, true, false, false, false, false, false] ⟨48, [(2, .ptr 0 0 0), (4, .ptr 1 0 0), (41, .ptr 0 0 1), (44, .int .i64 s)], [some (.gen 24 2 [[.int .i64 m_0, .ints .i64 m_1]]), some (.gen 24 2 [[.int .i64 0, .own 2 0]]), some (.ints 3 .i64 []), some (.ints 3 .i64 y1.1), some (.ints 3 .i64 y2.1)]⟩ := (hAA _ _ _).2 (by
          refine AWPB_three 0 3 6 _ _ _ (by kernel_rfl) rfl rfl rfl ?_ ?_ ?_
          · skip
            refine AWPL_rn tab_ok 1 [4, 5, 39, 40, 41, 42, 43, 44, 45, 46, 47] fun c st' hr => ?_
            simp only [go_sem, reduceIte, reduceCtorEq, Nat.reduceEqDiff, Nat.reduceLT, Nat.reduceLeDiff, Nat.reduceBEq, Nat.reduceAdd, Nat.reduceMul, Nat.reduceSub, Nat.reducePow, Int.reduceLE, Int.reduceLT, Int.reduceNeg, Int.reduceToNat, Int.reduceAdd, Int.reduceSub] at hr
            obtain ⟨rfl, rfl⟩ := hr
            refine ⟨vc, ?_⟩
            refine AWPL_nil ?_
            refine QB_normal ?_
            exact AWPB_wk [0, 1, 2, 3, 4] mkWk ((hAA _ _ _).1 hn18)
          · skip
            refine AWPL_rn tab_ok 1 [2, 4, 5, 39, 40, 42, 43, 44, 45, 46, 47] fun c st' hr => ?_
            simp only [go_sem, reduceIte, reduceCtorEq, Nat.reduceEqDiff, Nat.reduceLT, Nat.reduceLeDiff, Nat.reduceBEq, Nat.reduceAdd, Nat.reduceMul, Nat.reduceSub, Nat.reducePow, Int.reduceLE, Int.reduceLT, Int.reduceNeg, Int.reduceToNat, Int.reduceAdd, Int.reduceSub] at hr
            obtain ⟨rfl, rfl⟩ := hr
            refine ⟨vc, ?_⟩
            refine AWPL_nil ?_
            refine QB_normal ?_
            exact AWPB_wk [0, 1, 2, 3, 4] mkWk ((hAA _ _ _).1 hn25)
          · skip
            refine AWPL_rn tab_ok 1 [2, 4, 5, 39, 40, 41, 42, 43, 45, 46, 47] fun c st' hr => ?_
            simp only [go_sem, reduceIte, reduceCtorEq, Nat.reduceEqDiff, Nat.reduceLT, Nat.reduceLeDiff, Nat.reduceBEq, Nat.reduceAdd, Nat.reduceMul, Nat.reduceSub, Nat.reducePow, Int.reduceLE, Int.reduceLT, Int.reduceNeg, Int.reduceToNat, Int.reduceAdd, Int.reduceSub] at hr
            obtain ⟨rfl, rfl⟩ := hr
            refine ⟨vc, ?_⟩
            refine AWPL_nil ?_
            refine QB_normal ?_
            exact AWPB_wk [0, 1, 2, 3, 4, 5] mkWk ((hAA _ _ _).1 hn26))
        have hn28 : AA 9 #[false, false, false, false, false, true, true, false, false, false, false] ⟨48, [(2, .ptr 0 0 0), (4, .ptr 1 0 0), (45, .own 5 1)], [some (.gen 24 2 [[.int .i64 m_0, .ints .i64 m_1]]), some (.gen 24 2 [[.int .i64 0, .own 2 0]]), some (.ints 3 .i64 []), some (.ints 3 .i64 y1.1), some (.ints 3 .i64 y2.1), some (.ints 3 .i64 [s])]⟩ := (hAA _ _ _).2 (by
          refine AWPB_two 0 2 _ _ (by kernel_rfl) rfl rfl ?_ ?_
          · skip
            refine AWPL_rn tab_ok 1 [2, 4, 5, 39, 40, 41, 42, 43, 45, 46, 47] fun c st' hr => ?_
            simp only [go_sem, reduceIte, reduceCtorEq, Nat.reduceEqDiff, Nat.reduceLT, Nat.reduceLeDiff, Nat.reduceBEq, Nat.reduceAdd, Nat.reduceMul, Nat.reduceSub, Nat.reducePow, Int.reduceLE, Int.reduceLT, Int.reduceNeg, Int.reduceToNat, Int.reduceAdd, Int.reduceSub] at hr
            obtain ⟨rfl, rfl⟩ := hr
            refine ⟨vc, ?_⟩
            refine AWPL_nil ?_
            refine QB_normal ?_
            exact AWPB_wk [0, 1, 2, 3, 4, 5] mkWk ((hAA _ _ _).1 hn19)
          · skip
            refine AWPL_rn tab_ok 1 [2, 4, 5, 39, 40, 41, 42, 43, 45, 46, 47] fun c st' hr => ?_
            simp only [go_sem, reduceIte, reduceCtorEq, Nat.reduceEqDiff, Nat.reduceLT, Nat.reduceLeDiff, Nat.reduceBEq, Nat.reduceAdd, Nat.reduceMul, Nat.reduceSub, Nat.reducePow, Int.reduceLE, Int.reduceLT, Int.reduceNeg, Int.reduceToNat, Int.reduceAdd, Int.reduceSub] at hr
            obtain ⟨rfl, rfl⟩ := hr
            refine ⟨vc, ?_⟩
            refine AWPL_nil ?_
            refine QB_normal ?_
            exact AWPB_wk [0, 1, 2, 3, 4, 5] mkWk ((hAA _ _ _).1 hn26))
        have hn29 : AA 10 #[false, false, false, false, false, true, false, false, false, false, false] ⟨48, [(2, .ptr 0 0 0), (4, .ptr 1 0 0), (44, .int .i64 s)], [some (.gen 24 2 [[.int .i64 m_0, .ints .i64 m_1]]), some (.gen 24 2 [[.int .i64 0, .own 2 0]]), some (.ints 3 .i64 []), some (.ints 3 .i64 y1.1), some (.ints 3 .i64 y2.1)]⟩ := (hAA _ _ _).2 (by
          refine AWPB_three 0 2 6 _ _ _ (by kernel_rfl) rfl rfl rfl ?_ ?_ ?_
          · skip
            refine AWPL_rn tab_ok 1 [2, 4, 5, 39, 40, 41, 42, 43, 44, 45, 46, 47] fun c st' hr => ?_
            simp only [go_sem, reduceIte, reduceCtorEq, Nat.reduceEqDiff, Nat.reduceLT, Nat.reduceLeDiff, Nat.reduceBEq, Nat.reduceAdd, Nat.reduceMul, Nat.reduceSub, Nat.reducePow, Int.reduceLE, Int.reduceLT, Int.reduceNeg, Int.reduceToNat, Int.reduceAdd, Int.reduceSub] at hr
            obtain ⟨rfl, rfl⟩ := hr
            refine ⟨vc, ?_⟩
            refine AWPL_nil ?_
            refine QB_normal ?_
            exact AWPB_wk [0, 1, 2, 3, 4] mkWk ((hAA _ _ _).1 hn20)
          · skip
            refine AWPL_rn tab_ok 1 [2, 4, 5, 39, 40, 41, 42, 43, 44, 45, 46, 47] fun c st' hr => ?_
            simp only [go_sem, reduceIte, reduceCtorEq, Nat.reduceEqDiff, Nat.reduceLT, Nat.reduceLeDiff, Nat.reduceBEq, Nat.reduceAdd, Nat.reduceMul, Nat.reduceSub, Nat.reducePow, Int.reduceLE, Int.reduceLT, Int.reduceNeg, Int.reduceToNat, Int.reduceAdd, Int.reduceSub] at hr
            obtain ⟨rfl, rfl⟩ := hr
            refine ⟨vc, ?_⟩
            refine AWPL_nil ?_
            refine QB_normal ?_
            exact AWPB_wk [0, 1, 2, 3, 4] mkWk ((hAA _ _ _).1 hn27)
          · skip
            refine AWPL_rn tab_ok 1 [2, 4, 5, 39, 40, 41, 42, 43, 45, 46, 47] fun c st' hr => ?_
            simp only [go_sem, reduceIte, reduceCtorEq, Nat.reduceEqDiff, Nat.reduceLT, Nat.reduceLeDiff, Nat.reduceBEq, Nat.reduceAdd, Nat.reduceMul, Nat.reduceSub, Nat.reducePow, Int.reduceLE, Int.reduceLT, Int.reduceNeg, Int.reduceToNat, Int.reduceAdd, Int.reduceSub] at hr
            obtain ⟨rfl, rfl⟩ := hr
            refine ⟨vc, ?_⟩
            refine AWPL_nil ?_
            refine QB_normal ?_
            exact AWPB_wk [0, 1, 2, 3, 4, 5] mkWk ((hAA _ _ _).1 hn28))
        have hn30 : AA 11 #[false, false, false, false, false, false, false, false, false, false, false] ⟨48, [(1, .int .i64 s), (2, .ptr 0 0 0), (4, .ptr 1 0 0)], [some (.gen 24 2 [[.int .i64 m_0, .ints .i64 m_1]]), some (.gen 24 2 [[.int .i64 0, .own 2 0]]), some (.ints 3 .i64 []), some (.ints 3 .i64 y1.1), some (.ints 3 .i64 y2.1)]⟩ := (hAA _ _ _).2 (by
          refine AWPB_take tab_ok [2, 4, 5, 39, 40, 41, 42, 43, 44, 45, 46, 47] 5 _ rfl rfl (by kernel_rfl) fun c st' hr => ?_
          simp only [go_sem, reduceIte, reduceCtorEq, Nat.reduceEqDiff, Nat.reduceLT, Nat.reduceLeDiff, Nat.reduceBEq, Nat.reduceAdd, Nat.reduceMul, Nat.reduceSub, Nat.reducePow, Int.reduceLE, Int.reduceLT, Int.reduceNeg, Int.reduceToNat, Int.reduceAdd, Int.reduceSub] at hr
          obtain ⟨rfl, rfl⟩ := hr
          refine ⟨vc, ?_⟩
          exact AWPB_wk [0, 1, 2, 3, 4] mkWk ((hAA _ _ _).1 hn29))
        exact (hAA _ _ _).2 (AWPB_wk [0, 1, 2, 3, 4] mkWk ((hAA _ _ _).1 hn30))
      with_reducible refine thenC_normal ?_
      refine AWP_ret ?_
      cases hK
      refine EndsRW [8] (.inl rfl) (of_decide_eq_true rfl) (by simp) rfl (fun c x hr => ?_) endH
      simp only [go_sem, reduceIte, reduceCtorEq, Nat.reduceEqDiff, Nat.reduceLT, Nat.reduceLeDiff, Nat.reduceBEq, Nat.reduceAdd, Nat.reduceMul, Nat.reduceSub, Nat.reducePow, Int.reduceLE, Int.reduceLT, Int.reduceNeg, Int.reduceToNat, Int.reduceAdd, Int.reduceSub] at hr
      obtain ⟨rfl, rfl⟩ := hr
      exact ⟨rfl, endR⟩

end Go.SH
