/-
  That the code computes these functions: rotakeep_ConvexOrders. By a program of mine (shal.py). Conditions: none.
-/
import Derived.Test.YtobpcecpfojpmaaDoorAxT
import Derived.Test.YtobpcecpfojpmaaDoorAxR
import Derived.Test.YtobpcecpfojpmaaDoorAxUn
import Derived.Test.YtobpcecpfojpmaaDoorAxOp
import Derived.Test.YtobpcecpfojpmaaDoorSkConvexOrders
import Derived.Test.YtobpcecpfojpmaaDoorWpconvex
import Derived.Test.YtobpcecpfojpmaaDoorWprotakeep
import Derived.Test.YtobpcecpfojpmaaDoorWprotaref
import Derived.Test.YtobpcecpfojpmaaDoorWpslices
set_option linter.unusedVariables false
set_option linter.unusedSimpArgs false
namespace Go.SH
open Go Go.AX Go.AX.Tryd Go.Proofs

set_option maxRecDepth 8000 in
set_option maxHeartbeats 4000000 in
theorem W_rotakeep_ConvexOrders {n : Int} {a1 : List Int} {a2 : List (Int × Int)} {a3_0 : Int} {a3_1 : List (Int × Int)} {r : Bool} (hK : rotakeep_ConvexOrders n a1 a2 a3_0 a3_1 = some r) : Pure Tryd.prog 5 [.int .i64 n, .ints .i64 a1, .fn 2 a2.length (fun i => [.int .i64 ((a2.getD i (0, 0)).1), .int .i64 ((a2.getD i (0, 0)).2)]), .agg [.int .i64 a3_0, .fn 2 a3_1.length (fun i => [.int .i64 ((a3_1.getD i (0, 0)).1), .int .i64 ((a3_1.getD i (0, 0)).2)])]] (.bool r) [] := by
  refine Pure_introF tab_ok (n := 116) (l := [.tmp 8]) Tryd.func5 rfl rfl rfl (by simp) fun hfact w0 => ?_
  simp only [factL1, fact1, fact0, factL0, lo, hi, maxLen, and_true] at hfact
  unfold rotakeep_ConvexOrders at hK
  refine AWP_seq ?_
  -- region 0
  refine AWP_rg tab_ok [4, 5, 6, 7] fun c st' hr => ?_
  simp only [go_sem, reduceIte, reduceCtorEq, Nat.reduceEqDiff, Nat.reduceLT, Nat.reduceLeDiff, Nat.reduceBEq, Nat.reduceAdd, Nat.reduceMul, Nat.reduceSub, Nat.reducePow, Int.reduceLE, Int.reduceLT, Int.reduceNeg, Int.reduceToNat, Int.reduceAdd, Int.reduceSub] at hr
  obtain ⟨rfl, rfl⟩ := hr
  refine ⟨vc, ?_⟩
  with_reducible refine thenC_normal ?_
  refine AWP_seq ?_
  refine AWP_seq ?_
  refine AWP_freeze 4 0 (y := .intp .i64 n) rfl (.one (.ptrI _ _ _ _ _ _ rfl rfl)) fun st' hr => ?_
  simp only [go_sem, reduceIte, reduceCtorEq, Nat.reduceEqDiff, Nat.reduceLT, Nat.reduceLeDiff, Nat.reduceBEq, Nat.reduceAdd, Nat.reduceMul, Nat.reduceSub, Nat.reducePow, Int.reduceLE, Int.reduceLT, Int.reduceNeg, Int.reduceToNat, Int.reduceAdd, Int.reduceSub, List.set_cons_zero, List.set_cons_succ] at hr
  subst hr
  refine AWP_freeze 5 1 (y := .immp [.ints .i64 a1]) rfl (.one (.ptrM _ _ _ _ _ _ _ rfl rfl rfl (ArgsOk.get (.cons (.atom _ rfl) .nil)).2)) fun st' hr => ?_
  simp only [go_sem, reduceIte, reduceCtorEq, Nat.reduceEqDiff, Nat.reduceLT, Nat.reduceLeDiff, Nat.reduceBEq, Nat.reduceAdd, Nat.reduceMul, Nat.reduceSub, Nat.reducePow, Int.reduceLE, Int.reduceLT, Int.reduceNeg, Int.reduceToNat, Int.reduceAdd, Int.reduceSub, List.set_cons_zero, List.set_cons_succ] at hr
  subst hr
  refine AWP_freeze 6 2 (y := .immp [.fn 2 a2.length (fun i => [.int .i64 ((a2.getD i (0, 0)).1), .int .i64 ((a2.getD i (0, 0)).2)])]) rfl (.one (.ptrM _ _ _ _ _ _ _ rfl rfl rfl (ArgsOk.get (.cons (.atom _ rfl) .nil)).2)) fun st' hr => ?_
  simp only [go_sem, reduceIte, reduceCtorEq, Nat.reduceEqDiff, Nat.reduceLT, Nat.reduceLeDiff, Nat.reduceBEq, Nat.reduceAdd, Nat.reduceMul, Nat.reduceSub, Nat.reducePow, Int.reduceLE, Int.reduceLT, Int.reduceNeg, Int.reduceToNat, Int.reduceAdd, Int.reduceSub, List.set_cons_zero, List.set_cons_succ] at hr
  subst hr
  refine AWP_freeze 7 3 (y := .immp [.int .i64 a3_0, .fn 2 a3_1.length (fun i => [.int .i64 ((a3_1.getD i (0, 0)).1), .int .i64 ((a3_1.getD i (0, 0)).2)])]) rfl (.one (.ptrM _ _ _ _ _ _ _ rfl rfl rfl (ArgsOk.get (.cons (.atom _ rfl) (.cons (.atom _ rfl) .nil))).2)) fun st' hr => ?_
  simp only [go_sem, reduceIte, reduceCtorEq, Nat.reduceEqDiff, Nat.reduceLT, Nat.reduceLeDiff, Nat.reduceBEq, Nat.reduceAdd, Nat.reduceMul, Nat.reduceSub, Nat.reducePow, Int.reduceLE, Int.reduceLT, Int.reduceNeg, Int.reduceToNat, Int.reduceAdd, Int.reduceSub, List.set_cons_zero, List.set_cons_succ] at hr
  subst hr
  -- region 1
  refine AWP_rl ?_
  refine AWPL_rn tab_ok 1 [4, 5, 6, 7, 23] fun c st' hr => ?_
  simp only [go_sem, reduceIte, reduceCtorEq, Nat.reduceEqDiff, Nat.reduceLT, Nat.reduceLeDiff, Nat.reduceBEq, Nat.reduceAdd, Nat.reduceMul, Nat.reduceSub, Nat.reducePow, Int.reduceLE, Int.reduceLT, Int.reduceNeg, Int.reduceToNat, Int.reduceAdd, Int.reduceSub] at hr
  obtain ⟨rfl, rfl⟩ := hr
  refine ⟨vc, ?_⟩
  replace hK := bind_s hK
  obtain ⟨y, hy, hK⟩ := hK
  refine AWPL_callK [4, 5, 6, 7, 24] (W_convex_Orders hy) rfl rfl pcT rfl Tryd.call14 (.cons (.atom _ rfl) (.cons (.ownI _ _ _ _ _ [0, 1, 2, 3] rfl (by simp) (by simp)) .nil)) (hscG trivial) (of_decide_eq_true rfl) (by first | rfl | simp [nI, nI1, nI0]) (by first | rfl | simp [nIB, nI0]) fun st' hr => ?_
  simp only [go_sem, reduceIte, reduceCtorEq, Nat.reduceEqDiff, Nat.reduceLT, Nat.reduceLeDiff, Nat.reduceBEq, Nat.reduceAdd, Nat.reduceMul, Nat.reduceSub, Nat.reducePow, Int.reduceLE, Int.reduceLT, Int.reduceNeg, Int.reduceToNat, Int.reduceAdd, Int.reduceSub] at hr
  subst hr
  clear hy
  refine AWPL_rn tab_ok 5 [4, 5, 6, 7, 9, 10] fun c st' hr => ?_
  simp only [go_sem, reduceIte, reduceCtorEq, Nat.reduceEqDiff, Nat.reduceLT, Nat.reduceLeDiff, Nat.reduceBEq, Nat.reduceAdd, Nat.reduceMul, Nat.reduceSub, Nat.reducePow, Int.reduceLE, Int.reduceLT, Int.reduceNeg, Int.reduceToNat, Int.reduceAdd, Int.reduceSub] at hr
  obtain ⟨rfl, rfl⟩ := hr
  refine ⟨vc, ?_⟩
  refine AWPL_nil ?_
  with_reducible refine thenC_normal ?_
  refine AWP_seq ?_
  -- region 2
  refine AWP_rg tab_ok [4, 5, 6, 7, 32] fun c st' hr => ?_
  simp only [go_sem, reduceIte, reduceCtorEq, Nat.reduceEqDiff, Nat.reduceLT, Nat.reduceLeDiff, Nat.reduceBEq, Nat.reduceAdd, Nat.reduceMul, Nat.reduceSub, Nat.reducePow, Int.reduceLE, Int.reduceLT, Int.reduceNeg, Int.reduceToNat, Int.reduceAdd, Int.reduceSub] at hr
  obtain ⟨rfl, rfl⟩ := hr
  refine ⟨vc, ?_⟩
  with_reducible refine thenC_normal ?_
  refine AWP_condP ((y.2 ≠ 0 ∨ y.1 ≠ 2)) rfl bd (fun hb => ?_) (fun hb => ?_)
  · replace hK := ite_t hK hb
    refine AWP_seq ?_
    -- region 3
    refine AWP_rg tab_ok [8] fun c st' hr => ?_
    simp only [go_sem, reduceIte, reduceCtorEq, Nat.reduceEqDiff, Nat.reduceLT, Nat.reduceLeDiff, Nat.reduceBEq, Nat.reduceAdd, Nat.reduceMul, Nat.reduceSub, Nat.reducePow, Int.reduceLE, Int.reduceLT, Int.reduceNeg, Int.reduceToNat, Int.reduceAdd, Int.reduceSub] at hr
    obtain ⟨rfl, rfl⟩ := hr
    refine ⟨vc, ?_⟩
    with_reducible refine thenC_normal ?_
    refine AWP_ret ?_
    with_reducible refine thenC_ret ?_
    cases hK
    refine EndsRW [] (.inl rfl) (of_decide_eq_true rfl) (by simp) rfl (fun c x hr => ?_) trivial
    simp only [go_sem, reduceIte, reduceCtorEq, Nat.reduceEqDiff, Nat.reduceLT, Nat.reduceLeDiff, Nat.reduceBEq, Nat.reduceAdd, Nat.reduceMul, Nat.reduceSub, Nat.reducePow, Int.reduceLE, Int.reduceLT, Int.reduceNeg, Int.reduceToNat, Int.reduceAdd, Int.reduceSub] at hr
    obtain ⟨rfl, rfl⟩ := hr
    exact ⟨rfl, endR⟩
  · replace hK := ite_f hK hb
    refine AWP_skip ?_
    with_reducible refine thenC_normal ?_
    refine AWP_seq ?_
    refine AWP_seq ?_
    -- region 4
    refine AWP_rg tab_ok [37, 38, 39] fun c st' hr => ?_
    simp only [go_sem, reduceIte, reduceCtorEq, Nat.reduceEqDiff, Nat.reduceLT, Nat.reduceLeDiff, Nat.reduceBEq, Nat.reduceAdd, Nat.reduceMul, Nat.reduceSub, Nat.reducePow, Int.reduceLE, Int.reduceLT, Int.reduceNeg, Int.reduceToNat, Int.reduceAdd, Int.reduceSub] at hr
    obtain ⟨rfl, rfl⟩ := hr
    refine ⟨vc, ?_⟩
    with_reducible refine thenC_normal ?_
    refine AWP_block ?_
    refine AWP_freeze 37 5 (y := .imm 1 [[.func 17 [.intp .i64 n, .immp [.fn 2 a2.length (fun i => [.int .i64 ((a2.getD i (0, 0)).1), .int .i64 ((a2.getD i (0, 0)).2)])]]], [.func 19 [.immp [.int .i64 a3_0, .fn 2 a3_1.length (fun i => [.int .i64 ((a3_1.getD i (0, 0)).1), .int .i64 ((a3_1.getD i (0, 0)).2)])]]], [.func 21 [.intp .i64 n]], [.func 22 [.intp .i64 n, .immp [.ints .i64 a1]]]]) rfl (.one (.ownSelf rfl rfl rfl)) fun st' hr => ?_
    simp only [go_sem, reduceIte, reduceCtorEq, Nat.reduceEqDiff, Nat.reduceLT, Nat.reduceLeDiff, Nat.reduceBEq, Nat.reduceAdd, Nat.reduceMul, Nat.reduceSub, Nat.reducePow, Int.reduceLE, Int.reduceLT, Int.reduceNeg, Int.reduceToNat, Int.reduceAdd, Int.reduceSub, List.set_cons_zero, List.set_cons_succ] at hr
    subst hr
    refine AWP_unroll 5 ?_
    refine unr_go ?_
    refine AWP_seq ?_
    -- region 5
    refine AWP_rg tab_ok [37, 38, 39, 40] fun c st' hr => ?_
    simp only [go_sem, reduceIte, reduceCtorEq, Nat.reduceEqDiff, Nat.reduceLT, Nat.reduceLeDiff, Nat.reduceBEq, Nat.reduceAdd, Nat.reduceMul, Nat.reduceSub, Nat.reducePow, Int.reduceLE, Int.reduceLT, Int.reduceNeg, Int.reduceToNat, Int.reduceAdd, Int.reduceSub] at hr
    obtain ⟨rfl, rfl⟩ := hr
    refine ⟨vc, ?_⟩
    with_reducible refine thenC_normal ?_
    refine AWP_seq ?_
    refine AWP_condP (0 < 4) rfl bd (fun hb1 => ?_) (fun hb1 => ?_)
    rotate_left 1
    · exact absurd (by omega) hb1
    clear hb1
    refine AWP_skip ?_
    with_reducible refine thenC_normal ?_
    refine AWP_seqJ (fun _ => ⟨116, [(37, .imm 1 [[.func 17 [.intp .i64 n, .immp [.fn 2 a2.length (fun i => [.int .i64 ((a2.getD i (0, 0)).1), .int .i64 ((a2.getD i (0, 0)).2)])]]], [.func 19 [.immp [.int .i64 a3_0, .fn 2 a3_1.length (fun i => [.int .i64 ((a3_1.getD i (0, 0)).1), .int .i64 ((a3_1.getD i (0, 0)).2)])]]], [.func 21 [.intp .i64 n]], [.func 22 [.intp .i64 n, .immp [.ints .i64 a1]]]]), (38, .int .i64 4), (39, .int .i64 0)], []⟩) hK ?_ ?_
    · clear hK; intro j hK; try dsimp only at hK
      refine AWP_block ?_
      refine AWP_seq ?_
      -- region 6
      refine AWP_rg tab_ok [12, 37, 38, 39] fun c st' hr => ?_
      simp only [go_sem, reduceIte, reduceCtorEq, Nat.reduceEqDiff, Nat.reduceLT, Nat.reduceLeDiff, Nat.reduceBEq, Nat.reduceAdd, Nat.reduceMul, Nat.reduceSub, Nat.reducePow, Int.reduceLE, Int.reduceLT, Int.reduceNeg, Int.reduceToNat, Int.reduceAdd, Int.reduceSub] at hr
      obtain ⟨rfl, rfl⟩ := hr
      refine ⟨vc, ?_⟩
      with_reducible refine thenC_normal ?_
      refine AWP_seq ?_
      -- region 7
      refine AWP_rl ?_
      refine AWPL_rn tab_ok 1 [37, 38, 39, 44] fun c st' hr => ?_
      simp only [go_sem, reduceIte, reduceCtorEq, Nat.reduceEqDiff, Nat.reduceLT, Nat.reduceLeDiff, Nat.reduceBEq, Nat.reduceAdd, Nat.reduceMul, Nat.reduceSub, Nat.reducePow, Int.reduceLE, Int.reduceLT, Int.reduceNeg, Int.reduceToNat, Int.reduceAdd, Int.reduceSub] at hr
      obtain ⟨rfl, rfl⟩ := hr
      refine ⟨vc, ?_⟩
      replace hK := bind_s hK
      obtain ⟨y1, hy, hK⟩ := hK
      refine AWPL_callK [37, 38, 39, 45] (W_rotakeep_ConvexOrders_1 hy) rfl rfl pcT rfl Tryd.call17 (.cons (.atom _ rfl) (.cons (.atom _ rfl) .nil)) (hscG trivial) (of_decide_eq_true rfl) (by first | rfl | simp [nI, nI1, nI0]) (by first | rfl | simp [nIB, nI0]) fun st' hr => ?_
      simp only [go_sem, reduceIte, reduceCtorEq, Nat.reduceEqDiff, Nat.reduceLT, Nat.reduceLeDiff, Nat.reduceBEq, Nat.reduceAdd, Nat.reduceMul, Nat.reduceSub, Nat.reducePow, Int.reduceLE, Int.reduceLT, Int.reduceNeg, Int.reduceToNat, Int.reduceAdd, Int.reduceSub] at hr
      subst hr
      clear hy
      refine AWPL_rn tab_ok 7 [13, 14, 15, 37, 38, 39] fun c st' hr => ?_
      simp only [go_sem, reduceIte, reduceCtorEq, Nat.reduceEqDiff, Nat.reduceLT, Nat.reduceLeDiff, Nat.reduceBEq, Nat.reduceAdd, Nat.reduceMul, Nat.reduceSub, Nat.reducePow, Int.reduceLE, Int.reduceLT, Int.reduceNeg, Int.reduceToNat, Int.reduceAdd, Int.reduceSub] at hr
      obtain ⟨rfl, rfl⟩ := hr
      refine ⟨vc, ?_⟩
      refine AWPL_nil ?_
      with_reducible refine thenC_normal ?_
      refine AWP_seq ?_
      refine AWP_seq ?_
      -- region 8
      refine AWP_rg tab_ok [13, 14, 37, 38, 39, 50] fun c st' hr => ?_
      simp only [go_sem, reduceIte, reduceCtorEq, Nat.reduceEqDiff, Nat.reduceLT, Nat.reduceLeDiff, Nat.reduceBEq, Nat.reduceAdd, Nat.reduceMul, Nat.reduceSub, Nat.reducePow, Int.reduceLE, Int.reduceLT, Int.reduceNeg, Int.reduceToNat, Int.reduceAdd, Int.reduceSub] at hr
      obtain ⟨rfl, rfl⟩ := hr
      refine ⟨vc, ?_⟩
      with_reducible refine thenC_normal ?_
      refine AWP_condP (y1.2.2 ≠ 0) rfl bd (fun hb2 => ?_) (fun hb2 => ?_)
      · replace hK := ite_t hK hb2
        refine AWP_exit ?_
        with_reducible refine thenC_exit (inBlockA_exit ?_)
        refine join_n () [] hK mkWk
      · replace hK := ite_f hK hb2
        refine AWP_skip ?_
        with_reducible refine thenC_normal ?_
        refine AWP_seq ?_
        refine AWP_seq ?_
        -- region 9
        refine AWP_rl ?_
        refine AWPL_rn tab_ok 2 [13, 14, 37, 38, 39, 51, 52] fun c st' hr => ?_
        simp only [go_sem, reduceIte, reduceCtorEq, Nat.reduceEqDiff, Nat.reduceLT, Nat.reduceLeDiff, Nat.reduceBEq, Nat.reduceAdd, Nat.reduceMul, Nat.reduceSub, Nat.reducePow, Int.reduceLE, Int.reduceLT, Int.reduceNeg, Int.reduceToNat, Int.reduceAdd, Int.reduceSub] at hr
        obtain ⟨rfl, rfl⟩ := hr
        refine ⟨vc, ?_⟩
        replace hK := bind_s hK
        obtain ⟨y2, hy, hK⟩ := hK
        refine AWPL_callK [13, 14, 37, 38, 39, 53] (W_convex_Check hy) rfl rfl pcT rfl Tryd.call23 (.cons (.atom _ rfl) (.cons (.ownI _ _ _ _ _ y1.2.1 rfl (by simp) (by simp)) .nil)) (hscG trivial) (of_decide_eq_true rfl) (by first | rfl | simp [nI, nI1, nI0]) (by first | rfl | simp [nIB, nI0]) fun st' hr => ?_
        simp only [go_sem, reduceIte, reduceCtorEq, Nat.reduceEqDiff, Nat.reduceLT, Nat.reduceLeDiff, Nat.reduceBEq, Nat.reduceAdd, Nat.reduceMul, Nat.reduceSub, Nat.reducePow, Int.reduceLE, Int.reduceLT, Int.reduceNeg, Int.reduceToNat, Int.reduceAdd, Int.reduceSub] at hr
        subst hr
        clear hy
        refine AWPL_rn tab_ok 1 [13, 14, 37, 38, 39, 54] fun c st' hr => ?_
        simp only [go_sem, reduceIte, reduceCtorEq, Nat.reduceEqDiff, Nat.reduceLT, Nat.reduceLeDiff, Nat.reduceBEq, Nat.reduceAdd, Nat.reduceMul, Nat.reduceSub, Nat.reducePow, Int.reduceLE, Int.reduceLT, Int.reduceNeg, Int.reduceToNat, Int.reduceAdd, Int.reduceSub] at hr
        obtain ⟨rfl, rfl⟩ := hr
        refine ⟨vc, ?_⟩
        refine AWPL_nil ?_
        with_reducible refine thenC_normal ?_
        refine AWP_condP (y2 ≠ 0) rfl bd (fun hb3 => ?_) (fun hb3 => ?_)
        · replace hK := ite_t hK hb3
          refine AWP_seq ?_
          -- region 10
          refine AWP_rg tab_ok [8] fun c st' hr => ?_
          simp only [go_sem, reduceIte, reduceCtorEq, Nat.reduceEqDiff, Nat.reduceLT, Nat.reduceLeDiff, Nat.reduceBEq, Nat.reduceAdd, Nat.reduceMul, Nat.reduceSub, Nat.reducePow, Int.reduceLE, Int.reduceLT, Int.reduceNeg, Int.reduceToNat, Int.reduceAdd, Int.reduceSub] at hr
          obtain ⟨rfl, rfl⟩ := hr
          refine ⟨vc, ?_⟩
          with_reducible refine thenC_normal ?_
          refine AWP_ret ?_
          with_reducible refine thenC_ret (inBlockA_ret (join_r (thenA_r (inBlockA_ret (thenC_ret ?_)))))
          cases hK
          refine EndsRW [] (.inl rfl) (of_decide_eq_true rfl) (by simp) rfl (fun c x hr => ?_) trivial
          simp only [go_sem, reduceIte, reduceCtorEq, Nat.reduceEqDiff, Nat.reduceLT, Nat.reduceLeDiff, Nat.reduceBEq, Nat.reduceAdd, Nat.reduceMul, Nat.reduceSub, Nat.reducePow, Int.reduceLE, Int.reduceLT, Int.reduceNeg, Int.reduceToNat, Int.reduceAdd, Int.reduceSub] at hr
          obtain ⟨rfl, rfl⟩ := hr
          exact ⟨rfl, endR⟩
        · replace hK := ite_f hK hb3
          refine AWP_skip ?_
          with_reducible refine thenC_normal ?_
          refine AWP_seq ?_
          -- region 11
          refine AWP_rl ?_
          refine AWPL_rn tab_ok 2 [13, 14, 37, 38, 39, 56, 57] fun c st' hr => ?_
          simp only [go_sem, reduceIte, reduceCtorEq, Nat.reduceEqDiff, Nat.reduceLT, Nat.reduceLeDiff, Nat.reduceBEq, Nat.reduceAdd, Nat.reduceMul, Nat.reduceSub, Nat.reducePow, Int.reduceLE, Int.reduceLT, Int.reduceNeg, Int.reduceToNat, Int.reduceAdd, Int.reduceSub] at hr
          obtain ⟨rfl, rfl⟩ := hr
          refine ⟨vc, ?_⟩
          replace hK := bind_s hK
          obtain ⟨y3, hy, hK⟩ := hK
          refine AWPL_callK [13, 14, 37, 38, 39, 58] (W_convex_Orders hy) rfl rfl pcT rfl Tryd.call14 (.cons (.atom _ rfl) (.cons (.ownI _ _ _ _ _ y1.2.1 rfl (by simp) (by simp)) .nil)) (hscG trivial) (of_decide_eq_true rfl) (by first | rfl | simp [nI, nI1, nI0]) (by first | rfl | simp [nIB, nI0]) fun st' hr => ?_
          simp only [go_sem, reduceIte, reduceCtorEq, Nat.reduceEqDiff, Nat.reduceLT, Nat.reduceLeDiff, Nat.reduceBEq, Nat.reduceAdd, Nat.reduceMul, Nat.reduceSub, Nat.reducePow, Int.reduceLE, Int.reduceLT, Int.reduceNeg, Int.reduceToNat, Int.reduceAdd, Int.reduceSub] at hr
          subst hr
          clear hy
          refine AWPL_rn tab_ok 5 [13, 14, 15, 16, 37, 38, 39] fun c st' hr => ?_
          simp only [go_sem, reduceIte, reduceCtorEq, Nat.reduceEqDiff, Nat.reduceLT, Nat.reduceLeDiff, Nat.reduceBEq, Nat.reduceAdd, Nat.reduceMul, Nat.reduceSub, Nat.reducePow, Int.reduceLE, Int.reduceLT, Int.reduceNeg, Int.reduceToNat, Int.reduceAdd, Int.reduceSub] at hr
          obtain ⟨rfl, rfl⟩ := hr
          refine ⟨vc, ?_⟩
          refine AWPL_nil ?_
          with_reducible refine thenC_normal ?_
          refine AWP_seq ?_
          -- region 12
          refine AWP_rl ?_
          refine AWPL_rn tab_ok 2 [13, 14, 15, 16, 37, 38, 39, 62, 63] fun c st' hr => ?_
          simp only [go_sem, reduceIte, reduceCtorEq, Nat.reduceEqDiff, Nat.reduceLT, Nat.reduceLeDiff, Nat.reduceBEq, Nat.reduceAdd, Nat.reduceMul, Nat.reduceSub, Nat.reducePow, Int.reduceLE, Int.reduceLT, Int.reduceNeg, Int.reduceToNat, Int.reduceAdd, Int.reduceSub] at hr
          obtain ⟨rfl, rfl⟩ := hr
          refine ⟨vc, ?_⟩
          replace hK := bind_s hK
          obtain ⟨y4, hy, hK⟩ := hK
          refine AWPL_callK [13, 14, 15, 16, 37, 38, 39, 64] (W_convex_First hy) rfl rfl pcT rfl Tryd.call24 (.cons (.atom _ rfl) (.cons (.ownI _ _ _ _ _ y1.2.1 rfl (by simp) (by simp)) .nil)) (hscG trivial) (of_decide_eq_true rfl) (by first | rfl | simp [nI, nI1, nI0]) (by first | rfl | simp [nIB, nI0]) fun st' hr => ?_
          simp only [go_sem, reduceIte, reduceCtorEq, Nat.reduceEqDiff, Nat.reduceLT, Nat.reduceLeDiff, Nat.reduceBEq, Nat.reduceAdd, Nat.reduceMul, Nat.reduceSub, Nat.reducePow, Int.reduceLE, Int.reduceLT, Int.reduceNeg, Int.reduceToNat, Int.reduceAdd, Int.reduceSub] at hr
          subst hr
          clear hy
          refine AWPL_rn tab_ok 5 [13, 14, 15, 16, 17, 18, 37, 38, 39] fun c st' hr => ?_
          simp only [go_sem, reduceIte, reduceCtorEq, Nat.reduceEqDiff, Nat.reduceLT, Nat.reduceLeDiff, Nat.reduceBEq, Nat.reduceAdd, Nat.reduceMul, Nat.reduceSub, Nat.reducePow, Int.reduceLE, Int.reduceLT, Int.reduceNeg, Int.reduceToNat, Int.reduceAdd, Int.reduceSub] at hr
          obtain ⟨rfl, rfl⟩ := hr
          refine ⟨vc, ?_⟩
          refine AWPL_nil ?_
          with_reducible refine thenC_normal ?_
          refine AWP_seq ?_
          refine AWP_seq ?_
          -- region 13
          refine AWP_rg tab_ok [13, 14, 17, 37, 38, 39, 82] fun c st' hr => ?_
          simp only [go_sem, reduceIte, reduceCtorEq, Nat.reduceEqDiff, Nat.reduceLT, Nat.reduceLeDiff, Nat.reduceBEq, Nat.reduceAdd, Nat.reduceMul, Nat.reduceSub, Nat.reducePow, Int.reduceLE, Int.reduceLT, Int.reduceNeg, Int.reduceToNat, Int.reduceAdd, Int.reduceSub] at hr
          obtain ⟨rfl, rfl⟩ := hr
          refine ⟨vc, ?_⟩
          with_reducible refine thenC_normal ?_
          refine AWP_condP ((((y3.2 ≠ 0 ∨ y4.2 ≠ 0) ∨ y3.1 < 1) ∨ (y4.1.length : Int) ≠ y1.1)) rfl bd (fun hb4 => ?_) (fun hb4 => ?_)
          · replace hK := ite_t hK hb4
            refine AWP_seq ?_
            -- region 14
            refine AWP_rg tab_ok [8] fun c st' hr => ?_
            simp only [go_sem, reduceIte, reduceCtorEq, Nat.reduceEqDiff, Nat.reduceLT, Nat.reduceLeDiff, Nat.reduceBEq, Nat.reduceAdd, Nat.reduceMul, Nat.reduceSub, Nat.reducePow, Int.reduceLE, Int.reduceLT, Int.reduceNeg, Int.reduceToNat, Int.reduceAdd, Int.reduceSub] at hr
            obtain ⟨rfl, rfl⟩ := hr
            refine ⟨vc, ?_⟩
            with_reducible refine thenC_normal ?_
            refine AWP_ret ?_
            with_reducible refine thenC_ret (inBlockA_ret (join_r (thenA_r (inBlockA_ret (thenC_ret ?_)))))
            cases hK
            refine EndsRW [] (.inl rfl) (of_decide_eq_true rfl) (by simp) rfl (fun c x hr => ?_) trivial
            simp only [go_sem, reduceIte, reduceCtorEq, Nat.reduceEqDiff, Nat.reduceLT, Nat.reduceLeDiff, Nat.reduceBEq, Nat.reduceAdd, Nat.reduceMul, Nat.reduceSub, Nat.reducePow, Int.reduceLE, Int.reduceLT, Int.reduceNeg, Int.reduceToNat, Int.reduceAdd, Int.reduceSub] at hr
            obtain ⟨rfl, rfl⟩ := hr
            exact ⟨rfl, endR⟩
          · replace hK := ite_f hK hb4
            refine AWP_skip ?_
            with_reducible refine thenC_normal ?_
            refine AWP_seq ?_
            -- region 15
            refine AWP_rg tab_ok [13, 14, 17, 19, 37, 38, 39] fun c st' hr => ?_
            simp only [go_sem, reduceIte, reduceCtorEq, Nat.reduceEqDiff, Nat.reduceLT, Nat.reduceLeDiff, Nat.reduceBEq, Nat.reduceAdd, Nat.reduceMul, Nat.reduceSub, Nat.reducePow, Int.reduceLE, Int.reduceLT, Int.reduceNeg, Int.reduceToNat, Int.reduceAdd, Int.reduceSub] at hr
            obtain ⟨rfl, rfl⟩ := hr
            refine ⟨vc, ?_⟩
            with_reducible refine thenC_normal ?_
            refine AWP_seq ?_
            -- region 16
            refine AWP_rg tab_ok [13, 14, 19, 37, 38, 39, 83, 84, 85] fun c st' hr => ?_
            simp only [go_sem, reduceIte, reduceCtorEq, Nat.reduceEqDiff, Nat.reduceLT, Nat.reduceLeDiff, Nat.reduceBEq, Nat.reduceAdd, Nat.reduceMul, Nat.reduceSub, Nat.reducePow, Int.reduceLE, Int.reduceLT, Int.reduceNeg, Int.reduceToNat, Int.reduceAdd, Int.reduceSub] at hr
            obtain ⟨rfl, rfl⟩ := hr
            refine ⟨vc, ?_⟩
            with_reducible refine thenC_normal ?_
            refine AWP_block ?_
            refine AWP_loopX 2 (fun ((v, v1) : Int × Int) => ⟨116, [(13, .int .i64 y1.1), (14, .own 0 y1.2.1.length), (19, .int .i64 v), (37, .imm 1 [[.func 17 [.intp .i64 n, .immp [.fn 2 a2.length (fun i => [.int .i64 ((a2.getD i (0, 0)).1), .int .i64 ((a2.getD i (0, 0)).2)])]]], [.func 19 [.immp [.int .i64 a3_0, .fn 2 a3_1.length (fun i => [.int .i64 ((a3_1.getD i (0, 0)).1), .int .i64 ((a3_1.getD i (0, 0)).2)])]]], [.func 21 [.intp .i64 n]], [.func 22 [.intp .i64 n, .immp [.ints .i64 a1]]]]), (38, .int .i64 4), (39, .int .i64 0), (83, .own 1 y4.1.length), (84, .int .i64 (y4.1.length : Int)), (85, .int .i64 v1)], [some (.ints 3 .i64 y1.2.1), some (.ints 3 .i64 y4.1)]⟩) (fun (_ : Unit) => ⟨116, [(37, .imm 1 [[.func 17 [.intp .i64 n, .immp [.fn 2 a2.length (fun i => [.int .i64 ((a2.getD i (0, 0)).1), .int .i64 ((a2.getD i (0, 0)).2)])]]], [.func 19 [.immp [.int .i64 a3_0, .fn 2 a3_1.length (fun i => [.int .i64 ((a3_1.getD i (0, 0)).1), .int .i64 ((a3_1.getD i (0, 0)).2)])]]], [.func 21 [.intp .i64 n]], [.func 22 [.intp .i64 n, .immp [.ints .i64 a1]]]]), (38, .int .i64 4), (39, .int .i64 0)], []⟩) Sum.inl (0, 0) [6, 7] hK mkWk ?_ ?_
            · clear hK; rintro ⟨v, v1⟩ b hK hpost1
              try dsimp only at hK
              change AWP _ _ _ _ ⟨116, [(13, .int .i64 y1.1), (14, .own 0 y1.2.1.length), (19, .int .i64 v), (37, .imm 1 [[.func 17 [.intp .i64 n, .immp [.fn 2 a2.length (fun i => [.int .i64 ((a2.getD i (0, 0)).1), .int .i64 ((a2.getD i (0, 0)).2)])]]], [.func 19 [.immp [.int .i64 a3_0, .fn 2 a3_1.length (fun i => [.int .i64 ((a3_1.getD i (0, 0)).1), .int .i64 ((a3_1.getD i (0, 0)).2)])]]], [.func 21 [.intp .i64 n]], [.func 22 [.intp .i64 n, .immp [.ints .i64 a1]]]]), (38, .int .i64 4), (39, .int .i64 0), (83, .own 1 y4.1.length), (84, .int .i64 (y4.1.length : Int)), (85, .int .i64 v1)], [some (.ints 3 .i64 y1.2.1), some (.ints 3 .i64 y4.1)]⟩
              refine AWP_seq ?_
              -- region 17
              refine AWP_rg tab_ok [13, 14, 19, 37, 38, 39, 83, 84, 85, 86] fun c st' hr => ?_
              simp only [go_sem, reduceIte, reduceCtorEq, Nat.reduceEqDiff, Nat.reduceLT, Nat.reduceLeDiff, Nat.reduceBEq, Nat.reduceAdd, Nat.reduceMul, Nat.reduceSub, Nat.reducePow, Int.reduceLE, Int.reduceLT, Int.reduceNeg, Int.reduceToNat, Int.reduceAdd, Int.reduceSub] at hr
              obtain ⟨rfl, rfl⟩ := hr
              refine ⟨vc, ?_⟩
              with_reducible refine thenC_normal ?_
              refine AWP_seq ?_
              refine AWP_condP (v1 < (y4.1.length : Int)) rfl bd (fun hb5 => ?_) (fun hb5 => ?_)
              · replace hK := ite_t hK hb5
                refine AWP_skip ?_
                with_reducible refine thenC_normal ?_
                refine AWP_seq ?_
                refine AWP_block ?_
                refine AWP_seq ?_
                -- region 18
                replace hK := chk_some hK
                obtain ⟨h, hK⟩ := hK
                refine AWP_rg tab_ok [13, 14, 19, 21, 37, 38, 39, 83, 84, 85] fun c st' hr => ?_
                simp only [go_sem, reduceIte, reduceCtorEq, Nat.reduceEqDiff, Nat.reduceLT, Nat.reduceLeDiff, Nat.reduceBEq, Nat.reduceAdd, Nat.reduceMul, Nat.reduceSub, Nat.reducePow, Int.reduceLE, Int.reduceLT, Int.reduceNeg, Int.reduceToNat, Int.reduceAdd, Int.reduceSub] at hr
                obtain ⟨rfl, rfl⟩ := hr
                refine ⟨vc, ?_⟩
                with_reducible refine thenC_normal ?_
                refine AWP_seq ?_
                refine AWP_seq ?_
                -- region 19
                refine AWP_rl ?_
                refine AWPL_rn tab_ok 10 [13, 14, 19, 21, 37, 38, 39, 83, 84, 85, 96, 97, 98] fun c st' hr => ?_
                simp only [go_sem, reduceIte, reduceCtorEq, Nat.reduceEqDiff, Nat.reduceLT, Nat.reduceLeDiff, Nat.reduceBEq, Nat.reduceAdd, Nat.reduceMul, Nat.reduceSub, Nat.reducePow, Int.reduceLE, Int.reduceLT, Int.reduceNeg, Int.reduceToNat, Int.reduceAdd, Int.reduceSub] at hr
                obtain ⟨rfl, rfl⟩ := hr
                refine ⟨vc, ?_⟩
                replace hK := bind_s hK
                obtain ⟨y5, hy, hK⟩ := hK
                refine AWPL_callGP [13, 14, 19, 21, 37, 38, 39, 83, 84, 85, 96, 99] (¬ ((y4.1.getD v1.toNat 0 < 0 ∨ y1.1 ≤ y4.1.getD v1.toNat 0))) (fun hg => (W_rotaref_In (ite_t hy hg))) rfl rfl pcG rfl Tryd.call25 (.cons (.atom _ rfl) (.cons (.atom _ rfl) .nil)) (fun hg => hscG hg) (of_decide_eq_true rfl) (by first | rfl | simp [nI, nI1, nI0]) (by first | rfl | simp [sh, sh1, sh0]) fun st' hr => ?_
                simp only [go_sem, reduceIte, reduceCtorEq, Nat.reduceEqDiff, Nat.reduceLT, Nat.reduceLeDiff, Nat.reduceBEq, Nat.reduceAdd, Nat.reduceMul, Nat.reduceSub, Nat.reducePow, Int.reduceLE, Int.reduceLT, Int.reduceNeg, Int.reduceToNat, Int.reduceAdd, Int.reduceSub] at hr
                subst hr
                clear hy
                replace hK := chk_some hK
                obtain ⟨h1, hK⟩ := hK
                refine AWPL_rn tab_ok 7 [13, 14, 19, 21, 37, 38, 39, 83, 84, 85, 101, 102, 106] fun c st' hr => ?_
                simp only [go_sem, reduceIte, reduceCtorEq, Nat.reduceEqDiff, Nat.reduceLT, Nat.reduceLeDiff, Nat.reduceBEq, Nat.reduceAdd, Nat.reduceMul, Nat.reduceSub, Nat.reducePow, Int.reduceLE, Int.reduceLT, Int.reduceNeg, Int.reduceToNat, Int.reduceAdd, Int.reduceSub] at hr
                obtain ⟨rfl, rfl⟩ := hr
                refine ⟨vc, ?_⟩
                replace hK := bind_s hK
                obtain ⟨y6, hy, hK⟩ := hK
                refine AWPL_callGP [13, 14, 19, 21, 37, 38, 39, 83, 84, 85, 101, 107] (¬ (((y4.1.getD v1.toNat 0 < 0 ∨ y1.1 ≤ y4.1.getD v1.toNat 0) ∨ y5 = true))) (fun hg => (W_slices_Contains_int_int (ite_t hy hg))) rfl rfl pcG rfl Tryd.call26 (.cons (.ownI _ _ _ _ _ y1.2.1 rfl (by simp) (by simp)) (.cons (.atom _ rfl) .nil)) (fun hg => hscG hg) (of_decide_eq_true rfl) (by first | rfl | simp [nI, nI1, nI0]) (by first | rfl | simp [sh, sh1, sh0]) fun st' hr => ?_
                simp only [go_sem, reduceIte, reduceCtorEq, Nat.reduceEqDiff, Nat.reduceLT, Nat.reduceLeDiff, Nat.reduceBEq, Nat.reduceAdd, Nat.reduceMul, Nat.reduceSub, Nat.reducePow, Int.reduceLE, Int.reduceLT, Int.reduceNeg, Int.reduceToNat, Int.reduceAdd, Int.reduceSub] at hr
                subst hr
                clear hy
                refine AWPL_rn tab_ok 2 [13, 14, 19, 21, 37, 38, 39, 83, 84, 85, 109] fun c st' hr => ?_
                simp only [go_sem, reduceIte, reduceCtorEq, Nat.reduceEqDiff, Nat.reduceLT, Nat.reduceLeDiff, Nat.reduceBEq, Nat.reduceAdd, Nat.reduceMul, Nat.reduceSub, Nat.reducePow, Int.reduceLE, Int.reduceLT, Int.reduceNeg, Int.reduceToNat, Int.reduceAdd, Int.reduceSub] at hr
                obtain ⟨rfl, rfl⟩ := hr
                refine ⟨vc, ?_⟩
                refine AWPL_nil ?_
                with_reducible refine thenC_normal ?_
                refine AWP_condP ((((y4.1.getD v1.toNat 0 < 0 ∨ y1.1 ≤ y4.1.getD v1.toNat 0) ∨ y5 = true) ∨ ¬ (y6 = true))) rfl bd (fun hb6 => ?_) (fun hb6 => ?_)
                · replace hK := ite_t hK hb6
                  refine AWP_seq ?_
                  -- region 20
                  refine AWP_rg tab_ok [8] fun c st' hr => ?_
                  simp only [go_sem, reduceIte, reduceCtorEq, Nat.reduceEqDiff, Nat.reduceLT, Nat.reduceLeDiff, Nat.reduceBEq, Nat.reduceAdd, Nat.reduceMul, Nat.reduceSub, Nat.reducePow, Int.reduceLE, Int.reduceLT, Int.reduceNeg, Int.reduceToNat, Int.reduceAdd, Int.reduceSub] at hr
                  obtain ⟨rfl, rfl⟩ := hr
                  refine ⟨vc, ?_⟩
                  with_reducible refine thenC_normal ?_
                  refine AWP_ret ?_
                  with_reducible refine thenC_ret (inBlockA_ret (thenC_ret (again_r (cutX_r (inBlockA_ret (inBlockA_ret (join_r (thenA_r (inBlockA_ret (thenC_ret ?_))))))))))
                  replace hK := hpost1 _ hK
                  try dsimp only at hK
                  cases hK
                  refine EndsRW [] (.inl rfl) (of_decide_eq_true rfl) (by simp) rfl (fun c x hr => ?_) trivial
                  simp only [go_sem, reduceIte, reduceCtorEq, Nat.reduceEqDiff, Nat.reduceLT, Nat.reduceLeDiff, Nat.reduceBEq, Nat.reduceAdd, Nat.reduceMul, Nat.reduceSub, Nat.reducePow, Int.reduceLE, Int.reduceLT, Int.reduceNeg, Int.reduceToNat, Int.reduceAdd, Int.reduceSub] at hr
                  obtain ⟨rfl, rfl⟩ := hr
                  exact ⟨rfl, endR⟩
                · replace hK := ite_f hK hb6
                  refine AWP_skip ?_
                  with_reducible refine thenC_normal ?_
                  -- region 21
                  replace hK := chk_some hK
                  obtain ⟨h2, hK⟩ := hK
                  refine AWP_rg tab_ok [13, 14, 19, 37, 38, 39, 83, 84, 85] fun c st' hr => ?_
                  simp only [go_sem, reduceIte, reduceCtorEq, Nat.reduceEqDiff, Nat.reduceLT, Nat.reduceLeDiff, Nat.reduceBEq, Nat.reduceAdd, Nat.reduceMul, Nat.reduceSub, Nat.reducePow, Int.reduceLE, Int.reduceLT, Int.reduceNeg, Int.reduceToNat, Int.reduceAdd, Int.reduceSub] at hr
                  obtain ⟨rfl, rfl⟩ := hr
                  refine ⟨vc, ?_⟩
                  with_reducible refine inBlockA_normal (thenC_normal ?_)
                  -- region 22
                  refine AWP_facts (by simp) fun hfx => ?_
                  simp only [factS, factV, fact1, fact0, factL0, lo, hi, maxLen, and_true, true_and] at hfx
                  refine AWP_rg tab_ok [13, 14, 19, 37, 38, 39, 83, 84, 85] fun c st' hr => ?_
                  simp only [go_sem, reduceIte, reduceCtorEq, Nat.reduceEqDiff, Nat.reduceLT, Nat.reduceLeDiff, Nat.reduceBEq, Nat.reduceAdd, Nat.reduceMul, Nat.reduceSub, Nat.reducePow, Int.reduceLE, Int.reduceLT, Int.reduceNeg, Int.reduceToNat, Int.reduceAdd, Int.reduceSub] at hr
                  obtain ⟨rfl, rfl⟩ := hr
                  refine ⟨vc, ?_⟩
                  clear hfx
                  refine again_n (ior v (2 ^ (y4.1.getD v1.toNat 0).toNat : Int), v1 + 1) [0, 1] hK mkWk
              · replace hK := ite_f hK hb5
                refine AWP_exit ?_
                with_reducible refine thenC_exit (again_x ?_)
                refine cutX_here () [] (by have hq := hpost1 _ hK; exact hq) mkWk
            · clear hK; rintro _ hK
              try dsimp only at hK
              refine exS ⟨116, [(37, .imm 1 [[.func 17 [.intp .i64 n, .immp [.fn 2 a2.length (fun i => [.int .i64 ((a2.getD i (0, 0)).1), .int .i64 ((a2.getD i (0, 0)).2)])]]], [.func 19 [.immp [.int .i64 a3_0, .fn 2 a3_1.length (fun i => [.int .i64 ((a3_1.getD i (0, 0)).1), .int .i64 ((a3_1.getD i (0, 0)).2)])]]], [.func 21 [.intp .i64 n]], [.func 22 [.intp .i64 n, .immp [.ints .i64 a1]]]]), (38, .int .i64 4), (39, .int .i64 0)], []⟩ rfl ?_
              with_reducible refine inBlockA_exit (inBlockA_normal ?_)
              refine join_n () [] hK mkWk
    · clear hK; intro q hK
      try dsimp only at hK
      change AWP _ _ _ _ ⟨116, [(37, .imm 1 [[.func 17 [.intp .i64 n, .immp [.fn 2 a2.length (fun i => [.int .i64 ((a2.getD i (0, 0)).1), .int .i64 ((a2.getD i (0, 0)).2)])]]], [.func 19 [.immp [.int .i64 a3_0, .fn 2 a3_1.length (fun i => [.int .i64 ((a3_1.getD i (0, 0)).1), .int .i64 ((a3_1.getD i (0, 0)).2)])]]], [.func 21 [.intp .i64 n]], [.func 22 [.intp .i64 n, .immp [.ints .i64 a1]]]]), (38, .int .i64 4), (39, .int .i64 0)], []⟩
      -- region 23
      refine AWP_rg tab_ok [37, 38, 39] fun c st' hr => ?_
      simp only [go_sem, reduceIte, reduceCtorEq, Nat.reduceEqDiff, Nat.reduceLT, Nat.reduceLeDiff, Nat.reduceBEq, Nat.reduceAdd, Nat.reduceMul, Nat.reduceSub, Nat.reducePow, Int.reduceLE, Int.reduceLT, Int.reduceNeg, Int.reduceToNat, Int.reduceAdd, Int.reduceSub] at hr
      obtain ⟨rfl, rfl⟩ := hr
      refine ⟨vc, ?_⟩
      with_reducible refine thenA_n ?_
      refine unr_go ?_
      refine AWP_seq ?_
      -- region 5
      refine AWP_rg tab_ok [37, 38, 39, 40] fun c st' hr => ?_
      simp only [go_sem, reduceIte, reduceCtorEq, Nat.reduceEqDiff, Nat.reduceLT, Nat.reduceLeDiff, Nat.reduceBEq, Nat.reduceAdd, Nat.reduceMul, Nat.reduceSub, Nat.reducePow, Int.reduceLE, Int.reduceLT, Int.reduceNeg, Int.reduceToNat, Int.reduceAdd, Int.reduceSub] at hr
      obtain ⟨rfl, rfl⟩ := hr
      refine ⟨vc, ?_⟩
      with_reducible refine thenC_normal ?_
      refine AWP_seq ?_
      refine AWP_condP (1 < 4) rfl bd (fun hb7 => ?_) (fun hb7 => ?_)
      rotate_left 1
      · exact absurd (by omega) hb7
      clear hb7
      refine AWP_skip ?_
      with_reducible refine thenC_normal ?_
      refine AWP_seqJ (fun _ => ⟨116, [(37, .imm 1 [[.func 17 [.intp .i64 n, .immp [.fn 2 a2.length (fun i => [.int .i64 ((a2.getD i (0, 0)).1), .int .i64 ((a2.getD i (0, 0)).2)])]]], [.func 19 [.immp [.int .i64 a3_0, .fn 2 a3_1.length (fun i => [.int .i64 ((a3_1.getD i (0, 0)).1), .int .i64 ((a3_1.getD i (0, 0)).2)])]]], [.func 21 [.intp .i64 n]], [.func 22 [.intp .i64 n, .immp [.ints .i64 a1]]]]), (38, .int .i64 4), (39, .int .i64 1)], []⟩) hK ?_ ?_
      · clear hK; intro j1 hK; try dsimp only at hK
        refine AWP_block ?_
        refine AWP_seq ?_
        -- region 6
        refine AWP_rg tab_ok [12, 37, 38, 39] fun c st' hr => ?_
        simp only [go_sem, reduceIte, reduceCtorEq, Nat.reduceEqDiff, Nat.reduceLT, Nat.reduceLeDiff, Nat.reduceBEq, Nat.reduceAdd, Nat.reduceMul, Nat.reduceSub, Nat.reducePow, Int.reduceLE, Int.reduceLT, Int.reduceNeg, Int.reduceToNat, Int.reduceAdd, Int.reduceSub] at hr
        obtain ⟨rfl, rfl⟩ := hr
        refine ⟨vc, ?_⟩
        with_reducible refine thenC_normal ?_
        refine AWP_seq ?_
        -- region 7
        refine AWP_rl ?_
        refine AWPL_rn tab_ok 1 [37, 38, 39, 44] fun c st' hr => ?_
        simp only [go_sem, reduceIte, reduceCtorEq, Nat.reduceEqDiff, Nat.reduceLT, Nat.reduceLeDiff, Nat.reduceBEq, Nat.reduceAdd, Nat.reduceMul, Nat.reduceSub, Nat.reducePow, Int.reduceLE, Int.reduceLT, Int.reduceNeg, Int.reduceToNat, Int.reduceAdd, Int.reduceSub] at hr
        obtain ⟨rfl, rfl⟩ := hr
        refine ⟨vc, ?_⟩
        replace hK := bind_s hK
        obtain ⟨y7, hy, hK⟩ := hK
        refine AWPL_callK [37, 38, 39, 45] (W_rotakeep_ConvexOrders_2 hy) rfl rfl pcT rfl Tryd.call19 (.cons (.atom _ rfl) .nil) (hscG trivial) (of_decide_eq_true rfl) (by first | rfl | simp [nI, nI1, nI0]) (by first | rfl | simp [nIB, nI0]) fun st' hr => ?_
        simp only [go_sem, reduceIte, reduceCtorEq, Nat.reduceEqDiff, Nat.reduceLT, Nat.reduceLeDiff, Nat.reduceBEq, Nat.reduceAdd, Nat.reduceMul, Nat.reduceSub, Nat.reducePow, Int.reduceLE, Int.reduceLT, Int.reduceNeg, Int.reduceToNat, Int.reduceAdd, Int.reduceSub] at hr
        subst hr
        clear hy
        refine AWPL_rn tab_ok 7 [13, 14, 15, 37, 38, 39] fun c st' hr => ?_
        simp only [go_sem, reduceIte, reduceCtorEq, Nat.reduceEqDiff, Nat.reduceLT, Nat.reduceLeDiff, Nat.reduceBEq, Nat.reduceAdd, Nat.reduceMul, Nat.reduceSub, Nat.reducePow, Int.reduceLE, Int.reduceLT, Int.reduceNeg, Int.reduceToNat, Int.reduceAdd, Int.reduceSub] at hr
        obtain ⟨rfl, rfl⟩ := hr
        refine ⟨vc, ?_⟩
        refine AWPL_nil ?_
        with_reducible refine thenC_normal ?_
        refine AWP_seq ?_
        refine AWP_seq ?_
        -- region 8
        refine AWP_rg tab_ok [13, 14, 37, 38, 39, 50] fun c st' hr => ?_
        simp only [go_sem, reduceIte, reduceCtorEq, Nat.reduceEqDiff, Nat.reduceLT, Nat.reduceLeDiff, Nat.reduceBEq, Nat.reduceAdd, Nat.reduceMul, Nat.reduceSub, Nat.reducePow, Int.reduceLE, Int.reduceLT, Int.reduceNeg, Int.reduceToNat, Int.reduceAdd, Int.reduceSub] at hr
        obtain ⟨rfl, rfl⟩ := hr
        refine ⟨vc, ?_⟩
        with_reducible refine thenC_normal ?_
        refine AWP_condP (y7.2.2 ≠ 0) rfl bd (fun hb8 => ?_) (fun hb8 => ?_)
        · replace hK := ite_t hK hb8
          refine AWP_exit ?_
          with_reducible refine thenC_exit (inBlockA_exit ?_)
          refine join_n () [] hK mkWk
        · replace hK := ite_f hK hb8
          refine AWP_skip ?_
          with_reducible refine thenC_normal ?_
          refine AWP_seq ?_
          refine AWP_seq ?_
          -- region 9
          refine AWP_rl ?_
          refine AWPL_rn tab_ok 2 [13, 14, 37, 38, 39, 51, 52] fun c st' hr => ?_
          simp only [go_sem, reduceIte, reduceCtorEq, Nat.reduceEqDiff, Nat.reduceLT, Nat.reduceLeDiff, Nat.reduceBEq, Nat.reduceAdd, Nat.reduceMul, Nat.reduceSub, Nat.reducePow, Int.reduceLE, Int.reduceLT, Int.reduceNeg, Int.reduceToNat, Int.reduceAdd, Int.reduceSub] at hr
          obtain ⟨rfl, rfl⟩ := hr
          refine ⟨vc, ?_⟩
          replace hK := bind_s hK
          obtain ⟨y8, hy, hK⟩ := hK
          refine AWPL_callK [13, 14, 37, 38, 39, 53] (W_convex_Check hy) rfl rfl pcT rfl Tryd.call23 (.cons (.atom _ rfl) (.cons (.ownI _ _ _ _ _ y7.2.1 rfl (by simp) (by simp)) .nil)) (hscG trivial) (of_decide_eq_true rfl) (by first | rfl | simp [nI, nI1, nI0]) (by first | rfl | simp [nIB, nI0]) fun st' hr => ?_
          simp only [go_sem, reduceIte, reduceCtorEq, Nat.reduceEqDiff, Nat.reduceLT, Nat.reduceLeDiff, Nat.reduceBEq, Nat.reduceAdd, Nat.reduceMul, Nat.reduceSub, Nat.reducePow, Int.reduceLE, Int.reduceLT, Int.reduceNeg, Int.reduceToNat, Int.reduceAdd, Int.reduceSub] at hr
          subst hr
          clear hy
          refine AWPL_rn tab_ok 1 [13, 14, 37, 38, 39, 54] fun c st' hr => ?_
          simp only [go_sem, reduceIte, reduceCtorEq, Nat.reduceEqDiff, Nat.reduceLT, Nat.reduceLeDiff, Nat.reduceBEq, Nat.reduceAdd, Nat.reduceMul, Nat.reduceSub, Nat.reducePow, Int.reduceLE, Int.reduceLT, Int.reduceNeg, Int.reduceToNat, Int.reduceAdd, Int.reduceSub] at hr
          obtain ⟨rfl, rfl⟩ := hr
          refine ⟨vc, ?_⟩
          refine AWPL_nil ?_
          with_reducible refine thenC_normal ?_
          refine AWP_condP (y8 ≠ 0) rfl bd (fun hb9 => ?_) (fun hb9 => ?_)
          · replace hK := ite_t hK hb9
            refine AWP_seq ?_
            -- region 10
            refine AWP_rg tab_ok [8] fun c st' hr => ?_
            simp only [go_sem, reduceIte, reduceCtorEq, Nat.reduceEqDiff, Nat.reduceLT, Nat.reduceLeDiff, Nat.reduceBEq, Nat.reduceAdd, Nat.reduceMul, Nat.reduceSub, Nat.reducePow, Int.reduceLE, Int.reduceLT, Int.reduceNeg, Int.reduceToNat, Int.reduceAdd, Int.reduceSub] at hr
            obtain ⟨rfl, rfl⟩ := hr
            refine ⟨vc, ?_⟩
            with_reducible refine thenC_normal ?_
            refine AWP_ret ?_
            with_reducible refine thenC_ret (inBlockA_ret (join_r (thenA_r (inBlockA_ret (thenC_ret ?_)))))
            cases hK
            refine EndsRW [] (.inl rfl) (of_decide_eq_true rfl) (by simp) rfl (fun c x hr => ?_) trivial
            simp only [go_sem, reduceIte, reduceCtorEq, Nat.reduceEqDiff, Nat.reduceLT, Nat.reduceLeDiff, Nat.reduceBEq, Nat.reduceAdd, Nat.reduceMul, Nat.reduceSub, Nat.reducePow, Int.reduceLE, Int.reduceLT, Int.reduceNeg, Int.reduceToNat, Int.reduceAdd, Int.reduceSub] at hr
            obtain ⟨rfl, rfl⟩ := hr
            exact ⟨rfl, endR⟩
          · replace hK := ite_f hK hb9
            refine AWP_skip ?_
            with_reducible refine thenC_normal ?_
            refine AWP_seq ?_
            -- region 11
            refine AWP_rl ?_
            refine AWPL_rn tab_ok 2 [13, 14, 37, 38, 39, 56, 57] fun c st' hr => ?_
            simp only [go_sem, reduceIte, reduceCtorEq, Nat.reduceEqDiff, Nat.reduceLT, Nat.reduceLeDiff, Nat.reduceBEq, Nat.reduceAdd, Nat.reduceMul, Nat.reduceSub, Nat.reducePow, Int.reduceLE, Int.reduceLT, Int.reduceNeg, Int.reduceToNat, Int.reduceAdd, Int.reduceSub] at hr
            obtain ⟨rfl, rfl⟩ := hr
            refine ⟨vc, ?_⟩
            replace hK := bind_s hK
            obtain ⟨y9, hy, hK⟩ := hK
            refine AWPL_callK [13, 14, 37, 38, 39, 58] (W_convex_Orders hy) rfl rfl pcT rfl Tryd.call14 (.cons (.atom _ rfl) (.cons (.ownI _ _ _ _ _ y7.2.1 rfl (by simp) (by simp)) .nil)) (hscG trivial) (of_decide_eq_true rfl) (by first | rfl | simp [nI, nI1, nI0]) (by first | rfl | simp [nIB, nI0]) fun st' hr => ?_
            simp only [go_sem, reduceIte, reduceCtorEq, Nat.reduceEqDiff, Nat.reduceLT, Nat.reduceLeDiff, Nat.reduceBEq, Nat.reduceAdd, Nat.reduceMul, Nat.reduceSub, Nat.reducePow, Int.reduceLE, Int.reduceLT, Int.reduceNeg, Int.reduceToNat, Int.reduceAdd, Int.reduceSub] at hr
            subst hr
            clear hy
            refine AWPL_rn tab_ok 5 [13, 14, 15, 16, 37, 38, 39] fun c st' hr => ?_
            simp only [go_sem, reduceIte, reduceCtorEq, Nat.reduceEqDiff, Nat.reduceLT, Nat.reduceLeDiff, Nat.reduceBEq, Nat.reduceAdd, Nat.reduceMul, Nat.reduceSub, Nat.reducePow, Int.reduceLE, Int.reduceLT, Int.reduceNeg, Int.reduceToNat, Int.reduceAdd, Int.reduceSub] at hr
            obtain ⟨rfl, rfl⟩ := hr
            refine ⟨vc, ?_⟩
            refine AWPL_nil ?_
            with_reducible refine thenC_normal ?_
            refine AWP_seq ?_
            -- region 12
            refine AWP_rl ?_
            refine AWPL_rn tab_ok 2 [13, 14, 15, 16, 37, 38, 39, 62, 63] fun c st' hr => ?_
            simp only [go_sem, reduceIte, reduceCtorEq, Nat.reduceEqDiff, Nat.reduceLT, Nat.reduceLeDiff, Nat.reduceBEq, Nat.reduceAdd, Nat.reduceMul, Nat.reduceSub, Nat.reducePow, Int.reduceLE, Int.reduceLT, Int.reduceNeg, Int.reduceToNat, Int.reduceAdd, Int.reduceSub] at hr
            obtain ⟨rfl, rfl⟩ := hr
            refine ⟨vc, ?_⟩
            replace hK := bind_s hK
            obtain ⟨y10, hy, hK⟩ := hK
            refine AWPL_callK [13, 14, 15, 16, 37, 38, 39, 64] (W_convex_First hy) rfl rfl pcT rfl Tryd.call24 (.cons (.atom _ rfl) (.cons (.ownI _ _ _ _ _ y7.2.1 rfl (by simp) (by simp)) .nil)) (hscG trivial) (of_decide_eq_true rfl) (by first | rfl | simp [nI, nI1, nI0]) (by first | rfl | simp [nIB, nI0]) fun st' hr => ?_
            simp only [go_sem, reduceIte, reduceCtorEq, Nat.reduceEqDiff, Nat.reduceLT, Nat.reduceLeDiff, Nat.reduceBEq, Nat.reduceAdd, Nat.reduceMul, Nat.reduceSub, Nat.reducePow, Int.reduceLE, Int.reduceLT, Int.reduceNeg, Int.reduceToNat, Int.reduceAdd, Int.reduceSub] at hr
            subst hr
            clear hy
            refine AWPL_rn tab_ok 5 [13, 14, 15, 16, 17, 18, 37, 38, 39] fun c st' hr => ?_
            simp only [go_sem, reduceIte, reduceCtorEq, Nat.reduceEqDiff, Nat.reduceLT, Nat.reduceLeDiff, Nat.reduceBEq, Nat.reduceAdd, Nat.reduceMul, Nat.reduceSub, Nat.reducePow, Int.reduceLE, Int.reduceLT, Int.reduceNeg, Int.reduceToNat, Int.reduceAdd, Int.reduceSub] at hr
            obtain ⟨rfl, rfl⟩ := hr
            refine ⟨vc, ?_⟩
            refine AWPL_nil ?_
            with_reducible refine thenC_normal ?_
            refine AWP_seq ?_
            refine AWP_seq ?_
            -- region 13
            refine AWP_rg tab_ok [13, 14, 17, 37, 38, 39, 82] fun c st' hr => ?_
            simp only [go_sem, reduceIte, reduceCtorEq, Nat.reduceEqDiff, Nat.reduceLT, Nat.reduceLeDiff, Nat.reduceBEq, Nat.reduceAdd, Nat.reduceMul, Nat.reduceSub, Nat.reducePow, Int.reduceLE, Int.reduceLT, Int.reduceNeg, Int.reduceToNat, Int.reduceAdd, Int.reduceSub] at hr
            obtain ⟨rfl, rfl⟩ := hr
            refine ⟨vc, ?_⟩
            with_reducible refine thenC_normal ?_
            refine AWP_condP ((((y9.2 ≠ 0 ∨ y10.2 ≠ 0) ∨ y9.1 < 1) ∨ (y10.1.length : Int) ≠ y7.1)) rfl bd (fun hb10 => ?_) (fun hb10 => ?_)
            · replace hK := ite_t hK hb10
              refine AWP_seq ?_
              -- region 14
              refine AWP_rg tab_ok [8] fun c st' hr => ?_
              simp only [go_sem, reduceIte, reduceCtorEq, Nat.reduceEqDiff, Nat.reduceLT, Nat.reduceLeDiff, Nat.reduceBEq, Nat.reduceAdd, Nat.reduceMul, Nat.reduceSub, Nat.reducePow, Int.reduceLE, Int.reduceLT, Int.reduceNeg, Int.reduceToNat, Int.reduceAdd, Int.reduceSub] at hr
              obtain ⟨rfl, rfl⟩ := hr
              refine ⟨vc, ?_⟩
              with_reducible refine thenC_normal ?_
              refine AWP_ret ?_
              with_reducible refine thenC_ret (inBlockA_ret (join_r (thenA_r (inBlockA_ret (thenC_ret ?_)))))
              cases hK
              refine EndsRW [] (.inl rfl) (of_decide_eq_true rfl) (by simp) rfl (fun c x hr => ?_) trivial
              simp only [go_sem, reduceIte, reduceCtorEq, Nat.reduceEqDiff, Nat.reduceLT, Nat.reduceLeDiff, Nat.reduceBEq, Nat.reduceAdd, Nat.reduceMul, Nat.reduceSub, Nat.reducePow, Int.reduceLE, Int.reduceLT, Int.reduceNeg, Int.reduceToNat, Int.reduceAdd, Int.reduceSub] at hr
              obtain ⟨rfl, rfl⟩ := hr
              exact ⟨rfl, endR⟩
            · replace hK := ite_f hK hb10
              refine AWP_skip ?_
              with_reducible refine thenC_normal ?_
              refine AWP_seq ?_
              -- region 15
              refine AWP_rg tab_ok [13, 14, 17, 19, 37, 38, 39] fun c st' hr => ?_
              simp only [go_sem, reduceIte, reduceCtorEq, Nat.reduceEqDiff, Nat.reduceLT, Nat.reduceLeDiff, Nat.reduceBEq, Nat.reduceAdd, Nat.reduceMul, Nat.reduceSub, Nat.reducePow, Int.reduceLE, Int.reduceLT, Int.reduceNeg, Int.reduceToNat, Int.reduceAdd, Int.reduceSub] at hr
              obtain ⟨rfl, rfl⟩ := hr
              refine ⟨vc, ?_⟩
              with_reducible refine thenC_normal ?_
              refine AWP_seq ?_
              -- region 16
              refine AWP_rg tab_ok [13, 14, 19, 37, 38, 39, 83, 84, 85] fun c st' hr => ?_
              simp only [go_sem, reduceIte, reduceCtorEq, Nat.reduceEqDiff, Nat.reduceLT, Nat.reduceLeDiff, Nat.reduceBEq, Nat.reduceAdd, Nat.reduceMul, Nat.reduceSub, Nat.reducePow, Int.reduceLE, Int.reduceLT, Int.reduceNeg, Int.reduceToNat, Int.reduceAdd, Int.reduceSub] at hr
              obtain ⟨rfl, rfl⟩ := hr
              refine ⟨vc, ?_⟩
              with_reducible refine thenC_normal ?_
              refine AWP_block ?_
              refine AWP_loopX 2 (fun ((v2, v3) : Int × Int) => ⟨116, [(13, .int .i64 y7.1), (14, .own 0 y7.2.1.length), (19, .int .i64 v2), (37, .imm 1 [[.func 17 [.intp .i64 n, .immp [.fn 2 a2.length (fun i => [.int .i64 ((a2.getD i (0, 0)).1), .int .i64 ((a2.getD i (0, 0)).2)])]]], [.func 19 [.immp [.int .i64 a3_0, .fn 2 a3_1.length (fun i => [.int .i64 ((a3_1.getD i (0, 0)).1), .int .i64 ((a3_1.getD i (0, 0)).2)])]]], [.func 21 [.intp .i64 n]], [.func 22 [.intp .i64 n, .immp [.ints .i64 a1]]]]), (38, .int .i64 4), (39, .int .i64 1), (83, .own 1 y10.1.length), (84, .int .i64 (y10.1.length : Int)), (85, .int .i64 v3)], [some (.ints 3 .i64 y7.2.1), some (.ints 3 .i64 y10.1)]⟩) (fun (_ : Unit) => ⟨116, [(37, .imm 1 [[.func 17 [.intp .i64 n, .immp [.fn 2 a2.length (fun i => [.int .i64 ((a2.getD i (0, 0)).1), .int .i64 ((a2.getD i (0, 0)).2)])]]], [.func 19 [.immp [.int .i64 a3_0, .fn 2 a3_1.length (fun i => [.int .i64 ((a3_1.getD i (0, 0)).1), .int .i64 ((a3_1.getD i (0, 0)).2)])]]], [.func 21 [.intp .i64 n]], [.func 22 [.intp .i64 n, .immp [.ints .i64 a1]]]]), (38, .int .i64 4), (39, .int .i64 1)], []⟩) Sum.inl (0, 0) [0, 1] hK mkWk ?_ ?_
              · clear hK; rintro ⟨v2, v3⟩ b1 hK hpost1
                try dsimp only at hK
                change AWP _ _ _ _ ⟨116, [(13, .int .i64 y7.1), (14, .own 0 y7.2.1.length), (19, .int .i64 v2), (37, .imm 1 [[.func 17 [.intp .i64 n, .immp [.fn 2 a2.length (fun i => [.int .i64 ((a2.getD i (0, 0)).1), .int .i64 ((a2.getD i (0, 0)).2)])]]], [.func 19 [.immp [.int .i64 a3_0, .fn 2 a3_1.length (fun i => [.int .i64 ((a3_1.getD i (0, 0)).1), .int .i64 ((a3_1.getD i (0, 0)).2)])]]], [.func 21 [.intp .i64 n]], [.func 22 [.intp .i64 n, .immp [.ints .i64 a1]]]]), (38, .int .i64 4), (39, .int .i64 1), (83, .own 1 y10.1.length), (84, .int .i64 (y10.1.length : Int)), (85, .int .i64 v3)], [some (.ints 3 .i64 y7.2.1), some (.ints 3 .i64 y10.1)]⟩
                refine AWP_seq ?_
                -- region 17
                refine AWP_rg tab_ok [13, 14, 19, 37, 38, 39, 83, 84, 85, 86] fun c st' hr => ?_
                simp only [go_sem, reduceIte, reduceCtorEq, Nat.reduceEqDiff, Nat.reduceLT, Nat.reduceLeDiff, Nat.reduceBEq, Nat.reduceAdd, Nat.reduceMul, Nat.reduceSub, Nat.reducePow, Int.reduceLE, Int.reduceLT, Int.reduceNeg, Int.reduceToNat, Int.reduceAdd, Int.reduceSub] at hr
                obtain ⟨rfl, rfl⟩ := hr
                refine ⟨vc, ?_⟩
                with_reducible refine thenC_normal ?_
                refine AWP_seq ?_
                refine AWP_condP (v3 < (y10.1.length : Int)) rfl bd (fun hb11 => ?_) (fun hb11 => ?_)
                · replace hK := ite_t hK hb11
                  refine AWP_skip ?_
                  with_reducible refine thenC_normal ?_
                  refine AWP_seq ?_
                  refine AWP_block ?_
                  refine AWP_seq ?_
                  -- region 18
                  replace hK := chk_some hK
                  obtain ⟨h3, hK⟩ := hK
                  refine AWP_rg tab_ok [13, 14, 19, 21, 37, 38, 39, 83, 84, 85] fun c st' hr => ?_
                  simp only [go_sem, reduceIte, reduceCtorEq, Nat.reduceEqDiff, Nat.reduceLT, Nat.reduceLeDiff, Nat.reduceBEq, Nat.reduceAdd, Nat.reduceMul, Nat.reduceSub, Nat.reducePow, Int.reduceLE, Int.reduceLT, Int.reduceNeg, Int.reduceToNat, Int.reduceAdd, Int.reduceSub] at hr
                  obtain ⟨rfl, rfl⟩ := hr
                  refine ⟨vc, ?_⟩
                  with_reducible refine thenC_normal ?_
                  refine AWP_seq ?_
                  refine AWP_seq ?_
                  -- region 19
                  refine AWP_rl ?_
                  refine AWPL_rn tab_ok 10 [13, 14, 19, 21, 37, 38, 39, 83, 84, 85, 96, 97, 98] fun c st' hr => ?_
                  simp only [go_sem, reduceIte, reduceCtorEq, Nat.reduceEqDiff, Nat.reduceLT, Nat.reduceLeDiff, Nat.reduceBEq, Nat.reduceAdd, Nat.reduceMul, Nat.reduceSub, Nat.reducePow, Int.reduceLE, Int.reduceLT, Int.reduceNeg, Int.reduceToNat, Int.reduceAdd, Int.reduceSub] at hr
                  obtain ⟨rfl, rfl⟩ := hr
                  refine ⟨vc, ?_⟩
                  replace hK := bind_s hK
                  obtain ⟨y11, hy, hK⟩ := hK
                  refine AWPL_callGP [13, 14, 19, 21, 37, 38, 39, 83, 84, 85, 96, 99] (¬ ((y10.1.getD v3.toNat 0 < 0 ∨ y7.1 ≤ y10.1.getD v3.toNat 0))) (fun hg => (W_rotaref_In (ite_t hy hg))) rfl rfl pcG rfl Tryd.call25 (.cons (.atom _ rfl) (.cons (.atom _ rfl) .nil)) (fun hg => hscG hg) (of_decide_eq_true rfl) (by first | rfl | simp [nI, nI1, nI0]) (by first | rfl | simp [sh, sh1, sh0]) fun st' hr => ?_
                  simp only [go_sem, reduceIte, reduceCtorEq, Nat.reduceEqDiff, Nat.reduceLT, Nat.reduceLeDiff, Nat.reduceBEq, Nat.reduceAdd, Nat.reduceMul, Nat.reduceSub, Nat.reducePow, Int.reduceLE, Int.reduceLT, Int.reduceNeg, Int.reduceToNat, Int.reduceAdd, Int.reduceSub] at hr
                  subst hr
                  clear hy
                  replace hK := chk_some hK
                  obtain ⟨h4, hK⟩ := hK
                  refine AWPL_rn tab_ok 7 [13, 14, 19, 21, 37, 38, 39, 83, 84, 85, 101, 102, 106] fun c st' hr => ?_
                  simp only [go_sem, reduceIte, reduceCtorEq, Nat.reduceEqDiff, Nat.reduceLT, Nat.reduceLeDiff, Nat.reduceBEq, Nat.reduceAdd, Nat.reduceMul, Nat.reduceSub, Nat.reducePow, Int.reduceLE, Int.reduceLT, Int.reduceNeg, Int.reduceToNat, Int.reduceAdd, Int.reduceSub] at hr
                  obtain ⟨rfl, rfl⟩ := hr
                  refine ⟨vc, ?_⟩
                  replace hK := bind_s hK
                  obtain ⟨y12, hy, hK⟩ := hK
                  refine AWPL_callGP [13, 14, 19, 21, 37, 38, 39, 83, 84, 85, 101, 107] (¬ (((y10.1.getD v3.toNat 0 < 0 ∨ y7.1 ≤ y10.1.getD v3.toNat 0) ∨ y11 = true))) (fun hg => (W_slices_Contains_int_int (ite_t hy hg))) rfl rfl pcG rfl Tryd.call26 (.cons (.ownI _ _ _ _ _ y7.2.1 rfl (by simp) (by simp)) (.cons (.atom _ rfl) .nil)) (fun hg => hscG hg) (of_decide_eq_true rfl) (by first | rfl | simp [nI, nI1, nI0]) (by first | rfl | simp [sh, sh1, sh0]) fun st' hr => ?_
                  simp only [go_sem, reduceIte, reduceCtorEq, Nat.reduceEqDiff, Nat.reduceLT, Nat.reduceLeDiff, Nat.reduceBEq, Nat.reduceAdd, Nat.reduceMul, Nat.reduceSub, Nat.reducePow, Int.reduceLE, Int.reduceLT, Int.reduceNeg, Int.reduceToNat, Int.reduceAdd, Int.reduceSub] at hr
                  subst hr
                  clear hy
                  refine AWPL_rn tab_ok 2 [13, 14, 19, 21, 37, 38, 39, 83, 84, 85, 109] fun c st' hr => ?_
                  simp only [go_sem, reduceIte, reduceCtorEq, Nat.reduceEqDiff, Nat.reduceLT, Nat.reduceLeDiff, Nat.reduceBEq, Nat.reduceAdd, Nat.reduceMul, Nat.reduceSub, Nat.reducePow, Int.reduceLE, Int.reduceLT, Int.reduceNeg, Int.reduceToNat, Int.reduceAdd, Int.reduceSub] at hr
                  obtain ⟨rfl, rfl⟩ := hr
                  refine ⟨vc, ?_⟩
                  refine AWPL_nil ?_
                  with_reducible refine thenC_normal ?_
                  refine AWP_condP ((((y10.1.getD v3.toNat 0 < 0 ∨ y7.1 ≤ y10.1.getD v3.toNat 0) ∨ y11 = true) ∨ ¬ (y12 = true))) rfl bd (fun hb12 => ?_) (fun hb12 => ?_)
                  · replace hK := ite_t hK hb12
                    refine AWP_seq ?_
                    -- region 20
                    refine AWP_rg tab_ok [8] fun c st' hr => ?_
                    simp only [go_sem, reduceIte, reduceCtorEq, Nat.reduceEqDiff, Nat.reduceLT, Nat.reduceLeDiff, Nat.reduceBEq, Nat.reduceAdd, Nat.reduceMul, Nat.reduceSub, Nat.reducePow, Int.reduceLE, Int.reduceLT, Int.reduceNeg, Int.reduceToNat, Int.reduceAdd, Int.reduceSub] at hr
                    obtain ⟨rfl, rfl⟩ := hr
                    refine ⟨vc, ?_⟩
                    with_reducible refine thenC_normal ?_
                    refine AWP_ret ?_
                    with_reducible refine thenC_ret (inBlockA_ret (thenC_ret (again_r (cutX_r (inBlockA_ret (inBlockA_ret (join_r (thenA_r (inBlockA_ret (thenC_ret ?_))))))))))
                    replace hK := hpost1 _ hK
                    try dsimp only at hK
                    cases hK
                    refine EndsRW [] (.inl rfl) (of_decide_eq_true rfl) (by simp) rfl (fun c x hr => ?_) trivial
                    simp only [go_sem, reduceIte, reduceCtorEq, Nat.reduceEqDiff, Nat.reduceLT, Nat.reduceLeDiff, Nat.reduceBEq, Nat.reduceAdd, Nat.reduceMul, Nat.reduceSub, Nat.reducePow, Int.reduceLE, Int.reduceLT, Int.reduceNeg, Int.reduceToNat, Int.reduceAdd, Int.reduceSub] at hr
                    obtain ⟨rfl, rfl⟩ := hr
                    exact ⟨rfl, endR⟩
                  · replace hK := ite_f hK hb12
                    refine AWP_skip ?_
                    with_reducible refine thenC_normal ?_
                    -- region 21
                    replace hK := chk_some hK
                    obtain ⟨h5, hK⟩ := hK
                    refine AWP_rg tab_ok [13, 14, 19, 37, 38, 39, 83, 84, 85] fun c st' hr => ?_
                    simp only [go_sem, reduceIte, reduceCtorEq, Nat.reduceEqDiff, Nat.reduceLT, Nat.reduceLeDiff, Nat.reduceBEq, Nat.reduceAdd, Nat.reduceMul, Nat.reduceSub, Nat.reducePow, Int.reduceLE, Int.reduceLT, Int.reduceNeg, Int.reduceToNat, Int.reduceAdd, Int.reduceSub] at hr
                    obtain ⟨rfl, rfl⟩ := hr
                    refine ⟨vc, ?_⟩
                    with_reducible refine inBlockA_normal (thenC_normal ?_)
                    -- region 22
                    refine AWP_facts (by simp) fun hfx => ?_
                    simp only [factS, factV, fact1, fact0, factL0, lo, hi, maxLen, and_true, true_and] at hfx
                    refine AWP_rg tab_ok [13, 14, 19, 37, 38, 39, 83, 84, 85] fun c st' hr => ?_
                    simp only [go_sem, reduceIte, reduceCtorEq, Nat.reduceEqDiff, Nat.reduceLT, Nat.reduceLeDiff, Nat.reduceBEq, Nat.reduceAdd, Nat.reduceMul, Nat.reduceSub, Nat.reducePow, Int.reduceLE, Int.reduceLT, Int.reduceNeg, Int.reduceToNat, Int.reduceAdd, Int.reduceSub] at hr
                    obtain ⟨rfl, rfl⟩ := hr
                    refine ⟨vc, ?_⟩
                    clear hfx
                    refine again_n (ior v2 (2 ^ (y10.1.getD v3.toNat 0).toNat : Int), v3 + 1) [0, 1] hK mkWk
                · replace hK := ite_f hK hb11
                  refine AWP_exit ?_
                  with_reducible refine thenC_exit (again_x ?_)
                  refine cutX_here () [] (by have hq := hpost1 _ hK; exact hq) mkWk
              · clear hK; rintro _ hK
                try dsimp only at hK
                refine exS ⟨116, [(37, .imm 1 [[.func 17 [.intp .i64 n, .immp [.fn 2 a2.length (fun i => [.int .i64 ((a2.getD i (0, 0)).1), .int .i64 ((a2.getD i (0, 0)).2)])]]], [.func 19 [.immp [.int .i64 a3_0, .fn 2 a3_1.length (fun i => [.int .i64 ((a3_1.getD i (0, 0)).1), .int .i64 ((a3_1.getD i (0, 0)).2)])]]], [.func 21 [.intp .i64 n]], [.func 22 [.intp .i64 n, .immp [.ints .i64 a1]]]]), (38, .int .i64 4), (39, .int .i64 1)], []⟩ rfl ?_
                with_reducible refine inBlockA_exit (inBlockA_normal ?_)
                refine join_n () [] hK mkWk
      · clear hK; intro q hK
        try dsimp only at hK
        change AWP _ _ _ _ ⟨116, [(37, .imm 1 [[.func 17 [.intp .i64 n, .immp [.fn 2 a2.length (fun i => [.int .i64 ((a2.getD i (0, 0)).1), .int .i64 ((a2.getD i (0, 0)).2)])]]], [.func 19 [.immp [.int .i64 a3_0, .fn 2 a3_1.length (fun i => [.int .i64 ((a3_1.getD i (0, 0)).1), .int .i64 ((a3_1.getD i (0, 0)).2)])]]], [.func 21 [.intp .i64 n]], [.func 22 [.intp .i64 n, .immp [.ints .i64 a1]]]]), (38, .int .i64 4), (39, .int .i64 1)], []⟩
        -- region 23
        refine AWP_rg tab_ok [37, 38, 39] fun c st' hr => ?_
        simp only [go_sem, reduceIte, reduceCtorEq, Nat.reduceEqDiff, Nat.reduceLT, Nat.reduceLeDiff, Nat.reduceBEq, Nat.reduceAdd, Nat.reduceMul, Nat.reduceSub, Nat.reducePow, Int.reduceLE, Int.reduceLT, Int.reduceNeg, Int.reduceToNat, Int.reduceAdd, Int.reduceSub] at hr
        obtain ⟨rfl, rfl⟩ := hr
        refine ⟨vc, ?_⟩
        with_reducible refine thenA_n ?_
        refine unr_go ?_
        refine AWP_seq ?_
        -- region 5
        refine AWP_rg tab_ok [37, 38, 39, 40] fun c st' hr => ?_
        simp only [go_sem, reduceIte, reduceCtorEq, Nat.reduceEqDiff, Nat.reduceLT, Nat.reduceLeDiff, Nat.reduceBEq, Nat.reduceAdd, Nat.reduceMul, Nat.reduceSub, Nat.reducePow, Int.reduceLE, Int.reduceLT, Int.reduceNeg, Int.reduceToNat, Int.reduceAdd, Int.reduceSub] at hr
        obtain ⟨rfl, rfl⟩ := hr
        refine ⟨vc, ?_⟩
        with_reducible refine thenC_normal ?_
        refine AWP_seq ?_
        refine AWP_condP (2 < 4) rfl bd (fun hb13 => ?_) (fun hb13 => ?_)
        rotate_left 1
        · exact absurd (by omega) hb13
        clear hb13
        refine AWP_skip ?_
        with_reducible refine thenC_normal ?_
        refine AWP_seqJ (fun _ => ⟨116, [(37, .imm 1 [[.func 17 [.intp .i64 n, .immp [.fn 2 a2.length (fun i => [.int .i64 ((a2.getD i (0, 0)).1), .int .i64 ((a2.getD i (0, 0)).2)])]]], [.func 19 [.immp [.int .i64 a3_0, .fn 2 a3_1.length (fun i => [.int .i64 ((a3_1.getD i (0, 0)).1), .int .i64 ((a3_1.getD i (0, 0)).2)])]]], [.func 21 [.intp .i64 n]], [.func 22 [.intp .i64 n, .immp [.ints .i64 a1]]]]), (38, .int .i64 4), (39, .int .i64 2)], []⟩) hK ?_ ?_
        · clear hK; intro j2 hK; try dsimp only at hK
          refine AWP_block ?_
          refine AWP_seq ?_
          -- region 6
          refine AWP_rg tab_ok [12, 37, 38, 39] fun c st' hr => ?_
          simp only [go_sem, reduceIte, reduceCtorEq, Nat.reduceEqDiff, Nat.reduceLT, Nat.reduceLeDiff, Nat.reduceBEq, Nat.reduceAdd, Nat.reduceMul, Nat.reduceSub, Nat.reducePow, Int.reduceLE, Int.reduceLT, Int.reduceNeg, Int.reduceToNat, Int.reduceAdd, Int.reduceSub] at hr
          obtain ⟨rfl, rfl⟩ := hr
          refine ⟨vc, ?_⟩
          with_reducible refine thenC_normal ?_
          refine AWP_seq ?_
          -- region 7
          refine AWP_rl ?_
          refine AWPL_rn tab_ok 1 [37, 38, 39, 44] fun c st' hr => ?_
          simp only [go_sem, reduceIte, reduceCtorEq, Nat.reduceEqDiff, Nat.reduceLT, Nat.reduceLeDiff, Nat.reduceBEq, Nat.reduceAdd, Nat.reduceMul, Nat.reduceSub, Nat.reducePow, Int.reduceLE, Int.reduceLT, Int.reduceNeg, Int.reduceToNat, Int.reduceAdd, Int.reduceSub] at hr
          obtain ⟨rfl, rfl⟩ := hr
          refine ⟨vc, ?_⟩
          replace hK := bind_s hK
          obtain ⟨y13, hy, hK⟩ := hK
          refine AWPL_callK [37, 38, 39, 45] (W_rotakeep_ConvexOrders_3 hy) rfl rfl pcT rfl Tryd.call21 (.cons (.atom _ rfl) .nil) (hscG trivial) (of_decide_eq_true rfl) (by first | rfl | simp [nI, nI1, nI0]) (by first | rfl | simp [nIB, nI0]) fun st' hr => ?_
          simp only [go_sem, reduceIte, reduceCtorEq, Nat.reduceEqDiff, Nat.reduceLT, Nat.reduceLeDiff, Nat.reduceBEq, Nat.reduceAdd, Nat.reduceMul, Nat.reduceSub, Nat.reducePow, Int.reduceLE, Int.reduceLT, Int.reduceNeg, Int.reduceToNat, Int.reduceAdd, Int.reduceSub] at hr
          subst hr
          clear hy
          refine AWPL_rn tab_ok 7 [13, 14, 15, 37, 38, 39] fun c st' hr => ?_
          simp only [go_sem, reduceIte, reduceCtorEq, Nat.reduceEqDiff, Nat.reduceLT, Nat.reduceLeDiff, Nat.reduceBEq, Nat.reduceAdd, Nat.reduceMul, Nat.reduceSub, Nat.reducePow, Int.reduceLE, Int.reduceLT, Int.reduceNeg, Int.reduceToNat, Int.reduceAdd, Int.reduceSub] at hr
          obtain ⟨rfl, rfl⟩ := hr
          refine ⟨vc, ?_⟩
          refine AWPL_nil ?_
          with_reducible refine thenC_normal ?_
          refine AWP_seq ?_
          refine AWP_seq ?_
          -- region 8
          refine AWP_rg tab_ok [13, 14, 37, 38, 39, 50] fun c st' hr => ?_
          simp only [go_sem, reduceIte, reduceCtorEq, Nat.reduceEqDiff, Nat.reduceLT, Nat.reduceLeDiff, Nat.reduceBEq, Nat.reduceAdd, Nat.reduceMul, Nat.reduceSub, Nat.reducePow, Int.reduceLE, Int.reduceLT, Int.reduceNeg, Int.reduceToNat, Int.reduceAdd, Int.reduceSub] at hr
          obtain ⟨rfl, rfl⟩ := hr
          refine ⟨vc, ?_⟩
          with_reducible refine thenC_normal ?_
          refine AWP_condP (y13.2.2 ≠ 0) rfl bd (fun hb14 => ?_) (fun hb14 => ?_)
          · replace hK := ite_t hK hb14
            refine AWP_exit ?_
            with_reducible refine thenC_exit (inBlockA_exit ?_)
            refine join_n () [] hK mkWk
          · replace hK := ite_f hK hb14
            refine AWP_skip ?_
            with_reducible refine thenC_normal ?_
            refine AWP_seq ?_
            refine AWP_seq ?_
            -- region 9
            refine AWP_rl ?_
            refine AWPL_rn tab_ok 2 [13, 14, 37, 38, 39, 51, 52] fun c st' hr => ?_
            simp only [go_sem, reduceIte, reduceCtorEq, Nat.reduceEqDiff, Nat.reduceLT, Nat.reduceLeDiff, Nat.reduceBEq, Nat.reduceAdd, Nat.reduceMul, Nat.reduceSub, Nat.reducePow, Int.reduceLE, Int.reduceLT, Int.reduceNeg, Int.reduceToNat, Int.reduceAdd, Int.reduceSub] at hr
            obtain ⟨rfl, rfl⟩ := hr
            refine ⟨vc, ?_⟩
            replace hK := bind_s hK
            obtain ⟨y14, hy, hK⟩ := hK
            refine AWPL_callK [13, 14, 37, 38, 39, 53] (W_convex_Check hy) rfl rfl pcT rfl Tryd.call23 (.cons (.atom _ rfl) (.cons (.ownI _ _ _ _ _ y13.2.1 rfl (by simp) (by simp)) .nil)) (hscG trivial) (of_decide_eq_true rfl) (by first | rfl | simp [nI, nI1, nI0]) (by first | rfl | simp [nIB, nI0]) fun st' hr => ?_
            simp only [go_sem, reduceIte, reduceCtorEq, Nat.reduceEqDiff, Nat.reduceLT, Nat.reduceLeDiff, Nat.reduceBEq, Nat.reduceAdd, Nat.reduceMul, Nat.reduceSub, Nat.reducePow, Int.reduceLE, Int.reduceLT, Int.reduceNeg, Int.reduceToNat, Int.reduceAdd, Int.reduceSub] at hr
            subst hr
            clear hy
            refine AWPL_rn tab_ok 1 [13, 14, 37, 38, 39, 54] fun c st' hr => ?_
            simp only [go_sem, reduceIte, reduceCtorEq, Nat.reduceEqDiff, Nat.reduceLT, Nat.reduceLeDiff, Nat.reduceBEq, Nat.reduceAdd, Nat.reduceMul, Nat.reduceSub, Nat.reducePow, Int.reduceLE, Int.reduceLT, Int.reduceNeg, Int.reduceToNat, Int.reduceAdd, Int.reduceSub] at hr
            obtain ⟨rfl, rfl⟩ := hr
            refine ⟨vc, ?_⟩
            refine AWPL_nil ?_
            with_reducible refine thenC_normal ?_
            refine AWP_condP (y14 ≠ 0) rfl bd (fun hb15 => ?_) (fun hb15 => ?_)
            · replace hK := ite_t hK hb15
              refine AWP_seq ?_
              -- region 10
              refine AWP_rg tab_ok [8] fun c st' hr => ?_
              simp only [go_sem, reduceIte, reduceCtorEq, Nat.reduceEqDiff, Nat.reduceLT, Nat.reduceLeDiff, Nat.reduceBEq, Nat.reduceAdd, Nat.reduceMul, Nat.reduceSub, Nat.reducePow, Int.reduceLE, Int.reduceLT, Int.reduceNeg, Int.reduceToNat, Int.reduceAdd, Int.reduceSub] at hr
              obtain ⟨rfl, rfl⟩ := hr
              refine ⟨vc, ?_⟩
              with_reducible refine thenC_normal ?_
              refine AWP_ret ?_
              with_reducible refine thenC_ret (inBlockA_ret (join_r (thenA_r (inBlockA_ret (thenC_ret ?_)))))
              cases hK
              refine EndsRW [] (.inl rfl) (of_decide_eq_true rfl) (by simp) rfl (fun c x hr => ?_) trivial
              simp only [go_sem, reduceIte, reduceCtorEq, Nat.reduceEqDiff, Nat.reduceLT, Nat.reduceLeDiff, Nat.reduceBEq, Nat.reduceAdd, Nat.reduceMul, Nat.reduceSub, Nat.reducePow, Int.reduceLE, Int.reduceLT, Int.reduceNeg, Int.reduceToNat, Int.reduceAdd, Int.reduceSub] at hr
              obtain ⟨rfl, rfl⟩ := hr
              exact ⟨rfl, endR⟩
            · replace hK := ite_f hK hb15
              refine AWP_skip ?_
              with_reducible refine thenC_normal ?_
              refine AWP_seq ?_
              -- region 11
              refine AWP_rl ?_
              refine AWPL_rn tab_ok 2 [13, 14, 37, 38, 39, 56, 57] fun c st' hr => ?_
              simp only [go_sem, reduceIte, reduceCtorEq, Nat.reduceEqDiff, Nat.reduceLT, Nat.reduceLeDiff, Nat.reduceBEq, Nat.reduceAdd, Nat.reduceMul, Nat.reduceSub, Nat.reducePow, Int.reduceLE, Int.reduceLT, Int.reduceNeg, Int.reduceToNat, Int.reduceAdd, Int.reduceSub] at hr
              obtain ⟨rfl, rfl⟩ := hr
              refine ⟨vc, ?_⟩
              replace hK := bind_s hK
              obtain ⟨y15, hy, hK⟩ := hK
              refine AWPL_callK [13, 14, 37, 38, 39, 58] (W_convex_Orders hy) rfl rfl pcT rfl Tryd.call14 (.cons (.atom _ rfl) (.cons (.ownI _ _ _ _ _ y13.2.1 rfl (by simp) (by simp)) .nil)) (hscG trivial) (of_decide_eq_true rfl) (by first | rfl | simp [nI, nI1, nI0]) (by first | rfl | simp [nIB, nI0]) fun st' hr => ?_
              simp only [go_sem, reduceIte, reduceCtorEq, Nat.reduceEqDiff, Nat.reduceLT, Nat.reduceLeDiff, Nat.reduceBEq, Nat.reduceAdd, Nat.reduceMul, Nat.reduceSub, Nat.reducePow, Int.reduceLE, Int.reduceLT, Int.reduceNeg, Int.reduceToNat, Int.reduceAdd, Int.reduceSub] at hr
              subst hr
              clear hy
              refine AWPL_rn tab_ok 5 [13, 14, 15, 16, 37, 38, 39] fun c st' hr => ?_
              simp only [go_sem, reduceIte, reduceCtorEq, Nat.reduceEqDiff, Nat.reduceLT, Nat.reduceLeDiff, Nat.reduceBEq, Nat.reduceAdd, Nat.reduceMul, Nat.reduceSub, Nat.reducePow, Int.reduceLE, Int.reduceLT, Int.reduceNeg, Int.reduceToNat, Int.reduceAdd, Int.reduceSub] at hr
              obtain ⟨rfl, rfl⟩ := hr
              refine ⟨vc, ?_⟩
              refine AWPL_nil ?_
              with_reducible refine thenC_normal ?_
              refine AWP_seq ?_
              -- region 12
              refine AWP_rl ?_
              refine AWPL_rn tab_ok 2 [13, 14, 15, 16, 37, 38, 39, 62, 63] fun c st' hr => ?_
              simp only [go_sem, reduceIte, reduceCtorEq, Nat.reduceEqDiff, Nat.reduceLT, Nat.reduceLeDiff, Nat.reduceBEq, Nat.reduceAdd, Nat.reduceMul, Nat.reduceSub, Nat.reducePow, Int.reduceLE, Int.reduceLT, Int.reduceNeg, Int.reduceToNat, Int.reduceAdd, Int.reduceSub] at hr
              obtain ⟨rfl, rfl⟩ := hr
              refine ⟨vc, ?_⟩
              replace hK := bind_s hK
              obtain ⟨y16, hy, hK⟩ := hK
              refine AWPL_callK [13, 14, 15, 16, 37, 38, 39, 64] (W_convex_First hy) rfl rfl pcT rfl Tryd.call24 (.cons (.atom _ rfl) (.cons (.ownI _ _ _ _ _ y13.2.1 rfl (by simp) (by simp)) .nil)) (hscG trivial) (of_decide_eq_true rfl) (by first | rfl | simp [nI, nI1, nI0]) (by first | rfl | simp [nIB, nI0]) fun st' hr => ?_
              simp only [go_sem, reduceIte, reduceCtorEq, Nat.reduceEqDiff, Nat.reduceLT, Nat.reduceLeDiff, Nat.reduceBEq, Nat.reduceAdd, Nat.reduceMul, Nat.reduceSub, Nat.reducePow, Int.reduceLE, Int.reduceLT, Int.reduceNeg, Int.reduceToNat, Int.reduceAdd, Int.reduceSub] at hr
              subst hr
              clear hy
              refine AWPL_rn tab_ok 5 [13, 14, 15, 16, 17, 18, 37, 38, 39] fun c st' hr => ?_
              simp only [go_sem, reduceIte, reduceCtorEq, Nat.reduceEqDiff, Nat.reduceLT, Nat.reduceLeDiff, Nat.reduceBEq, Nat.reduceAdd, Nat.reduceMul, Nat.reduceSub, Nat.reducePow, Int.reduceLE, Int.reduceLT, Int.reduceNeg, Int.reduceToNat, Int.reduceAdd, Int.reduceSub] at hr
              obtain ⟨rfl, rfl⟩ := hr
              refine ⟨vc, ?_⟩
              refine AWPL_nil ?_
              with_reducible refine thenC_normal ?_
              refine AWP_seq ?_
              refine AWP_seq ?_
              -- region 13
              refine AWP_rg tab_ok [13, 14, 17, 37, 38, 39, 82] fun c st' hr => ?_
              simp only [go_sem, reduceIte, reduceCtorEq, Nat.reduceEqDiff, Nat.reduceLT, Nat.reduceLeDiff, Nat.reduceBEq, Nat.reduceAdd, Nat.reduceMul, Nat.reduceSub, Nat.reducePow, Int.reduceLE, Int.reduceLT, Int.reduceNeg, Int.reduceToNat, Int.reduceAdd, Int.reduceSub] at hr
              obtain ⟨rfl, rfl⟩ := hr
              refine ⟨vc, ?_⟩
              with_reducible refine thenC_normal ?_
              refine AWP_condP ((((y15.2 ≠ 0 ∨ y16.2 ≠ 0) ∨ y15.1 < 1) ∨ (y16.1.length : Int) ≠ y13.1)) rfl bd (fun hb16 => ?_) (fun hb16 => ?_)
              · replace hK := ite_t hK hb16
                refine AWP_seq ?_
                -- region 14
                refine AWP_rg tab_ok [8] fun c st' hr => ?_
                simp only [go_sem, reduceIte, reduceCtorEq, Nat.reduceEqDiff, Nat.reduceLT, Nat.reduceLeDiff, Nat.reduceBEq, Nat.reduceAdd, Nat.reduceMul, Nat.reduceSub, Nat.reducePow, Int.reduceLE, Int.reduceLT, Int.reduceNeg, Int.reduceToNat, Int.reduceAdd, Int.reduceSub] at hr
                obtain ⟨rfl, rfl⟩ := hr
                refine ⟨vc, ?_⟩
                with_reducible refine thenC_normal ?_
                refine AWP_ret ?_
                with_reducible refine thenC_ret (inBlockA_ret (join_r (thenA_r (inBlockA_ret (thenC_ret ?_)))))
                cases hK
                refine EndsRW [] (.inl rfl) (of_decide_eq_true rfl) (by simp) rfl (fun c x hr => ?_) trivial
                simp only [go_sem, reduceIte, reduceCtorEq, Nat.reduceEqDiff, Nat.reduceLT, Nat.reduceLeDiff, Nat.reduceBEq, Nat.reduceAdd, Nat.reduceMul, Nat.reduceSub, Nat.reducePow, Int.reduceLE, Int.reduceLT, Int.reduceNeg, Int.reduceToNat, Int.reduceAdd, Int.reduceSub] at hr
                obtain ⟨rfl, rfl⟩ := hr
                exact ⟨rfl, endR⟩
              · replace hK := ite_f hK hb16
                refine AWP_skip ?_
                with_reducible refine thenC_normal ?_
                refine AWP_seq ?_
                -- region 15
                refine AWP_rg tab_ok [13, 14, 17, 19, 37, 38, 39] fun c st' hr => ?_
                simp only [go_sem, reduceIte, reduceCtorEq, Nat.reduceEqDiff, Nat.reduceLT, Nat.reduceLeDiff, Nat.reduceBEq, Nat.reduceAdd, Nat.reduceMul, Nat.reduceSub, Nat.reducePow, Int.reduceLE, Int.reduceLT, Int.reduceNeg, Int.reduceToNat, Int.reduceAdd, Int.reduceSub] at hr
                obtain ⟨rfl, rfl⟩ := hr
                refine ⟨vc, ?_⟩
                with_reducible refine thenC_normal ?_
                refine AWP_seq ?_
                -- region 16
                refine AWP_rg tab_ok [13, 14, 19, 37, 38, 39, 83, 84, 85] fun c st' hr => ?_
                simp only [go_sem, reduceIte, reduceCtorEq, Nat.reduceEqDiff, Nat.reduceLT, Nat.reduceLeDiff, Nat.reduceBEq, Nat.reduceAdd, Nat.reduceMul, Nat.reduceSub, Nat.reducePow, Int.reduceLE, Int.reduceLT, Int.reduceNeg, Int.reduceToNat, Int.reduceAdd, Int.reduceSub] at hr
                obtain ⟨rfl, rfl⟩ := hr
                refine ⟨vc, ?_⟩
                with_reducible refine thenC_normal ?_
                refine AWP_block ?_
                refine AWP_loopX 2 (fun ((v4, v5) : Int × Int) => ⟨116, [(13, .int .i64 y13.1), (14, .own 0 y13.2.1.length), (19, .int .i64 v4), (37, .imm 1 [[.func 17 [.intp .i64 n, .immp [.fn 2 a2.length (fun i => [.int .i64 ((a2.getD i (0, 0)).1), .int .i64 ((a2.getD i (0, 0)).2)])]]], [.func 19 [.immp [.int .i64 a3_0, .fn 2 a3_1.length (fun i => [.int .i64 ((a3_1.getD i (0, 0)).1), .int .i64 ((a3_1.getD i (0, 0)).2)])]]], [.func 21 [.intp .i64 n]], [.func 22 [.intp .i64 n, .immp [.ints .i64 a1]]]]), (38, .int .i64 4), (39, .int .i64 2), (83, .own 1 y16.1.length), (84, .int .i64 (y16.1.length : Int)), (85, .int .i64 v5)], [some (.ints 3 .i64 y13.2.1), some (.ints 3 .i64 y16.1)]⟩) (fun (_ : Unit) => ⟨116, [(37, .imm 1 [[.func 17 [.intp .i64 n, .immp [.fn 2 a2.length (fun i => [.int .i64 ((a2.getD i (0, 0)).1), .int .i64 ((a2.getD i (0, 0)).2)])]]], [.func 19 [.immp [.int .i64 a3_0, .fn 2 a3_1.length (fun i => [.int .i64 ((a3_1.getD i (0, 0)).1), .int .i64 ((a3_1.getD i (0, 0)).2)])]]], [.func 21 [.intp .i64 n]], [.func 22 [.intp .i64 n, .immp [.ints .i64 a1]]]]), (38, .int .i64 4), (39, .int .i64 2)], []⟩) Sum.inl (0, 0) [0, 1] hK mkWk ?_ ?_
                · clear hK; rintro ⟨v4, v5⟩ b2 hK hpost1
                  try dsimp only at hK
                  change AWP _ _ _ _ ⟨116, [(13, .int .i64 y13.1), (14, .own 0 y13.2.1.length), (19, .int .i64 v4), (37, .imm 1 [[.func 17 [.intp .i64 n, .immp [.fn 2 a2.length (fun i => [.int .i64 ((a2.getD i (0, 0)).1), .int .i64 ((a2.getD i (0, 0)).2)])]]], [.func 19 [.immp [.int .i64 a3_0, .fn 2 a3_1.length (fun i => [.int .i64 ((a3_1.getD i (0, 0)).1), .int .i64 ((a3_1.getD i (0, 0)).2)])]]], [.func 21 [.intp .i64 n]], [.func 22 [.intp .i64 n, .immp [.ints .i64 a1]]]]), (38, .int .i64 4), (39, .int .i64 2), (83, .own 1 y16.1.length), (84, .int .i64 (y16.1.length : Int)), (85, .int .i64 v5)], [some (.ints 3 .i64 y13.2.1), some (.ints 3 .i64 y16.1)]⟩
                  refine AWP_seq ?_
                  -- region 17
                  refine AWP_rg tab_ok [13, 14, 19, 37, 38, 39, 83, 84, 85, 86] fun c st' hr => ?_
                  simp only [go_sem, reduceIte, reduceCtorEq, Nat.reduceEqDiff, Nat.reduceLT, Nat.reduceLeDiff, Nat.reduceBEq, Nat.reduceAdd, Nat.reduceMul, Nat.reduceSub, Nat.reducePow, Int.reduceLE, Int.reduceLT, Int.reduceNeg, Int.reduceToNat, Int.reduceAdd, Int.reduceSub] at hr
                  obtain ⟨rfl, rfl⟩ := hr
                  refine ⟨vc, ?_⟩
                  with_reducible refine thenC_normal ?_
                  refine AWP_seq ?_
                  refine AWP_condP (v5 < (y16.1.length : Int)) rfl bd (fun hb17 => ?_) (fun hb17 => ?_)
                  · replace hK := ite_t hK hb17
                    refine AWP_skip ?_
                    with_reducible refine thenC_normal ?_
                    refine AWP_seq ?_
                    refine AWP_block ?_
                    refine AWP_seq ?_
                    -- region 18
                    replace hK := chk_some hK
                    obtain ⟨h6, hK⟩ := hK
                    refine AWP_rg tab_ok [13, 14, 19, 21, 37, 38, 39, 83, 84, 85] fun c st' hr => ?_
                    simp only [go_sem, reduceIte, reduceCtorEq, Nat.reduceEqDiff, Nat.reduceLT, Nat.reduceLeDiff, Nat.reduceBEq, Nat.reduceAdd, Nat.reduceMul, Nat.reduceSub, Nat.reducePow, Int.reduceLE, Int.reduceLT, Int.reduceNeg, Int.reduceToNat, Int.reduceAdd, Int.reduceSub] at hr
                    obtain ⟨rfl, rfl⟩ := hr
                    refine ⟨vc, ?_⟩
                    with_reducible refine thenC_normal ?_
                    refine AWP_seq ?_
                    refine AWP_seq ?_
                    -- region 19
                    refine AWP_rl ?_
                    refine AWPL_rn tab_ok 10 [13, 14, 19, 21, 37, 38, 39, 83, 84, 85, 96, 97, 98] fun c st' hr => ?_
                    simp only [go_sem, reduceIte, reduceCtorEq, Nat.reduceEqDiff, Nat.reduceLT, Nat.reduceLeDiff, Nat.reduceBEq, Nat.reduceAdd, Nat.reduceMul, Nat.reduceSub, Nat.reducePow, Int.reduceLE, Int.reduceLT, Int.reduceNeg, Int.reduceToNat, Int.reduceAdd, Int.reduceSub] at hr
                    obtain ⟨rfl, rfl⟩ := hr
                    refine ⟨vc, ?_⟩
                    replace hK := bind_s hK
                    obtain ⟨y17, hy, hK⟩ := hK
                    refine AWPL_callGP [13, 14, 19, 21, 37, 38, 39, 83, 84, 85, 96, 99] (¬ ((y16.1.getD v5.toNat 0 < 0 ∨ y13.1 ≤ y16.1.getD v5.toNat 0))) (fun hg => (W_rotaref_In (ite_t hy hg))) rfl rfl pcG rfl Tryd.call25 (.cons (.atom _ rfl) (.cons (.atom _ rfl) .nil)) (fun hg => hscG hg) (of_decide_eq_true rfl) (by first | rfl | simp [nI, nI1, nI0]) (by first | rfl | simp [sh, sh1, sh0]) fun st' hr => ?_
                    simp only [go_sem, reduceIte, reduceCtorEq, Nat.reduceEqDiff, Nat.reduceLT, Nat.reduceLeDiff, Nat.reduceBEq, Nat.reduceAdd, Nat.reduceMul, Nat.reduceSub, Nat.reducePow, Int.reduceLE, Int.reduceLT, Int.reduceNeg, Int.reduceToNat, Int.reduceAdd, Int.reduceSub] at hr
                    subst hr
                    clear hy
                    replace hK := chk_some hK
                    obtain ⟨h7, hK⟩ := hK
                    refine AWPL_rn tab_ok 7 [13, 14, 19, 21, 37, 38, 39, 83, 84, 85, 101, 102, 106] fun c st' hr => ?_
                    simp only [go_sem, reduceIte, reduceCtorEq, Nat.reduceEqDiff, Nat.reduceLT, Nat.reduceLeDiff, Nat.reduceBEq, Nat.reduceAdd, Nat.reduceMul, Nat.reduceSub, Nat.reducePow, Int.reduceLE, Int.reduceLT, Int.reduceNeg, Int.reduceToNat, Int.reduceAdd, Int.reduceSub] at hr
                    obtain ⟨rfl, rfl⟩ := hr
                    refine ⟨vc, ?_⟩
                    replace hK := bind_s hK
                    obtain ⟨y18, hy, hK⟩ := hK
                    refine AWPL_callGP [13, 14, 19, 21, 37, 38, 39, 83, 84, 85, 101, 107] (¬ (((y16.1.getD v5.toNat 0 < 0 ∨ y13.1 ≤ y16.1.getD v5.toNat 0) ∨ y17 = true))) (fun hg => (W_slices_Contains_int_int (ite_t hy hg))) rfl rfl pcG rfl Tryd.call26 (.cons (.ownI _ _ _ _ _ y13.2.1 rfl (by simp) (by simp)) (.cons (.atom _ rfl) .nil)) (fun hg => hscG hg) (of_decide_eq_true rfl) (by first | rfl | simp [nI, nI1, nI0]) (by first | rfl | simp [sh, sh1, sh0]) fun st' hr => ?_
                    simp only [go_sem, reduceIte, reduceCtorEq, Nat.reduceEqDiff, Nat.reduceLT, Nat.reduceLeDiff, Nat.reduceBEq, Nat.reduceAdd, Nat.reduceMul, Nat.reduceSub, Nat.reducePow, Int.reduceLE, Int.reduceLT, Int.reduceNeg, Int.reduceToNat, Int.reduceAdd, Int.reduceSub] at hr
                    subst hr
                    clear hy
                    refine AWPL_rn tab_ok 2 [13, 14, 19, 21, 37, 38, 39, 83, 84, 85, 109] fun c st' hr => ?_
                    simp only [go_sem, reduceIte, reduceCtorEq, Nat.reduceEqDiff, Nat.reduceLT, Nat.reduceLeDiff, Nat.reduceBEq, Nat.reduceAdd, Nat.reduceMul, Nat.reduceSub, Nat.reducePow, Int.reduceLE, Int.reduceLT, Int.reduceNeg, Int.reduceToNat, Int.reduceAdd, Int.reduceSub] at hr
                    obtain ⟨rfl, rfl⟩ := hr
                    refine ⟨vc, ?_⟩
                    refine AWPL_nil ?_
                    with_reducible refine thenC_normal ?_
                    refine AWP_condP ((((y16.1.getD v5.toNat 0 < 0 ∨ y13.1 ≤ y16.1.getD v5.toNat 0) ∨ y17 = true) ∨ ¬ (y18 = true))) rfl bd (fun hb18 => ?_) (fun hb18 => ?_)
                    · replace hK := ite_t hK hb18
                      refine AWP_seq ?_
                      -- region 20
                      refine AWP_rg tab_ok [8] fun c st' hr => ?_
                      simp only [go_sem, reduceIte, reduceCtorEq, Nat.reduceEqDiff, Nat.reduceLT, Nat.reduceLeDiff, Nat.reduceBEq, Nat.reduceAdd, Nat.reduceMul, Nat.reduceSub, Nat.reducePow, Int.reduceLE, Int.reduceLT, Int.reduceNeg, Int.reduceToNat, Int.reduceAdd, Int.reduceSub] at hr
                      obtain ⟨rfl, rfl⟩ := hr
                      refine ⟨vc, ?_⟩
                      with_reducible refine thenC_normal ?_
                      refine AWP_ret ?_
                      with_reducible refine thenC_ret (inBlockA_ret (thenC_ret (again_r (cutX_r (inBlockA_ret (inBlockA_ret (join_r (thenA_r (inBlockA_ret (thenC_ret ?_))))))))))
                      replace hK := hpost1 _ hK
                      try dsimp only at hK
                      cases hK
                      refine EndsRW [] (.inl rfl) (of_decide_eq_true rfl) (by simp) rfl (fun c x hr => ?_) trivial
                      simp only [go_sem, reduceIte, reduceCtorEq, Nat.reduceEqDiff, Nat.reduceLT, Nat.reduceLeDiff, Nat.reduceBEq, Nat.reduceAdd, Nat.reduceMul, Nat.reduceSub, Nat.reducePow, Int.reduceLE, Int.reduceLT, Int.reduceNeg, Int.reduceToNat, Int.reduceAdd, Int.reduceSub] at hr
                      obtain ⟨rfl, rfl⟩ := hr
                      exact ⟨rfl, endR⟩
                    · replace hK := ite_f hK hb18
                      refine AWP_skip ?_
                      with_reducible refine thenC_normal ?_
                      -- region 21
                      replace hK := chk_some hK
                      obtain ⟨h8, hK⟩ := hK
                      refine AWP_rg tab_ok [13, 14, 19, 37, 38, 39, 83, 84, 85] fun c st' hr => ?_
                      simp only [go_sem, reduceIte, reduceCtorEq, Nat.reduceEqDiff, Nat.reduceLT, Nat.reduceLeDiff, Nat.reduceBEq, Nat.reduceAdd, Nat.reduceMul, Nat.reduceSub, Nat.reducePow, Int.reduceLE, Int.reduceLT, Int.reduceNeg, Int.reduceToNat, Int.reduceAdd, Int.reduceSub] at hr
                      obtain ⟨rfl, rfl⟩ := hr
                      refine ⟨vc, ?_⟩
                      with_reducible refine inBlockA_normal (thenC_normal ?_)
                      -- region 22
                      refine AWP_facts (by simp) fun hfx => ?_
                      simp only [factS, factV, fact1, fact0, factL0, lo, hi, maxLen, and_true, true_and] at hfx
                      refine AWP_rg tab_ok [13, 14, 19, 37, 38, 39, 83, 84, 85] fun c st' hr => ?_
                      simp only [go_sem, reduceIte, reduceCtorEq, Nat.reduceEqDiff, Nat.reduceLT, Nat.reduceLeDiff, Nat.reduceBEq, Nat.reduceAdd, Nat.reduceMul, Nat.reduceSub, Nat.reducePow, Int.reduceLE, Int.reduceLT, Int.reduceNeg, Int.reduceToNat, Int.reduceAdd, Int.reduceSub] at hr
                      obtain ⟨rfl, rfl⟩ := hr
                      refine ⟨vc, ?_⟩
                      clear hfx
                      refine again_n (ior v4 (2 ^ (y16.1.getD v5.toNat 0).toNat : Int), v5 + 1) [0, 1] hK mkWk
                  · replace hK := ite_f hK hb17
                    refine AWP_exit ?_
                    with_reducible refine thenC_exit (again_x ?_)
                    refine cutX_here () [] (by have hq := hpost1 _ hK; exact hq) mkWk
                · clear hK; rintro _ hK
                  try dsimp only at hK
                  refine exS ⟨116, [(37, .imm 1 [[.func 17 [.intp .i64 n, .immp [.fn 2 a2.length (fun i => [.int .i64 ((a2.getD i (0, 0)).1), .int .i64 ((a2.getD i (0, 0)).2)])]]], [.func 19 [.immp [.int .i64 a3_0, .fn 2 a3_1.length (fun i => [.int .i64 ((a3_1.getD i (0, 0)).1), .int .i64 ((a3_1.getD i (0, 0)).2)])]]], [.func 21 [.intp .i64 n]], [.func 22 [.intp .i64 n, .immp [.ints .i64 a1]]]]), (38, .int .i64 4), (39, .int .i64 2)], []⟩ rfl ?_
                  with_reducible refine inBlockA_exit (inBlockA_normal ?_)
                  refine join_n () [] hK mkWk
        · clear hK; intro q hK
          try dsimp only at hK
          change AWP _ _ _ _ ⟨116, [(37, .imm 1 [[.func 17 [.intp .i64 n, .immp [.fn 2 a2.length (fun i => [.int .i64 ((a2.getD i (0, 0)).1), .int .i64 ((a2.getD i (0, 0)).2)])]]], [.func 19 [.immp [.int .i64 a3_0, .fn 2 a3_1.length (fun i => [.int .i64 ((a3_1.getD i (0, 0)).1), .int .i64 ((a3_1.getD i (0, 0)).2)])]]], [.func 21 [.intp .i64 n]], [.func 22 [.intp .i64 n, .immp [.ints .i64 a1]]]]), (38, .int .i64 4), (39, .int .i64 2)], []⟩
          -- region 23
          refine AWP_rg tab_ok [37, 38, 39] fun c st' hr => ?_
          simp only [go_sem, reduceIte, reduceCtorEq, Nat.reduceEqDiff, Nat.reduceLT, Nat.reduceLeDiff, Nat.reduceBEq, Nat.reduceAdd, Nat.reduceMul, Nat.reduceSub, Nat.reducePow, Int.reduceLE, Int.reduceLT, Int.reduceNeg, Int.reduceToNat, Int.reduceAdd, Int.reduceSub] at hr
          obtain ⟨rfl, rfl⟩ := hr
          refine ⟨vc, ?_⟩
          with_reducible refine thenA_n ?_
          refine unr_go ?_
          refine AWP_seq ?_
          -- region 5
          refine AWP_rg tab_ok [37, 38, 39, 40] fun c st' hr => ?_
          simp only [go_sem, reduceIte, reduceCtorEq, Nat.reduceEqDiff, Nat.reduceLT, Nat.reduceLeDiff, Nat.reduceBEq, Nat.reduceAdd, Nat.reduceMul, Nat.reduceSub, Nat.reducePow, Int.reduceLE, Int.reduceLT, Int.reduceNeg, Int.reduceToNat, Int.reduceAdd, Int.reduceSub] at hr
          obtain ⟨rfl, rfl⟩ := hr
          refine ⟨vc, ?_⟩
          with_reducible refine thenC_normal ?_
          refine AWP_seq ?_
          refine AWP_condP (3 < 4) rfl bd (fun hb19 => ?_) (fun hb19 => ?_)
          rotate_left 1
          · exact absurd (by omega) hb19
          clear hb19
          refine AWP_skip ?_
          with_reducible refine thenC_normal ?_
          refine AWP_seqJ (fun _ => ⟨116, [(37, .imm 1 [[.func 17 [.intp .i64 n, .immp [.fn 2 a2.length (fun i => [.int .i64 ((a2.getD i (0, 0)).1), .int .i64 ((a2.getD i (0, 0)).2)])]]], [.func 19 [.immp [.int .i64 a3_0, .fn 2 a3_1.length (fun i => [.int .i64 ((a3_1.getD i (0, 0)).1), .int .i64 ((a3_1.getD i (0, 0)).2)])]]], [.func 21 [.intp .i64 n]], [.func 22 [.intp .i64 n, .immp [.ints .i64 a1]]]]), (38, .int .i64 4), (39, .int .i64 3)], []⟩) hK ?_ ?_
          · clear hK; intro j3 hK; try dsimp only at hK
            refine AWP_block ?_
            refine AWP_seq ?_
            -- region 6
            refine AWP_rg tab_ok [12, 37, 38, 39] fun c st' hr => ?_
            simp only [go_sem, reduceIte, reduceCtorEq, Nat.reduceEqDiff, Nat.reduceLT, Nat.reduceLeDiff, Nat.reduceBEq, Nat.reduceAdd, Nat.reduceMul, Nat.reduceSub, Nat.reducePow, Int.reduceLE, Int.reduceLT, Int.reduceNeg, Int.reduceToNat, Int.reduceAdd, Int.reduceSub] at hr
            obtain ⟨rfl, rfl⟩ := hr
            refine ⟨vc, ?_⟩
            with_reducible refine thenC_normal ?_
            refine AWP_seq ?_
            -- region 7
            refine AWP_rl ?_
            refine AWPL_rn tab_ok 1 [37, 38, 39, 44] fun c st' hr => ?_
            simp only [go_sem, reduceIte, reduceCtorEq, Nat.reduceEqDiff, Nat.reduceLT, Nat.reduceLeDiff, Nat.reduceBEq, Nat.reduceAdd, Nat.reduceMul, Nat.reduceSub, Nat.reducePow, Int.reduceLE, Int.reduceLT, Int.reduceNeg, Int.reduceToNat, Int.reduceAdd, Int.reduceSub] at hr
            obtain ⟨rfl, rfl⟩ := hr
            refine ⟨vc, ?_⟩
            replace hK := bind_s hK
            obtain ⟨y19, hy, hK⟩ := hK
            refine AWPL_callF [37, 38, 39, 45] (W_rotakeep_ConvexOrders_4 hy) rfl rfl pcT rfl Tryd.call22 (.cons (.atom _ rfl) (.cons (.atom _ rfl) .nil)) (hscG trivial) (of_decide_eq_true rfl) rfl rfl fun st' hr => ?_
            simp only [go_sem, reduceIte, reduceCtorEq, Nat.reduceEqDiff, Nat.reduceLT, Nat.reduceLeDiff, Nat.reduceBEq, Nat.reduceAdd, Nat.reduceMul, Nat.reduceSub, Nat.reducePow, Int.reduceLE, Int.reduceLT, Int.reduceNeg, Int.reduceToNat, Int.reduceAdd, Int.reduceSub] at hr
            subst hr
            clear hy
            refine AWPL_rn tab_ok 7 [13, 14, 15, 37, 38, 39] fun c st' hr => ?_
            simp only [go_sem, reduceIte, reduceCtorEq, Nat.reduceEqDiff, Nat.reduceLT, Nat.reduceLeDiff, Nat.reduceBEq, Nat.reduceAdd, Nat.reduceMul, Nat.reduceSub, Nat.reducePow, Int.reduceLE, Int.reduceLT, Int.reduceNeg, Int.reduceToNat, Int.reduceAdd, Int.reduceSub] at hr
            obtain ⟨rfl, rfl⟩ := hr
            refine ⟨vc, ?_⟩
            refine AWPL_nil ?_
            with_reducible refine thenC_normal ?_
            refine AWP_seq ?_
            refine AWP_seq ?_
            -- region 8
            refine AWP_rg tab_ok [13, 14, 37, 38, 39, 50] fun c st' hr => ?_
            simp only [go_sem, reduceIte, reduceCtorEq, Nat.reduceEqDiff, Nat.reduceLT, Nat.reduceLeDiff, Nat.reduceBEq, Nat.reduceAdd, Nat.reduceMul, Nat.reduceSub, Nat.reducePow, Int.reduceLE, Int.reduceLT, Int.reduceNeg, Int.reduceToNat, Int.reduceAdd, Int.reduceSub] at hr
            obtain ⟨rfl, rfl⟩ := hr
            refine ⟨vc, ?_⟩
            with_reducible refine thenC_normal ?_
            refine AWP_condP (y19.2.2 ≠ 0) rfl bd (fun hb20 => ?_) (fun hb20 => ?_)
            · replace hK := ite_t hK hb20
              refine AWP_exit ?_
              with_reducible refine thenC_exit (inBlockA_exit ?_)
              refine join_n () [] hK mkWk
            · replace hK := ite_f hK hb20
              refine AWP_skip ?_
              with_reducible refine thenC_normal ?_
              refine AWP_seq ?_
              refine AWP_seq ?_
              -- region 9
              refine AWP_rl ?_
              refine AWPL_rn tab_ok 2 [13, 14, 37, 38, 39, 51, 52] fun c st' hr => ?_
              simp only [go_sem, reduceIte, reduceCtorEq, Nat.reduceEqDiff, Nat.reduceLT, Nat.reduceLeDiff, Nat.reduceBEq, Nat.reduceAdd, Nat.reduceMul, Nat.reduceSub, Nat.reducePow, Int.reduceLE, Int.reduceLT, Int.reduceNeg, Int.reduceToNat, Int.reduceAdd, Int.reduceSub] at hr
              obtain ⟨rfl, rfl⟩ := hr
              refine ⟨vc, ?_⟩
              replace hK := bind_s hK
              obtain ⟨y20, hy, hK⟩ := hK
              refine AWPL_callK [13, 14, 37, 38, 39, 53] (W_convex_Check hy) rfl rfl pcT rfl Tryd.call23 (.cons (.atom _ rfl) (.cons (.atom _ rfl) .nil)) (hscG trivial) (of_decide_eq_true rfl) (by first | rfl | simp [nI, nI1, nI0]) (by first | rfl | simp [nIB, nI0]) fun st' hr => ?_
              simp only [go_sem, reduceIte, reduceCtorEq, Nat.reduceEqDiff, Nat.reduceLT, Nat.reduceLeDiff, Nat.reduceBEq, Nat.reduceAdd, Nat.reduceMul, Nat.reduceSub, Nat.reducePow, Int.reduceLE, Int.reduceLT, Int.reduceNeg, Int.reduceToNat, Int.reduceAdd, Int.reduceSub] at hr
              subst hr
              clear hy
              refine AWPL_rn tab_ok 1 [13, 14, 37, 38, 39, 54] fun c st' hr => ?_
              simp only [go_sem, reduceIte, reduceCtorEq, Nat.reduceEqDiff, Nat.reduceLT, Nat.reduceLeDiff, Nat.reduceBEq, Nat.reduceAdd, Nat.reduceMul, Nat.reduceSub, Nat.reducePow, Int.reduceLE, Int.reduceLT, Int.reduceNeg, Int.reduceToNat, Int.reduceAdd, Int.reduceSub] at hr
              obtain ⟨rfl, rfl⟩ := hr
              refine ⟨vc, ?_⟩
              refine AWPL_nil ?_
              with_reducible refine thenC_normal ?_
              refine AWP_condP (y20 ≠ 0) rfl bd (fun hb21 => ?_) (fun hb21 => ?_)
              · replace hK := ite_t hK hb21
                refine AWP_seq ?_
                -- region 10
                refine AWP_rg tab_ok [8] fun c st' hr => ?_
                simp only [go_sem, reduceIte, reduceCtorEq, Nat.reduceEqDiff, Nat.reduceLT, Nat.reduceLeDiff, Nat.reduceBEq, Nat.reduceAdd, Nat.reduceMul, Nat.reduceSub, Nat.reducePow, Int.reduceLE, Int.reduceLT, Int.reduceNeg, Int.reduceToNat, Int.reduceAdd, Int.reduceSub] at hr
                obtain ⟨rfl, rfl⟩ := hr
                refine ⟨vc, ?_⟩
                with_reducible refine thenC_normal ?_
                refine AWP_ret ?_
                with_reducible refine thenC_ret (inBlockA_ret (join_r (thenA_r (inBlockA_ret (thenC_ret ?_)))))
                cases hK
                refine EndsRW [] (.inl rfl) (of_decide_eq_true rfl) (by simp) rfl (fun c x hr => ?_) trivial
                simp only [go_sem, reduceIte, reduceCtorEq, Nat.reduceEqDiff, Nat.reduceLT, Nat.reduceLeDiff, Nat.reduceBEq, Nat.reduceAdd, Nat.reduceMul, Nat.reduceSub, Nat.reducePow, Int.reduceLE, Int.reduceLT, Int.reduceNeg, Int.reduceToNat, Int.reduceAdd, Int.reduceSub] at hr
                obtain ⟨rfl, rfl⟩ := hr
                exact ⟨rfl, endR⟩
              · replace hK := ite_f hK hb21
                refine AWP_skip ?_
                with_reducible refine thenC_normal ?_
                refine AWP_seq ?_
                -- region 11
                refine AWP_rl ?_
                refine AWPL_rn tab_ok 2 [13, 14, 37, 38, 39, 56, 57] fun c st' hr => ?_
                simp only [go_sem, reduceIte, reduceCtorEq, Nat.reduceEqDiff, Nat.reduceLT, Nat.reduceLeDiff, Nat.reduceBEq, Nat.reduceAdd, Nat.reduceMul, Nat.reduceSub, Nat.reducePow, Int.reduceLE, Int.reduceLT, Int.reduceNeg, Int.reduceToNat, Int.reduceAdd, Int.reduceSub] at hr
                obtain ⟨rfl, rfl⟩ := hr
                refine ⟨vc, ?_⟩
                replace hK := bind_s hK
                obtain ⟨y21, hy, hK⟩ := hK
                refine AWPL_callK [13, 14, 37, 38, 39, 58] (W_convex_Orders hy) rfl rfl pcT rfl Tryd.call14 (.cons (.atom _ rfl) (.cons (.atom _ rfl) .nil)) (hscG trivial) (of_decide_eq_true rfl) (by first | rfl | simp [nI, nI1, nI0]) (by first | rfl | simp [nIB, nI0]) fun st' hr => ?_
                simp only [go_sem, reduceIte, reduceCtorEq, Nat.reduceEqDiff, Nat.reduceLT, Nat.reduceLeDiff, Nat.reduceBEq, Nat.reduceAdd, Nat.reduceMul, Nat.reduceSub, Nat.reducePow, Int.reduceLE, Int.reduceLT, Int.reduceNeg, Int.reduceToNat, Int.reduceAdd, Int.reduceSub] at hr
                subst hr
                clear hy
                refine AWPL_rn tab_ok 5 [13, 14, 15, 16, 37, 38, 39] fun c st' hr => ?_
                simp only [go_sem, reduceIte, reduceCtorEq, Nat.reduceEqDiff, Nat.reduceLT, Nat.reduceLeDiff, Nat.reduceBEq, Nat.reduceAdd, Nat.reduceMul, Nat.reduceSub, Nat.reducePow, Int.reduceLE, Int.reduceLT, Int.reduceNeg, Int.reduceToNat, Int.reduceAdd, Int.reduceSub] at hr
                obtain ⟨rfl, rfl⟩ := hr
                refine ⟨vc, ?_⟩
                refine AWPL_nil ?_
                with_reducible refine thenC_normal ?_
                refine AWP_seq ?_
                -- region 12
                refine AWP_rl ?_
                refine AWPL_rn tab_ok 2 [13, 14, 15, 16, 37, 38, 39, 62, 63] fun c st' hr => ?_
                simp only [go_sem, reduceIte, reduceCtorEq, Nat.reduceEqDiff, Nat.reduceLT, Nat.reduceLeDiff, Nat.reduceBEq, Nat.reduceAdd, Nat.reduceMul, Nat.reduceSub, Nat.reducePow, Int.reduceLE, Int.reduceLT, Int.reduceNeg, Int.reduceToNat, Int.reduceAdd, Int.reduceSub] at hr
                obtain ⟨rfl, rfl⟩ := hr
                refine ⟨vc, ?_⟩
                replace hK := bind_s hK
                obtain ⟨y22, hy, hK⟩ := hK
                refine AWPL_callK [13, 14, 15, 16, 37, 38, 39, 64] (W_convex_First hy) rfl rfl pcT rfl Tryd.call24 (.cons (.atom _ rfl) (.cons (.atom _ rfl) .nil)) (hscG trivial) (of_decide_eq_true rfl) (by first | rfl | simp [nI, nI1, nI0]) (by first | rfl | simp [nIB, nI0]) fun st' hr => ?_
                simp only [go_sem, reduceIte, reduceCtorEq, Nat.reduceEqDiff, Nat.reduceLT, Nat.reduceLeDiff, Nat.reduceBEq, Nat.reduceAdd, Nat.reduceMul, Nat.reduceSub, Nat.reducePow, Int.reduceLE, Int.reduceLT, Int.reduceNeg, Int.reduceToNat, Int.reduceAdd, Int.reduceSub] at hr
                subst hr
                clear hy
                refine AWPL_rn tab_ok 5 [13, 14, 15, 16, 17, 18, 37, 38, 39] fun c st' hr => ?_
                simp only [go_sem, reduceIte, reduceCtorEq, Nat.reduceEqDiff, Nat.reduceLT, Nat.reduceLeDiff, Nat.reduceBEq, Nat.reduceAdd, Nat.reduceMul, Nat.reduceSub, Nat.reducePow, Int.reduceLE, Int.reduceLT, Int.reduceNeg, Int.reduceToNat, Int.reduceAdd, Int.reduceSub] at hr
                obtain ⟨rfl, rfl⟩ := hr
                refine ⟨vc, ?_⟩
                refine AWPL_nil ?_
                with_reducible refine thenC_normal ?_
                refine AWP_seq ?_
                refine AWP_seq ?_
                -- region 13
                refine AWP_rg tab_ok [13, 14, 17, 37, 38, 39, 82] fun c st' hr => ?_
                simp only [go_sem, reduceIte, reduceCtorEq, Nat.reduceEqDiff, Nat.reduceLT, Nat.reduceLeDiff, Nat.reduceBEq, Nat.reduceAdd, Nat.reduceMul, Nat.reduceSub, Nat.reducePow, Int.reduceLE, Int.reduceLT, Int.reduceNeg, Int.reduceToNat, Int.reduceAdd, Int.reduceSub] at hr
                obtain ⟨rfl, rfl⟩ := hr
                refine ⟨vc, ?_⟩
                with_reducible refine thenC_normal ?_
                refine AWP_condP ((((y21.2 ≠ 0 ∨ y22.2 ≠ 0) ∨ y21.1 < 1) ∨ (y22.1.length : Int) ≠ y19.1)) rfl bd (fun hb22 => ?_) (fun hb22 => ?_)
                · replace hK := ite_t hK hb22
                  refine AWP_seq ?_
                  -- region 14
                  refine AWP_rg tab_ok [8] fun c st' hr => ?_
                  simp only [go_sem, reduceIte, reduceCtorEq, Nat.reduceEqDiff, Nat.reduceLT, Nat.reduceLeDiff, Nat.reduceBEq, Nat.reduceAdd, Nat.reduceMul, Nat.reduceSub, Nat.reducePow, Int.reduceLE, Int.reduceLT, Int.reduceNeg, Int.reduceToNat, Int.reduceAdd, Int.reduceSub] at hr
                  obtain ⟨rfl, rfl⟩ := hr
                  refine ⟨vc, ?_⟩
                  with_reducible refine thenC_normal ?_
                  refine AWP_ret ?_
                  with_reducible refine thenC_ret (inBlockA_ret (join_r (thenA_r (inBlockA_ret (thenC_ret ?_)))))
                  cases hK
                  refine EndsRW [] (.inl rfl) (of_decide_eq_true rfl) (by simp) rfl (fun c x hr => ?_) trivial
                  simp only [go_sem, reduceIte, reduceCtorEq, Nat.reduceEqDiff, Nat.reduceLT, Nat.reduceLeDiff, Nat.reduceBEq, Nat.reduceAdd, Nat.reduceMul, Nat.reduceSub, Nat.reducePow, Int.reduceLE, Int.reduceLT, Int.reduceNeg, Int.reduceToNat, Int.reduceAdd, Int.reduceSub] at hr
                  obtain ⟨rfl, rfl⟩ := hr
                  exact ⟨rfl, endR⟩
                · replace hK := ite_f hK hb22
                  refine AWP_skip ?_
                  with_reducible refine thenC_normal ?_
                  refine AWP_seq ?_
                  -- region 15
                  refine AWP_rg tab_ok [13, 14, 17, 19, 37, 38, 39] fun c st' hr => ?_
                  simp only [go_sem, reduceIte, reduceCtorEq, Nat.reduceEqDiff, Nat.reduceLT, Nat.reduceLeDiff, Nat.reduceBEq, Nat.reduceAdd, Nat.reduceMul, Nat.reduceSub, Nat.reducePow, Int.reduceLE, Int.reduceLT, Int.reduceNeg, Int.reduceToNat, Int.reduceAdd, Int.reduceSub] at hr
                  obtain ⟨rfl, rfl⟩ := hr
                  refine ⟨vc, ?_⟩
                  with_reducible refine thenC_normal ?_
                  refine AWP_seq ?_
                  -- region 16
                  refine AWP_rg tab_ok [13, 14, 19, 37, 38, 39, 83, 84, 85] fun c st' hr => ?_
                  simp only [go_sem, reduceIte, reduceCtorEq, Nat.reduceEqDiff, Nat.reduceLT, Nat.reduceLeDiff, Nat.reduceBEq, Nat.reduceAdd, Nat.reduceMul, Nat.reduceSub, Nat.reducePow, Int.reduceLE, Int.reduceLT, Int.reduceNeg, Int.reduceToNat, Int.reduceAdd, Int.reduceSub] at hr
                  obtain ⟨rfl, rfl⟩ := hr
                  refine ⟨vc, ?_⟩
                  with_reducible refine thenC_normal ?_
                  refine AWP_block ?_
                  refine AWP_loopX 2 (fun ((v6, v7) : Int × Int) => ⟨116, [(13, .int .i64 y19.1), (14, .ints .i64 y19.2.1), (19, .int .i64 v6), (37, .imm 1 [[.func 17 [.intp .i64 n, .immp [.fn 2 a2.length (fun i => [.int .i64 ((a2.getD i (0, 0)).1), .int .i64 ((a2.getD i (0, 0)).2)])]]], [.func 19 [.immp [.int .i64 a3_0, .fn 2 a3_1.length (fun i => [.int .i64 ((a3_1.getD i (0, 0)).1), .int .i64 ((a3_1.getD i (0, 0)).2)])]]], [.func 21 [.intp .i64 n]], [.func 22 [.intp .i64 n, .immp [.ints .i64 a1]]]]), (38, .int .i64 4), (39, .int .i64 3), (83, .own 0 y22.1.length), (84, .int .i64 (y22.1.length : Int)), (85, .int .i64 v7)], [some (.ints 3 .i64 y22.1)]⟩) (fun (_ : Unit) => ⟨116, [(37, .imm 1 [[.func 17 [.intp .i64 n, .immp [.fn 2 a2.length (fun i => [.int .i64 ((a2.getD i (0, 0)).1), .int .i64 ((a2.getD i (0, 0)).2)])]]], [.func 19 [.immp [.int .i64 a3_0, .fn 2 a3_1.length (fun i => [.int .i64 ((a3_1.getD i (0, 0)).1), .int .i64 ((a3_1.getD i (0, 0)).2)])]]], [.func 21 [.intp .i64 n]], [.func 22 [.intp .i64 n, .immp [.ints .i64 a1]]]]), (38, .int .i64 4), (39, .int .i64 3)], []⟩) Sum.inl (0, 0) [0] hK mkWk ?_ ?_
                  · clear hK; rintro ⟨v6, v7⟩ b3 hK hpost1
                    try dsimp only at hK
                    change AWP _ _ _ _ ⟨116, [(13, .int .i64 y19.1), (14, .ints .i64 y19.2.1), (19, .int .i64 v6), (37, .imm 1 [[.func 17 [.intp .i64 n, .immp [.fn 2 a2.length (fun i => [.int .i64 ((a2.getD i (0, 0)).1), .int .i64 ((a2.getD i (0, 0)).2)])]]], [.func 19 [.immp [.int .i64 a3_0, .fn 2 a3_1.length (fun i => [.int .i64 ((a3_1.getD i (0, 0)).1), .int .i64 ((a3_1.getD i (0, 0)).2)])]]], [.func 21 [.intp .i64 n]], [.func 22 [.intp .i64 n, .immp [.ints .i64 a1]]]]), (38, .int .i64 4), (39, .int .i64 3), (83, .own 0 y22.1.length), (84, .int .i64 (y22.1.length : Int)), (85, .int .i64 v7)], [some (.ints 3 .i64 y22.1)]⟩
                    refine AWP_seq ?_
                    -- region 17
                    refine AWP_rg tab_ok [13, 14, 19, 37, 38, 39, 83, 84, 85, 86] fun c st' hr => ?_
                    simp only [go_sem, reduceIte, reduceCtorEq, Nat.reduceEqDiff, Nat.reduceLT, Nat.reduceLeDiff, Nat.reduceBEq, Nat.reduceAdd, Nat.reduceMul, Nat.reduceSub, Nat.reducePow, Int.reduceLE, Int.reduceLT, Int.reduceNeg, Int.reduceToNat, Int.reduceAdd, Int.reduceSub] at hr
                    obtain ⟨rfl, rfl⟩ := hr
                    refine ⟨vc, ?_⟩
                    with_reducible refine thenC_normal ?_
                    refine AWP_seq ?_
                    refine AWP_condP (v7 < (y22.1.length : Int)) rfl bd (fun hb23 => ?_) (fun hb23 => ?_)
                    · replace hK := ite_t hK hb23
                      refine AWP_skip ?_
                      with_reducible refine thenC_normal ?_
                      refine AWP_seq ?_
                      refine AWP_block ?_
                      refine AWP_seq ?_
                      -- region 18
                      replace hK := chk_some hK
                      obtain ⟨h9, hK⟩ := hK
                      refine AWP_rg tab_ok [13, 14, 19, 21, 37, 38, 39, 83, 84, 85] fun c st' hr => ?_
                      simp only [go_sem, reduceIte, reduceCtorEq, Nat.reduceEqDiff, Nat.reduceLT, Nat.reduceLeDiff, Nat.reduceBEq, Nat.reduceAdd, Nat.reduceMul, Nat.reduceSub, Nat.reducePow, Int.reduceLE, Int.reduceLT, Int.reduceNeg, Int.reduceToNat, Int.reduceAdd, Int.reduceSub] at hr
                      obtain ⟨rfl, rfl⟩ := hr
                      refine ⟨vc, ?_⟩
                      with_reducible refine thenC_normal ?_
                      refine AWP_seq ?_
                      refine AWP_seq ?_
                      -- region 19
                      refine AWP_rl ?_
                      refine AWPL_rn tab_ok 10 [13, 14, 19, 21, 37, 38, 39, 83, 84, 85, 96, 97, 98] fun c st' hr => ?_
                      simp only [go_sem, reduceIte, reduceCtorEq, Nat.reduceEqDiff, Nat.reduceLT, Nat.reduceLeDiff, Nat.reduceBEq, Nat.reduceAdd, Nat.reduceMul, Nat.reduceSub, Nat.reducePow, Int.reduceLE, Int.reduceLT, Int.reduceNeg, Int.reduceToNat, Int.reduceAdd, Int.reduceSub] at hr
                      obtain ⟨rfl, rfl⟩ := hr
                      refine ⟨vc, ?_⟩
                      replace hK := bind_s hK
                      obtain ⟨y23, hy, hK⟩ := hK
                      refine AWPL_callGP [13, 14, 19, 21, 37, 38, 39, 83, 84, 85, 96, 99] (¬ ((y22.1.getD v7.toNat 0 < 0 ∨ y19.1 ≤ y22.1.getD v7.toNat 0))) (fun hg => (W_rotaref_In (ite_t hy hg))) rfl rfl pcG rfl Tryd.call25 (.cons (.atom _ rfl) (.cons (.atom _ rfl) .nil)) (fun hg => hscG hg) (of_decide_eq_true rfl) (by first | rfl | simp [nI, nI1, nI0]) (by first | rfl | simp [sh, sh1, sh0]) fun st' hr => ?_
                      simp only [go_sem, reduceIte, reduceCtorEq, Nat.reduceEqDiff, Nat.reduceLT, Nat.reduceLeDiff, Nat.reduceBEq, Nat.reduceAdd, Nat.reduceMul, Nat.reduceSub, Nat.reducePow, Int.reduceLE, Int.reduceLT, Int.reduceNeg, Int.reduceToNat, Int.reduceAdd, Int.reduceSub] at hr
                      subst hr
                      clear hy
                      replace hK := chk_some hK
                      obtain ⟨h10, hK⟩ := hK
                      refine AWPL_rn tab_ok 7 [13, 14, 19, 21, 37, 38, 39, 83, 84, 85, 101, 102, 106] fun c st' hr => ?_
                      simp only [go_sem, reduceIte, reduceCtorEq, Nat.reduceEqDiff, Nat.reduceLT, Nat.reduceLeDiff, Nat.reduceBEq, Nat.reduceAdd, Nat.reduceMul, Nat.reduceSub, Nat.reducePow, Int.reduceLE, Int.reduceLT, Int.reduceNeg, Int.reduceToNat, Int.reduceAdd, Int.reduceSub] at hr
                      obtain ⟨rfl, rfl⟩ := hr
                      refine ⟨vc, ?_⟩
                      replace hK := bind_s hK
                      obtain ⟨y24, hy, hK⟩ := hK
                      refine AWPL_callGP [13, 14, 19, 21, 37, 38, 39, 83, 84, 85, 101, 107] (¬ (((y22.1.getD v7.toNat 0 < 0 ∨ y19.1 ≤ y22.1.getD v7.toNat 0) ∨ y23 = true))) (fun hg => (W_slices_Contains_int_int (ite_t hy hg))) rfl rfl pcG rfl Tryd.call26 (.cons (.atom _ rfl) (.cons (.atom _ rfl) .nil)) (fun hg => hscG hg) (of_decide_eq_true rfl) (by first | rfl | simp [nI, nI1, nI0]) (by first | rfl | simp [sh, sh1, sh0]) fun st' hr => ?_
                      simp only [go_sem, reduceIte, reduceCtorEq, Nat.reduceEqDiff, Nat.reduceLT, Nat.reduceLeDiff, Nat.reduceBEq, Nat.reduceAdd, Nat.reduceMul, Nat.reduceSub, Nat.reducePow, Int.reduceLE, Int.reduceLT, Int.reduceNeg, Int.reduceToNat, Int.reduceAdd, Int.reduceSub] at hr
                      subst hr
                      clear hy
                      refine AWPL_rn tab_ok 2 [13, 14, 19, 21, 37, 38, 39, 83, 84, 85, 109] fun c st' hr => ?_
                      simp only [go_sem, reduceIte, reduceCtorEq, Nat.reduceEqDiff, Nat.reduceLT, Nat.reduceLeDiff, Nat.reduceBEq, Nat.reduceAdd, Nat.reduceMul, Nat.reduceSub, Nat.reducePow, Int.reduceLE, Int.reduceLT, Int.reduceNeg, Int.reduceToNat, Int.reduceAdd, Int.reduceSub] at hr
                      obtain ⟨rfl, rfl⟩ := hr
                      refine ⟨vc, ?_⟩
                      refine AWPL_nil ?_
                      with_reducible refine thenC_normal ?_
                      refine AWP_condP ((((y22.1.getD v7.toNat 0 < 0 ∨ y19.1 ≤ y22.1.getD v7.toNat 0) ∨ y23 = true) ∨ ¬ (y24 = true))) rfl bd (fun hb24 => ?_) (fun hb24 => ?_)
                      · replace hK := ite_t hK hb24
                        refine AWP_seq ?_
                        -- region 20
                        refine AWP_rg tab_ok [8] fun c st' hr => ?_
                        simp only [go_sem, reduceIte, reduceCtorEq, Nat.reduceEqDiff, Nat.reduceLT, Nat.reduceLeDiff, Nat.reduceBEq, Nat.reduceAdd, Nat.reduceMul, Nat.reduceSub, Nat.reducePow, Int.reduceLE, Int.reduceLT, Int.reduceNeg, Int.reduceToNat, Int.reduceAdd, Int.reduceSub] at hr
                        obtain ⟨rfl, rfl⟩ := hr
                        refine ⟨vc, ?_⟩
                        with_reducible refine thenC_normal ?_
                        refine AWP_ret ?_
                        with_reducible refine thenC_ret (inBlockA_ret (thenC_ret (again_r (cutX_r (inBlockA_ret (inBlockA_ret (join_r (thenA_r (inBlockA_ret (thenC_ret ?_))))))))))
                        replace hK := hpost1 _ hK
                        try dsimp only at hK
                        cases hK
                        refine EndsRW [] (.inl rfl) (of_decide_eq_true rfl) (by simp) rfl (fun c x hr => ?_) trivial
                        simp only [go_sem, reduceIte, reduceCtorEq, Nat.reduceEqDiff, Nat.reduceLT, Nat.reduceLeDiff, Nat.reduceBEq, Nat.reduceAdd, Nat.reduceMul, Nat.reduceSub, Nat.reducePow, Int.reduceLE, Int.reduceLT, Int.reduceNeg, Int.reduceToNat, Int.reduceAdd, Int.reduceSub] at hr
                        obtain ⟨rfl, rfl⟩ := hr
                        exact ⟨rfl, endR⟩
                      · replace hK := ite_f hK hb24
                        refine AWP_skip ?_
                        with_reducible refine thenC_normal ?_
                        -- region 21
                        replace hK := chk_some hK
                        obtain ⟨h11, hK⟩ := hK
                        refine AWP_rg tab_ok [13, 14, 19, 37, 38, 39, 83, 84, 85] fun c st' hr => ?_
                        simp only [go_sem, reduceIte, reduceCtorEq, Nat.reduceEqDiff, Nat.reduceLT, Nat.reduceLeDiff, Nat.reduceBEq, Nat.reduceAdd, Nat.reduceMul, Nat.reduceSub, Nat.reducePow, Int.reduceLE, Int.reduceLT, Int.reduceNeg, Int.reduceToNat, Int.reduceAdd, Int.reduceSub] at hr
                        obtain ⟨rfl, rfl⟩ := hr
                        refine ⟨vc, ?_⟩
                        with_reducible refine inBlockA_normal (thenC_normal ?_)
                        -- region 22
                        refine AWP_facts (by simp) fun hfx => ?_
                        simp only [factS, factV, fact1, fact0, factL0, lo, hi, maxLen, and_true, true_and] at hfx
                        refine AWP_rg tab_ok [13, 14, 19, 37, 38, 39, 83, 84, 85] fun c st' hr => ?_
                        simp only [go_sem, reduceIte, reduceCtorEq, Nat.reduceEqDiff, Nat.reduceLT, Nat.reduceLeDiff, Nat.reduceBEq, Nat.reduceAdd, Nat.reduceMul, Nat.reduceSub, Nat.reducePow, Int.reduceLE, Int.reduceLT, Int.reduceNeg, Int.reduceToNat, Int.reduceAdd, Int.reduceSub] at hr
                        obtain ⟨rfl, rfl⟩ := hr
                        refine ⟨vc, ?_⟩
                        clear hfx
                        refine again_n (ior v6 (2 ^ (y22.1.getD v7.toNat 0).toNat : Int), v7 + 1) [0] hK mkWk
                    · replace hK := ite_f hK hb23
                      refine AWP_exit ?_
                      with_reducible refine thenC_exit (again_x ?_)
                      refine cutX_here () [] (by have hq := hpost1 _ hK; exact hq) mkWk
                  · clear hK; rintro _ hK
                    try dsimp only at hK
                    refine exS ⟨116, [(37, .imm 1 [[.func 17 [.intp .i64 n, .immp [.fn 2 a2.length (fun i => [.int .i64 ((a2.getD i (0, 0)).1), .int .i64 ((a2.getD i (0, 0)).2)])]]], [.func 19 [.immp [.int .i64 a3_0, .fn 2 a3_1.length (fun i => [.int .i64 ((a3_1.getD i (0, 0)).1), .int .i64 ((a3_1.getD i (0, 0)).2)])]]], [.func 21 [.intp .i64 n]], [.func 22 [.intp .i64 n, .immp [.ints .i64 a1]]]]), (38, .int .i64 4), (39, .int .i64 3)], []⟩ rfl ?_
                    with_reducible refine inBlockA_exit (inBlockA_normal ?_)
                    refine join_n () [] hK mkWk
          · clear hK; intro q hK
            try dsimp only at hK
            change AWP _ _ _ _ ⟨116, [(37, .imm 1 [[.func 17 [.intp .i64 n, .immp [.fn 2 a2.length (fun i => [.int .i64 ((a2.getD i (0, 0)).1), .int .i64 ((a2.getD i (0, 0)).2)])]]], [.func 19 [.immp [.int .i64 a3_0, .fn 2 a3_1.length (fun i => [.int .i64 ((a3_1.getD i (0, 0)).1), .int .i64 ((a3_1.getD i (0, 0)).2)])]]], [.func 21 [.intp .i64 n]], [.func 22 [.intp .i64 n, .immp [.ints .i64 a1]]]]), (38, .int .i64 4), (39, .int .i64 3)], []⟩
            -- region 23
            refine AWP_rg tab_ok [37, 38, 39] fun c st' hr => ?_
            simp only [go_sem, reduceIte, reduceCtorEq, Nat.reduceEqDiff, Nat.reduceLT, Nat.reduceLeDiff, Nat.reduceBEq, Nat.reduceAdd, Nat.reduceMul, Nat.reduceSub, Nat.reducePow, Int.reduceLE, Int.reduceLT, Int.reduceNeg, Int.reduceToNat, Int.reduceAdd, Int.reduceSub] at hr
            obtain ⟨rfl, rfl⟩ := hr
            refine ⟨vc, ?_⟩
            with_reducible refine thenA_n ?_
            refine unr_go ?_
            refine AWP_seq ?_
            -- region 5
            refine AWP_rg tab_ok [37, 38, 39, 40] fun c st' hr => ?_
            simp only [go_sem, reduceIte, reduceCtorEq, Nat.reduceEqDiff, Nat.reduceLT, Nat.reduceLeDiff, Nat.reduceBEq, Nat.reduceAdd, Nat.reduceMul, Nat.reduceSub, Nat.reducePow, Int.reduceLE, Int.reduceLT, Int.reduceNeg, Int.reduceToNat, Int.reduceAdd, Int.reduceSub] at hr
            obtain ⟨rfl, rfl⟩ := hr
            refine ⟨vc, ?_⟩
            with_reducible refine thenC_normal ?_
            refine AWP_seq ?_
            refine AWP_condP (4 < 4) rfl bd (fun hb25 => ?_) (fun hb25 => ?_)
            · exact absurd hb25 (by omega)
            clear hb25
            refine AWP_exit ?_
            with_reducible refine thenC_exit (thenA_x (inBlockA_exit (thenC_normal ?_)))
            refine AWP_seq ?_
            -- region 24
            refine AWP_rg tab_ok [8] fun c st' hr => ?_
            simp only [go_sem, reduceIte, reduceCtorEq, Nat.reduceEqDiff, Nat.reduceLT, Nat.reduceLeDiff, Nat.reduceBEq, Nat.reduceAdd, Nat.reduceMul, Nat.reduceSub, Nat.reducePow, Int.reduceLE, Int.reduceLT, Int.reduceNeg, Int.reduceToNat, Int.reduceAdd, Int.reduceSub] at hr
            obtain ⟨rfl, rfl⟩ := hr
            refine ⟨vc, ?_⟩
            with_reducible refine thenC_normal ?_
            refine AWP_ret ?_
            cases hK
            refine EndsRW [] (.inl rfl) (of_decide_eq_true rfl) (by simp) rfl (fun c x hr => ?_) trivial
            simp only [go_sem, reduceIte, reduceCtorEq, Nat.reduceEqDiff, Nat.reduceLT, Nat.reduceLeDiff, Nat.reduceBEq, Nat.reduceAdd, Nat.reduceMul, Nat.reduceSub, Nat.reducePow, Int.reduceLE, Int.reduceLT, Int.reduceNeg, Int.reduceToNat, Int.reduceAdd, Int.reduceSub] at hr
            obtain ⟨rfl, rfl⟩ := hr
            exact ⟨rfl, endR⟩

end Go.SH
