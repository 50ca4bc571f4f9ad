/-
  That the code computes these functions: kinds_CheckGraph, kinds_size, kinds_Laminar_1, kinds_greatest, kinds_Laminar, kinds_chosen_1, kinds_chosen, kinds_Transversal_1, kinds_Transversal. By a program of mine (shal.py). Conditions: none.
-/
import Derived.Test.YtobpcecpfojpmaaDoorAxT
import Derived.Test.YtobpcecpfojpmaaDoorAxR
import Derived.Test.YtobpcecpfojpmaaDoorAxCy
import Derived.Test.YtobpcecpfojpmaaDoorSpkinds
import Derived.Test.YtobpcecpfojpmaaDoorWpbits
import Derived.Test.YtobpcecpfojpmaaDoorWpsets
set_option linter.unusedVariables false
set_option linter.unusedSimpArgs false
namespace Go.SH
open Go Go.AX Go.AX.Tryd Go.Proofs

set_option maxRecDepth 8000 in
set_option maxHeartbeats 4000000 in
theorem W_kinds_CheckGraph {g_0 : Int} {g_1 : List (Int × Int)} {r : Int} (hK : kinds_CheckGraph g_0 g_1 = some r) : Pure Tryd.prog 34 [.agg [.int .i64 g_0, .fn 2 g_1.length (fun i => [.int .i64 ((g_1.getD i (0, 0)).1), .int .i64 ((g_1.getD i (0, 0)).2)])]] (.int .i64 r) [] := by
  refine Pure_introF tab_ok (n := 49) (l := [.tmp 2]) Tryd.func34 rfl rfl rfl (by simp) fun hfact w0 => ?_
  simp only [factL1, fact1, fact0, factL0, lo, hi, maxLen, and_true] at hfact
  unfold kinds_CheckGraph at hK
  refine AWP_seq ?_
  -- region 0
  refine AWP_rg tab_ok [1] fun c st' hr => ?_
  simp only [go_sem, reduceIte, reduceCtorEq, Nat.reduceEqDiff, Nat.reduceLT, Nat.reduceLeDiff, Nat.reduceBEq, Nat.reduceAdd, Nat.reduceMul, Nat.reduceSub, Nat.reducePow, Int.reduceLE, Int.reduceLT, Int.reduceNeg, Int.reduceToNat, Int.reduceAdd, Int.reduceSub] at hr
  obtain ⟨rfl, rfl⟩ := hr
  refine ⟨vc, ?_⟩
  with_reducible refine thenC_normal ?_
  refine AWP_seq ?_
  refine AWP_seq ?_
  -- region 1
  refine AWP_rg tab_ok [1, 18] fun c st' hr => ?_
  simp only [go_sem, reduceIte, reduceCtorEq, Nat.reduceEqDiff, Nat.reduceLT, Nat.reduceLeDiff, Nat.reduceBEq, Nat.reduceAdd, Nat.reduceMul, Nat.reduceSub, Nat.reducePow, Int.reduceLE, Int.reduceLT, Int.reduceNeg, Int.reduceToNat, Int.reduceAdd, Int.reduceSub] at hr
  obtain ⟨rfl, rfl⟩ := hr
  refine ⟨vc, ?_⟩
  with_reducible refine thenC_normal ?_
  refine AWP_condP (((g_0 < 1 ∨ 7 < g_0) ∨ 8 < (g_1.length : Int))) rfl bd (fun hb => ?_) (fun hb => ?_)
  · replace hK := ite_t hK hb
    refine AWP_seq ?_
    -- region 2
    refine AWP_rg tab_ok [2] fun c st' hr => ?_
    simp only [go_sem, reduceIte, reduceCtorEq, Nat.reduceEqDiff, Nat.reduceLT, Nat.reduceLeDiff, Nat.reduceBEq, Nat.reduceAdd, Nat.reduceMul, Nat.reduceSub, Nat.reducePow, Int.reduceLE, Int.reduceLT, Int.reduceNeg, Int.reduceToNat, Int.reduceAdd, Int.reduceSub] at hr
    obtain ⟨rfl, rfl⟩ := hr
    refine ⟨vc, ?_⟩
    with_reducible refine thenC_normal ?_
    refine AWP_ret ?_
    with_reducible refine thenC_ret ?_
    cases hK
    refine EndsRW [] (.inl rfl) (of_decide_eq_true rfl) (by simp) rfl (fun c x hr => ?_) trivial
    simp only [go_sem, reduceIte, reduceCtorEq, Nat.reduceEqDiff, Nat.reduceLT, Nat.reduceLeDiff, Nat.reduceBEq, Nat.reduceAdd, Nat.reduceMul, Nat.reduceSub, Nat.reducePow, Int.reduceLE, Int.reduceLT, Int.reduceNeg, Int.reduceToNat, Int.reduceAdd, Int.reduceSub] at hr
    obtain ⟨rfl, rfl⟩ := hr
    exact ⟨rfl, endR⟩
  · replace hK := ite_f hK hb
    refine AWP_skip ?_
    with_reducible refine thenC_normal ?_
    refine AWP_seq ?_
    refine AWP_seq ?_
    -- region 3
    refine AWP_rg tab_ok [1, 20, 21, 22] fun c st' hr => ?_
    simp only [go_sem, reduceIte, reduceCtorEq, Nat.reduceEqDiff, Nat.reduceLT, Nat.reduceLeDiff, Nat.reduceBEq, Nat.reduceAdd, Nat.reduceMul, Nat.reduceSub, Nat.reducePow, Int.reduceLE, Int.reduceLT, Int.reduceNeg, Int.reduceToNat, Int.reduceAdd, Int.reduceSub] at hr
    obtain ⟨rfl, rfl⟩ := hr
    refine ⟨vc, ?_⟩
    with_reducible refine thenC_normal ?_
    refine AWP_block ?_
    refine AWP_loopX 0 (fun (v : Int) => ⟨49, [(1, .ptr 0 0 0), (20, .fn 2 g_1.length (fun i => [.int .i64 ((g_1.getD i (0, 0)).1), .int .i64 ((g_1.getD i (0, 0)).2)])), (21, .int .i64 (g_1.length : Int)), (22, .int .i64 v)], [some (.gen 36 2 [[.int .i64 g_0, .fn 2 g_1.length (fun i => [.int .i64 ((g_1.getD i (0, 0)).1), .int .i64 ((g_1.getD i (0, 0)).2)])]])]⟩) (fun (_ : Unit) => ⟨49, [], []⟩) Sum.inl 0 [0] hK mkWk ?_ ?_
    · clear hK; rintro v b hK hpost1
      try dsimp only at hK
      change AWP _ _ _ _ ⟨49, [(1, .ptr 0 0 0), (20, .fn 2 g_1.length (fun i => [.int .i64 ((g_1.getD i (0, 0)).1), .int .i64 ((g_1.getD i (0, 0)).2)])), (21, .int .i64 (g_1.length : Int)), (22, .int .i64 v)], [some (.gen 36 2 [[.int .i64 g_0, .fn 2 g_1.length (fun i => [.int .i64 ((g_1.getD i (0, 0)).1), .int .i64 ((g_1.getD i (0, 0)).2)])]])]⟩
      refine AWP_seq ?_
      -- region 4
      refine AWP_rg tab_ok [1, 20, 21, 22, 23] fun c st' hr => ?_
      simp only [go_sem, reduceIte, reduceCtorEq, Nat.reduceEqDiff, Nat.reduceLT, Nat.reduceLeDiff, Nat.reduceBEq, Nat.reduceAdd, Nat.reduceMul, Nat.reduceSub, Nat.reducePow, Int.reduceLE, Int.reduceLT, Int.reduceNeg, Int.reduceToNat, Int.reduceAdd, Int.reduceSub] at hr
      obtain ⟨rfl, rfl⟩ := hr
      refine ⟨vc, ?_⟩
      with_reducible refine thenC_normal ?_
      refine AWP_seq ?_
      refine AWP_condP (v < (g_1.length : Int)) rfl bd (fun hb1 => ?_) (fun hb1 => ?_)
      · replace hK := ite_t hK hb1
        refine AWP_skip ?_
        with_reducible refine thenC_normal ?_
        refine AWP_seq ?_
        refine AWP_block ?_
        refine AWP_seq ?_
        -- region 5
        replace hK := chk_some hK
        obtain ⟨h, hK⟩ := hK
        refine AWP_rg tab_ok [1, 4, 20, 21, 22] fun c st' hr => ?_
        simp only [go_sem, reduceIte, reduceCtorEq, Nat.reduceEqDiff, Nat.reduceLT, Nat.reduceLeDiff, Nat.reduceBEq, Nat.reduceAdd, Nat.reduceMul, Nat.reduceSub, Nat.reducePow, Int.reduceLE, Int.reduceLT, Int.reduceNeg, Int.reduceToNat, Int.reduceAdd, Int.reduceSub] at hr
        obtain ⟨rfl, rfl⟩ := hr
        refine ⟨vc, ?_⟩
        with_reducible refine thenC_normal ?_
        refine AWP_seq ?_
        -- region 6
        refine AWP_rg tab_ok [1, 20, 21, 22, 47] fun c st' hr => ?_
        simp only [go_sem, reduceIte, reduceCtorEq, Nat.reduceEqDiff, Nat.reduceLT, Nat.reduceLeDiff, Nat.reduceBEq, Nat.reduceAdd, Nat.reduceMul, Nat.reduceSub, Nat.reducePow, Int.reduceLE, Int.reduceLT, Int.reduceNeg, Int.reduceToNat, Int.reduceAdd, Int.reduceSub] at hr
        obtain ⟨rfl, rfl⟩ := hr
        refine ⟨vc, ?_⟩
        with_reducible refine thenC_normal ?_
        refine AWP_condP (((((g_1.getD v.toNat (0, 0)).1 < 0 ∨ (g_1.getD v.toNat (0, 0)).2 < 0) ∨ g_0 ≤ (g_1.getD v.toNat (0, 0)).1) ∨ g_0 ≤ (g_1.getD v.toNat (0, 0)).2)) rfl bd (fun hb2 => ?_) (fun hb2 => ?_)
        · replace hK := ite_t hK hb2
          refine AWP_seq ?_
          -- region 7
          refine AWP_rg tab_ok [2] fun c st' hr => ?_
          simp only [go_sem, reduceIte, reduceCtorEq, Nat.reduceEqDiff, Nat.reduceLT, Nat.reduceLeDiff, Nat.reduceBEq, Nat.reduceAdd, Nat.reduceMul, Nat.reduceSub, Nat.reducePow, Int.reduceLE, Int.reduceLT, Int.reduceNeg, Int.reduceToNat, Int.reduceAdd, Int.reduceSub] at hr
          obtain ⟨rfl, rfl⟩ := hr
          refine ⟨vc, ?_⟩
          with_reducible refine thenC_normal ?_
          refine AWP_ret ?_
          with_reducible refine inBlockA_ret (thenC_ret (again_r (cutX_r (inBlockA_ret (thenC_ret ?_)))))
          replace hK := hpost1 _ hK
          try dsimp only at hK
          cases hK
          refine EndsRW [] (.inl rfl) (of_decide_eq_true rfl) (by simp) rfl (fun c x hr => ?_) trivial
          simp only [go_sem, reduceIte, reduceCtorEq, Nat.reduceEqDiff, Nat.reduceLT, Nat.reduceLeDiff, Nat.reduceBEq, Nat.reduceAdd, Nat.reduceMul, Nat.reduceSub, Nat.reducePow, Int.reduceLE, Int.reduceLT, Int.reduceNeg, Int.reduceToNat, Int.reduceAdd, Int.reduceSub] at hr
          obtain ⟨rfl, rfl⟩ := hr
          exact ⟨rfl, endR⟩
        · replace hK := ite_f hK hb2
          refine AWP_skip ?_
          with_reducible refine inBlockA_normal (thenC_normal ?_)
          -- region 8
          refine AWP_facts (by simp) fun hfx => ?_
          simp only [factS, factV, fact1, fact0, factL0, lo, hi, maxLen, and_true, true_and] at hfx
          refine AWP_rg tab_ok [1, 20, 21, 22] fun c st' hr => ?_
          simp only [go_sem, reduceIte, reduceCtorEq, Nat.reduceEqDiff, Nat.reduceLT, Nat.reduceLeDiff, Nat.reduceBEq, Nat.reduceAdd, Nat.reduceMul, Nat.reduceSub, Nat.reducePow, Int.reduceLE, Int.reduceLT, Int.reduceNeg, Int.reduceToNat, Int.reduceAdd, Int.reduceSub] at hr
          obtain ⟨rfl, rfl⟩ := hr
          refine ⟨vc, ?_⟩
          clear hfx
          refine again_n (v + 1) [0] hK mkWk
      · replace hK := ite_f hK hb1
        refine AWP_exit ?_
        with_reducible refine thenC_exit (again_x ?_)
        refine cutX_here () [] (by have hq := hpost1 _ hK; exact hq) mkWk
    · clear hK; rintro _ hK
      try dsimp only at hK
      refine exS ⟨49, [], []⟩ rfl ?_
      with_reducible refine inBlockA_exit (thenC_normal ?_)
      refine AWP_seq ?_
      -- region 9
      refine AWP_rg tab_ok [2] fun c st' hr => ?_
      simp only [go_sem, reduceIte, reduceCtorEq, Nat.reduceEqDiff, Nat.reduceLT, Nat.reduceLeDiff, Nat.reduceBEq, Nat.reduceAdd, Nat.reduceMul, Nat.reduceSub, Nat.reducePow, Int.reduceLE, Int.reduceLT, Int.reduceNeg, Int.reduceToNat, Int.reduceAdd, Int.reduceSub] at hr
      obtain ⟨rfl, rfl⟩ := hr
      refine ⟨vc, ?_⟩
      with_reducible refine thenC_normal ?_
      refine AWP_ret ?_
      cases hK
      refine EndsRW [] (.inl rfl) (of_decide_eq_true rfl) (by simp) rfl (fun c x hr => ?_) trivial
      simp only [go_sem, reduceIte, reduceCtorEq, Nat.reduceEqDiff, Nat.reduceLT, Nat.reduceLeDiff, Nat.reduceBEq, Nat.reduceAdd, Nat.reduceMul, Nat.reduceSub, Nat.reducePow, Int.reduceLE, Int.reduceLT, Int.reduceNeg, Int.reduceToNat, Int.reduceAdd, Int.reduceSub] at hr
      obtain ⟨rfl, rfl⟩ := hr
      exact ⟨rfl, endR⟩

set_option maxRecDepth 8000 in
set_option maxHeartbeats 4000000 in
theorem W_kinds_size {s : Int} {r : Int} (hK : kinds_size s = some r) : Pure Tryd.prog 69 [.int .i64 s] (.int .i64 r) [] := by
  refine Pure_introF tab_ok (n := 6) (l := [.tmp 2]) Tryd.func69 rfl rfl rfl (by simp) fun hfact w0 => ?_
  simp only [factL1, fact1, fact0, factL0, lo, hi, maxLen, and_true] at hfact
  unfold kinds_size at hK
  refine AWP_seq ?_
  -- region 0
  refine AWP_rg tab_ok [0] fun c st' hr => ?_
  simp only [go_sem, reduceIte, reduceCtorEq, Nat.reduceEqDiff, Nat.reduceLT, Nat.reduceLeDiff, Nat.reduceBEq, Nat.reduceAdd, Nat.reduceMul, Nat.reduceSub, Nat.reducePow, Int.reduceLE, Int.reduceLT, Int.reduceNeg, Int.reduceToNat, Int.reduceAdd, Int.reduceSub] at hr
  obtain ⟨rfl, rfl⟩ := hr
  refine ⟨vc, ?_⟩
  with_reducible refine thenC_normal ?_
  refine AWP_seq ?_
  -- region 1
  refine AWP_rl ?_
  replace hK := chk_some hK
  obtain ⟨h, hK⟩ := hK
  refine AWPL_rn tab_ok 2 [4] fun c st' hr => ?_
  simp only [go_sem, reduceIte, reduceCtorEq, Nat.reduceEqDiff, Nat.reduceLT, Nat.reduceLeDiff, Nat.reduceBEq, Nat.reduceAdd, Nat.reduceMul, Nat.reduceSub, Nat.reducePow, Int.reduceLE, Int.reduceLT, Int.reduceNeg, Int.reduceToNat, Int.reduceAdd, Int.reduceSub] at hr
  obtain ⟨rfl, rfl⟩ := hr
  refine ⟨vc, ?_⟩
  replace hK := bind_s hK
  obtain ⟨y, hy, hK⟩ := hK
  refine AWPL_callK [5] (W_bits_OnesCount hy) rfl rfl pcT rfl Tryd.call50 (.cons (.atom _ rfl) .nil) (hscG trivial) (of_decide_eq_true rfl) (by first | rfl | simp [nI, nI1, nI0]) (by first | rfl | simp [nIB, nI0]) fun st' hr => ?_
  simp only [go_sem, reduceIte, reduceCtorEq, Nat.reduceEqDiff, Nat.reduceLT, Nat.reduceLeDiff, Nat.reduceBEq, Nat.reduceAdd, Nat.reduceMul, Nat.reduceSub, Nat.reducePow, Int.reduceLE, Int.reduceLT, Int.reduceNeg, Int.reduceToNat, Int.reduceAdd, Int.reduceSub] at hr
  subst hr
  clear hy
  refine AWPL_rn tab_ok 1 [2] fun c st' hr => ?_
  simp only [go_sem, reduceIte, reduceCtorEq, Nat.reduceEqDiff, Nat.reduceLT, Nat.reduceLeDiff, Nat.reduceBEq, Nat.reduceAdd, Nat.reduceMul, Nat.reduceSub, Nat.reducePow, Int.reduceLE, Int.reduceLT, Int.reduceNeg, Int.reduceToNat, Int.reduceAdd, Int.reduceSub] at hr
  obtain ⟨rfl, rfl⟩ := hr
  refine ⟨vc, ?_⟩
  refine AWPL_nil ?_
  with_reducible refine thenC_normal ?_
  refine AWP_ret ?_
  cases hK
  refine EndsRW [] (.inl rfl) (of_decide_eq_true rfl) (by simp) rfl (fun c x hr => ?_) trivial
  simp only [go_sem, reduceIte, reduceCtorEq, Nat.reduceEqDiff, Nat.reduceLT, Nat.reduceLeDiff, Nat.reduceBEq, Nat.reduceAdd, Nat.reduceMul, Nat.reduceSub, Nat.reducePow, Int.reduceLE, Int.reduceLT, Int.reduceNeg, Int.reduceToNat, Int.reduceAdd, Int.reduceSub] at hr
  obtain ⟨rfl, rfl⟩ := hr
  exact ⟨rfl, endR⟩

set_option maxRecDepth 8000 in
set_option maxHeartbeats 4000000 in
theorem W_kinds_Laminar_1 {s : Int} {c0 : List Int} {c1 : List Int} {r : Bool} (hK : kinds_Laminar_1 s c0 c1 = some r) : Pure Tryd.prog 68 [.int .i64 s, .immp [.ints .i64 c0], .immp [.ints .i64 c1]] (.bool r) [] := by
  refine Pure_introF tab_ok (n := 24) (l := [.tmp 4]) Tryd.func68 rfl rfl rfl (by simp) fun hfact w0 => ?_
  simp only [factL1, fact1, fact0, factL0, lo, hi, maxLen, and_true] at hfact
  unfold kinds_Laminar_1 at hK
  refine AWP_seq ?_
  -- region 0
  refine AWP_rg tab_ok [0, 1, 2] fun c st' hr => ?_
  simp only [go_sem, reduceIte, reduceCtorEq, Nat.reduceEqDiff, Nat.reduceLT, Nat.reduceLeDiff, Nat.reduceBEq, Nat.reduceAdd, Nat.reduceMul, Nat.reduceSub, Nat.reducePow, Int.reduceLE, Int.reduceLT, Int.reduceNeg, Int.reduceToNat, Int.reduceAdd, Int.reduceSub] at hr
  obtain ⟨rfl, rfl⟩ := hr
  refine ⟨vc, ?_⟩
  with_reducible refine thenC_normal ?_
  refine AWP_seq ?_
  refine AWP_seq ?_
  -- region 1
  refine AWP_rg tab_ok [0, 2, 7, 8, 9] fun c st' hr => ?_
  simp only [go_sem, reduceIte, reduceCtorEq, Nat.reduceEqDiff, Nat.reduceLT, Nat.reduceLeDiff, Nat.reduceBEq, Nat.reduceAdd, Nat.reduceMul, Nat.reduceSub, Nat.reducePow, Int.reduceLE, Int.reduceLT, Int.reduceNeg, Int.reduceToNat, Int.reduceAdd, Int.reduceSub] at hr
  obtain ⟨rfl, rfl⟩ := hr
  refine ⟨vc, ?_⟩
  with_reducible refine thenC_normal ?_
  refine AWP_block ?_
  refine AWP_loopX 0 (fun (v : Int) => ⟨24, [(0, .int .i64 s), (2, .immp [.ints .i64 c1]), (7, .ints .i64 c0), (8, .int .i64 (c0.length : Int)), (9, .int .i64 v)], []⟩) (fun (_ : Unit) => ⟨24, [], []⟩) Sum.inl 0 [] hK mkWk ?_ ?_
  · clear hK; rintro v b hK hpost1
    try dsimp only at hK
    change AWP _ _ _ _ ⟨24, [(0, .int .i64 s), (2, .immp [.ints .i64 c1]), (7, .ints .i64 c0), (8, .int .i64 (c0.length : Int)), (9, .int .i64 v)], []⟩
    refine AWP_seq ?_
    -- region 2
    refine AWP_rg tab_ok [0, 2, 7, 8, 9, 10] fun c st' hr => ?_
    simp only [go_sem, reduceIte, reduceCtorEq, Nat.reduceEqDiff, Nat.reduceLT, Nat.reduceLeDiff, Nat.reduceBEq, Nat.reduceAdd, Nat.reduceMul, Nat.reduceSub, Nat.reducePow, Int.reduceLE, Int.reduceLT, Int.reduceNeg, Int.reduceToNat, Int.reduceAdd, Int.reduceSub] at hr
    obtain ⟨rfl, rfl⟩ := hr
    refine ⟨vc, ?_⟩
    with_reducible refine thenC_normal ?_
    refine AWP_seq ?_
    refine AWP_condP (v < (c0.length : Int)) rfl bd (fun hb => ?_) (fun hb => ?_)
    · replace hK := ite_t hK hb
      refine AWP_skip ?_
      with_reducible refine thenC_normal ?_
      refine AWP_seq ?_
      refine AWP_block ?_
      refine AWP_seq ?_
      -- region 3
      replace hK := chk_some hK
      obtain ⟨h, hK⟩ := hK
      refine AWP_rg tab_ok [0, 2, 5, 6, 7, 8, 9] fun c st' hr => ?_
      simp only [go_sem, reduceIte, reduceCtorEq, Nat.reduceEqDiff, Nat.reduceLT, Nat.reduceLeDiff, Nat.reduceBEq, Nat.reduceAdd, Nat.reduceMul, Nat.reduceSub, Nat.reducePow, Int.reduceLE, Int.reduceLT, Int.reduceNeg, Int.reduceToNat, Int.reduceAdd, Int.reduceSub] at hr
      obtain ⟨rfl, rfl⟩ := hr
      refine ⟨vc, ?_⟩
      with_reducible refine thenC_normal ?_
      refine AWP_seq ?_
      -- region 4
      refine AWP_drawQ mixed (by kernel_rfl) ?_
      refine AWQL_rn tab_ok 3 [0, 2, 5, 7, 8, 9, 16] fun c st' hr => ?_
      simp only [go_sem, reduceIte, reduceCtorEq, Nat.reduceEqDiff, Nat.reduceLT, Nat.reduceLeDiff, Nat.reduceBEq, Nat.reduceAdd, Nat.reduceMul, Nat.reduceSub, Nat.reducePow, Int.reduceLE, Int.reduceLT, Int.reduceNeg, Int.reduceToNat, Int.reduceAdd, Int.reduceSub] at hr
      obtain ⟨rfl, rfl⟩ := hr
      refine ⟨vc, ?_⟩
      replace hK := bind_s hK
      obtain ⟨y, hy, hK⟩ := hK
      refine AWQL_callK [0, 2, 5, 7, 8, 9, 17] (W_kinds_size hy) rfl rfl pcT rfl Tryd.call69 (.cons (.atom _ rfl) .nil) (hscG trivial) (of_decide_eq_true rfl) rfl fun st' hr => ?_
      simp only [go_sem, reduceIte, reduceCtorEq, Nat.reduceEqDiff, Nat.reduceLT, Nat.reduceLeDiff, Nat.reduceBEq, Nat.reduceAdd, Nat.reduceMul, Nat.reduceSub, Nat.reducePow, Int.reduceLE, Int.reduceLT, Int.reduceNeg, Int.reduceToNat, Int.reduceAdd, Int.reduceSub] at hr
      subst hr
      clear hy
      replace hK := chk_some hK
      obtain ⟨h1, hK⟩ := hK
      refine AWQL_rn tab_ok 5 [0, 2, 7, 8, 9, 22] fun c st' hr => ?_
      simp only [go_sem, reduceIte, reduceCtorEq, Nat.reduceEqDiff, Nat.reduceLT, Nat.reduceLeDiff, Nat.reduceBEq, Nat.reduceAdd, Nat.reduceMul, Nat.reduceSub, Nat.reducePow, Int.reduceLE, Int.reduceLT, Int.reduceNeg, Int.reduceToNat, Int.reduceAdd, Int.reduceSub] at hr
      obtain ⟨rfl, rfl⟩ := hr
      refine ⟨vc, ?_⟩
      refine AWQL_nil ?_
      with_reducible refine thenC_normal ?_
      refine AWP_condP (c1.getD v.toNat 0 < y) rfl bd (fun hb1 => ?_) (fun hb1 => ?_)
      · replace hK := ite_t hK hb1
        refine AWP_seq ?_
        -- region 5
        refine AWP_rg tab_ok [4] fun c st' hr => ?_
        simp only [go_sem, reduceIte, reduceCtorEq, Nat.reduceEqDiff, Nat.reduceLT, Nat.reduceLeDiff, Nat.reduceBEq, Nat.reduceAdd, Nat.reduceMul, Nat.reduceSub, Nat.reducePow, Int.reduceLE, Int.reduceLT, Int.reduceNeg, Int.reduceToNat, Int.reduceAdd, Int.reduceSub] at hr
        obtain ⟨rfl, rfl⟩ := hr
        refine ⟨vc, ?_⟩
        with_reducible refine thenC_normal ?_
        refine AWP_ret ?_
        with_reducible refine inBlockA_ret (thenC_ret (again_r (cutX_r (inBlockA_ret (thenC_ret ?_)))))
        replace hK := hpost1 _ hK
        try dsimp only at hK
        cases hK
        refine EndsRW [] (.inl rfl) (of_decide_eq_true rfl) (by simp) rfl (fun c x hr => ?_) trivial
        simp only [go_sem, reduceIte, reduceCtorEq, Nat.reduceEqDiff, Nat.reduceLT, Nat.reduceLeDiff, Nat.reduceBEq, Nat.reduceAdd, Nat.reduceMul, Nat.reduceSub, Nat.reducePow, Int.reduceLE, Int.reduceLT, Int.reduceNeg, Int.reduceToNat, Int.reduceAdd, Int.reduceSub] at hr
        obtain ⟨rfl, rfl⟩ := hr
        exact ⟨rfl, endR⟩
      · replace hK := ite_f hK hb1
        refine AWP_skip ?_
        with_reducible refine inBlockA_normal (thenC_normal ?_)
        -- region 6
        refine AWP_facts (by simp) fun hfx => ?_
        simp only [factS, factV, fact1, fact0, factL0, lo, hi, maxLen, and_true, true_and] at hfx
        refine AWP_rg tab_ok [0, 2, 7, 8, 9] fun c st' hr => ?_
        simp only [go_sem, reduceIte, reduceCtorEq, Nat.reduceEqDiff, Nat.reduceLT, Nat.reduceLeDiff, Nat.reduceBEq, Nat.reduceAdd, Nat.reduceMul, Nat.reduceSub, Nat.reducePow, Int.reduceLE, Int.reduceLT, Int.reduceNeg, Int.reduceToNat, Int.reduceAdd, Int.reduceSub] at hr
        obtain ⟨rfl, rfl⟩ := hr
        refine ⟨vc, ?_⟩
        clear hfx
        refine again_n (v + 1) [] hK mkWk
    · replace hK := ite_f hK hb
      refine AWP_exit ?_
      with_reducible refine thenC_exit (again_x ?_)
      refine cutX_here () [] (by have hq := hpost1 _ hK; exact hq) mkWk
  · clear hK; rintro _ hK
    try dsimp only at hK
    refine exS ⟨24, [], []⟩ rfl ?_
    with_reducible refine inBlockA_exit (thenC_normal ?_)
    refine AWP_seq ?_
    -- region 7
    refine AWP_rg tab_ok [4] fun c st' hr => ?_
    simp only [go_sem, reduceIte, reduceCtorEq, Nat.reduceEqDiff, Nat.reduceLT, Nat.reduceLeDiff, Nat.reduceBEq, Nat.reduceAdd, Nat.reduceMul, Nat.reduceSub, Nat.reducePow, Int.reduceLE, Int.reduceLT, Int.reduceNeg, Int.reduceToNat, Int.reduceAdd, Int.reduceSub] at hr
    obtain ⟨rfl, rfl⟩ := hr
    refine ⟨vc, ?_⟩
    with_reducible refine thenC_normal ?_
    refine AWP_ret ?_
    cases hK
    refine EndsRW [] (.inl rfl) (of_decide_eq_true rfl) (by simp) rfl (fun c x hr => ?_) trivial
    simp only [go_sem, reduceIte, reduceCtorEq, Nat.reduceEqDiff, Nat.reduceLT, Nat.reduceLeDiff, Nat.reduceBEq, Nat.reduceAdd, Nat.reduceMul, Nat.reduceSub, Nat.reducePow, Int.reduceLE, Int.reduceLT, Int.reduceNeg, Int.reduceToNat, Int.reduceAdd, Int.reduceSub] at hr
    obtain ⟨rfl, rfl⟩ := hr
    exact ⟨rfl, endR⟩

set_option maxRecDepth 8000 in
set_option maxHeartbeats 4000000 in
theorem W_kinds_greatest {n : Int} {independent : Int → Option (Bool)} {independentP : Nat} {independentC : List AVal} (hindependentf : ∀ args w, (callFunc independentP args).run Tryd.prog w = .ok (.enter independentP args) w) (hindependenta : independentC.all atomB = true) (hindependent : ∀ x0 r, independent x0 = some r → Pure Tryd.prog independentP ([.int .i64 x0] ++ independentC) (.bool r) []) {r : Int × List Int} (hK : kinds_greatest n independent = some r) : Pure Tryd.prog 60 [.int .i64 n, .func independentP independentC] (.agg [.int .i64 r.1, .own 0 r.2.length]) [(.ints 3 .i64 r.2)] := by
  refine Pure_introF tab_ok (n := 40) (l := [.cell 4 51]) Tryd.func60 rfl rfl rfl (by simp) fun hfact w0 => ?_
  have hindependentr : ∀ ρ, List.map (ren0 ρ) independentC = independentC := fun ρ => ren_atoms ρ hindependenta
  simp only [factL1, fact1, fact0, factL0, lo, hi, maxLen, and_true] at hfact
  unfold kinds_greatest at hK
  refine AWP_seq ?_
  -- region 0
  refine AWP_rg tab_ok [0, 1, 4] fun c st' hr => ?_
  simp only [go_sem, reduceIte, reduceCtorEq, Nat.reduceEqDiff, Nat.reduceLT, Nat.reduceLeDiff, Nat.reduceBEq, Nat.reduceAdd, Nat.reduceMul, Nat.reduceSub, Nat.reducePow, Int.reduceLE, Int.reduceLT, Int.reduceNeg, Int.reduceToNat, Int.reduceAdd, Int.reduceSub] at hr
  obtain ⟨rfl, rfl⟩ := hr
  refine ⟨vc, ?_⟩
  with_reducible refine thenC_normal ?_
  refine AWP_ownH 0 1 (.ints 3 .i64 []) rfl rfl rfl fun st' hr => ?_
  simp only [go_sem, reduceIte, reduceCtorEq, Nat.reduceEqDiff, Nat.reduceLT, Nat.reduceLeDiff, Nat.reduceBEq, Nat.reduceAdd, Nat.reduceMul, Nat.reduceSub, Nat.reducePow, Int.reduceLE, Int.reduceLT, Int.reduceNeg, Int.reduceToNat, Int.reduceAdd, Int.reduceSub] at hr
  subst hr
  refine AWP_seq ?_
  -- region 1
  refine AWP_rg tab_ok [0, 1, 4, 5] fun c st' hr => ?_
  simp only [go_sem, reduceIte, reduceCtorEq, Nat.reduceEqDiff, Nat.reduceLT, Nat.reduceLeDiff, Nat.reduceBEq, Nat.reduceAdd, Nat.reduceMul, Nat.reduceSub, Nat.reducePow, Int.reduceLE, Int.reduceLT, Int.reduceNeg, Int.reduceToNat, Int.reduceAdd, Int.reduceSub] at hr
  obtain ⟨rfl, rfl⟩ := hr
  refine ⟨vc, ?_⟩
  with_reducible refine thenC_normal ?_
  refine AWP_ownH 2 1 (.ints 3 .i64 []) rfl rfl rfl fun st' hr => ?_
  simp only [go_sem, reduceIte, reduceCtorEq, Nat.reduceEqDiff, Nat.reduceLT, Nat.reduceLeDiff, Nat.reduceBEq, Nat.reduceAdd, Nat.reduceMul, Nat.reduceSub, Nat.reducePow, Int.reduceLE, Int.reduceLT, Int.reduceNeg, Int.reduceToNat, Int.reduceAdd, Int.reduceSub] at hr
  subst hr
  refine AWP_seq ?_
  -- region 2
  refine AWP_rg tab_ok [0, 1, 4, 5, 6] fun c st' hr => ?_
  simp only [go_sem, reduceIte, reduceCtorEq, Nat.reduceEqDiff, Nat.reduceLT, Nat.reduceLeDiff, Nat.reduceBEq, Nat.reduceAdd, Nat.reduceMul, Nat.reduceSub, Nat.reducePow, Int.reduceLE, Int.reduceLT, Int.reduceNeg, Int.reduceToNat, Int.reduceAdd, Int.reduceSub] at hr
  obtain ⟨rfl, rfl⟩ := hr
  refine ⟨vc, ?_⟩
  with_reducible refine thenC_normal ?_
  refine AWP_seq ?_
  refine AWP_seq ?_
  -- region 3
  replace hK := chk_some hK
  obtain ⟨h, hK⟩ := hK
  refine AWP_rg tab_ok [1, 4, 5, 6, 11, 12] fun c st' hr => ?_
  simp only [go_sem, reduceIte, reduceCtorEq, Nat.reduceEqDiff, Nat.reduceLT, Nat.reduceLeDiff, Nat.reduceBEq, Nat.reduceAdd, Nat.reduceMul, Nat.reduceSub, Nat.reducePow, Int.reduceLE, Int.reduceLT, Int.reduceNeg, Int.reduceToNat, Int.reduceAdd, Int.reduceSub] at hr
  obtain ⟨rfl, rfl⟩ := hr
  refine ⟨vc, ?_⟩
  with_reducible refine thenC_normal ?_
  refine AWP_block ?_
  refine AWP_loopX 0 (fun ((m, most, v) : List Int × Int × Int) => ⟨40, [(1, .func independentP independentC), (4, .ptr 0 0 0), (5, .ptr 2 0 0), (6, .int .i64 most), (11, .int .i64 (2 ^ n.toNat : Int)), (12, .int .i64 v)], [some (.gen 51 2 [[.int .i64 0, .own 1 0]]), some (.ints 3 .i64 []), some (.gen 51 2 [[.int .i64 n, .own 3 m.length]]), some (.ints 3 .i64 m)]⟩) (fun (m1 : List Int) => ⟨40, [(4, .ptr 0 0 0), (5, .ptr 2 0 0)], [some (.gen 51 2 [[.int .i64 0, .own 1 0]]), some (.ints 3 .i64 []), some (.gen 51 2 [[.int .i64 n, .own 3 m1.length]]), some (.ints 3 .i64 m1)]⟩) (fun v => v) ([], (-1), 0) [0, 1, 2, 3] hK mkWk ?_ ?_
  · clear hK; rintro ⟨m, most, v⟩ b hK hpost1
    try dsimp only at hK
    change AWP _ _ _ _ ⟨40, [(1, .func independentP independentC), (4, .ptr 0 0 0), (5, .ptr 2 0 0), (6, .int .i64 most), (11, .int .i64 (2 ^ n.toNat : Int)), (12, .int .i64 v)], [some (.gen 51 2 [[.int .i64 0, .own 1 0]]), some (.ints 3 .i64 []), some (.gen 51 2 [[.int .i64 n, .own 3 m.length]]), some (.ints 3 .i64 m)]⟩
    refine AWP_seq ?_
    -- region 4
    refine AWP_rg tab_ok [1, 4, 5, 6, 11, 12, 13] fun c st' hr => ?_
    simp only [go_sem, reduceIte, reduceCtorEq, Nat.reduceEqDiff, Nat.reduceLT, Nat.reduceLeDiff, Nat.reduceBEq, Nat.reduceAdd, Nat.reduceMul, Nat.reduceSub, Nat.reducePow, Int.reduceLE, Int.reduceLT, Int.reduceNeg, Int.reduceToNat, Int.reduceAdd, Int.reduceSub] at hr
    obtain ⟨rfl, rfl⟩ := hr
    refine ⟨vc, ?_⟩
    with_reducible refine thenC_normal ?_
    refine AWP_seq ?_
    refine AWP_condP (v < (2 ^ n.toNat : Int)) rfl bd (fun hb => ?_) (fun hb => ?_)
    · replace hK := ite_t hK hb
      refine AWP_skip ?_
      with_reducible refine thenC_normal ?_
      refine AWP_seq ?_
      refine AWP_block ?_
      refine AWP_seq ?_
      -- region 5
      refine AWP_rg tab_ok [1, 4, 5, 6, 7, 11, 12] fun c st' hr => ?_
      simp only [go_sem, reduceIte, reduceCtorEq, Nat.reduceEqDiff, Nat.reduceLT, Nat.reduceLeDiff, Nat.reduceBEq, Nat.reduceAdd, Nat.reduceMul, Nat.reduceSub, Nat.reducePow, Int.reduceLE, Int.reduceLT, Int.reduceNeg, Int.reduceToNat, Int.reduceAdd, Int.reduceSub] at hr
      obtain ⟨rfl, rfl⟩ := hr
      refine ⟨vc, ?_⟩
      with_reducible refine thenC_normal ?_
      refine AWP_seq ?_
      refine AWP_seq ?_
      -- region 6
      refine AWP_rl ?_
      refine AWPL_rn tab_ok 1 [1, 4, 5, 6, 7, 11, 12, 15] fun c st' hr => ?_
      simp only [go_sem, reduceIte, reduceCtorEq, Nat.reduceEqDiff, Nat.reduceLT, Nat.reduceLeDiff, Nat.reduceBEq, Nat.reduceAdd, Nat.reduceMul, Nat.reduceSub, Nat.reducePow, Int.reduceLE, Int.reduceLT, Int.reduceNeg, Int.reduceToNat, Int.reduceAdd, Int.reduceSub] at hr
      obtain ⟨rfl, rfl⟩ := hr
      refine ⟨vc, ?_⟩
      replace hK := bind_s hK
      obtain ⟨y, hy, hK⟩ := hK
      refine AWPL_callK [1, 4, 5, 6, 7, 11, 12, 16] (W_kinds_size hy) rfl rfl pcT rfl Tryd.call69 (.cons (.atom _ rfl) .nil) (hscG trivial) (of_decide_eq_true rfl) (by first | rfl | simp [nI, nI1, nI0]) (by first | rfl | simp [nIB, nI0]) fun st' hr => ?_
      simp only [go_sem, reduceIte, reduceCtorEq, Nat.reduceEqDiff, Nat.reduceLT, Nat.reduceLeDiff, Nat.reduceBEq, Nat.reduceAdd, Nat.reduceMul, Nat.reduceSub, Nat.reducePow, Int.reduceLE, Int.reduceLT, Int.reduceNeg, Int.reduceToNat, Int.reduceAdd, Int.reduceSub] at hr
      subst hr
      clear hy
      refine AWPL_rn tab_ok 5 [1, 4, 5, 6, 7, 11, 12, 19, 20, 21] fun c st' hr => ?_
      simp only [go_sem, reduceIte, reduceCtorEq, Nat.reduceEqDiff, Nat.reduceLT, Nat.reduceLeDiff, Nat.reduceBEq, Nat.reduceAdd, Nat.reduceMul, Nat.reduceSub, Nat.reducePow, Int.reduceLE, Int.reduceLT, Int.reduceNeg, Int.reduceToNat, Int.reduceAdd, Int.reduceSub] at hr
      obtain ⟨rfl, rfl⟩ := hr
      refine ⟨vc, ?_⟩
      by_cases hg : ¬ (y < most)
      · replace hK := ite_t hK hg
        refine AWPL_stP [(1, .func independentP independentC), (4, .ptr 0 0 0), (5, .ptr 2 0 0), (6, .int .i64 most), (7, .int .i64 v), (11, .int .i64 (2 ^ n.toNat : Int)), (12, .int .i64 v), (19, .bool false), (20, .opt true (.func independentP independentC)), (21, .opt true (.int .i64 v))] (by first | (simp [SameS, AX.look, hg]; done) | (simp at hg ⊢; simp [SameS, AX.look, hg]; done) | (simp_all [SameS, AX.look]; done)) ?_
        refine AWPL_unopt 20 (.func independentP independentC) rfl fun st' hr => ?_
        simp only [go_sem, reduceIte, reduceCtorEq, Nat.reduceEqDiff, Nat.reduceLT, Nat.reduceLeDiff, Nat.reduceBEq, Nat.reduceAdd, Nat.reduceMul, Nat.reduceSub, Nat.reducePow, Int.reduceLE, Int.reduceLT, Int.reduceNeg, Int.reduceToNat, Int.reduceAdd, Int.reduceSub] at hr
        subst hr
        replace hK := bind_s hK
        obtain ⟨y1, hy, hK⟩ := hK
        refine AWPL_callK [1, 4, 5, 6, 7, 11, 12, 19, 22] (hindependent _ _ hy) rfl rfl pcT rfl hindependentf (.app (.cons (.atom _ rfl) .nil) (.refl hindependenta)) (hscG trivial) (of_decide_eq_true rfl) (by first | rfl | simp [nI, nI1, nI0]) (by first | rfl | simp [nIB, nI0]) fun st' hr => ?_
        simp only [go_sem, reduceIte, reduceCtorEq, Nat.reduceEqDiff, Nat.reduceLT, Nat.reduceLeDiff, Nat.reduceBEq, Nat.reduceAdd, Nat.reduceMul, Nat.reduceSub, Nat.reducePow, Int.reduceLE, Int.reduceLT, Int.reduceNeg, Int.reduceToNat, Int.reduceAdd, Int.reduceSub] at hr
        subst hr
        clear hy
        refine AWPL_rn tab_ok 2 [1, 4, 5, 6, 7, 11, 12, 24] fun c st' hr => ?_
        simp only [go_sem, reduceIte, reduceCtorEq, Nat.reduceEqDiff, Nat.reduceLT, Nat.reduceLeDiff, Nat.reduceBEq, Nat.reduceAdd, Nat.reduceMul, Nat.reduceSub, Nat.reducePow, Int.reduceLE, Int.reduceLT, Int.reduceNeg, Int.reduceToNat, Int.reduceAdd, Int.reduceSub] at hr
        obtain ⟨rfl, rfl⟩ := hr
        refine ⟨vc, ?_⟩
        refine AWPL_nil ?_
        with_reducible refine thenC_normal ?_
        refine AWP_condP (¬ (y1 = true)) rfl bd (fun hb1 => ?_) (fun hb1 => ?_)
        · replace hK := ite_t hK hb1
          refine AWP_exit ?_
          with_reducible refine thenC_exit (inBlockA_exit (thenC_normal ?_))
          -- region 10
          refine AWP_facts (by simp) fun hfx => ?_
          simp only [factS, factV, fact1, fact0, factL0, lo, hi, maxLen, and_true, true_and] at hfx
          refine AWP_rg tab_ok [1, 4, 5, 6, 11, 12] fun c st' hr => ?_
          simp only [go_sem, reduceIte, reduceCtorEq, Nat.reduceEqDiff, Nat.reduceLT, Nat.reduceLeDiff, Nat.reduceBEq, Nat.reduceAdd, Nat.reduceMul, Nat.reduceSub, Nat.reducePow, Int.reduceLE, Int.reduceLT, Int.reduceNeg, Int.reduceToNat, Int.reduceAdd, Int.reduceSub] at hr
          obtain ⟨rfl, rfl⟩ := hr
          refine ⟨vc, ?_⟩
          clear hfx
          refine again_n (m, most, v + 1) [0, 1, 2, 3] hK mkWk
        · replace hK := ite_f hK hb1
          refine AWP_skip ?_
          with_reducible refine thenC_normal ?_
          refine AWP_seq ?_
          refine AWP_seq ?_
          -- region 7
          refine AWP_rl ?_
          refine AWPL_rn tab_ok 1 [1, 4, 5, 6, 7, 11, 12, 25] fun c st' hr => ?_
          simp only [go_sem, reduceIte, reduceCtorEq, Nat.reduceEqDiff, Nat.reduceLT, Nat.reduceLeDiff, Nat.reduceBEq, Nat.reduceAdd, Nat.reduceMul, Nat.reduceSub, Nat.reducePow, Int.reduceLE, Int.reduceLT, Int.reduceNeg, Int.reduceToNat, Int.reduceAdd, Int.reduceSub] at hr
          obtain ⟨rfl, rfl⟩ := hr
          refine ⟨vc, ?_⟩
          replace hK := bind_s hK
          obtain ⟨y2, hy, hK⟩ := hK
          refine AWPL_callK [1, 4, 5, 6, 7, 11, 12, 26] (W_kinds_size hy) rfl rfl pcT rfl Tryd.call69 (.cons (.atom _ rfl) .nil) (hscG trivial) (of_decide_eq_true rfl) (by first | rfl | simp [nI, nI1, nI0]) (by first | rfl | simp [nIB, nI0]) fun st' hr => ?_
          simp only [go_sem, reduceIte, reduceCtorEq, Nat.reduceEqDiff, Nat.reduceLT, Nat.reduceLeDiff, Nat.reduceBEq, Nat.reduceAdd, Nat.reduceMul, Nat.reduceSub, Nat.reducePow, Int.reduceLE, Int.reduceLT, Int.reduceNeg, Int.reduceToNat, Int.reduceAdd, Int.reduceSub] at hr
          subst hr
          clear hy
          refine AWPL_rn tab_ok 2 [1, 4, 5, 6, 7, 11, 12, 28] fun c st' hr => ?_
          simp only [go_sem, reduceIte, reduceCtorEq, Nat.reduceEqDiff, Nat.reduceLT, Nat.reduceLeDiff, Nat.reduceBEq, Nat.reduceAdd, Nat.reduceMul, Nat.reduceSub, Nat.reducePow, Int.reduceLE, Int.reduceLT, Int.reduceNeg, Int.reduceToNat, Int.reduceAdd, Int.reduceSub] at hr
          obtain ⟨rfl, rfl⟩ := hr
          refine ⟨vc, ?_⟩
          refine AWPL_nil ?_
          with_reducible refine thenC_normal ?_
          refine AWP_condP (most < y2) rfl bd (fun hb2 => ?_) (fun hb2 => ?_)
          · replace hK := ite_t hK hb2
            -- region 8
            refine AWP_rl ?_
            refine AWPL_rn tab_ok 1 [1, 4, 5, 7, 11, 12, 29] fun c st' hr => ?_
            simp only [go_sem, reduceIte, reduceCtorEq, Nat.reduceEqDiff, Nat.reduceLT, Nat.reduceLeDiff, Nat.reduceBEq, Nat.reduceAdd, Nat.reduceMul, Nat.reduceSub, Nat.reducePow, Int.reduceLE, Int.reduceLT, Int.reduceNeg, Int.reduceToNat, Int.reduceAdd, Int.reduceSub] at hr
            obtain ⟨rfl, rfl⟩ := hr
            refine ⟨vc, ?_⟩
            replace hK := bind_s hK
            obtain ⟨y3, hy, hK⟩ := hK
            refine AWPL_callK [1, 4, 5, 7, 11, 12, 30] (W_kinds_size hy) rfl rfl pcT rfl Tryd.call69 (.cons (.atom _ rfl) .nil) (hscG trivial) (of_decide_eq_true rfl) (by first | rfl | simp [nI, nI1, nI0]) (by first | rfl | simp [nIB, nI0]) fun st' hr => ?_
            simp only [go_sem, reduceIte, reduceCtorEq, Nat.reduceEqDiff, Nat.reduceLT, Nat.reduceLeDiff, Nat.reduceBEq, Nat.reduceAdd, Nat.reduceMul, Nat.reduceSub, Nat.reducePow, Int.reduceLE, Int.reduceLT, Int.reduceNeg, Int.reduceToNat, Int.reduceAdd, Int.reduceSub] at hr
            subst hr
            clear hy
            refine AWPL_rn tab_ok 3 [1, 4, 5, 6, 7, 11, 12] fun c st' hr => ?_
            simp only [go_sem, reduceIte, reduceCtorEq, Nat.reduceEqDiff, Nat.reduceLT, Nat.reduceLeDiff, Nat.reduceBEq, Nat.reduceAdd, Nat.reduceMul, Nat.reduceSub, Nat.reducePow, Int.reduceLE, Int.reduceLT, Int.reduceNeg, Int.reduceToNat, Int.reduceAdd, Int.reduceSub] at hr
            obtain ⟨rfl, rfl⟩ := hr
            refine ⟨vc, ?_⟩
            refine AWPL_nil ?_
            with_reducible refine thenC_normal ?_
            refine AWP_ownH 2 1 (.ints 3 .i64 []) rfl rfl rfl fun st' hr => ?_
            simp only [go_sem, reduceIte, reduceCtorEq, Nat.reduceEqDiff, Nat.reduceLT, Nat.reduceLeDiff, Nat.reduceBEq, Nat.reduceAdd, Nat.reduceMul, Nat.reduceSub, Nat.reducePow, Int.reduceLE, Int.reduceLT, Int.reduceNeg, Int.reduceToNat, Int.reduceAdd, Int.reduceSub] at hr
            subst hr
            -- region 9
            replace hK := chk_some hK
            obtain ⟨h1, hK⟩ := hK
            refine AWP_rg tab_ok [1, 4, 5, 6, 11, 12] fun c st' hr => ?_
            simp only [go_sem, reduceIte, reduceCtorEq, Nat.reduceEqDiff, Nat.reduceLT, Nat.reduceLeDiff, Nat.reduceBEq, Nat.reduceAdd, Nat.reduceMul, Nat.reduceSub, Nat.reducePow, Int.reduceLE, Int.reduceLT, Int.reduceNeg, Int.reduceToNat, Int.reduceAdd, Int.reduceSub] at hr
            obtain ⟨rfl, rfl⟩ := hr
            refine ⟨vc, ?_⟩
            with_reducible refine inBlockA_normal (thenC_normal ?_)
            -- region 10
            refine AWP_facts (by simp) fun hfx => ?_
            simp only [factS, factV, fact1, fact0, factL0, lo, hi, maxLen, and_true, true_and] at hfx
            refine AWP_rg tab_ok [1, 4, 5, 6, 11, 12] fun c st' hr => ?_
            simp only [go_sem, reduceIte, reduceCtorEq, Nat.reduceEqDiff, Nat.reduceLT, Nat.reduceLeDiff, Nat.reduceBEq, Nat.reduceAdd, Nat.reduceMul, Nat.reduceSub, Nat.reducePow, Int.reduceLE, Int.reduceLT, Int.reduceNeg, Int.reduceToNat, Int.reduceAdd, Int.reduceSub] at hr
            obtain ⟨rfl, rfl⟩ := hr
            refine ⟨vc, ?_⟩
            clear hfx
            refine again_n ([v], y3, v + 1) [0, 1, 2, 6] hK mkWk
          · replace hK := ite_f hK hb2
            refine AWP_skip ?_
            with_reducible refine thenC_normal ?_
            -- region 9
            replace hK := chk_some hK
            obtain ⟨h2, hK⟩ := hK
            refine AWP_rg tab_ok [1, 4, 5, 6, 11, 12] fun c st' hr => ?_
            simp only [go_sem, reduceIte, reduceCtorEq, Nat.reduceEqDiff, Nat.reduceLT, Nat.reduceLeDiff, Nat.reduceBEq, Nat.reduceAdd, Nat.reduceMul, Nat.reduceSub, Nat.reducePow, Int.reduceLE, Int.reduceLT, Int.reduceNeg, Int.reduceToNat, Int.reduceAdd, Int.reduceSub] at hr
            obtain ⟨rfl, rfl⟩ := hr
            refine ⟨vc, ?_⟩
            with_reducible refine inBlockA_normal (thenC_normal ?_)
            -- region 10
            refine AWP_facts (by simp) fun hfx => ?_
            simp only [factS, factV, fact1, fact0, factL0, lo, hi, maxLen, and_true, true_and] at hfx
            refine AWP_rg tab_ok [1, 4, 5, 6, 11, 12] fun c st' hr => ?_
            simp only [go_sem, reduceIte, reduceCtorEq, Nat.reduceEqDiff, Nat.reduceLT, Nat.reduceLeDiff, Nat.reduceBEq, Nat.reduceAdd, Nat.reduceMul, Nat.reduceSub, Nat.reducePow, Int.reduceLE, Int.reduceLT, Int.reduceNeg, Int.reduceToNat, Int.reduceAdd, Int.reduceSub] at hr
            obtain ⟨rfl, rfl⟩ := hr
            refine ⟨vc, ?_⟩
            clear hfx
            refine again_n (m ++ [v], most, v + 1) [0, 1, 2, 5] hK mkWk
      · replace hK := ite_f hK hg
        refine AWPL_stP [(1, .func independentP independentC), (4, .ptr 0 0 0), (5, .ptr 2 0 0), (6, .int .i64 most), (7, .int .i64 v), (11, .int .i64 (2 ^ n.toNat : Int)), (12, .int .i64 v), (19, .bool true), (20, .opt false (.func independentP independentC)), (21, .opt false (.int .i64 v))] (by first | (simp [SameS, AX.look, hg]; done) | (simp at hg ⊢; simp [SameS, AX.look, hg]; done) | (simp_all [SameS, AX.look]; done)) ?_
        refine AWPL_skipV [1, 4, 5, 6, 7, 11, 12, 19, 22] (.bool false) rfl pcF (of_decide_eq_true rfl) fun st' hr => ?_
        simp only [go_sem, reduceIte, reduceCtorEq, Nat.reduceEqDiff, Nat.reduceLT, Nat.reduceLeDiff, Nat.reduceBEq, Nat.reduceAdd, Nat.reduceMul, Nat.reduceSub, Nat.reducePow, Int.reduceLE, Int.reduceLT, Int.reduceNeg, Int.reduceToNat, Int.reduceAdd, Int.reduceSub] at hr
        subst hr
        refine AWPL_rn tab_ok 2 [1, 4, 5, 6, 7, 11, 12, 24] fun c st' hr => ?_
        simp only [go_sem, reduceIte, reduceCtorEq, Nat.reduceEqDiff, Nat.reduceLT, Nat.reduceLeDiff, Nat.reduceBEq, Nat.reduceAdd, Nat.reduceMul, Nat.reduceSub, Nat.reducePow, Int.reduceLE, Int.reduceLT, Int.reduceNeg, Int.reduceToNat, Int.reduceAdd, Int.reduceSub] at hr
        obtain ⟨rfl, rfl⟩ := hr
        refine ⟨vc, ?_⟩
        refine AWPL_nil ?_
        with_reducible refine thenC_normal ?_
        refine AWP_condP (True) rfl bd (fun hb3 => ?_) (fun hb3 => ?_)
        rotate_left 1
        · exact absurd trivial hb3
        clear hb3
        refine AWP_exit ?_
        with_reducible refine thenC_exit (inBlockA_exit (thenC_normal ?_))
        -- region 10
        refine AWP_facts (by simp) fun hfx => ?_
        simp only [factS, factV, fact1, fact0, factL0, lo, hi, maxLen, and_true, true_and] at hfx
        refine AWP_rg tab_ok [1, 4, 5, 6, 11, 12] fun c st' hr => ?_
        simp only [go_sem, reduceIte, reduceCtorEq, Nat.reduceEqDiff, Nat.reduceLT, Nat.reduceLeDiff, Nat.reduceBEq, Nat.reduceAdd, Nat.reduceMul, Nat.reduceSub, Nat.reducePow, Int.reduceLE, Int.reduceLT, Int.reduceNeg, Int.reduceToNat, Int.reduceAdd, Int.reduceSub] at hr
        obtain ⟨rfl, rfl⟩ := hr
        refine ⟨vc, ?_⟩
        clear hfx
        refine again_n (m, most, v + 1) [0, 1, 2, 3] hK mkWk
    · replace hK := ite_f hK hb
      refine AWP_exit ?_
      with_reducible refine thenC_exit (again_x ?_)
      refine cutX_here m [0, 1, 2, 3] (by have hq := hpost1 _ hK; exact hq) mkWk
  · clear hK; rintro m1 hK
    try dsimp only at hK
    refine exS ⟨40, [(4, .ptr 0 0 0), (5, .ptr 2 0 0)], [some (.gen 51 2 [[.int .i64 0, .own 1 0]]), some (.ints 3 .i64 []), some (.gen 51 2 [[.int .i64 n, .own 3 m1.length]]), some (.ints 3 .i64 m1)]⟩ rfl ?_
    with_reducible refine inBlockA_exit (thenC_normal ?_)
    refine AWP_seq ?_
    -- region 11
    refine AWP_rg tab_ok [4] fun c st' hr => ?_
    simp only [go_sem, reduceIte, reduceCtorEq, Nat.reduceEqDiff, Nat.reduceLT, Nat.reduceLeDiff, Nat.reduceBEq, Nat.reduceAdd, Nat.reduceMul, Nat.reduceSub, Nat.reducePow, Int.reduceLE, Int.reduceLT, Int.reduceNeg, Int.reduceToNat, Int.reduceAdd, Int.reduceSub] at hr
    obtain ⟨rfl, rfl⟩ := hr
    refine ⟨vc, ?_⟩
    with_reducible refine thenC_normal ?_
    refine AWP_ret ?_
    cases hK
    refine EndsRW [3] (.inl rfl) (of_decide_eq_true rfl) (by simp) rfl (fun c x hr => ?_) endH
    simp only [go_sem, reduceIte, reduceCtorEq, Nat.reduceEqDiff, Nat.reduceLT, Nat.reduceLeDiff, Nat.reduceBEq, Nat.reduceAdd, Nat.reduceMul, Nat.reduceSub, Nat.reducePow, Int.reduceLE, Int.reduceLT, Int.reduceNeg, Int.reduceToNat, Int.reduceAdd, Int.reduceSub] at hr
    obtain ⟨rfl, rfl⟩ := hr
    exact ⟨rfl, endR⟩

set_option maxRecDepth 8000 in
set_option maxHeartbeats 4000000 in
theorem W_kinds_Laminar {n : Int} {a1 : List Int} {a2 : List Int} {r : Int × List Int × Int} (hK : kinds_Laminar n a1 a2 = some r) : Pure Tryd.prog 37 [.int .i64 n, .ints .i64 a1, .ints .i64 a2] (.tup [.agg [.int .i64 r.1, .own 0 r.2.1.length], .int .i64 r.2.2]) [(.ints 3 .i64 r.2.1)] := by
  refine Pure_introF tab_ok (n := 69) (l := [.cell 6 51, .tmp 7]) Tryd.func37 rfl rfl rfl (by simp) fun hfact w0 => ?_
  simp only [factL1, fact1, fact0, factL0, lo, hi, maxLen, and_true] at hfact
  unfold kinds_Laminar at hK
  refine AWP_seq ?_
  -- region 0
  refine AWP_rg tab_ok [0, 4, 5, 6] fun c st' hr => ?_
  simp only [go_sem, reduceIte, reduceCtorEq, Nat.reduceEqDiff, Nat.reduceLT, Nat.reduceLeDiff, Nat.reduceBEq, Nat.reduceAdd, Nat.reduceMul, Nat.reduceSub, Nat.reducePow, Int.reduceLE, Int.reduceLT, Int.reduceNeg, Int.reduceToNat, Int.reduceAdd, Int.reduceSub] at hr
  obtain ⟨rfl, rfl⟩ := hr
  refine ⟨vc, ?_⟩
  with_reducible refine thenC_normal ?_
  refine AWP_ownH 2 1 (.ints 3 .i64 []) rfl rfl rfl fun st' hr => ?_
  simp only [go_sem, reduceIte, reduceCtorEq, Nat.reduceEqDiff, Nat.reduceLT, Nat.reduceLeDiff, Nat.reduceBEq, Nat.reduceAdd, Nat.reduceMul, Nat.reduceSub, Nat.reducePow, Int.reduceLE, Int.reduceLT, Int.reduceNeg, Int.reduceToNat, Int.reduceAdd, Int.reduceSub] at hr
  subst hr
  refine AWP_seq ?_
  refine AWP_seq ?_
  -- region 1
  refine AWP_rl ?_
  refine AWPL_rn tab_ok 2 [0, 4, 5, 6, 14, 15] fun c st' hr => ?_
  simp only [go_sem, reduceIte, reduceCtorEq, Nat.reduceEqDiff, Nat.reduceLT, Nat.reduceLeDiff, Nat.reduceBEq, Nat.reduceAdd, Nat.reduceMul, Nat.reduceSub, Nat.reducePow, Int.reduceLE, Int.reduceLT, Int.reduceNeg, Int.reduceToNat, Int.reduceAdd, Int.reduceSub] at hr
  obtain ⟨rfl, rfl⟩ := hr
  refine ⟨vc, ?_⟩
  replace hK := bind_s hK
  obtain ⟨y, hy, hK⟩ := hK
  refine AWPL_callK [0, 4, 5, 6, 16] (W_sets_Family hy) rfl rfl pcT rfl Tryd.call58 (.cons (.atom _ rfl) (.cons (.atom _ rfl) .nil)) (hscG trivial) (of_decide_eq_true rfl) (by first | rfl | simp [nI, nI1, nI0]) (by first | rfl | simp [nIB, nI0]) fun st' hr => ?_
  simp only [go_sem, reduceIte, reduceCtorEq, Nat.reduceEqDiff, Nat.reduceLT, Nat.reduceLeDiff, Nat.reduceBEq, Nat.reduceAdd, Nat.reduceMul, Nat.reduceSub, Nat.reducePow, Int.reduceLE, Int.reduceLT, Int.reduceNeg, Int.reduceToNat, Int.reduceAdd, Int.reduceSub] at hr
  subst hr
  clear hy
  refine AWPL_rn tab_ok 1 [0, 4, 5, 6, 8] fun c st' hr => ?_
  simp only [go_sem, reduceIte, reduceCtorEq, Nat.reduceEqDiff, Nat.reduceLT, Nat.reduceLeDiff, Nat.reduceBEq, Nat.reduceAdd, Nat.reduceMul, Nat.reduceSub, Nat.reducePow, Int.reduceLE, Int.reduceLT, Int.reduceNeg, Int.reduceToNat, Int.reduceAdd, Int.reduceSub] at hr
  obtain ⟨rfl, rfl⟩ := hr
  refine ⟨vc, ?_⟩
  refine AWPL_nil ?_
  with_reducible refine thenC_normal ?_
  refine AWP_seq ?_
  -- region 2
  refine AWP_rg tab_ok [0, 4, 5, 6, 8, 18] fun c st' hr => ?_
  simp only [go_sem, reduceIte, reduceCtorEq, Nat.reduceEqDiff, Nat.reduceLT, Nat.reduceLeDiff, Nat.reduceBEq, Nat.reduceAdd, Nat.reduceMul, Nat.reduceSub, Nat.reducePow, Int.reduceLE, Int.reduceLT, Int.reduceNeg, Int.reduceToNat, Int.reduceAdd, Int.reduceSub] at hr
  obtain ⟨rfl, rfl⟩ := hr
  refine ⟨vc, ?_⟩
  with_reducible refine thenC_normal ?_
  refine AWP_condP (y ≠ 0) rfl bd (fun hb => ?_) (fun hb => ?_)
  · replace hK := ite_t hK hb
    refine AWP_seq ?_
    -- region 3
    refine AWP_rg tab_ok [6, 7] fun c st' hr => ?_
    simp only [go_sem, reduceIte, reduceCtorEq, Nat.reduceEqDiff, Nat.reduceLT, Nat.reduceLeDiff, Nat.reduceBEq, Nat.reduceAdd, Nat.reduceMul, Nat.reduceSub, Nat.reducePow, Int.reduceLE, Int.reduceLT, Int.reduceNeg, Int.reduceToNat, Int.reduceAdd, Int.reduceSub] at hr
    obtain ⟨rfl, rfl⟩ := hr
    refine ⟨vc, ?_⟩
    with_reducible refine thenC_normal ?_
    refine AWP_ownH 2 1 (.ints 3 .i64 []) rfl rfl rfl fun st' hr => ?_
    simp only [go_sem, reduceIte, reduceCtorEq, Nat.reduceEqDiff, Nat.reduceLT, Nat.reduceLeDiff, Nat.reduceBEq, Nat.reduceAdd, Nat.reduceMul, Nat.reduceSub, Nat.reducePow, Int.reduceLE, Int.reduceLT, Int.reduceNeg, Int.reduceToNat, Int.reduceAdd, Int.reduceSub] at hr
    subst hr
    refine AWP_ret ?_
    with_reducible refine thenC_ret ?_
    cases hK
    refine EndsRW [4] (.inl rfl) (of_decide_eq_true rfl) (by simp) rfl (fun c x hr => ?_) endH
    simp only [go_sem, reduceIte, reduceCtorEq, Nat.reduceEqDiff, Nat.reduceLT, Nat.reduceLeDiff, Nat.reduceBEq, Nat.reduceAdd, Nat.reduceMul, Nat.reduceSub, Nat.reducePow, Int.reduceLE, Int.reduceLT, Int.reduceNeg, Int.reduceToNat, Int.reduceAdd, Int.reduceSub] at hr
    obtain ⟨rfl, rfl⟩ := hr
    exact ⟨rfl, endR⟩
  · replace hK := ite_f hK hb
    refine AWP_skip ?_
    with_reducible refine thenC_normal ?_
    refine AWP_seq ?_
    refine AWP_seq ?_
    -- region 4
    refine AWP_rg tab_ok [0, 4, 5, 6, 25] fun c st' hr => ?_
    simp only [go_sem, reduceIte, reduceCtorEq, Nat.reduceEqDiff, Nat.reduceLT, Nat.reduceLeDiff, Nat.reduceBEq, Nat.reduceAdd, Nat.reduceMul, Nat.reduceSub, Nat.reducePow, Int.reduceLE, Int.reduceLT, Int.reduceNeg, Int.reduceToNat, Int.reduceAdd, Int.reduceSub] at hr
    obtain ⟨rfl, rfl⟩ := hr
    refine ⟨vc, ?_⟩
    with_reducible refine thenC_normal ?_
    refine AWP_condP ((a2.length : Int) ≠ (a1.length : Int)) rfl bd (fun hb1 => ?_) (fun hb1 => ?_)
    · replace hK := ite_t hK hb1
      refine AWP_seq ?_
      -- region 5
      refine AWP_rg tab_ok [6, 7] fun c st' hr => ?_
      simp only [go_sem, reduceIte, reduceCtorEq, Nat.reduceEqDiff, Nat.reduceLT, Nat.reduceLeDiff, Nat.reduceBEq, Nat.reduceAdd, Nat.reduceMul, Nat.reduceSub, Nat.reducePow, Int.reduceLE, Int.reduceLT, Int.reduceNeg, Int.reduceToNat, Int.reduceAdd, Int.reduceSub] at hr
      obtain ⟨rfl, rfl⟩ := hr
      refine ⟨vc, ?_⟩
      with_reducible refine thenC_normal ?_
      refine AWP_ownH 2 1 (.ints 3 .i64 []) rfl rfl rfl fun st' hr => ?_
      simp only [go_sem, reduceIte, reduceCtorEq, Nat.reduceEqDiff, Nat.reduceLT, Nat.reduceLeDiff, Nat.reduceBEq, Nat.reduceAdd, Nat.reduceMul, Nat.reduceSub, Nat.reducePow, Int.reduceLE, Int.reduceLT, Int.reduceNeg, Int.reduceToNat, Int.reduceAdd, Int.reduceSub] at hr
      subst hr
      refine AWP_ret ?_
      with_reducible refine thenC_ret ?_
      cases hK
      refine EndsRW [4] (.inl rfl) (of_decide_eq_true rfl) (by simp) rfl (fun c x hr => ?_) endH
      simp only [go_sem, reduceIte, reduceCtorEq, Nat.reduceEqDiff, Nat.reduceLT, Nat.reduceLeDiff, Nat.reduceBEq, Nat.reduceAdd, Nat.reduceMul, Nat.reduceSub, Nat.reducePow, Int.reduceLE, Int.reduceLT, Int.reduceNeg, Int.reduceToNat, Int.reduceAdd, Int.reduceSub] at hr
      obtain ⟨rfl, rfl⟩ := hr
      exact ⟨rfl, endR⟩
    · replace hK := ite_f hK hb1
      refine AWP_skip ?_
      with_reducible refine thenC_normal ?_
      refine AWP_seq ?_
      refine AWP_seq ?_
      -- region 6
      refine AWP_rg tab_ok [0, 4, 5, 6, 27, 28, 29] fun c st' hr => ?_
      simp only [go_sem, reduceIte, reduceCtorEq, Nat.reduceEqDiff, Nat.reduceLT, Nat.reduceLeDiff, Nat.reduceBEq, Nat.reduceAdd, Nat.reduceMul, Nat.reduceSub, Nat.reducePow, Int.reduceLE, Int.reduceLT, Int.reduceNeg, Int.reduceToNat, Int.reduceAdd, Int.reduceSub] at hr
      obtain ⟨rfl, rfl⟩ := hr
      refine ⟨vc, ?_⟩
      with_reducible refine thenC_normal ?_
      refine AWP_block ?_
      refine AWP_loopX 0 (fun (v : Int) => ⟨69, [(0, .int .i64 n), (4, .ptr 0 0 0), (5, .ptr 1 0 0), (6, .ptr 2 0 0), (27, .ints .i64 a1), (28, .int .i64 (a1.length : Int)), (29, .int .i64 v)], [some (.gen 22 1 [[.ints .i64 a1]]), some (.gen 22 1 [[.ints .i64 a2]]), some (.gen 51 2 [[.int .i64 0, .own 3 0]]), some (.ints 3 .i64 [])]⟩) (fun (_ : Unit) => ⟨69, [(0, .int .i64 n), (4, .ptr 0 0 0), (5, .ptr 1 0 0), (6, .ptr 2 0 0)], [some (.gen 22 1 [[.ints .i64 a1]]), some (.gen 22 1 [[.ints .i64 a2]]), some (.gen 51 2 [[.int .i64 0, .own 3 0]]), some (.ints 3 .i64 [])]⟩) Sum.inl 0 [0, 1, 2, 3] hK mkWk ?_ ?_
      · clear hK; rintro v b hK hpost1
        try dsimp only at hK
        change AWP _ _ _ _ ⟨69, [(0, .int .i64 n), (4, .ptr 0 0 0), (5, .ptr 1 0 0), (6, .ptr 2 0 0), (27, .ints .i64 a1), (28, .int .i64 (a1.length : Int)), (29, .int .i64 v)], [some (.gen 22 1 [[.ints .i64 a1]]), some (.gen 22 1 [[.ints .i64 a2]]), some (.gen 51 2 [[.int .i64 0, .own 3 0]]), some (.ints 3 .i64 [])]⟩
        refine AWP_seq ?_
        -- region 7
        refine AWP_rg tab_ok [0, 4, 5, 6, 27, 28, 29, 30] fun c st' hr => ?_
        simp only [go_sem, reduceIte, reduceCtorEq, Nat.reduceEqDiff, Nat.reduceLT, Nat.reduceLeDiff, Nat.reduceBEq, Nat.reduceAdd, Nat.reduceMul, Nat.reduceSub, Nat.reducePow, Int.reduceLE, Int.reduceLT, Int.reduceNeg, Int.reduceToNat, Int.reduceAdd, Int.reduceSub] at hr
        obtain ⟨rfl, rfl⟩ := hr
        refine ⟨vc, ?_⟩
        with_reducible refine thenC_normal ?_
        refine AWP_seq ?_
        refine AWP_condP (v < (a1.length : Int)) rfl bd (fun hb2 => ?_) (fun hb2 => ?_)
        · replace hK := ite_t hK hb2
          refine AWP_skip ?_
          with_reducible refine thenC_normal ?_
          refine AWP_seq ?_
          refine AWP_block ?_
          refine AWP_seq ?_
          -- region 8
          replace hK := chk_some hK
          obtain ⟨h, hK⟩ := hK
          refine AWP_rg tab_ok [0, 4, 5, 6, 9, 10, 27, 28, 29] fun c st' hr => ?_
          simp only [go_sem, reduceIte, reduceCtorEq, Nat.reduceEqDiff, Nat.reduceLT, Nat.reduceLeDiff, Nat.reduceBEq, Nat.reduceAdd, Nat.reduceMul, Nat.reduceSub, Nat.reducePow, Int.reduceLE, Int.reduceLT, Int.reduceNeg, Int.reduceToNat, Int.reduceAdd, Int.reduceSub] at hr
          obtain ⟨rfl, rfl⟩ := hr
          refine ⟨vc, ?_⟩
          with_reducible refine thenC_normal ?_
          refine AWP_seq ?_
          refine AWP_seq ?_
          -- region 9
          replace hK := chk_some hK
          obtain ⟨h1, hK⟩ := hK
          refine AWP_rg tab_ok [0, 4, 5, 6, 9, 10, 27, 28, 29, 38] fun c st' hr => ?_
          simp only [go_sem, reduceIte, reduceCtorEq, Nat.reduceEqDiff, Nat.reduceLT, Nat.reduceLeDiff, Nat.reduceBEq, Nat.reduceAdd, Nat.reduceMul, Nat.reduceSub, Nat.reducePow, Int.reduceLE, Int.reduceLT, Int.reduceNeg, Int.reduceToNat, Int.reduceAdd, Int.reduceSub] at hr
          obtain ⟨rfl, rfl⟩ := hr
          refine ⟨vc, ?_⟩
          with_reducible refine thenC_normal ?_
          refine AWP_condP (a2.getD v.toNat 0 < 0) rfl bd (fun hb3 => ?_) (fun hb3 => ?_)
          · replace hK := ite_t hK hb3
            refine AWP_seq ?_
            -- region 10
            refine AWP_rg tab_ok [6, 7] fun c st' hr => ?_
            simp only [go_sem, reduceIte, reduceCtorEq, Nat.reduceEqDiff, Nat.reduceLT, Nat.reduceLeDiff, Nat.reduceBEq, Nat.reduceAdd, Nat.reduceMul, Nat.reduceSub, Nat.reducePow, Int.reduceLE, Int.reduceLT, Int.reduceNeg, Int.reduceToNat, Int.reduceAdd, Int.reduceSub] at hr
            obtain ⟨rfl, rfl⟩ := hr
            refine ⟨vc, ?_⟩
            with_reducible refine thenC_normal ?_
            refine AWP_ownH 2 1 (.ints 3 .i64 []) rfl rfl rfl fun st' hr => ?_
            simp only [go_sem, reduceIte, reduceCtorEq, Nat.reduceEqDiff, Nat.reduceLT, Nat.reduceLeDiff, Nat.reduceBEq, Nat.reduceAdd, Nat.reduceMul, Nat.reduceSub, Nat.reducePow, Int.reduceLE, Int.reduceLT, Int.reduceNeg, Int.reduceToNat, Int.reduceAdd, Int.reduceSub] at hr
            subst hr
            refine AWP_ret ?_
            with_reducible refine thenC_ret (inBlockA_ret (thenC_ret (again_r (cutX_r (inBlockA_ret (thenC_ret ?_))))))
            replace hK := hpost1 _ hK
            try dsimp only at hK
            cases hK
            refine EndsRW [4] (.inl rfl) (of_decide_eq_true rfl) (by simp) rfl (fun c x hr => ?_) endH
            simp only [go_sem, reduceIte, reduceCtorEq, Nat.reduceEqDiff, Nat.reduceLT, Nat.reduceLeDiff, Nat.reduceBEq, Nat.reduceAdd, Nat.reduceMul, Nat.reduceSub, Nat.reducePow, Int.reduceLE, Int.reduceLT, Int.reduceNeg, Int.reduceToNat, Int.reduceAdd, Int.reduceSub] at hr
            obtain ⟨rfl, rfl⟩ := hr
            exact ⟨rfl, endR⟩
          · replace hK := ite_f hK hb3
            refine AWP_skip ?_
            with_reducible refine thenC_normal ?_
            refine AWP_seq ?_
            -- region 11
            replace hK := chk_some hK
            obtain ⟨h2, hK⟩ := hK
            refine AWP_rg tab_ok [0, 4, 5, 6, 10, 27, 28, 29, 42, 43, 44] fun c st' hr => ?_
            simp only [go_sem, reduceIte, reduceCtorEq, Nat.reduceEqDiff, Nat.reduceLT, Nat.reduceLeDiff, Nat.reduceBEq, Nat.reduceAdd, Nat.reduceMul, Nat.reduceSub, Nat.reducePow, Int.reduceLE, Int.reduceLT, Int.reduceNeg, Int.reduceToNat, Int.reduceAdd, Int.reduceSub] at hr
            obtain ⟨rfl, rfl⟩ := hr
            refine ⟨vc, ?_⟩
            with_reducible refine thenC_normal ?_
            refine AWP_block ?_
            refine AWP_loopX 2 (fun (v1 : Int) => ⟨69, [(0, .int .i64 n), (4, .ptr 0 0 0), (5, .ptr 1 0 0), (6, .ptr 2 0 0), (10, .int .i64 (a1.getD v.toNat 0)), (27, .ints .i64 a1), (28, .int .i64 (a1.length : Int)), (29, .int .i64 v), (42, .ints .i64 (a1.take v.toNat)), (43, .int .i64 ((a1.take v.toNat).length : Int)), (44, .int .i64 v1)], [some (.gen 22 1 [[.ints .i64 a1]]), some (.gen 22 1 [[.ints .i64 a2]]), some (.gen 51 2 [[.int .i64 0, .own 3 0]]), some (.ints 3 .i64 [])]⟩) (fun (_ : Unit) => ⟨69, [(0, .int .i64 n), (4, .ptr 0 0 0), (5, .ptr 1 0 0), (6, .ptr 2 0 0), (27, .ints .i64 a1), (28, .int .i64 (a1.length : Int)), (29, .int .i64 v)], [some (.gen 22 1 [[.ints .i64 a1]]), some (.gen 22 1 [[.ints .i64 a2]]), some (.gen 51 2 [[.int .i64 0, .own 3 0]]), some (.ints 3 .i64 [])]⟩) Sum.inl 0 [0, 1, 2, 3] hK mkWk ?_ ?_
            · clear hK; rintro v1 b1 hK hpost2
              try dsimp only at hK
              change AWP _ _ _ _ ⟨69, [(0, .int .i64 n), (4, .ptr 0 0 0), (5, .ptr 1 0 0), (6, .ptr 2 0 0), (10, .int .i64 (a1.getD v.toNat 0)), (27, .ints .i64 a1), (28, .int .i64 (a1.length : Int)), (29, .int .i64 v), (42, .ints .i64 (a1.take v.toNat)), (43, .int .i64 ((a1.take v.toNat).length : Int)), (44, .int .i64 v1)], [some (.gen 22 1 [[.ints .i64 a1]]), some (.gen 22 1 [[.ints .i64 a2]]), some (.gen 51 2 [[.int .i64 0, .own 3 0]]), some (.ints 3 .i64 [])]⟩
              refine AWP_seq ?_
              -- region 12
              refine AWP_rg tab_ok [0, 4, 5, 6, 10, 27, 28, 29, 42, 43, 44, 45] fun c st' hr => ?_
              simp only [go_sem, reduceIte, reduceCtorEq, Nat.reduceEqDiff, Nat.reduceLT, Nat.reduceLeDiff, Nat.reduceBEq, Nat.reduceAdd, Nat.reduceMul, Nat.reduceSub, Nat.reducePow, Int.reduceLE, Int.reduceLT, Int.reduceNeg, Int.reduceToNat, Int.reduceAdd, Int.reduceSub] at hr
              obtain ⟨rfl, rfl⟩ := hr
              refine ⟨vc, ?_⟩
              with_reducible refine thenC_normal ?_
              refine AWP_seq ?_
              refine AWP_condP (v1 < ((a1.take v.toNat).length : Int)) rfl bd (fun hb4 => ?_) (fun hb4 => ?_)
              · replace hK := ite_t hK hb4
                refine AWP_skip ?_
                with_reducible refine thenC_normal ?_
                refine AWP_seq ?_
                refine AWP_block ?_
                refine AWP_seq ?_
                -- region 13
                replace hK := chk_some hK
                obtain ⟨h3, hK⟩ := hK
                refine AWP_rg tab_ok [0, 4, 5, 6, 10, 12, 27, 28, 29, 42, 43, 44] fun c st' hr => ?_
                simp only [go_sem, reduceIte, reduceCtorEq, Nat.reduceEqDiff, Nat.reduceLT, Nat.reduceLeDiff, Nat.reduceBEq, Nat.reduceAdd, Nat.reduceMul, Nat.reduceSub, Nat.reducePow, Int.reduceLE, Int.reduceLT, Int.reduceNeg, Int.reduceToNat, Int.reduceAdd, Int.reduceSub] at hr
                obtain ⟨rfl, rfl⟩ := hr
                refine ⟨vc, ?_⟩
                with_reducible refine thenC_normal ?_
                refine AWP_seq ?_
                -- region 14
                refine AWP_rg tab_ok [0, 4, 5, 6, 10, 12, 13, 27, 28, 29, 42, 43, 44] fun c st' hr => ?_
                simp only [go_sem, reduceIte, reduceCtorEq, Nat.reduceEqDiff, Nat.reduceLT, Nat.reduceLeDiff, Nat.reduceBEq, Nat.reduceAdd, Nat.reduceMul, Nat.reduceSub, Nat.reducePow, Int.reduceLE, Int.reduceLT, Int.reduceNeg, Int.reduceToNat, Int.reduceAdd, Int.reduceSub] at hr
                obtain ⟨rfl, rfl⟩ := hr
                refine ⟨vc, ?_⟩
                with_reducible refine thenC_normal ?_
                refine AWP_seq ?_
                -- region 15
                refine AWP_rg tab_ok [0, 4, 5, 6, 10, 27, 28, 29, 42, 43, 44, 62] fun c st' hr => ?_
                simp only [go_sem, reduceIte, reduceCtorEq, Nat.reduceEqDiff, Nat.reduceLT, Nat.reduceLeDiff, Nat.reduceBEq, Nat.reduceAdd, Nat.reduceMul, Nat.reduceSub, Nat.reducePow, Int.reduceLE, Int.reduceLT, Int.reduceNeg, Int.reduceToNat, Int.reduceAdd, Int.reduceSub] at hr
                obtain ⟨rfl, rfl⟩ := hr
                refine ⟨vc, ?_⟩
                with_reducible refine thenC_normal ?_
                refine AWP_condP (((iand (a1.getD v.toNat 0) ((a1.take v.toNat).getD v1.toNat 0) ≠ 0 ∧ iand (a1.getD v.toNat 0) ((a1.take v.toNat).getD v1.toNat 0) ≠ a1.getD v.toNat 0) ∧ iand (a1.getD v.toNat 0) ((a1.take v.toNat).getD v1.toNat 0) ≠ (a1.take v.toNat).getD v1.toNat 0)) rfl bd (fun hb5 => ?_) (fun hb5 => ?_)
                · replace hK := ite_t hK hb5
                  refine AWP_seq ?_
                  -- region 16
                  refine AWP_rg tab_ok [6, 7] fun c st' hr => ?_
                  simp only [go_sem, reduceIte, reduceCtorEq, Nat.reduceEqDiff, Nat.reduceLT, Nat.reduceLeDiff, Nat.reduceBEq, Nat.reduceAdd, Nat.reduceMul, Nat.reduceSub, Nat.reducePow, Int.reduceLE, Int.reduceLT, Int.reduceNeg, Int.reduceToNat, Int.reduceAdd, Int.reduceSub] at hr
                  obtain ⟨rfl, rfl⟩ := hr
                  refine ⟨vc, ?_⟩
                  with_reducible refine thenC_normal ?_
                  refine AWP_ownH 2 1 (.ints 3 .i64 []) rfl rfl rfl fun st' hr => ?_
                  simp only [go_sem, reduceIte, reduceCtorEq, Nat.reduceEqDiff, Nat.reduceLT, Nat.reduceLeDiff, Nat.reduceBEq, Nat.reduceAdd, Nat.reduceMul, Nat.reduceSub, Nat.reducePow, Int.reduceLE, Int.reduceLT, Int.reduceNeg, Int.reduceToNat, Int.reduceAdd, Int.reduceSub] at hr
                  subst hr
                  refine AWP_ret ?_
                  with_reducible refine inBlockA_ret (thenC_ret (again_r (cutX_r (inBlockA_ret (inBlockA_ret (thenC_ret (again_r (cutX_r (inBlockA_ret (thenC_ret ?_))))))))))
                  replace hK := hpost2 _ hK
                  try dsimp only at hK
                  replace hK := hpost1 _ hK
                  try dsimp only at hK
                  cases hK
                  refine EndsRW [4] (.inl rfl) (of_decide_eq_true rfl) (by simp) rfl (fun c x hr => ?_) endH
                  simp only [go_sem, reduceIte, reduceCtorEq, Nat.reduceEqDiff, Nat.reduceLT, Nat.reduceLeDiff, Nat.reduceBEq, Nat.reduceAdd, Nat.reduceMul, Nat.reduceSub, Nat.reducePow, Int.reduceLE, Int.reduceLT, Int.reduceNeg, Int.reduceToNat, Int.reduceAdd, Int.reduceSub] at hr
                  obtain ⟨rfl, rfl⟩ := hr
                  exact ⟨rfl, endR⟩
                · replace hK := ite_f hK hb5
                  refine AWP_skip ?_
                  with_reducible refine inBlockA_normal (thenC_normal ?_)
                  -- region 17
                  refine AWP_facts (by simp) fun hfx => ?_
                  simp only [factS, factV, fact1, fact0, factL0, lo, hi, maxLen, and_true, true_and] at hfx
                  refine AWP_rg tab_ok [0, 4, 5, 6, 10, 27, 28, 29, 42, 43, 44] fun c st' hr => ?_
                  simp only [go_sem, reduceIte, reduceCtorEq, Nat.reduceEqDiff, Nat.reduceLT, Nat.reduceLeDiff, Nat.reduceBEq, Nat.reduceAdd, Nat.reduceMul, Nat.reduceSub, Nat.reducePow, Int.reduceLE, Int.reduceLT, Int.reduceNeg, Int.reduceToNat, Int.reduceAdd, Int.reduceSub] at hr
                  obtain ⟨rfl, rfl⟩ := hr
                  refine ⟨vc, ?_⟩
                  clear hfx
                  refine again_n (v1 + 1) [0, 1, 2, 3] hK mkWk
              · replace hK := ite_f hK hb4
                refine AWP_exit ?_
                with_reducible refine thenC_exit (again_x ?_)
                refine cutX_here () [0, 1, 2, 3] (by have hq := hpost2 _ hK; exact hq) mkWk
            · clear hK; rintro _ hK
              try dsimp only at hK
              refine exS ⟨69, [(0, .int .i64 n), (4, .ptr 0 0 0), (5, .ptr 1 0 0), (6, .ptr 2 0 0), (27, .ints .i64 a1), (28, .int .i64 (a1.length : Int)), (29, .int .i64 v)], [some (.gen 22 1 [[.ints .i64 a1]]), some (.gen 22 1 [[.ints .i64 a2]]), some (.gen 51 2 [[.int .i64 0, .own 3 0]]), some (.ints 3 .i64 [])]⟩ rfl ?_
              with_reducible refine inBlockA_exit (inBlockA_normal (thenC_normal ?_))
              -- region 18
              refine AWP_facts (by simp) fun hfx => ?_
              simp only [factS, factV, fact1, fact0, factL0, lo, hi, maxLen, and_true, true_and] at hfx
              refine AWP_rg tab_ok [0, 4, 5, 6, 27, 28, 29] fun c st' hr => ?_
              simp only [go_sem, reduceIte, reduceCtorEq, Nat.reduceEqDiff, Nat.reduceLT, Nat.reduceLeDiff, Nat.reduceBEq, Nat.reduceAdd, Nat.reduceMul, Nat.reduceSub, Nat.reducePow, Int.reduceLE, Int.reduceLT, Int.reduceNeg, Int.reduceToNat, Int.reduceAdd, Int.reduceSub] at hr
              obtain ⟨rfl, rfl⟩ := hr
              refine ⟨vc, ?_⟩
              clear hfx
              refine again_n (v + 1) [0, 1, 2, 3] hK mkWk
        · replace hK := ite_f hK hb2
          refine AWP_exit ?_
          with_reducible refine thenC_exit (again_x ?_)
          refine cutX_here () [0, 1, 2, 3] (by have hq := hpost1 _ hK; exact hq) mkWk
      · clear hK; rintro _ hK
        try dsimp only at hK
        refine exS ⟨69, [(0, .int .i64 n), (4, .ptr 0 0 0), (5, .ptr 1 0 0), (6, .ptr 2 0 0)], [some (.gen 22 1 [[.ints .i64 a1]]), some (.gen 22 1 [[.ints .i64 a2]]), some (.gen 51 2 [[.int .i64 0, .own 3 0]]), some (.ints 3 .i64 [])]⟩ rfl ?_
        with_reducible refine inBlockA_exit (thenC_normal ?_)
        refine AWP_seq ?_
        -- region 19
        refine AWP_rl ?_
        refine AWPL_rn tab_ok 2 [6, 66, 67] fun c st' hr => ?_
        simp only [go_sem, reduceIte, reduceCtorEq, Nat.reduceEqDiff, Nat.reduceLT, Nat.reduceLeDiff, Nat.reduceBEq, Nat.reduceAdd, Nat.reduceMul, Nat.reduceSub, Nat.reducePow, Int.reduceLE, Int.reduceLT, Int.reduceNeg, Int.reduceToNat, Int.reduceAdd, Int.reduceSub] at hr
        obtain ⟨rfl, rfl⟩ := hr
        refine ⟨vc, ?_⟩
        replace hK := bind_s hK
        obtain ⟨y1, hy, hK⟩ := hK
        refine AWPL_callK [6, 68] (W_kinds_greatest Tryd.call68 rfl (fun _ _ hh => by simpa using W_kinds_Laminar_1 hh) hy) rfl rfl pcT rfl Tryd.call60 (.cons (.atom _ rfl) (.cons (.funcOf (.cons (.ptrM _ _ _ _ _ _ _ rfl rfl rfl (ArgsOk.get (.cons (.atom _ rfl) .nil)).2) (.cons (.ptrM _ _ _ _ _ _ _ rfl rfl rfl (ArgsOk.get (.cons (.atom _ rfl) .nil)).2) .nil))) .nil)) (hscG trivial) (of_decide_eq_true rfl) (by first | rfl | simp [nI, nI1, nI0]) (by first | rfl | simp [nIB, nI0]) fun st' hr => ?_
        simp only [go_sem, reduceIte, reduceCtorEq, Nat.reduceEqDiff, Nat.reduceLT, Nat.reduceLeDiff, Nat.reduceBEq, Nat.reduceAdd, Nat.reduceMul, Nat.reduceSub, Nat.reducePow, Int.reduceLE, Int.reduceLT, Int.reduceNeg, Int.reduceToNat, Int.reduceAdd, Int.reduceSub] at hr
        subst hr
        clear hy
        refine AWPL_rn tab_ok 2 [6, 7] fun c st' hr => ?_
        simp only [go_sem, reduceIte, reduceCtorEq, Nat.reduceEqDiff, Nat.reduceLT, Nat.reduceLeDiff, Nat.reduceBEq, Nat.reduceAdd, Nat.reduceMul, Nat.reduceSub, Nat.reducePow, Int.reduceLE, Int.reduceLT, Int.reduceNeg, Int.reduceToNat, Int.reduceAdd, Int.reduceSub] at hr
        obtain ⟨rfl, rfl⟩ := hr
        refine ⟨vc, ?_⟩
        refine AWPL_nil ?_
        with_reducible refine thenC_normal ?_
        refine AWP_ret ?_
        cases hK
        refine EndsRW [4] (.inl rfl) (of_decide_eq_true rfl) (by simp) rfl (fun c x hr => ?_) endH
        simp only [go_sem, reduceIte, reduceCtorEq, Nat.reduceEqDiff, Nat.reduceLT, Nat.reduceLeDiff, Nat.reduceBEq, Nat.reduceAdd, Nat.reduceMul, Nat.reduceSub, Nat.reducePow, Int.reduceLE, Int.reduceLT, Int.reduceNeg, Int.reduceToNat, Int.reduceAdd, Int.reduceSub] at hr
        obtain ⟨rfl, rfl⟩ := hr
        exact ⟨rfl, endR⟩

set_option maxRecDepth 8000 in
set_option maxHeartbeats 4000000 in
theorem WS_kinds_chosen_1 {fuel : Nat} (ih : ∀ {s : Int} {used : Int} {c0 : List Int} {r : Bool}, kinds_chosen_1 fuel s used c0 = some r → Pure Tryd.prog 84 [.int .i64 s, .int .i64 used, .immp [.ints .i64 c0], cycA 84 [.immp [.ints .i64 c0]] fuel] (.bool r) []) {s : Int} {used : Int} {c0 : List Int} {r : Bool} (hK : kinds_chosen_1 (fuel + 1) s used c0 = some r) : Pure Tryd.prog 84 [.int .i64 s, .int .i64 used, .immp [.ints .i64 c0], .immp [.func 84 [.immp [.ints .i64 c0], cycA 84 [.immp [.ints .i64 c0]] fuel]]] (.bool r) [] := by
  refine Pure_introF tab_ok (n := 46) (l := [.tmp 6]) Tryd.func84 rfl rfl rfl (by simp) fun hfact w0 => ?_
  simp only [factL1, fact1, fact0, factL0, lo, hi, maxLen, and_true] at hfact
  rw [kinds_chosen_1.eq_2] at hK
  refine AWP_seq ?_
  -- region 0
  refine AWP_rg tab_ok [0, 1, 2, 3] fun c st' hr => ?_
  simp only [go_sem, reduceIte, reduceCtorEq, Nat.reduceEqDiff, Nat.reduceLT, Nat.reduceLeDiff, Nat.reduceBEq, Nat.reduceAdd, Nat.reduceMul, Nat.reduceSub, Nat.reducePow, Int.reduceLE, Int.reduceLT, Int.reduceNeg, Int.reduceToNat, Int.reduceAdd, Int.reduceSub] at hr
  obtain ⟨rfl, rfl⟩ := hr
  refine ⟨vc, ?_⟩
  with_reducible refine thenC_normal ?_
  refine AWP_seq ?_
  refine AWP_seq ?_
  -- region 1
  refine AWP_rg tab_ok [0, 1, 2, 3, 11] fun c st' hr => ?_
  simp only [go_sem, reduceIte, reduceCtorEq, Nat.reduceEqDiff, Nat.reduceLT, Nat.reduceLeDiff, Nat.reduceBEq, Nat.reduceAdd, Nat.reduceMul, Nat.reduceSub, Nat.reducePow, Int.reduceLE, Int.reduceLT, Int.reduceNeg, Int.reduceToNat, Int.reduceAdd, Int.reduceSub] at hr
  obtain ⟨rfl, rfl⟩ := hr
  refine ⟨vc, ?_⟩
  with_reducible refine thenC_normal ?_
  refine AWP_condP (s = 0) rfl bd (fun hb => ?_) (fun hb => ?_)
  · replace hK := ite_t hK hb
    refine AWP_seq ?_
    -- region 2
    refine AWP_rg tab_ok [6] fun c st' hr => ?_
    simp only [go_sem, reduceIte, reduceCtorEq, Nat.reduceEqDiff, Nat.reduceLT, Nat.reduceLeDiff, Nat.reduceBEq, Nat.reduceAdd, Nat.reduceMul, Nat.reduceSub, Nat.reducePow, Int.reduceLE, Int.reduceLT, Int.reduceNeg, Int.reduceToNat, Int.reduceAdd, Int.reduceSub] at hr
    obtain ⟨rfl, rfl⟩ := hr
    refine ⟨vc, ?_⟩
    with_reducible refine thenC_normal ?_
    refine AWP_ret ?_
    with_reducible refine thenC_ret ?_
    cases hK
    refine EndsRW [] (.inl rfl) (of_decide_eq_true rfl) (by simp) rfl (fun c x hr => ?_) trivial
    simp only [go_sem, reduceIte, reduceCtorEq, Nat.reduceEqDiff, Nat.reduceLT, Nat.reduceLeDiff, Nat.reduceBEq, Nat.reduceAdd, Nat.reduceMul, Nat.reduceSub, Nat.reducePow, Int.reduceLE, Int.reduceLT, Int.reduceNeg, Int.reduceToNat, Int.reduceAdd, Int.reduceSub] at hr
    obtain ⟨rfl, rfl⟩ := hr
    exact ⟨rfl, endR⟩
  · replace hK := ite_f hK hb
    refine AWP_skip ?_
    with_reducible refine thenC_normal ?_
    refine AWP_seq ?_
    -- region 3
    replace hK := chk_some hK
    obtain ⟨h, hK⟩ := hK
    refine AWP_rg tab_ok [0, 1, 2, 3, 7] fun c st' hr => ?_
    simp only [go_sem, reduceIte, reduceCtorEq, Nat.reduceEqDiff, Nat.reduceLT, Nat.reduceLeDiff, Nat.reduceBEq, Nat.reduceAdd, Nat.reduceMul, Nat.reduceSub, Nat.reducePow, Int.reduceLE, Int.reduceLT, Int.reduceNeg, Int.reduceToNat, Int.reduceAdd, Int.reduceSub] at hr
    obtain ⟨rfl, rfl⟩ := hr
    refine ⟨vc, ?_⟩
    with_reducible refine thenC_normal ?_
    refine AWP_seq ?_
    refine AWP_seq ?_
    -- region 4
    refine AWP_rg tab_ok [0, 1, 3, 7, 16, 17, 18] fun c st' hr => ?_
    simp only [go_sem, reduceIte, reduceCtorEq, Nat.reduceEqDiff, Nat.reduceLT, Nat.reduceLeDiff, Nat.reduceBEq, Nat.reduceAdd, Nat.reduceMul, Nat.reduceSub, Nat.reducePow, Int.reduceLE, Int.reduceLT, Int.reduceNeg, Int.reduceToNat, Int.reduceAdd, Int.reduceSub] at hr
    obtain ⟨rfl, rfl⟩ := hr
    refine ⟨vc, ?_⟩
    with_reducible refine thenC_normal ?_
    refine AWP_block ?_
    refine AWP_loopX 0 (fun (v : Int) => ⟨46, [(0, .int .i64 s), (1, .int .i64 used), (3, .immp [.func 84 [.immp [.ints .i64 c0], cycA 84 [.immp [.ints .i64 c0]] fuel]]), (7, .int .i64 (iand s (-s))), (16, .ints .i64 c0), (17, .int .i64 (c0.length : Int)), (18, .int .i64 v)], []⟩) (fun (_ : Unit) => ⟨46, [], []⟩) Sum.inl 0 [] hK mkWk ?_ ?_
    · clear hK; rintro v b hK hpost1
      try dsimp only at hK
      change AWP _ _ _ _ ⟨46, [(0, .int .i64 s), (1, .int .i64 used), (3, .immp [.func 84 [.immp [.ints .i64 c0], cycA 84 [.immp [.ints .i64 c0]] fuel]]), (7, .int .i64 (iand s (-s))), (16, .ints .i64 c0), (17, .int .i64 (c0.length : Int)), (18, .int .i64 v)], []⟩
      refine AWP_seq ?_
      -- region 5
      refine AWP_rg tab_ok [0, 1, 3, 7, 16, 17, 18, 19] fun c st' hr => ?_
      simp only [go_sem, reduceIte, reduceCtorEq, Nat.reduceEqDiff, Nat.reduceLT, Nat.reduceLeDiff, Nat.reduceBEq, Nat.reduceAdd, Nat.reduceMul, Nat.reduceSub, Nat.reducePow, Int.reduceLE, Int.reduceLT, Int.reduceNeg, Int.reduceToNat, Int.reduceAdd, Int.reduceSub] at hr
      obtain ⟨rfl, rfl⟩ := hr
      refine ⟨vc, ?_⟩
      with_reducible refine thenC_normal ?_
      refine AWP_seq ?_
      refine AWP_condP (v < (c0.length : Int)) rfl bd (fun hb1 => ?_) (fun hb1 => ?_)
      · replace hK := ite_t hK hb1
        refine AWP_skip ?_
        with_reducible refine thenC_normal ?_
        refine AWP_seq ?_
        refine AWP_block ?_
        refine AWP_seq ?_
        -- region 6
        replace hK := chk_some hK
        obtain ⟨h1, hK⟩ := hK
        refine AWP_rg tab_ok [0, 1, 3, 7, 8, 9, 16, 17, 18] fun c st' hr => ?_
        simp only [go_sem, reduceIte, reduceCtorEq, Nat.reduceEqDiff, Nat.reduceLT, Nat.reduceLeDiff, Nat.reduceBEq, Nat.reduceAdd, Nat.reduceMul, Nat.reduceSub, Nat.reducePow, Int.reduceLE, Int.reduceLT, Int.reduceNeg, Int.reduceToNat, Int.reduceAdd, Int.reduceSub] at hr
        obtain ⟨rfl, rfl⟩ := hr
        refine ⟨vc, ?_⟩
        with_reducible refine thenC_normal ?_
        refine AWP_seq ?_
        -- region 7
        refine AWP_drawQ mixed (by kernel_rfl) ?_
        replace hK := chk_some hK
        obtain ⟨h2, hK⟩ := hK
        refine AWQL_rn tab_ok 20 [0, 1, 3, 7, 16, 17, 18, 34, 35, 38, 42] fun c st' hr => ?_
        simp only [go_sem, reduceIte, reduceCtorEq, Nat.reduceEqDiff, Nat.reduceLT, Nat.reduceLeDiff, Nat.reduceBEq, Nat.reduceAdd, Nat.reduceMul, Nat.reduceSub, Nat.reducePow, Int.reduceLE, Int.reduceLT, Int.reduceNeg, Int.reduceToNat, Int.reduceAdd, Int.reduceSub] at hr
        obtain ⟨rfl, rfl⟩ := hr
        refine ⟨vc, ?_⟩
        by_cases hg : (iand (used / 2 ^ v.toNat) 1 = 0 ∧ iand (c0.getD v.toNat 0) (iand s (-s)) ≠ 0)
        · replace hK := ite_t hK hg
          refine AWQL_stP [(0, .int .i64 s), (1, .int .i64 used), (3, .immp [.func 84 [.immp [.ints .i64 c0], cycA 84 [.immp [.ints .i64 c0]] fuel]]), (7, .int .i64 (iand s (-s))), (16, .ints .i64 c0), (17, .int .i64 (c0.length : Int)), (18, .int .i64 v), (34, .bool true), (35, .opt true (.func 84 [.immp [.ints .i64 c0], cycA 84 [.immp [.ints .i64 c0]] fuel])), (38, .opt true (.int .i64 (iandnot s (iand s (-s))))), (42, .opt true (.int .i64 (ior used (2 ^ v.toNat : Int))))] (by first | (simp [SameS, AX.look, hg]; done) | (simp at hg ⊢; simp [SameS, AX.look, hg]; done) | (simp_all [SameS, AX.look]; done)) ?_
          refine AWQL_unopt 35 (.func 84 [.immp [.ints .i64 c0], cycA 84 [.immp [.ints .i64 c0]] fuel]) rfl fun st' hr => ?_
          simp only [go_sem, reduceIte, reduceCtorEq, Nat.reduceEqDiff, Nat.reduceLT, Nat.reduceLeDiff, Nat.reduceBEq, Nat.reduceAdd, Nat.reduceMul, Nat.reduceSub, Nat.reducePow, Int.reduceLE, Int.reduceLT, Int.reduceNeg, Int.reduceToNat, Int.reduceAdd, Int.reduceSub] at hr
          subst hr
          replace hK := bind_s hK
          obtain ⟨y, hy, hK⟩ := hK
          refine AWQL_callK [0, 1, 3, 7, 16, 17, 18, 34, 43] (ih hy) rfl rfl pcT rfl Tryd.call84 (.cons (.atom _ rfl) (.cons (.atom _ rfl) (.cons (.atom _ rfl) (.cons (ArgOk.cycRefl _ _ _) .nil)))) (hscG trivial) (of_decide_eq_true rfl) rfl fun st' hr => ?_
          simp only [go_sem, reduceIte, reduceCtorEq, Nat.reduceEqDiff, Nat.reduceLT, Nat.reduceLeDiff, Nat.reduceBEq, Nat.reduceAdd, Nat.reduceMul, Nat.reduceSub, Nat.reducePow, Int.reduceLE, Int.reduceLT, Int.reduceNeg, Int.reduceToNat, Int.reduceAdd, Int.reduceSub] at hr
          subst hr
          clear hy
          refine AWQL_rn tab_ok 1 [0, 1, 3, 7, 16, 17, 18, 44] fun c st' hr => ?_
          simp only [go_sem, reduceIte, reduceCtorEq, Nat.reduceEqDiff, Nat.reduceLT, Nat.reduceLeDiff, Nat.reduceBEq, Nat.reduceAdd, Nat.reduceMul, Nat.reduceSub, Nat.reducePow, Int.reduceLE, Int.reduceLT, Int.reduceNeg, Int.reduceToNat, Int.reduceAdd, Int.reduceSub] at hr
          obtain ⟨rfl, rfl⟩ := hr
          refine ⟨vc, ?_⟩
          refine AWQL_nil ?_
          with_reducible refine thenC_normal ?_
          refine AWP_condP (y = true) rfl bd (fun hb2 => ?_) (fun hb2 => ?_)
          · replace hK := ite_t hK hb2
            refine AWP_seq ?_
            -- region 8
            refine AWP_rg tab_ok [6] fun c st' hr => ?_
            simp only [go_sem, reduceIte, reduceCtorEq, Nat.reduceEqDiff, Nat.reduceLT, Nat.reduceLeDiff, Nat.reduceBEq, Nat.reduceAdd, Nat.reduceMul, Nat.reduceSub, Nat.reducePow, Int.reduceLE, Int.reduceLT, Int.reduceNeg, Int.reduceToNat, Int.reduceAdd, Int.reduceSub] at hr
            obtain ⟨rfl, rfl⟩ := hr
            refine ⟨vc, ?_⟩
            with_reducible refine thenC_normal ?_
            refine AWP_ret ?_
            with_reducible refine inBlockA_ret (thenC_ret (again_r (cutX_r (inBlockA_ret (thenC_ret ?_)))))
            replace hK := hpost1 _ hK
            try dsimp only at hK
            cases hK
            refine EndsRW [] (.inl rfl) (of_decide_eq_true rfl) (by simp) rfl (fun c x hr => ?_) trivial
            simp only [go_sem, reduceIte, reduceCtorEq, Nat.reduceEqDiff, Nat.reduceLT, Nat.reduceLeDiff, Nat.reduceBEq, Nat.reduceAdd, Nat.reduceMul, Nat.reduceSub, Nat.reducePow, Int.reduceLE, Int.reduceLT, Int.reduceNeg, Int.reduceToNat, Int.reduceAdd, Int.reduceSub] at hr
            obtain ⟨rfl, rfl⟩ := hr
            exact ⟨rfl, endR⟩
          · replace hK := ite_f hK hb2
            refine AWP_skip ?_
            with_reducible refine inBlockA_normal (thenC_normal ?_)
            -- region 9
            refine AWP_facts (by simp) fun hfx => ?_
            simp only [factS, factV, fact1, fact0, factL0, lo, hi, maxLen, and_true, true_and] at hfx
            refine AWP_rg tab_ok [0, 1, 3, 7, 16, 17, 18] fun c st' hr => ?_
            simp only [go_sem, reduceIte, reduceCtorEq, Nat.reduceEqDiff, Nat.reduceLT, Nat.reduceLeDiff, Nat.reduceBEq, Nat.reduceAdd, Nat.reduceMul, Nat.reduceSub, Nat.reducePow, Int.reduceLE, Int.reduceLT, Int.reduceNeg, Int.reduceToNat, Int.reduceAdd, Int.reduceSub] at hr
            obtain ⟨rfl, rfl⟩ := hr
            refine ⟨vc, ?_⟩
            clear hfx
            refine again_n (v + 1) [] hK mkWk
        · replace hK := ite_f hK hg
          refine AWQL_stP [(0, .int .i64 s), (1, .int .i64 used), (3, .immp [.func 84 [.immp [.ints .i64 c0], cycA 84 [.immp [.ints .i64 c0]] fuel]]), (7, .int .i64 (iand s (-s))), (16, .ints .i64 c0), (17, .int .i64 (c0.length : Int)), (18, .int .i64 v), (34, .bool false), (35, .opt false (.func 84 [.immp [.ints .i64 c0], cycA 84 [.immp [.ints .i64 c0]] fuel])), (38, .opt false (.int .i64 (iandnot s (iand s (-s))))), (42, .opt false (.int .i64 (ior used (2 ^ v.toNat : Int))))] (by first | (simp [SameS, AX.look, hg]; done) | (simp at hg ⊢; simp [SameS, AX.look, hg]; done) | (simp_all [SameS, AX.look]; done)) ?_
          refine AWQL_skipV [0, 1, 3, 7, 16, 17, 18, 34, 43] (.bool false) rfl pcF (of_decide_eq_true rfl) fun st' hr => ?_
          simp only [go_sem, reduceIte, reduceCtorEq, Nat.reduceEqDiff, Nat.reduceLT, Nat.reduceLeDiff, Nat.reduceBEq, Nat.reduceAdd, Nat.reduceMul, Nat.reduceSub, Nat.reducePow, Int.reduceLE, Int.reduceLT, Int.reduceNeg, Int.reduceToNat, Int.reduceAdd, Int.reduceSub] at hr
          subst hr
          refine AWQL_rn tab_ok 1 [0, 1, 3, 7, 16, 17, 18, 44] fun c st' hr => ?_
          simp only [go_sem, reduceIte, reduceCtorEq, Nat.reduceEqDiff, Nat.reduceLT, Nat.reduceLeDiff, Nat.reduceBEq, Nat.reduceAdd, Nat.reduceMul, Nat.reduceSub, Nat.reducePow, Int.reduceLE, Int.reduceLT, Int.reduceNeg, Int.reduceToNat, Int.reduceAdd, Int.reduceSub] at hr
          obtain ⟨rfl, rfl⟩ := hr
          refine ⟨vc, ?_⟩
          refine AWQL_nil ?_
          with_reducible refine thenC_normal ?_
          refine AWP_condP (False) rfl bd (fun hb3 => ?_) (fun hb3 => ?_)
          · exact hb3.elim
          clear hb3
          refine AWP_skip ?_
          with_reducible refine inBlockA_normal (thenC_normal ?_)
          -- region 9
          refine AWP_facts (by simp) fun hfx => ?_
          simp only [factS, factV, fact1, fact0, factL0, lo, hi, maxLen, and_true, true_and] at hfx
          refine AWP_rg tab_ok [0, 1, 3, 7, 16, 17, 18] fun c st' hr => ?_
          simp only [go_sem, reduceIte, reduceCtorEq, Nat.reduceEqDiff, Nat.reduceLT, Nat.reduceLeDiff, Nat.reduceBEq, Nat.reduceAdd, Nat.reduceMul, Nat.reduceSub, Nat.reducePow, Int.reduceLE, Int.reduceLT, Int.reduceNeg, Int.reduceToNat, Int.reduceAdd, Int.reduceSub] at hr
          obtain ⟨rfl, rfl⟩ := hr
          refine ⟨vc, ?_⟩
          clear hfx
          refine again_n (v + 1) [] hK mkWk
      · replace hK := ite_f hK hb1
        refine AWP_exit ?_
        with_reducible refine thenC_exit (again_x ?_)
        refine cutX_here () [] (by have hq := hpost1 _ hK; exact hq) mkWk
    · clear hK; rintro _ hK
      try dsimp only at hK
      refine exS ⟨46, [], []⟩ rfl ?_
      with_reducible refine inBlockA_exit (thenC_normal ?_)
      refine AWP_seq ?_
      -- region 10
      refine AWP_rg tab_ok [6] fun c st' hr => ?_
      simp only [go_sem, reduceIte, reduceCtorEq, Nat.reduceEqDiff, Nat.reduceLT, Nat.reduceLeDiff, Nat.reduceBEq, Nat.reduceAdd, Nat.reduceMul, Nat.reduceSub, Nat.reducePow, Int.reduceLE, Int.reduceLT, Int.reduceNeg, Int.reduceToNat, Int.reduceAdd, Int.reduceSub] at hr
      obtain ⟨rfl, rfl⟩ := hr
      refine ⟨vc, ?_⟩
      with_reducible refine thenC_normal ?_
      refine AWP_ret ?_
      cases hK
      refine EndsRW [] (.inl rfl) (of_decide_eq_true rfl) (by simp) rfl (fun c x hr => ?_) trivial
      simp only [go_sem, reduceIte, reduceCtorEq, Nat.reduceEqDiff, Nat.reduceLT, Nat.reduceLeDiff, Nat.reduceBEq, Nat.reduceAdd, Nat.reduceMul, Nat.reduceSub, Nat.reducePow, Int.reduceLE, Int.reduceLT, Int.reduceNeg, Int.reduceToNat, Int.reduceAdd, Int.reduceSub] at hr
      obtain ⟨rfl, rfl⟩ := hr
      exact ⟨rfl, endR⟩

theorem W_kinds_chosen_1 {fuel : Nat} {s : Int} {used : Int} {c0 : List Int} {r : Bool} (hK : kinds_chosen_1 fuel s used c0 = some r) : Pure Tryd.prog 84 [.int .i64 s, .int .i64 used, .immp [.ints .i64 c0], cycA 84 [.immp [.ints .i64 c0]] fuel] (.bool r) [] := by
  induction fuel generalizing s used c0 r with
  | zero => cases hK
  | succ fuel ih => exact WS_kinds_chosen_1 ih hK

set_option maxRecDepth 8000 in
set_option maxHeartbeats 4000000 in
theorem W_kinds_chosen {s : Int} {l : List Int} {r : Bool} (hK : kinds_chosen s l = some r) : Pure Tryd.prog 62 [.int .i64 s, .ints .i64 l] (.bool r) [] := by
  refine Pure_introF tab_ok (n := 10) (l := [.tmp 4]) Tryd.func62 rfl rfl rfl (by simp) fun hfact w0 => ?_
  simp only [factL1, fact1, fact0, factL0, lo, hi, maxLen, and_true] at hfact
  unfold kinds_chosen at hK
  refine AWP_seq ?_
  -- region 0
  refine AWP_rg tab_ok [0, 3] fun c st' hr => ?_
  simp only [go_sem, reduceIte, reduceCtorEq, Nat.reduceEqDiff, Nat.reduceLT, Nat.reduceLeDiff, Nat.reduceBEq, Nat.reduceAdd, Nat.reduceMul, Nat.reduceSub, Nat.reducePow, Int.reduceLE, Int.reduceLT, Int.reduceNeg, Int.reduceToNat, Int.reduceAdd, Int.reduceSub] at hr
  obtain ⟨rfl, rfl⟩ := hr
  refine ⟨vc, ?_⟩
  with_reducible refine thenC_normal ?_
  refine AWP_seq ?_
  -- region 1
  refine AWP_rg tab_ok [0, 3, 5] fun c st' hr => ?_
  simp only [go_sem, reduceIte, reduceCtorEq, Nat.reduceEqDiff, Nat.reduceLT, Nat.reduceLeDiff, Nat.reduceBEq, Nat.reduceAdd, Nat.reduceMul, Nat.reduceSub, Nat.reducePow, Int.reduceLE, Int.reduceLT, Int.reduceNeg, Int.reduceToNat, Int.reduceAdd, Int.reduceSub] at hr
  obtain ⟨rfl, rfl⟩ := hr
  refine ⟨vc, ?_⟩
  with_reducible refine thenC_normal ?_
  refine AWP_seq ?_
  -- region 2
  refine AWP_rg tab_ok [0, 5] fun c st' hr => ?_
  simp only [go_sem, reduceIte, reduceCtorEq, Nat.reduceEqDiff, Nat.reduceLT, Nat.reduceLeDiff, Nat.reduceBEq, Nat.reduceAdd, Nat.reduceMul, Nat.reduceSub, Nat.reducePow, Int.reduceLE, Int.reduceLT, Int.reduceNeg, Int.reduceToNat, Int.reduceAdd, Int.reduceSub] at hr
  obtain ⟨rfl, rfl⟩ := hr
  refine ⟨vc, ?_⟩
  with_reducible refine thenC_normal ?_
  refine AWP_seq ?_
  -- region 3
  refine AWP_rl ?_
  refine AWPL_rn tab_ok 2 [7, 8] fun c st' hr => ?_
  simp only [go_sem, reduceIte, reduceCtorEq, Nat.reduceEqDiff, Nat.reduceLT, Nat.reduceLeDiff, Nat.reduceBEq, Nat.reduceAdd, Nat.reduceMul, Nat.reduceSub, Nat.reducePow, Int.reduceLE, Int.reduceLT, Int.reduceNeg, Int.reduceToNat, Int.reduceAdd, Int.reduceSub] at hr
  obtain ⟨rfl, rfl⟩ := hr
  refine ⟨vc, ?_⟩
  replace hK := bind_s hK
  obtain ⟨y, hy, hK⟩ := hK
  refine AWPL_callK [9] (W_kinds_chosen_1 hy) rfl rfl pcT rfl Tryd.call84 (.cons (.atom _ rfl) (.cons (.atom _ rfl) (.cons (.ptrM _ _ _ _ _ _ _ rfl rfl rfl (ArgsOk.get (.cons (.atom _ rfl) .nil)).2) (.cons (ArgOk.cyc (src := [.ptr 0 0 0]) rfl (.cons (.ptrM _ _ _ _ _ _ _ rfl rfl rfl (ArgsOk.get (.cons (.atom _ rfl) .nil)).2) .nil) 12) .nil)))) (hscG trivial) (of_decide_eq_true rfl) (by first | rfl | simp [nI, nI1, nI0]) (by first | rfl | simp [nIB, nI0]) fun st' hr => ?_
  simp only [go_sem, reduceIte, reduceCtorEq, Nat.reduceEqDiff, Nat.reduceLT, Nat.reduceLeDiff, Nat.reduceBEq, Nat.reduceAdd, Nat.reduceMul, Nat.reduceSub, Nat.reducePow, Int.reduceLE, Int.reduceLT, Int.reduceNeg, Int.reduceToNat, Int.reduceAdd, Int.reduceSub] at hr
  subst hr
  clear hy
  refine AWPL_rn tab_ok 1 [4] fun c st' hr => ?_
  simp only [go_sem, reduceIte, reduceCtorEq, Nat.reduceEqDiff, Nat.reduceLT, Nat.reduceLeDiff, Nat.reduceBEq, Nat.reduceAdd, Nat.reduceMul, Nat.reduceSub, Nat.reducePow, Int.reduceLE, Int.reduceLT, Int.reduceNeg, Int.reduceToNat, Int.reduceAdd, Int.reduceSub] at hr
  obtain ⟨rfl, rfl⟩ := hr
  refine ⟨vc, ?_⟩
  refine AWPL_nil ?_
  with_reducible refine thenC_normal ?_
  refine AWP_ret ?_
  cases hK
  refine EndsRW [] (.inl rfl) (of_decide_eq_true rfl) (by simp) rfl (fun c x hr => ?_) trivial
  simp only [go_sem, reduceIte, reduceCtorEq, Nat.reduceEqDiff, Nat.reduceLT, Nat.reduceLeDiff, Nat.reduceBEq, Nat.reduceAdd, Nat.reduceMul, Nat.reduceSub, Nat.reducePow, Int.reduceLE, Int.reduceLT, Int.reduceNeg, Int.reduceToNat, Int.reduceAdd, Int.reduceSub] at hr
  obtain ⟨rfl, rfl⟩ := hr
  exact ⟨rfl, endR⟩

set_option maxRecDepth 8000 in
set_option maxHeartbeats 4000000 in
theorem W_kinds_Transversal_1 {s : Int} {c0 : List Int} {r : Bool} (hK : kinds_Transversal_1 s c0 = some r) : Pure Tryd.prog 61 [.int .i64 s, .immp [.ints .i64 c0]] (.bool r) [] := by
  refine Pure_introF tab_ok (n := 7) (l := [.tmp 3]) Tryd.func61 rfl rfl rfl (by simp) fun hfact w0 => ?_
  simp only [factL1, fact1, fact0, factL0, lo, hi, maxLen, and_true] at hfact
  unfold kinds_Transversal_1 at hK
  refine AWP_seq ?_
  -- region 0
  refine AWP_rg tab_ok [0, 1] fun c st' hr => ?_
  simp only [go_sem, reduceIte, reduceCtorEq, Nat.reduceEqDiff, Nat.reduceLT, Nat.reduceLeDiff, Nat.reduceBEq, Nat.reduceAdd, Nat.reduceMul, Nat.reduceSub, Nat.reducePow, Int.reduceLE, Int.reduceLT, Int.reduceNeg, Int.reduceToNat, Int.reduceAdd, Int.reduceSub] at hr
  obtain ⟨rfl, rfl⟩ := hr
  refine ⟨vc, ?_⟩
  with_reducible refine thenC_normal ?_
  refine AWP_seq ?_
  -- region 1
  refine AWP_rl ?_
  refine AWPL_rn tab_ok 2 [4, 5] fun c st' hr => ?_
  simp only [go_sem, reduceIte, reduceCtorEq, Nat.reduceEqDiff, Nat.reduceLT, Nat.reduceLeDiff, Nat.reduceBEq, Nat.reduceAdd, Nat.reduceMul, Nat.reduceSub, Nat.reducePow, Int.reduceLE, Int.reduceLT, Int.reduceNeg, Int.reduceToNat, Int.reduceAdd, Int.reduceSub] at hr
  obtain ⟨rfl, rfl⟩ := hr
  refine ⟨vc, ?_⟩
  replace hK := bind_s hK
  obtain ⟨y, hy, hK⟩ := hK
  refine AWPL_callK [6] (W_kinds_chosen hy) rfl rfl pcT rfl Tryd.call62 (.cons (.atom _ rfl) (.cons (.atom _ rfl) .nil)) (hscG trivial) (of_decide_eq_true rfl) (by first | rfl | simp [nI, nI1, nI0]) (by first | rfl | simp [nIB, nI0]) fun st' hr => ?_
  simp only [go_sem, reduceIte, reduceCtorEq, Nat.reduceEqDiff, Nat.reduceLT, Nat.reduceLeDiff, Nat.reduceBEq, Nat.reduceAdd, Nat.reduceMul, Nat.reduceSub, Nat.reducePow, Int.reduceLE, Int.reduceLT, Int.reduceNeg, Int.reduceToNat, Int.reduceAdd, Int.reduceSub] at hr
  subst hr
  clear hy
  refine AWPL_rn tab_ok 1 [3] fun c st' hr => ?_
  simp only [go_sem, reduceIte, reduceCtorEq, Nat.reduceEqDiff, Nat.reduceLT, Nat.reduceLeDiff, Nat.reduceBEq, Nat.reduceAdd, Nat.reduceMul, Nat.reduceSub, Nat.reducePow, Int.reduceLE, Int.reduceLT, Int.reduceNeg, Int.reduceToNat, Int.reduceAdd, Int.reduceSub] at hr
  obtain ⟨rfl, rfl⟩ := hr
  refine ⟨vc, ?_⟩
  refine AWPL_nil ?_
  with_reducible refine thenC_normal ?_
  refine AWP_ret ?_
  cases hK
  refine EndsRW [] (.inl rfl) (of_decide_eq_true rfl) (by simp) rfl (fun c x hr => ?_) trivial
  simp only [go_sem, reduceIte, reduceCtorEq, Nat.reduceEqDiff, Nat.reduceLT, Nat.reduceLeDiff, Nat.reduceBEq, Nat.reduceAdd, Nat.reduceMul, Nat.reduceSub, Nat.reducePow, Int.reduceLE, Int.reduceLT, Int.reduceNeg, Int.reduceToNat, Int.reduceAdd, Int.reduceSub] at hr
  obtain ⟨rfl, rfl⟩ := hr
  exact ⟨rfl, endR⟩

set_option maxRecDepth 8000 in
set_option maxHeartbeats 4000000 in
theorem W_kinds_Transversal {n : Int} {l : List Int} {r : Int × List Int × Int} (hK : kinds_Transversal n l = some r) : Pure Tryd.prog 32 [.int .i64 n, .ints .i64 l] (.tup [.agg [.int .i64 r.1, .own 0 r.2.1.length], .int .i64 r.2.2]) [(.ints 3 .i64 r.2.1)] := by
  refine Pure_introF tab_ok (n := 38) (l := [.cell 4 51, .tmp 5]) Tryd.func32 rfl rfl rfl (by simp) fun hfact w0 => ?_
  simp only [factL1, fact1, fact0, factL0, lo, hi, maxLen, and_true] at hfact
  unfold kinds_Transversal at hK
  refine AWP_seq ?_
  -- region 0
  refine AWP_rg tab_ok [0, 3, 4] fun c st' hr => ?_
  simp only [go_sem, reduceIte, reduceCtorEq, Nat.reduceEqDiff, Nat.reduceLT, Nat.reduceLeDiff, Nat.reduceBEq, Nat.reduceAdd, Nat.reduceMul, Nat.reduceSub, Nat.reducePow, Int.reduceLE, Int.reduceLT, Int.reduceNeg, Int.reduceToNat, Int.reduceAdd, Int.reduceSub] at hr
  obtain ⟨rfl, rfl⟩ := hr
  refine ⟨vc, ?_⟩
  with_reducible refine thenC_normal ?_
  refine AWP_ownH 1 1 (.ints 3 .i64 []) rfl rfl rfl fun st' hr => ?_
  simp only [go_sem, reduceIte, reduceCtorEq, Nat.reduceEqDiff, Nat.reduceLT, Nat.reduceLeDiff, Nat.reduceBEq, Nat.reduceAdd, Nat.reduceMul, Nat.reduceSub, Nat.reducePow, Int.reduceLE, Int.reduceLT, Int.reduceNeg, Int.reduceToNat, Int.reduceAdd, Int.reduceSub] at hr
  subst hr
  refine AWP_seq ?_
  refine AWP_seq ?_
  -- region 1
  refine AWP_rg tab_ok [0, 3, 4, 13] fun c st' hr => ?_
  simp only [go_sem, reduceIte, reduceCtorEq, Nat.reduceEqDiff, Nat.reduceLT, Nat.reduceLeDiff, Nat.reduceBEq, Nat.reduceAdd, Nat.reduceMul, Nat.reduceSub, Nat.reducePow, Int.reduceLE, Int.reduceLT, Int.reduceNeg, Int.reduceToNat, Int.reduceAdd, Int.reduceSub] at hr
  obtain ⟨rfl, rfl⟩ := hr
  refine ⟨vc, ?_⟩
  with_reducible refine thenC_normal ?_
  refine AWP_condP ((n < 0 ∨ 8 < n)) rfl bd (fun hb => ?_) (fun hb => ?_)
  · replace hK := ite_t hK hb
    refine AWP_seq ?_
    -- region 2
    refine AWP_rg tab_ok [4, 5] fun c st' hr => ?_
    simp only [go_sem, reduceIte, reduceCtorEq, Nat.reduceEqDiff, Nat.reduceLT, Nat.reduceLeDiff, Nat.reduceBEq, Nat.reduceAdd, Nat.reduceMul, Nat.reduceSub, Nat.reducePow, Int.reduceLE, Int.reduceLT, Int.reduceNeg, Int.reduceToNat, Int.reduceAdd, Int.reduceSub] at hr
    obtain ⟨rfl, rfl⟩ := hr
    refine ⟨vc, ?_⟩
    with_reducible refine thenC_normal ?_
    refine AWP_ownH 1 1 (.ints 3 .i64 []) rfl rfl rfl fun st' hr => ?_
    simp only [go_sem, reduceIte, reduceCtorEq, Nat.reduceEqDiff, Nat.reduceLT, Nat.reduceLeDiff, Nat.reduceBEq, Nat.reduceAdd, Nat.reduceMul, Nat.reduceSub, Nat.reducePow, Int.reduceLE, Int.reduceLT, Int.reduceNeg, Int.reduceToNat, Int.reduceAdd, Int.reduceSub] at hr
    subst hr
    refine AWP_ret ?_
    with_reducible refine thenC_ret ?_
    cases hK
    refine EndsRW [3] (.inl rfl) (of_decide_eq_true rfl) (by simp) rfl (fun c x hr => ?_) endH
    simp only [go_sem, reduceIte, reduceCtorEq, Nat.reduceEqDiff, Nat.reduceLT, Nat.reduceLeDiff, Nat.reduceBEq, Nat.reduceAdd, Nat.reduceMul, Nat.reduceSub, Nat.reducePow, Int.reduceLE, Int.reduceLT, Int.reduceNeg, Int.reduceToNat, Int.reduceAdd, Int.reduceSub] at hr
    obtain ⟨rfl, rfl⟩ := hr
    exact ⟨rfl, endR⟩
  · replace hK := ite_f hK hb
    refine AWP_skip ?_
    with_reducible refine thenC_normal ?_
    refine AWP_seq ?_
    refine AWP_seq ?_
    -- region 3
    refine AWP_rg tab_ok [0, 3, 4, 15, 16, 17] fun c st' hr => ?_
    simp only [go_sem, reduceIte, reduceCtorEq, Nat.reduceEqDiff, Nat.reduceLT, Nat.reduceLeDiff, Nat.reduceBEq, Nat.reduceAdd, Nat.reduceMul, Nat.reduceSub, Nat.reducePow, Int.reduceLE, Int.reduceLT, Int.reduceNeg, Int.reduceToNat, Int.reduceAdd, Int.reduceSub] at hr
    obtain ⟨rfl, rfl⟩ := hr
    refine ⟨vc, ?_⟩
    with_reducible refine thenC_normal ?_
    refine AWP_block ?_
    refine AWP_loopX 0 (fun (v : Int) => ⟨38, [(0, .int .i64 n), (3, .ptr 0 0 0), (4, .ptr 1 0 0), (15, .ints .i64 l), (16, .int .i64 (l.length : Int)), (17, .int .i64 v)], [some (.gen 22 1 [[.ints .i64 l]]), some (.gen 51 2 [[.int .i64 0, .own 2 0]]), some (.ints 3 .i64 [])]⟩) (fun (_ : Unit) => ⟨38, [(0, .int .i64 n), (3, .ptr 0 0 0), (4, .ptr 1 0 0)], [some (.gen 22 1 [[.ints .i64 l]]), some (.gen 51 2 [[.int .i64 0, .own 2 0]]), some (.ints 3 .i64 [])]⟩) Sum.inl 0 [0, 1, 2] hK mkWk ?_ ?_
    · clear hK; rintro v b hK hpost1
      try dsimp only at hK
      change AWP _ _ _ _ ⟨38, [(0, .int .i64 n), (3, .ptr 0 0 0), (4, .ptr 1 0 0), (15, .ints .i64 l), (16, .int .i64 (l.length : Int)), (17, .int .i64 v)], [some (.gen 22 1 [[.ints .i64 l]]), some (.gen 51 2 [[.int .i64 0, .own 2 0]]), some (.ints 3 .i64 [])]⟩
      refine AWP_seq ?_
      -- region 4
      refine AWP_rg tab_ok [0, 3, 4, 15, 16, 17, 18] fun c st' hr => ?_
      simp only [go_sem, reduceIte, reduceCtorEq, Nat.reduceEqDiff, Nat.reduceLT, Nat.reduceLeDiff, Nat.reduceBEq, Nat.reduceAdd, Nat.reduceMul, Nat.reduceSub, Nat.reducePow, Int.reduceLE, Int.reduceLT, Int.reduceNeg, Int.reduceToNat, Int.reduceAdd, Int.reduceSub] at hr
      obtain ⟨rfl, rfl⟩ := hr
      refine ⟨vc, ?_⟩
      with_reducible refine thenC_normal ?_
      refine AWP_seq ?_
      refine AWP_condP (v < (l.length : Int)) rfl bd (fun hb1 => ?_) (fun hb1 => ?_)
      · replace hK := ite_t hK hb1
        refine AWP_skip ?_
        with_reducible refine thenC_normal ?_
        refine AWP_seq ?_
        refine AWP_block ?_
        refine AWP_seq ?_
        -- region 5
        replace hK := chk_some hK
        obtain ⟨h, hK⟩ := hK
        refine AWP_rg tab_ok [0, 3, 4, 7, 15, 16, 17] fun c st' hr => ?_
        simp only [go_sem, reduceIte, reduceCtorEq, Nat.reduceEqDiff, Nat.reduceLT, Nat.reduceLeDiff, Nat.reduceBEq, Nat.reduceAdd, Nat.reduceMul, Nat.reduceSub, Nat.reducePow, Int.reduceLE, Int.reduceLT, Int.reduceNeg, Int.reduceToNat, Int.reduceAdd, Int.reduceSub] at hr
        obtain ⟨rfl, rfl⟩ := hr
        refine ⟨vc, ?_⟩
        with_reducible refine thenC_normal ?_
        refine AWP_seq ?_
        -- region 6
        replace hK := chk_some hK
        obtain ⟨h1, hK⟩ := hK
        refine AWP_rg tab_ok [0, 3, 4, 15, 16, 17, 28] fun c st' hr => ?_
        simp only [go_sem, reduceIte, reduceCtorEq, Nat.reduceEqDiff, Nat.reduceLT, Nat.reduceLeDiff, Nat.reduceBEq, Nat.reduceAdd, Nat.reduceMul, Nat.reduceSub, Nat.reducePow, Int.reduceLE, Int.reduceLT, Int.reduceNeg, Int.reduceToNat, Int.reduceAdd, Int.reduceSub] at hr
        obtain ⟨rfl, rfl⟩ := hr
        refine ⟨vc, ?_⟩
        with_reducible refine thenC_normal ?_
        refine AWP_condP ((l.getD v.toNat 0 < 0 ∨ (2 ^ n.toNat : Int) ≤ l.getD v.toNat 0)) rfl bd (fun hb2 => ?_) (fun hb2 => ?_)
        · replace hK := ite_t hK hb2
          refine AWP_seq ?_
          -- region 7
          refine AWP_rg tab_ok [4, 5] fun c st' hr => ?_
          simp only [go_sem, reduceIte, reduceCtorEq, Nat.reduceEqDiff, Nat.reduceLT, Nat.reduceLeDiff, Nat.reduceBEq, Nat.reduceAdd, Nat.reduceMul, Nat.reduceSub, Nat.reducePow, Int.reduceLE, Int.reduceLT, Int.reduceNeg, Int.reduceToNat, Int.reduceAdd, Int.reduceSub] at hr
          obtain ⟨rfl, rfl⟩ := hr
          refine ⟨vc, ?_⟩
          with_reducible refine thenC_normal ?_
          refine AWP_ownH 1 1 (.ints 3 .i64 []) rfl rfl rfl fun st' hr => ?_
          simp only [go_sem, reduceIte, reduceCtorEq, Nat.reduceEqDiff, Nat.reduceLT, Nat.reduceLeDiff, Nat.reduceBEq, Nat.reduceAdd, Nat.reduceMul, Nat.reduceSub, Nat.reducePow, Int.reduceLE, Int.reduceLT, Int.reduceNeg, Int.reduceToNat, Int.reduceAdd, Int.reduceSub] at hr
          subst hr
          refine AWP_ret ?_
          with_reducible refine inBlockA_ret (thenC_ret (again_r (cutX_r (inBlockA_ret (thenC_ret ?_)))))
          replace hK := hpost1 _ hK
          try dsimp only at hK
          cases hK
          refine EndsRW [3] (.inl rfl) (of_decide_eq_true rfl) (by simp) rfl (fun c x hr => ?_) endH
          simp only [go_sem, reduceIte, reduceCtorEq, Nat.reduceEqDiff, Nat.reduceLT, Nat.reduceLeDiff, Nat.reduceBEq, Nat.reduceAdd, Nat.reduceMul, Nat.reduceSub, Nat.reducePow, Int.reduceLE, Int.reduceLT, Int.reduceNeg, Int.reduceToNat, Int.reduceAdd, Int.reduceSub] at hr
          obtain ⟨rfl, rfl⟩ := hr
          exact ⟨rfl, endR⟩
        · replace hK := ite_f hK hb2
          refine AWP_skip ?_
          with_reducible refine inBlockA_normal (thenC_normal ?_)
          -- region 8
          refine AWP_facts (by simp) fun hfx => ?_
          simp only [factS, factV, fact1, fact0, factL0, lo, hi, maxLen, and_true, true_and] at hfx
          refine AWP_rg tab_ok [0, 3, 4, 15, 16, 17] fun c st' hr => ?_
          simp only [go_sem, reduceIte, reduceCtorEq, Nat.reduceEqDiff, Nat.reduceLT, Nat.reduceLeDiff, Nat.reduceBEq, Nat.reduceAdd, Nat.reduceMul, Nat.reduceSub, Nat.reducePow, Int.reduceLE, Int.reduceLT, Int.reduceNeg, Int.reduceToNat, Int.reduceAdd, Int.reduceSub] at hr
          obtain ⟨rfl, rfl⟩ := hr
          refine ⟨vc, ?_⟩
          clear hfx
          refine again_n (v + 1) [0, 1, 2] hK mkWk
      · replace hK := ite_f hK hb1
        refine AWP_exit ?_
        with_reducible refine thenC_exit (again_x ?_)
        refine cutX_here () [0, 1, 2] (by have hq := hpost1 _ hK; exact hq) mkWk
    · clear hK; rintro _ hK
      try dsimp only at hK
      refine exS ⟨38, [(0, .int .i64 n), (3, .ptr 0 0 0), (4, .ptr 1 0 0)], [some (.gen 22 1 [[.ints .i64 l]]), some (.gen 51 2 [[.int .i64 0, .own 2 0]]), some (.ints 3 .i64 [])]⟩ rfl ?_
      with_reducible refine inBlockA_exit (thenC_normal ?_)
      refine AWP_seq ?_
      refine AWP_seq ?_
      -- region 9
      refine AWP_rg tab_ok [0, 3, 4, 33] fun c st' hr => ?_
      simp only [go_sem, reduceIte, reduceCtorEq, Nat.reduceEqDiff, Nat.reduceLT, Nat.reduceLeDiff, Nat.reduceBEq, Nat.reduceAdd, Nat.reduceMul, Nat.reduceSub, Nat.reducePow, Int.reduceLE, Int.reduceLT, Int.reduceNeg, Int.reduceToNat, Int.reduceAdd, Int.reduceSub] at hr
      obtain ⟨rfl, rfl⟩ := hr
      refine ⟨vc, ?_⟩
      with_reducible refine thenC_normal ?_
      refine AWP_condP (8 < (l.length : Int)) rfl bd (fun hb3 => ?_) (fun hb3 => ?_)
      · replace hK := ite_t hK hb3
        refine AWP_seq ?_
        -- region 10
        refine AWP_rg tab_ok [4, 5] fun c st' hr => ?_
        simp only [go_sem, reduceIte, reduceCtorEq, Nat.reduceEqDiff, Nat.reduceLT, Nat.reduceLeDiff, Nat.reduceBEq, Nat.reduceAdd, Nat.reduceMul, Nat.reduceSub, Nat.reducePow, Int.reduceLE, Int.reduceLT, Int.reduceNeg, Int.reduceToNat, Int.reduceAdd, Int.reduceSub] at hr
        obtain ⟨rfl, rfl⟩ := hr
        refine ⟨vc, ?_⟩
        with_reducible refine thenC_normal ?_
        refine AWP_ownH 1 1 (.ints 3 .i64 []) rfl rfl rfl fun st' hr => ?_
        simp only [go_sem, reduceIte, reduceCtorEq, Nat.reduceEqDiff, Nat.reduceLT, Nat.reduceLeDiff, Nat.reduceBEq, Nat.reduceAdd, Nat.reduceMul, Nat.reduceSub, Nat.reducePow, Int.reduceLE, Int.reduceLT, Int.reduceNeg, Int.reduceToNat, Int.reduceAdd, Int.reduceSub] at hr
        subst hr
        refine AWP_ret ?_
        with_reducible refine thenC_ret ?_
        cases hK
        refine EndsRW [3] (.inl rfl) (of_decide_eq_true rfl) (by simp) rfl (fun c x hr => ?_) endH
        simp only [go_sem, reduceIte, reduceCtorEq, Nat.reduceEqDiff, Nat.reduceLT, Nat.reduceLeDiff, Nat.reduceBEq, Nat.reduceAdd, Nat.reduceMul, Nat.reduceSub, Nat.reducePow, Int.reduceLE, Int.reduceLT, Int.reduceNeg, Int.reduceToNat, Int.reduceAdd, Int.reduceSub] at hr
        obtain ⟨rfl, rfl⟩ := hr
        exact ⟨rfl, endR⟩
      · replace hK := ite_f hK hb3
        refine AWP_skip ?_
        with_reducible refine thenC_normal ?_
        refine AWP_seq ?_
        -- region 11
        refine AWP_rl ?_
        refine AWPL_rn tab_ok 2 [4, 35, 36] fun c st' hr => ?_
        simp only [go_sem, reduceIte, reduceCtorEq, Nat.reduceEqDiff, Nat.reduceLT, Nat.reduceLeDiff, Nat.reduceBEq, Nat.reduceAdd, Nat.reduceMul, Nat.reduceSub, Nat.reducePow, Int.reduceLE, Int.reduceLT, Int.reduceNeg, Int.reduceToNat, Int.reduceAdd, Int.reduceSub] at hr
        obtain ⟨rfl, rfl⟩ := hr
        refine ⟨vc, ?_⟩
        replace hK := bind_s hK
        obtain ⟨y, hy, hK⟩ := hK
        refine AWPL_callK [4, 37] (W_kinds_greatest Tryd.call61 rfl (fun _ _ hh => by simpa using W_kinds_Transversal_1 hh) hy) rfl rfl pcT rfl Tryd.call60 (.cons (.atom _ rfl) (.cons (.funcOf (.cons (.ptrM _ _ _ _ _ _ _ rfl rfl rfl (ArgsOk.get (.cons (.atom _ rfl) .nil)).2) .nil)) .nil)) (hscG trivial) (of_decide_eq_true rfl) (by first | rfl | simp [nI, nI1, nI0]) (by first | rfl | simp [nIB, nI0]) fun st' hr => ?_
        simp only [go_sem, reduceIte, reduceCtorEq, Nat.reduceEqDiff, Nat.reduceLT, Nat.reduceLeDiff, Nat.reduceBEq, Nat.reduceAdd, Nat.reduceMul, Nat.reduceSub, Nat.reducePow, Int.reduceLE, Int.reduceLT, Int.reduceNeg, Int.reduceToNat, Int.reduceAdd, Int.reduceSub] at hr
        subst hr
        clear hy
        refine AWPL_rn tab_ok 2 [4, 5] fun c st' hr => ?_
        simp only [go_sem, reduceIte, reduceCtorEq, Nat.reduceEqDiff, Nat.reduceLT, Nat.reduceLeDiff, Nat.reduceBEq, Nat.reduceAdd, Nat.reduceMul, Nat.reduceSub, Nat.reducePow, Int.reduceLE, Int.reduceLT, Int.reduceNeg, Int.reduceToNat, Int.reduceAdd, Int.reduceSub] at hr
        obtain ⟨rfl, rfl⟩ := hr
        refine ⟨vc, ?_⟩
        refine AWPL_nil ?_
        with_reducible refine thenC_normal ?_
        refine AWP_ret ?_
        cases hK
        refine EndsRW [3] (.inl rfl) (of_decide_eq_true rfl) (by simp) rfl (fun c x hr => ?_) endH
        simp only [go_sem, reduceIte, reduceCtorEq, Nat.reduceEqDiff, Nat.reduceLT, Nat.reduceLeDiff, Nat.reduceBEq, Nat.reduceAdd, Nat.reduceMul, Nat.reduceSub, Nat.reducePow, Int.reduceLE, Int.reduceLT, Int.reduceNeg, Int.reduceToNat, Int.reduceAdd, Int.reduceSub] at hr
        obtain ⟨rfl, rfl⟩ := hr
        exact ⟨rfl, endR⟩

end Go.SH
