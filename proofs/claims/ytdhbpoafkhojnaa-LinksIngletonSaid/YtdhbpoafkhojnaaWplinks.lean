/-
  That the code computes these functions: links_right, links_size, links_reached, links_Cut, links_laid, links_pipes_more, links_ways, links_Most, links_Sets, links_Gammoid. By a program of mine (shal.py). Conditions: none.
-/
import Derived.Test.YtdhbpoafkhojnaaAxT
import Derived.Test.YtdhbpoafkhojnaaAxR
import Derived.Test.YtdhbpoafkhojnaaAxMp
import Derived.Test.YtdhbpoafkhojnaaAxRx
import Derived.Test.YtdhbpoafkhojnaaAxGc
import Derived.Test.YtdhbpoafkhojnaaSplinks
import Derived.Test.YtdhbpoafkhojnaaWpbits
import Derived.Test.YtdhbpoafkhojnaaWpkindsg
set_option linter.unusedVariables false
set_option linter.unusedSimpArgs false
namespace Go.SH
open Go Go.AX Go.AX.Try Go.Proofs

set_option maxRecDepth 8000 in
set_option maxHeartbeats 4000000 in
theorem W_links_right {g_0 : Int} {g_1 : List (Int × Int)} {l : List Int} {r : Int} (hK : links_right g_0 g_1 l = some r) : Pure Try.prog 86 [.agg [.int .i64 g_0, .fn 2 g_1.length (fun i => [.int .i64 ((g_1.getD i (0, 0)).1), .int .i64 ((g_1.getD i (0, 0)).2)])], .ints .i64 l] (.int .i64 r) [] := by
  refine Pure_introF tab_ok (n := 29) (l := [.tmp 4]) Try.func86 rfl rfl rfl (by simp) fun hfact w0 => ?_
  simp only [factL1, fact1, fact0, factL0, lo, hi, maxLen, and_true] at hfact
  unfold links_right at hK
  refine AWP_seq ?_
  -- region 0
  refine AWP_rg tab_ok [1, 2] fun c st' hr => ?_
  simp only [go_sem, reduceIte, reduceCtorEq, Nat.reduceEqDiff, Nat.reduceLT, Nat.reduceLeDiff, Nat.reduceBEq, Nat.reduceAdd, Nat.reduceMul, Nat.reduceSub, Nat.reducePow, Int.reduceLE, Int.reduceLT, Int.reduceNeg, Int.reduceToNat, Int.reduceAdd, Int.reduceSub] at hr
  obtain ⟨rfl, rfl⟩ := hr
  refine ⟨vc, ?_⟩
  with_reducible refine thenC_normal ?_
  refine AWP_seq ?_
  refine AWP_seq ?_
  -- region 1
  refine AWP_rl ?_
  refine AWPL_rn tab_ok 1 [1, 2, 8] fun c st' hr => ?_
  simp only [go_sem, reduceIte, reduceCtorEq, Nat.reduceEqDiff, Nat.reduceLT, Nat.reduceLeDiff, Nat.reduceBEq, Nat.reduceAdd, Nat.reduceMul, Nat.reduceSub, Nat.reducePow, Int.reduceLE, Int.reduceLT, Int.reduceNeg, Int.reduceToNat, Int.reduceAdd, Int.reduceSub] at hr
  obtain ⟨rfl, rfl⟩ := hr
  refine ⟨vc, ?_⟩
  replace hK := bind_s hK
  obtain ⟨y, hy, hK⟩ := hK
  refine AWPL_callK [1, 2, 9] (W_kinds_CheckGraph hy) rfl rfl pcT rfl Try.call74 (.cons (.agg _ _ rfl (ArgsOk.get (.cons (.atom _ rfl) (.cons (.atom _ rfl) .nil))).2) .nil) (hscG trivial) (of_decide_eq_true rfl) (by first | rfl | simp [nI, nI1, nI0]) (by first | rfl | simp [nIB, nI0]) fun st' hr => ?_
  simp only [go_sem, reduceIte, reduceCtorEq, Nat.reduceEqDiff, Nat.reduceLT, Nat.reduceLeDiff, Nat.reduceBEq, Nat.reduceAdd, Nat.reduceMul, Nat.reduceSub, Nat.reducePow, Int.reduceLE, Int.reduceLT, Int.reduceNeg, Int.reduceToNat, Int.reduceAdd, Int.reduceSub] at hr
  subst hr
  clear hy
  refine AWPL_rn tab_ok 1 [1, 2, 5] fun c st' hr => ?_
  simp only [go_sem, reduceIte, reduceCtorEq, Nat.reduceEqDiff, Nat.reduceLT, Nat.reduceLeDiff, Nat.reduceBEq, Nat.reduceAdd, Nat.reduceMul, Nat.reduceSub, Nat.reducePow, Int.reduceLE, Int.reduceLT, Int.reduceNeg, Int.reduceToNat, Int.reduceAdd, Int.reduceSub] at hr
  obtain ⟨rfl, rfl⟩ := hr
  refine ⟨vc, ?_⟩
  refine AWPL_nil ?_
  with_reducible refine thenC_normal ?_
  refine AWP_seq ?_
  -- region 2
  refine AWP_rg tab_ok [1, 2, 5, 11] fun c st' hr => ?_
  simp only [go_sem, reduceIte, reduceCtorEq, Nat.reduceEqDiff, Nat.reduceLT, Nat.reduceLeDiff, Nat.reduceBEq, Nat.reduceAdd, Nat.reduceMul, Nat.reduceSub, Nat.reducePow, Int.reduceLE, Int.reduceLT, Int.reduceNeg, Int.reduceToNat, Int.reduceAdd, Int.reduceSub] at hr
  obtain ⟨rfl, rfl⟩ := hr
  refine ⟨vc, ?_⟩
  with_reducible refine thenC_normal ?_
  refine AWP_condP (y ≠ 0) rfl bd (fun hb => ?_) (fun hb => ?_)
  · replace hK := ite_t hK hb
    refine AWP_seq ?_
    -- region 3
    refine AWP_rg tab_ok [4] fun c st' hr => ?_
    simp only [go_sem, reduceIte, reduceCtorEq, Nat.reduceEqDiff, Nat.reduceLT, Nat.reduceLeDiff, Nat.reduceBEq, Nat.reduceAdd, Nat.reduceMul, Nat.reduceSub, Nat.reducePow, Int.reduceLE, Int.reduceLT, Int.reduceNeg, Int.reduceToNat, Int.reduceAdd, Int.reduceSub] at hr
    obtain ⟨rfl, rfl⟩ := hr
    refine ⟨vc, ?_⟩
    with_reducible refine thenC_normal ?_
    refine AWP_ret ?_
    with_reducible refine thenC_ret ?_
    cases hK
    refine EndsRW [] (.inl rfl) (of_decide_eq_true rfl) (by simp) rfl (fun c x hr => ?_) trivial
    simp only [go_sem, reduceIte, reduceCtorEq, Nat.reduceEqDiff, Nat.reduceLT, Nat.reduceLeDiff, Nat.reduceBEq, Nat.reduceAdd, Nat.reduceMul, Nat.reduceSub, Nat.reducePow, Int.reduceLE, Int.reduceLT, Int.reduceNeg, Int.reduceToNat, Int.reduceAdd, Int.reduceSub] at hr
    obtain ⟨rfl, rfl⟩ := hr
    exact ⟨rfl, endR⟩
  · replace hK := ite_f hK hb
    refine AWP_skip ?_
    with_reducible refine thenC_normal ?_
    refine AWP_seq ?_
    refine AWP_seq ?_
    -- region 4
    refine AWP_rg tab_ok [2, 13, 14, 15] fun c st' hr => ?_
    simp only [go_sem, reduceIte, reduceCtorEq, Nat.reduceEqDiff, Nat.reduceLT, Nat.reduceLeDiff, Nat.reduceBEq, Nat.reduceAdd, Nat.reduceMul, Nat.reduceSub, Nat.reducePow, Int.reduceLE, Int.reduceLT, Int.reduceNeg, Int.reduceToNat, Int.reduceAdd, Int.reduceSub] at hr
    obtain ⟨rfl, rfl⟩ := hr
    refine ⟨vc, ?_⟩
    with_reducible refine thenC_normal ?_
    refine AWP_block ?_
    refine AWP_loopX 0 (fun (v : Int) => ⟨29, [(2, .ptr 0 0 0), (13, .ints .i64 l), (14, .int .i64 (l.length : Int)), (15, .int .i64 v)], [some (.gen 39 2 [[.int .i64 g_0, .fn 2 g_1.length (fun i => [.int .i64 ((g_1.getD i (0, 0)).1), .int .i64 ((g_1.getD i (0, 0)).2)])]])]⟩) (fun (_ : Unit) => ⟨29, [], []⟩) Sum.inl 0 [0] hK mkWk ?_ ?_
    · clear hK; rintro v b hK hpost1
      try dsimp only at hK
      change AWP _ _ _ _ ⟨29, [(2, .ptr 0 0 0), (13, .ints .i64 l), (14, .int .i64 (l.length : Int)), (15, .int .i64 v)], [some (.gen 39 2 [[.int .i64 g_0, .fn 2 g_1.length (fun i => [.int .i64 ((g_1.getD i (0, 0)).1), .int .i64 ((g_1.getD i (0, 0)).2)])]])]⟩
      refine AWP_seq ?_
      -- region 5
      refine AWP_rg tab_ok [2, 13, 14, 15, 16] fun c st' hr => ?_
      simp only [go_sem, reduceIte, reduceCtorEq, Nat.reduceEqDiff, Nat.reduceLT, Nat.reduceLeDiff, Nat.reduceBEq, Nat.reduceAdd, Nat.reduceMul, Nat.reduceSub, Nat.reducePow, Int.reduceLE, Int.reduceLT, Int.reduceNeg, Int.reduceToNat, Int.reduceAdd, Int.reduceSub] at hr
      obtain ⟨rfl, rfl⟩ := hr
      refine ⟨vc, ?_⟩
      with_reducible refine thenC_normal ?_
      refine AWP_seq ?_
      refine AWP_condP (v < (l.length : Int)) rfl bd (fun hb1 => ?_) (fun hb1 => ?_)
      · replace hK := ite_t hK hb1
        refine AWP_skip ?_
        with_reducible refine thenC_normal ?_
        refine AWP_seq ?_
        refine AWP_block ?_
        refine AWP_seq ?_
        -- region 6
        replace hK := chk_some hK
        obtain ⟨h, hK⟩ := hK
        refine AWP_rg tab_ok [2, 7, 13, 14, 15] fun c st' hr => ?_
        simp only [go_sem, reduceIte, reduceCtorEq, Nat.reduceEqDiff, Nat.reduceLT, Nat.reduceLeDiff, Nat.reduceBEq, Nat.reduceAdd, Nat.reduceMul, Nat.reduceSub, Nat.reducePow, Int.reduceLE, Int.reduceLT, Int.reduceNeg, Int.reduceToNat, Int.reduceAdd, Int.reduceSub] at hr
        obtain ⟨rfl, rfl⟩ := hr
        refine ⟨vc, ?_⟩
        with_reducible refine thenC_normal ?_
        refine AWP_seq ?_
        -- region 7
        replace hK := chk_some hK
        obtain ⟨h1, hK⟩ := hK
        refine AWP_rg tab_ok [2, 13, 14, 15, 27] fun c st' hr => ?_
        simp only [go_sem, reduceIte, reduceCtorEq, Nat.reduceEqDiff, Nat.reduceLT, Nat.reduceLeDiff, Nat.reduceBEq, Nat.reduceAdd, Nat.reduceMul, Nat.reduceSub, Nat.reducePow, Int.reduceLE, Int.reduceLT, Int.reduceNeg, Int.reduceToNat, Int.reduceAdd, Int.reduceSub] at hr
        obtain ⟨rfl, rfl⟩ := hr
        refine ⟨vc, ?_⟩
        with_reducible refine thenC_normal ?_
        refine AWP_condP ((l.getD v.toNat 0 < 0 ∨ (2 ^ g_0.toNat : Int) ≤ l.getD v.toNat 0)) rfl bd (fun hb2 => ?_) (fun hb2 => ?_)
        · replace hK := ite_t hK hb2
          refine AWP_seq ?_
          -- region 8
          refine AWP_rg tab_ok [4] fun c st' hr => ?_
          simp only [go_sem, reduceIte, reduceCtorEq, Nat.reduceEqDiff, Nat.reduceLT, Nat.reduceLeDiff, Nat.reduceBEq, Nat.reduceAdd, Nat.reduceMul, Nat.reduceSub, Nat.reducePow, Int.reduceLE, Int.reduceLT, Int.reduceNeg, Int.reduceToNat, Int.reduceAdd, Int.reduceSub] at hr
          obtain ⟨rfl, rfl⟩ := hr
          refine ⟨vc, ?_⟩
          with_reducible refine thenC_normal ?_
          refine AWP_ret ?_
          with_reducible refine inBlockA_ret (thenC_ret (again_r (cutX_r (inBlockA_ret (thenC_ret ?_)))))
          replace hK := hpost1 _ hK
          try dsimp only at hK
          cases hK
          refine EndsRW [] (.inl rfl) (of_decide_eq_true rfl) (by simp) rfl (fun c x hr => ?_) trivial
          simp only [go_sem, reduceIte, reduceCtorEq, Nat.reduceEqDiff, Nat.reduceLT, Nat.reduceLeDiff, Nat.reduceBEq, Nat.reduceAdd, Nat.reduceMul, Nat.reduceSub, Nat.reducePow, Int.reduceLE, Int.reduceLT, Int.reduceNeg, Int.reduceToNat, Int.reduceAdd, Int.reduceSub] at hr
          obtain ⟨rfl, rfl⟩ := hr
          exact ⟨rfl, endR⟩
        · replace hK := ite_f hK hb2
          refine AWP_skip ?_
          with_reducible refine inBlockA_normal (thenC_normal ?_)
          -- region 9
          refine AWP_facts (by simp) fun hfx => ?_
          simp only [factS, factV, fact1, fact0, factL0, lo, hi, maxLen, and_true, true_and] at hfx
          refine AWP_rg tab_ok [2, 13, 14, 15] fun c st' hr => ?_
          simp only [go_sem, reduceIte, reduceCtorEq, Nat.reduceEqDiff, Nat.reduceLT, Nat.reduceLeDiff, Nat.reduceBEq, Nat.reduceAdd, Nat.reduceMul, Nat.reduceSub, Nat.reducePow, Int.reduceLE, Int.reduceLT, Int.reduceNeg, Int.reduceToNat, Int.reduceAdd, Int.reduceSub] at hr
          obtain ⟨rfl, rfl⟩ := hr
          refine ⟨vc, ?_⟩
          clear hfx
          refine again_n (v + 1) [0] hK mkWk
      · replace hK := ite_f hK hb1
        refine AWP_exit ?_
        with_reducible refine thenC_exit (again_x ?_)
        refine cutX_here () [] (by have hq := hpost1 _ hK; exact hq) mkWk
    · clear hK; rintro _ hK
      try dsimp only at hK
      refine exS ⟨29, [], []⟩ rfl ?_
      with_reducible refine inBlockA_exit (thenC_normal ?_)
      refine AWP_seq ?_
      -- region 10
      refine AWP_rg tab_ok [4] fun c st' hr => ?_
      simp only [go_sem, reduceIte, reduceCtorEq, Nat.reduceEqDiff, Nat.reduceLT, Nat.reduceLeDiff, Nat.reduceBEq, Nat.reduceAdd, Nat.reduceMul, Nat.reduceSub, Nat.reducePow, Int.reduceLE, Int.reduceLT, Int.reduceNeg, Int.reduceToNat, Int.reduceAdd, Int.reduceSub] at hr
      obtain ⟨rfl, rfl⟩ := hr
      refine ⟨vc, ?_⟩
      with_reducible refine thenC_normal ?_
      refine AWP_ret ?_
      cases hK
      refine EndsRW [] (.inl rfl) (of_decide_eq_true rfl) (by simp) rfl (fun c x hr => ?_) trivial
      simp only [go_sem, reduceIte, reduceCtorEq, Nat.reduceEqDiff, Nat.reduceLT, Nat.reduceLeDiff, Nat.reduceBEq, Nat.reduceAdd, Nat.reduceMul, Nat.reduceSub, Nat.reducePow, Int.reduceLE, Int.reduceLT, Int.reduceNeg, Int.reduceToNat, Int.reduceAdd, Int.reduceSub] at hr
      obtain ⟨rfl, rfl⟩ := hr
      exact ⟨rfl, endR⟩

set_option maxRecDepth 8000 in
set_option maxHeartbeats 4000000 in
theorem W_links_size {s : Int} {r : Int} (hK : links_size s = some r) : Pure Try.prog 87 [.int .i64 s] (.int .i64 r) [] := by
  refine Pure_introF tab_ok (n := 6) (l := [.tmp 2]) Try.func87 rfl rfl rfl (by simp) fun hfact w0 => ?_
  simp only [factL1, fact1, fact0, factL0, lo, hi, maxLen, and_true] at hfact
  unfold links_size at hK
  refine AWP_seq ?_
  -- region 0
  refine AWP_rg tab_ok [0] fun c st' hr => ?_
  simp only [go_sem, reduceIte, reduceCtorEq, Nat.reduceEqDiff, Nat.reduceLT, Nat.reduceLeDiff, Nat.reduceBEq, Nat.reduceAdd, Nat.reduceMul, Nat.reduceSub, Nat.reducePow, Int.reduceLE, Int.reduceLT, Int.reduceNeg, Int.reduceToNat, Int.reduceAdd, Int.reduceSub] at hr
  obtain ⟨rfl, rfl⟩ := hr
  refine ⟨vc, ?_⟩
  with_reducible refine thenC_normal ?_
  refine AWP_seq ?_
  -- region 1
  refine AWP_rl ?_
  replace hK := chk_some hK
  obtain ⟨h, hK⟩ := hK
  refine AWPL_rn tab_ok 2 [4] fun c st' hr => ?_
  simp only [go_sem, reduceIte, reduceCtorEq, Nat.reduceEqDiff, Nat.reduceLT, Nat.reduceLeDiff, Nat.reduceBEq, Nat.reduceAdd, Nat.reduceMul, Nat.reduceSub, Nat.reducePow, Int.reduceLE, Int.reduceLT, Int.reduceNeg, Int.reduceToNat, Int.reduceAdd, Int.reduceSub] at hr
  obtain ⟨rfl, rfl⟩ := hr
  refine ⟨vc, ?_⟩
  replace hK := bind_s hK
  obtain ⟨y, hy, hK⟩ := hK
  refine AWPL_callK [5] (W_bits_OnesCount hy) rfl rfl pcT rfl Try.call113 (.cons (.atom _ rfl) .nil) (hscG trivial) (of_decide_eq_true rfl) (by first | rfl | simp [nI, nI1, nI0]) (by first | rfl | simp [nIB, nI0]) fun st' hr => ?_
  simp only [go_sem, reduceIte, reduceCtorEq, Nat.reduceEqDiff, Nat.reduceLT, Nat.reduceLeDiff, Nat.reduceBEq, Nat.reduceAdd, Nat.reduceMul, Nat.reduceSub, Nat.reducePow, Int.reduceLE, Int.reduceLT, Int.reduceNeg, Int.reduceToNat, Int.reduceAdd, Int.reduceSub] at hr
  subst hr
  clear hy
  refine AWPL_rn tab_ok 1 [2] fun c st' hr => ?_
  simp only [go_sem, reduceIte, reduceCtorEq, Nat.reduceEqDiff, Nat.reduceLT, Nat.reduceLeDiff, Nat.reduceBEq, Nat.reduceAdd, Nat.reduceMul, Nat.reduceSub, Nat.reducePow, Int.reduceLE, Int.reduceLT, Int.reduceNeg, Int.reduceToNat, Int.reduceAdd, Int.reduceSub] at hr
  obtain ⟨rfl, rfl⟩ := hr
  refine ⟨vc, ?_⟩
  refine AWPL_nil ?_
  with_reducible refine thenC_normal ?_
  refine AWP_ret ?_
  cases hK
  refine EndsRW [] (.inl rfl) (of_decide_eq_true rfl) (by simp) rfl (fun c x hr => ?_) trivial
  simp only [go_sem, reduceIte, reduceCtorEq, Nat.reduceEqDiff, Nat.reduceLT, Nat.reduceLeDiff, Nat.reduceBEq, Nat.reduceAdd, Nat.reduceMul, Nat.reduceSub, Nat.reducePow, Int.reduceLE, Int.reduceLT, Int.reduceNeg, Int.reduceToNat, Int.reduceAdd, Int.reduceSub] at hr
  obtain ⟨rfl, rfl⟩ := hr
  exact ⟨rfl, endR⟩

set_option maxRecDepth 8000 in
set_option maxHeartbeats 4000000 in
theorem W_links_reached {g_0 : Int} {g_1 : List (Int × Int)} {from0 : Int} {gone : Int} {r : Int} (hK : links_reached g_0 g_1 from0 gone = some r) : Pure Try.prog 88 [.agg [.int .i64 g_0, .fn 2 g_1.length (fun i => [.int .i64 ((g_1.getD i (0, 0)).1), .int .i64 ((g_1.getD i (0, 0)).2)])], .int .i64 from0, .int .i64 gone] (.int .i64 r) [] := by
  refine Pure_introF tab_ok (n := 40) (l := [.tmp 6]) Try.func88 rfl rfl rfl (by simp) fun hfact w0 => ?_
  simp only [factL1, fact1, fact0, factL0, lo, hi, maxLen, and_true] at hfact
  unfold links_reached at hK
  refine AWP_seq ?_
  -- region 0
  refine AWP_rg tab_ok [1, 2, 3] fun c st' hr => ?_
  simp only [go_sem, reduceIte, reduceCtorEq, Nat.reduceEqDiff, Nat.reduceLT, Nat.reduceLeDiff, Nat.reduceBEq, Nat.reduceAdd, Nat.reduceMul, Nat.reduceSub, Nat.reducePow, Int.reduceLE, Int.reduceLT, Int.reduceNeg, Int.reduceToNat, Int.reduceAdd, Int.reduceSub] at hr
  obtain ⟨rfl, rfl⟩ := hr
  refine ⟨vc, ?_⟩
  with_reducible refine thenC_normal ?_
  refine AWP_seq ?_
  -- region 1
  refine AWP_rg tab_ok [2, 3, 7] fun c st' hr => ?_
  simp only [go_sem, reduceIte, reduceCtorEq, Nat.reduceEqDiff, Nat.reduceLT, Nat.reduceLeDiff, Nat.reduceBEq, Nat.reduceAdd, Nat.reduceMul, Nat.reduceSub, Nat.reducePow, Int.reduceLE, Int.reduceLT, Int.reduceNeg, Int.reduceToNat, Int.reduceAdd, Int.reduceSub] at hr
  obtain ⟨rfl, rfl⟩ := hr
  refine ⟨vc, ?_⟩
  with_reducible refine thenC_normal ?_
  refine AWP_seq ?_
  refine AWP_seq ?_
  -- region 2
  refine AWP_rg tab_ok [2, 3, 7, 14, 15] fun c st' hr => ?_
  simp only [go_sem, reduceIte, reduceCtorEq, Nat.reduceEqDiff, Nat.reduceLT, Nat.reduceLeDiff, Nat.reduceBEq, Nat.reduceAdd, Nat.reduceMul, Nat.reduceSub, Nat.reducePow, Int.reduceLE, Int.reduceLT, Int.reduceNeg, Int.reduceToNat, Int.reduceAdd, Int.reduceSub] at hr
  obtain ⟨rfl, rfl⟩ := hr
  refine ⟨vc, ?_⟩
  with_reducible refine thenC_normal ?_
  refine AWP_block ?_
  refine AWP_loopX 0 (fun ((s, v) : Int × Int) => ⟨40, [(2, .int .i64 gone), (3, .ptr 0 0 0), (7, .int .i64 s), (14, .int .i64 g_0), (15, .int .i64 v)], [some (.gen 39 2 [[.int .i64 g_0, .fn 2 g_1.length (fun i => [.int .i64 ((g_1.getD i (0, 0)).1), .int .i64 ((g_1.getD i (0, 0)).2)])]])]⟩) (fun (s1 : Int) => ⟨40, [(7, .int .i64 s1)], []⟩) (fun v => v) (iandnot from0 gone, 0) [0] hK mkWk ?_ ?_
  · clear hK; rintro ⟨s, v⟩ b hK hpost1
    try dsimp only at hK
    change AWP _ _ _ _ ⟨40, [(2, .int .i64 gone), (3, .ptr 0 0 0), (7, .int .i64 s), (14, .int .i64 g_0), (15, .int .i64 v)], [some (.gen 39 2 [[.int .i64 g_0, .fn 2 g_1.length (fun i => [.int .i64 ((g_1.getD i (0, 0)).1), .int .i64 ((g_1.getD i (0, 0)).2)])]])]⟩
    refine AWP_seq ?_
    -- region 3
    refine AWP_rg tab_ok [2, 3, 7, 14, 15, 16] fun c st' hr => ?_
    simp only [go_sem, reduceIte, reduceCtorEq, Nat.reduceEqDiff, Nat.reduceLT, Nat.reduceLeDiff, Nat.reduceBEq, Nat.reduceAdd, Nat.reduceMul, Nat.reduceSub, Nat.reducePow, Int.reduceLE, Int.reduceLT, Int.reduceNeg, Int.reduceToNat, Int.reduceAdd, Int.reduceSub] at hr
    obtain ⟨rfl, rfl⟩ := hr
    refine ⟨vc, ?_⟩
    with_reducible refine thenC_normal ?_
    refine AWP_seq ?_
    refine AWP_condP (v < g_0) rfl bd (fun hb => ?_) (fun hb => ?_)
    · replace hK := ite_t hK hb
      refine AWP_skip ?_
      with_reducible refine thenC_normal ?_
      refine AWP_seq ?_
      refine AWP_block ?_
      refine AWP_seq ?_
      -- region 4
      refine AWP_rg tab_ok [2, 3, 7, 14, 15, 18, 19, 20] fun c st' hr => ?_
      simp only [go_sem, reduceIte, reduceCtorEq, Nat.reduceEqDiff, Nat.reduceLT, Nat.reduceLeDiff, Nat.reduceBEq, Nat.reduceAdd, Nat.reduceMul, Nat.reduceSub, Nat.reducePow, Int.reduceLE, Int.reduceLT, Int.reduceNeg, Int.reduceToNat, Int.reduceAdd, Int.reduceSub] at hr
      obtain ⟨rfl, rfl⟩ := hr
      refine ⟨vc, ?_⟩
      with_reducible refine thenC_normal ?_
      refine AWP_block ?_
      refine AWP_loopX 2 (fun ((s2, v1) : Int × Int) => ⟨40, [(2, .int .i64 gone), (3, .ptr 0 0 0), (7, .int .i64 s2), (14, .int .i64 g_0), (15, .int .i64 v), (18, .fn 2 g_1.length (fun i => [.int .i64 ((g_1.getD i (0, 0)).1), .int .i64 ((g_1.getD i (0, 0)).2)])), (19, .int .i64 (g_1.length : Int)), (20, .int .i64 v1)], [some (.gen 39 2 [[.int .i64 g_0, .fn 2 g_1.length (fun i => [.int .i64 ((g_1.getD i (0, 0)).1), .int .i64 ((g_1.getD i (0, 0)).2)])]])]⟩) (fun (s3 : Int) => ⟨40, [(2, .int .i64 gone), (3, .ptr 0 0 0), (7, .int .i64 s3), (14, .int .i64 g_0), (15, .int .i64 v)], [some (.gen 39 2 [[.int .i64 g_0, .fn 2 g_1.length (fun i => [.int .i64 ((g_1.getD i (0, 0)).1), .int .i64 ((g_1.getD i (0, 0)).2)])]])]⟩) (fun v => v) (s, 0) [0] hK mkWk ?_ ?_
      · clear hK; rintro ⟨s2, v1⟩ b1 hK hpost2
        try dsimp only at hK
        change AWP _ _ _ _ ⟨40, [(2, .int .i64 gone), (3, .ptr 0 0 0), (7, .int .i64 s2), (14, .int .i64 g_0), (15, .int .i64 v), (18, .fn 2 g_1.length (fun i => [.int .i64 ((g_1.getD i (0, 0)).1), .int .i64 ((g_1.getD i (0, 0)).2)])), (19, .int .i64 (g_1.length : Int)), (20, .int .i64 v1)], [some (.gen 39 2 [[.int .i64 g_0, .fn 2 g_1.length (fun i => [.int .i64 ((g_1.getD i (0, 0)).1), .int .i64 ((g_1.getD i (0, 0)).2)])]])]⟩
        refine AWP_seq ?_
        -- region 5
        refine AWP_rg tab_ok [2, 3, 7, 14, 15, 18, 19, 20, 21] fun c st' hr => ?_
        simp only [go_sem, reduceIte, reduceCtorEq, Nat.reduceEqDiff, Nat.reduceLT, Nat.reduceLeDiff, Nat.reduceBEq, Nat.reduceAdd, Nat.reduceMul, Nat.reduceSub, Nat.reducePow, Int.reduceLE, Int.reduceLT, Int.reduceNeg, Int.reduceToNat, Int.reduceAdd, Int.reduceSub] at hr
        obtain ⟨rfl, rfl⟩ := hr
        refine ⟨vc, ?_⟩
        with_reducible refine thenC_normal ?_
        refine AWP_seq ?_
        refine AWP_condP (v1 < (g_1.length : Int)) rfl bd (fun hb1 => ?_) (fun hb1 => ?_)
        · replace hK := ite_t hK hb1
          refine AWP_skip ?_
          with_reducible refine thenC_normal ?_
          refine AWP_seq ?_
          refine AWP_block ?_
          refine AWP_seq ?_
          -- region 6
          replace hK := chk_some hK
          obtain ⟨h, hK⟩ := hK
          refine AWP_rg tab_ok [2, 3, 7, 9, 14, 15, 18, 19, 20] fun c st' hr => ?_
          simp only [go_sem, reduceIte, reduceCtorEq, Nat.reduceEqDiff, Nat.reduceLT, Nat.reduceLeDiff, Nat.reduceBEq, Nat.reduceAdd, Nat.reduceMul, Nat.reduceSub, Nat.reducePow, Int.reduceLE, Int.reduceLT, Int.reduceNeg, Int.reduceToNat, Int.reduceAdd, Int.reduceSub] at hr
          obtain ⟨rfl, rfl⟩ := hr
          refine ⟨vc, ?_⟩
          with_reducible refine thenC_normal ?_
          refine AWP_seq ?_
          -- region 7
          replace hK := chk_some hK
          obtain ⟨h1, hK⟩ := hK
          refine AWP_rg tab_ok [2, 3, 7, 9, 14, 15, 18, 19, 20, 29] fun c st' hr => ?_
          simp only [go_sem, reduceIte, reduceCtorEq, Nat.reduceEqDiff, Nat.reduceLT, Nat.reduceLeDiff, Nat.reduceBEq, Nat.reduceAdd, Nat.reduceMul, Nat.reduceSub, Nat.reducePow, Int.reduceLE, Int.reduceLT, Int.reduceNeg, Int.reduceToNat, Int.reduceAdd, Int.reduceSub] at hr
          obtain ⟨rfl, rfl⟩ := hr
          refine ⟨vc, ?_⟩
          with_reducible refine thenC_normal ?_
          refine AWP_condP (iand (s2 / 2 ^ ((g_1.getD v1.toNat (0, 0)).1).toNat) 1 = 1) rfl bd (fun hb2 => ?_) (fun hb2 => ?_)
          · replace hK := ite_t hK hb2
            -- region 8
            replace hK := chk_some hK
            obtain ⟨h2, hK⟩ := hK
            refine AWP_rg tab_ok [2, 3, 7, 14, 15, 18, 19, 20] fun c st' hr => ?_
            simp only [go_sem, reduceIte, reduceCtorEq, Nat.reduceEqDiff, Nat.reduceLT, Nat.reduceLeDiff, Nat.reduceBEq, Nat.reduceAdd, Nat.reduceMul, Nat.reduceSub, Nat.reducePow, Int.reduceLE, Int.reduceLT, Int.reduceNeg, Int.reduceToNat, Int.reduceAdd, Int.reduceSub] at hr
            obtain ⟨rfl, rfl⟩ := hr
            refine ⟨vc, ?_⟩
            with_reducible refine inBlockA_normal (thenC_normal ?_)
            -- region 9
            refine AWP_facts (by simp) fun hfx => ?_
            simp only [factS, factV, fact1, fact0, factL0, lo, hi, maxLen, and_true, true_and] at hfx
            refine AWP_rg tab_ok [2, 3, 7, 14, 15, 18, 19, 20] fun c st' hr => ?_
            simp only [go_sem, reduceIte, reduceCtorEq, Nat.reduceEqDiff, Nat.reduceLT, Nat.reduceLeDiff, Nat.reduceBEq, Nat.reduceAdd, Nat.reduceMul, Nat.reduceSub, Nat.reducePow, Int.reduceLE, Int.reduceLT, Int.reduceNeg, Int.reduceToNat, Int.reduceAdd, Int.reduceSub] at hr
            obtain ⟨rfl, rfl⟩ := hr
            refine ⟨vc, ?_⟩
            clear hfx
            refine again_n (ior s2 (iandnot (2 ^ ((g_1.getD v1.toNat (0, 0)).2).toNat : Int) gone), v1 + 1) [0] hK mkWk
          · replace hK := ite_f hK hb2
            refine AWP_skip ?_
            with_reducible refine inBlockA_normal (thenC_normal ?_)
            -- region 9
            refine AWP_facts (by simp) fun hfx => ?_
            simp only [factS, factV, fact1, fact0, factL0, lo, hi, maxLen, and_true, true_and] at hfx
            refine AWP_rg tab_ok [2, 3, 7, 14, 15, 18, 19, 20] fun c st' hr => ?_
            simp only [go_sem, reduceIte, reduceCtorEq, Nat.reduceEqDiff, Nat.reduceLT, Nat.reduceLeDiff, Nat.reduceBEq, Nat.reduceAdd, Nat.reduceMul, Nat.reduceSub, Nat.reducePow, Int.reduceLE, Int.reduceLT, Int.reduceNeg, Int.reduceToNat, Int.reduceAdd, Int.reduceSub] at hr
            obtain ⟨rfl, rfl⟩ := hr
            refine ⟨vc, ?_⟩
            clear hfx
            refine again_n (s2, v1 + 1) [0] hK mkWk
        · replace hK := ite_f hK hb1
          refine AWP_exit ?_
          with_reducible refine thenC_exit (again_x ?_)
          refine cutX_here s2 [0] (by have hq := hpost2 _ hK; exact hq) mkWk
      · clear hK; rintro s3 hK
        try dsimp only at hK
        refine exS ⟨40, [(2, .int .i64 gone), (3, .ptr 0 0 0), (7, .int .i64 s3), (14, .int .i64 g_0), (15, .int .i64 v)], [some (.gen 39 2 [[.int .i64 g_0, .fn 2 g_1.length (fun i => [.int .i64 ((g_1.getD i (0, 0)).1), .int .i64 ((g_1.getD i (0, 0)).2)])]])]⟩ rfl ?_
        with_reducible refine inBlockA_exit (inBlockA_normal (thenC_normal ?_))
        -- region 10
        refine AWP_facts (by simp) fun hfx => ?_
        simp only [factS, factV, fact1, fact0, factL0, lo, hi, maxLen, and_true, true_and] at hfx
        refine AWP_rg tab_ok [2, 3, 7, 14, 15] fun c st' hr => ?_
        simp only [go_sem, reduceIte, reduceCtorEq, Nat.reduceEqDiff, Nat.reduceLT, Nat.reduceLeDiff, Nat.reduceBEq, Nat.reduceAdd, Nat.reduceMul, Nat.reduceSub, Nat.reducePow, Int.reduceLE, Int.reduceLT, Int.reduceNeg, Int.reduceToNat, Int.reduceAdd, Int.reduceSub] at hr
        obtain ⟨rfl, rfl⟩ := hr
        refine ⟨vc, ?_⟩
        clear hfx
        refine again_n (s3, v + 1) [0] hK mkWk
    · replace hK := ite_f hK hb
      refine AWP_exit ?_
      with_reducible refine thenC_exit (again_x ?_)
      refine cutX_here s [] (by have hq := hpost1 _ hK; exact hq) mkWk
  · clear hK; rintro s1 hK
    try dsimp only at hK
    refine exS ⟨40, [(7, .int .i64 s1)], []⟩ rfl ?_
    with_reducible refine inBlockA_exit (thenC_normal ?_)
    refine AWP_seq ?_
    -- region 11
    refine AWP_rg tab_ok [6] fun c st' hr => ?_
    simp only [go_sem, reduceIte, reduceCtorEq, Nat.reduceEqDiff, Nat.reduceLT, Nat.reduceLeDiff, Nat.reduceBEq, Nat.reduceAdd, Nat.reduceMul, Nat.reduceSub, Nat.reducePow, Int.reduceLE, Int.reduceLT, Int.reduceNeg, Int.reduceToNat, Int.reduceAdd, Int.reduceSub] at hr
    obtain ⟨rfl, rfl⟩ := hr
    refine ⟨vc, ?_⟩
    with_reducible refine thenC_normal ?_
    refine AWP_ret ?_
    cases hK
    refine EndsRW [] (.inl rfl) (of_decide_eq_true rfl) (by simp) rfl (fun c x hr => ?_) trivial
    simp only [go_sem, reduceIte, reduceCtorEq, Nat.reduceEqDiff, Nat.reduceLT, Nat.reduceLeDiff, Nat.reduceBEq, Nat.reduceAdd, Nat.reduceMul, Nat.reduceSub, Nat.reducePow, Int.reduceLE, Int.reduceLT, Int.reduceNeg, Int.reduceToNat, Int.reduceAdd, Int.reduceSub] at hr
    obtain ⟨rfl, rfl⟩ := hr
    exact ⟨rfl, endR⟩

set_option maxRecDepth 8000 in
set_option maxHeartbeats 4000000 in
theorem W_links_Cut {g_0 : Int} {g_1 : List (Int × Int)} {from0 : Int} {to : Int} {r : Int × Int} (hK : links_Cut g_0 g_1 from0 to = some r) : Pure Try.prog 38 [.agg [.int .i64 g_0, .fn 2 g_1.length (fun i => [.int .i64 ((g_1.getD i (0, 0)).1), .int .i64 ((g_1.getD i (0, 0)).2)])], .int .i64 from0, .int .i64 to] (.tup [.int .i64 r.1, .int .i64 r.2]) [] := by
  refine Pure_introF tab_ok (n := 47) (l := [.tmp 6, .tmp 7]) Try.func38 rfl rfl rfl (by simp) fun hfact w0 => ?_
  simp only [factL1, fact1, fact0, factL0, lo, hi, maxLen, and_true] at hfact
  unfold links_Cut at hK
  refine AWP_seq ?_
  -- region 0
  refine AWP_rg tab_ok [1, 2, 3] fun c st' hr => ?_
  simp only [go_sem, reduceIte, reduceCtorEq, Nat.reduceEqDiff, Nat.reduceLT, Nat.reduceLeDiff, Nat.reduceBEq, Nat.reduceAdd, Nat.reduceMul, Nat.reduceSub, Nat.reducePow, Int.reduceLE, Int.reduceLT, Int.reduceNeg, Int.reduceToNat, Int.reduceAdd, Int.reduceSub] at hr
  obtain ⟨rfl, rfl⟩ := hr
  refine ⟨vc, ?_⟩
  with_reducible refine thenC_normal ?_
  refine AWP_seq ?_
  refine AWP_seq ?_
  -- region 1
  refine AWP_rl ?_
  refine AWPL_rn tab_ok 4 [1, 2, 3, 12, 15] fun c st' hr => ?_
  simp only [go_sem, reduceIte, reduceCtorEq, Nat.reduceEqDiff, Nat.reduceLT, Nat.reduceLeDiff, Nat.reduceBEq, Nat.reduceAdd, Nat.reduceMul, Nat.reduceSub, Nat.reducePow, Int.reduceLE, Int.reduceLT, Int.reduceNeg, Int.reduceToNat, Int.reduceAdd, Int.reduceSub] at hr
  obtain ⟨rfl, rfl⟩ := hr
  refine ⟨vc, ?_⟩
  replace hK := bind_s hK
  obtain ⟨y, hy, hK⟩ := hK
  refine AWPL_callK [1, 2, 3, 16] (W_links_right hy) rfl rfl pcT rfl Try.call86 (.cons (.agg _ _ rfl (ArgsOk.get (.cons (.atom _ rfl) (.cons (.atom _ rfl) .nil))).2) (.cons (.ownI _ _ _ _ _ [from0, to] rfl (by simp) (by first | simp | exact List.take_of_length_le (by simp))) .nil)) (hscG trivial) (of_decide_eq_true rfl) (by first | rfl | simp [nI, nI1, nI0]) (by first | rfl | simp [nIB, nI0]) fun st' hr => ?_
  simp only [go_sem, reduceIte, reduceCtorEq, Nat.reduceEqDiff, Nat.reduceLT, Nat.reduceLeDiff, Nat.reduceBEq, Nat.reduceAdd, Nat.reduceMul, Nat.reduceSub, Nat.reducePow, Int.reduceLE, Int.reduceLT, Int.reduceNeg, Int.reduceToNat, Int.reduceAdd, Int.reduceSub] at hr
  subst hr
  clear hy
  refine AWPL_rn tab_ok 1 [1, 2, 3, 8] fun c st' hr => ?_
  simp only [go_sem, reduceIte, reduceCtorEq, Nat.reduceEqDiff, Nat.reduceLT, Nat.reduceLeDiff, Nat.reduceBEq, Nat.reduceAdd, Nat.reduceMul, Nat.reduceSub, Nat.reducePow, Int.reduceLE, Int.reduceLT, Int.reduceNeg, Int.reduceToNat, Int.reduceAdd, Int.reduceSub] at hr
  obtain ⟨rfl, rfl⟩ := hr
  refine ⟨vc, ?_⟩
  refine AWPL_nil ?_
  with_reducible refine thenC_normal ?_
  refine AWP_seq ?_
  -- region 2
  refine AWP_rg tab_ok [1, 2, 3, 8, 18] fun c st' hr => ?_
  simp only [go_sem, reduceIte, reduceCtorEq, Nat.reduceEqDiff, Nat.reduceLT, Nat.reduceLeDiff, Nat.reduceBEq, Nat.reduceAdd, Nat.reduceMul, Nat.reduceSub, Nat.reducePow, Int.reduceLE, Int.reduceLT, Int.reduceNeg, Int.reduceToNat, Int.reduceAdd, Int.reduceSub] at hr
  obtain ⟨rfl, rfl⟩ := hr
  refine ⟨vc, ?_⟩
  with_reducible refine thenC_normal ?_
  refine AWP_condP (y ≠ 0) rfl bd (fun hb => ?_) (fun hb => ?_)
  · replace hK := ite_t hK hb
    refine AWP_seq ?_
    -- region 3
    refine AWP_rg tab_ok [6, 7] fun c st' hr => ?_
    simp only [go_sem, reduceIte, reduceCtorEq, Nat.reduceEqDiff, Nat.reduceLT, Nat.reduceLeDiff, Nat.reduceBEq, Nat.reduceAdd, Nat.reduceMul, Nat.reduceSub, Nat.reducePow, Int.reduceLE, Int.reduceLT, Int.reduceNeg, Int.reduceToNat, Int.reduceAdd, Int.reduceSub] at hr
    obtain ⟨rfl, rfl⟩ := hr
    refine ⟨vc, ?_⟩
    with_reducible refine thenC_normal ?_
    refine AWP_ret ?_
    with_reducible refine thenC_ret ?_
    cases hK
    refine EndsRW [] (.inl rfl) (of_decide_eq_true rfl) (by simp) rfl (fun c x hr => ?_) trivial
    simp only [go_sem, reduceIte, reduceCtorEq, Nat.reduceEqDiff, Nat.reduceLT, Nat.reduceLeDiff, Nat.reduceBEq, Nat.reduceAdd, Nat.reduceMul, Nat.reduceSub, Nat.reducePow, Int.reduceLE, Int.reduceLT, Int.reduceNeg, Int.reduceToNat, Int.reduceAdd, Int.reduceSub] at hr
    obtain ⟨rfl, rfl⟩ := hr
    exact ⟨rfl, endR⟩
  · replace hK := ite_f hK hb
    refine AWP_skip ?_
    with_reducible refine thenC_normal ?_
    refine AWP_seq ?_
    -- region 4
    replace hK := chk_some hK
    obtain ⟨h, hK⟩ := hK
    refine AWP_dr tab_ok [1, 2, 3, 9, 10] mixed (by kernel_rfl) fun c st' hr => ?_
    simp only [go_sem, reduceIte, reduceCtorEq, Nat.reduceEqDiff, Nat.reduceLT, Nat.reduceLeDiff, Nat.reduceBEq, Nat.reduceAdd, Nat.reduceMul, Nat.reduceSub, Nat.reducePow, Int.reduceLE, Int.reduceLT, Int.reduceNeg, Int.reduceToNat, Int.reduceAdd, Int.reduceSub] at hr
    obtain ⟨rfl, rfl⟩ := hr
    refine ⟨vc, ?_⟩
    with_reducible refine thenC_normal ?_
    refine AWP_seq ?_
    refine AWP_seq ?_
    -- region 5
    replace hK := chk_some hK
    obtain ⟨h1, hK⟩ := hK
    refine AWP_rg tab_ok [1, 2, 3, 9, 10, 25, 26] fun c st' hr => ?_
    simp only [go_sem, reduceIte, reduceCtorEq, Nat.reduceEqDiff, Nat.reduceLT, Nat.reduceLeDiff, Nat.reduceBEq, Nat.reduceAdd, Nat.reduceMul, Nat.reduceSub, Nat.reducePow, Int.reduceLE, Int.reduceLT, Int.reduceNeg, Int.reduceToNat, Int.reduceAdd, Int.reduceSub] at hr
    obtain ⟨rfl, rfl⟩ := hr
    refine ⟨vc, ?_⟩
    with_reducible refine thenC_normal ?_
    refine AWP_block ?_
    refine AWP_loopX 0 (fun ((best, most1, v1) : Int × Int × Int) => ⟨47, [(1, .int .i64 from0), (2, .int .i64 to), (3, .ptr 0 0 0), (9, .int .i64 best), (10, .int .i64 most1), (25, .int .i64 (2 ^ g_0.toNat : Int)), (26, .int .i64 v1)], [some (.gen 39 2 [[.int .i64 g_0, .fn 2 g_1.length (fun i => [.int .i64 ((g_1.getD i (0, 0)).1), .int .i64 ((g_1.getD i (0, 0)).2)])]])]⟩) (fun (best1 : Int) => ⟨47, [(9, .int .i64 best1)], []⟩) (fun v => v) (0, g_0 + 1, 0) [0] hK mkWk ?_ ?_
    · clear hK; rintro ⟨best, most1, v1⟩ b hK hpost1
      try dsimp only at hK
      change AWP _ _ _ _ ⟨47, [(1, .int .i64 from0), (2, .int .i64 to), (3, .ptr 0 0 0), (9, .int .i64 best), (10, .int .i64 most1), (25, .int .i64 (2 ^ g_0.toNat : Int)), (26, .int .i64 v1)], [some (.gen 39 2 [[.int .i64 g_0, .fn 2 g_1.length (fun i => [.int .i64 ((g_1.getD i (0, 0)).1), .int .i64 ((g_1.getD i (0, 0)).2)])]])]⟩
      refine AWP_seq ?_
      -- region 6
      refine AWP_rg tab_ok [1, 2, 3, 9, 10, 25, 26, 27] fun c st' hr => ?_
      simp only [go_sem, reduceIte, reduceCtorEq, Nat.reduceEqDiff, Nat.reduceLT, Nat.reduceLeDiff, Nat.reduceBEq, Nat.reduceAdd, Nat.reduceMul, Nat.reduceSub, Nat.reducePow, Int.reduceLE, Int.reduceLT, Int.reduceNeg, Int.reduceToNat, Int.reduceAdd, Int.reduceSub] at hr
      obtain ⟨rfl, rfl⟩ := hr
      refine ⟨vc, ?_⟩
      with_reducible refine thenC_normal ?_
      refine AWP_seq ?_
      refine AWP_condP (v1 < (2 ^ g_0.toNat : Int)) rfl bd (fun hb1 => ?_) (fun hb1 => ?_)
      · replace hK := ite_t hK hb1
        refine AWP_skip ?_
        with_reducible refine thenC_normal ?_
        refine AWP_seq ?_
        refine AWP_block ?_
        refine AWP_seq ?_
        -- region 7
        refine AWP_rg tab_ok [1, 2, 3, 9, 10, 11, 25, 26] fun c st' hr => ?_
        simp only [go_sem, reduceIte, reduceCtorEq, Nat.reduceEqDiff, Nat.reduceLT, Nat.reduceLeDiff, Nat.reduceBEq, Nat.reduceAdd, Nat.reduceMul, Nat.reduceSub, Nat.reducePow, Int.reduceLE, Int.reduceLT, Int.reduceNeg, Int.reduceToNat, Int.reduceAdd, Int.reduceSub] at hr
        obtain ⟨rfl, rfl⟩ := hr
        refine ⟨vc, ?_⟩
        with_reducible refine thenC_normal ?_
        refine AWP_seq ?_
        -- region 8
        refine AWP_rl ?_
        refine AWPL_rn tab_ok 1 [1, 2, 3, 9, 10, 11, 25, 26, 29] fun c st' hr => ?_
        simp only [go_sem, reduceIte, reduceCtorEq, Nat.reduceEqDiff, Nat.reduceLT, Nat.reduceLeDiff, Nat.reduceBEq, Nat.reduceAdd, Nat.reduceMul, Nat.reduceSub, Nat.reducePow, Int.reduceLE, Int.reduceLT, Int.reduceNeg, Int.reduceToNat, Int.reduceAdd, Int.reduceSub] at hr
        obtain ⟨rfl, rfl⟩ := hr
        refine ⟨vc, ?_⟩
        replace hK := bind_s hK
        obtain ⟨y1, hy, hK⟩ := hK
        refine AWPL_callK [1, 2, 3, 9, 10, 11, 25, 26, 30] (W_links_size hy) rfl rfl pcT rfl Try.call87 (.cons (.atom _ rfl) .nil) (hscG trivial) (of_decide_eq_true rfl) (by first | rfl | simp [nI, nI1, nI0]) (by first | rfl | simp [nIB, nI0]) fun st' hr => ?_
        simp only [go_sem, reduceIte, reduceCtorEq, Nat.reduceEqDiff, Nat.reduceLT, Nat.reduceLeDiff, Nat.reduceBEq, Nat.reduceAdd, Nat.reduceMul, Nat.reduceSub, Nat.reducePow, Int.reduceLE, Int.reduceLT, Int.reduceNeg, Int.reduceToNat, Int.reduceAdd, Int.reduceSub] at hr
        subst hr
        clear hy
        refine AWPL_rn tab_ok 6 [1, 2, 3, 9, 10, 11, 25, 26, 33, 34, 35, 36] fun c st' hr => ?_
        simp only [go_sem, reduceIte, reduceCtorEq, Nat.reduceEqDiff, Nat.reduceLT, Nat.reduceLeDiff, Nat.reduceBEq, Nat.reduceAdd, Nat.reduceMul, Nat.reduceSub, Nat.reducePow, Int.reduceLE, Int.reduceLT, Int.reduceNeg, Int.reduceToNat, Int.reduceAdd, Int.reduceSub] at hr
        obtain ⟨rfl, rfl⟩ := hr
        refine ⟨vc, ?_⟩
        replace hK := bind_s hK
        obtain ⟨y2, hy, hK⟩ := hK
        refine AWPL_callGP [1, 2, 3, 9, 10, 11, 25, 26, 33, 37] (y1 < most1) (fun hg => (W_links_reached (ite_t hy hg))) rfl rfl pcG rfl Try.call88 (.cons (.agg _ _ rfl (ArgsOk.get (.cons (.atom _ rfl) (.cons (.atom _ rfl) .nil))).2) (.cons (.atom _ rfl) (.cons (.atom _ rfl) .nil))) (fun hg => hscG hg) (of_decide_eq_true rfl) (by first | rfl | simp [nI, nI1, nI0]) (by first | rfl | simp [sh, sh1, sh0]) fun st' hr => ?_
        simp only [go_sem, reduceIte, reduceCtorEq, Nat.reduceEqDiff, Nat.reduceLT, Nat.reduceLeDiff, Nat.reduceBEq, Nat.reduceAdd, Nat.reduceMul, Nat.reduceSub, Nat.reducePow, Int.reduceLE, Int.reduceLT, Int.reduceNeg, Int.reduceToNat, Int.reduceAdd, Int.reduceSub] at hr
        subst hr
        clear hy
        refine AWPL_rn tab_ok 4 [1, 2, 3, 9, 10, 11, 25, 26, 41] fun c st' hr => ?_
        simp only [go_sem, reduceIte, reduceCtorEq, Nat.reduceEqDiff, Nat.reduceLT, Nat.reduceLeDiff, Nat.reduceBEq, Nat.reduceAdd, Nat.reduceMul, Nat.reduceSub, Nat.reducePow, Int.reduceLE, Int.reduceLT, Int.reduceNeg, Int.reduceToNat, Int.reduceAdd, Int.reduceSub] at hr
        obtain ⟨rfl, rfl⟩ := hr
        refine ⟨vc, ?_⟩
        refine AWPL_nil ?_
        with_reducible refine thenC_normal ?_
        refine AWP_condP ((y1 < most1 ∧ iand y2 to = 0)) rfl bd (fun hb2 => ?_) (fun hb2 => ?_)
        · replace hK := ite_t hK hb2
          -- region 9
          refine AWP_rl ?_
          refine AWPL_rn tab_ok 2 [1, 2, 3, 25, 26, 42, 43] fun c st' hr => ?_
          simp only [go_sem, reduceIte, reduceCtorEq, Nat.reduceEqDiff, Nat.reduceLT, Nat.reduceLeDiff, Nat.reduceBEq, Nat.reduceAdd, Nat.reduceMul, Nat.reduceSub, Nat.reducePow, Int.reduceLE, Int.reduceLT, Int.reduceNeg, Int.reduceToNat, Int.reduceAdd, Int.reduceSub] at hr
          obtain ⟨rfl, rfl⟩ := hr
          refine ⟨vc, ?_⟩
          replace hK := bind_s hK
          obtain ⟨y3, hy, hK⟩ := hK
          refine AWPL_callK [1, 2, 3, 25, 26, 42, 44] (W_links_size hy) rfl rfl pcT rfl Try.call87 (.cons (.atom _ rfl) .nil) (hscG trivial) (of_decide_eq_true rfl) (by first | rfl | simp [nI, nI1, nI0]) (by first | rfl | simp [nIB, nI0]) fun st' hr => ?_
          simp only [go_sem, reduceIte, reduceCtorEq, Nat.reduceEqDiff, Nat.reduceLT, Nat.reduceLeDiff, Nat.reduceBEq, Nat.reduceAdd, Nat.reduceMul, Nat.reduceSub, Nat.reducePow, Int.reduceLE, Int.reduceLT, Int.reduceNeg, Int.reduceToNat, Int.reduceAdd, Int.reduceSub] at hr
          subst hr
          clear hy
          refine AWPL_rn tab_ok 2 [1, 2, 3, 9, 10, 25, 26] fun c st' hr => ?_
          simp only [go_sem, reduceIte, reduceCtorEq, Nat.reduceEqDiff, Nat.reduceLT, Nat.reduceLeDiff, Nat.reduceBEq, Nat.reduceAdd, Nat.reduceMul, Nat.reduceSub, Nat.reducePow, Int.reduceLE, Int.reduceLT, Int.reduceNeg, Int.reduceToNat, Int.reduceAdd, Int.reduceSub] at hr
          obtain ⟨rfl, rfl⟩ := hr
          refine ⟨vc, ?_⟩
          refine AWPL_nil ?_
          with_reducible refine inBlockA_normal (thenC_normal ?_)
          -- region 10
          refine AWP_facts (by simp) fun hfx => ?_
          simp only [factS, factV, fact1, fact0, factL0, lo, hi, maxLen, and_true, true_and] at hfx
          refine AWP_rg tab_ok [1, 2, 3, 9, 10, 25, 26] fun c st' hr => ?_
          simp only [go_sem, reduceIte, reduceCtorEq, Nat.reduceEqDiff, Nat.reduceLT, Nat.reduceLeDiff, Nat.reduceBEq, Nat.reduceAdd, Nat.reduceMul, Nat.reduceSub, Nat.reducePow, Int.reduceLE, Int.reduceLT, Int.reduceNeg, Int.reduceToNat, Int.reduceAdd, Int.reduceSub] at hr
          obtain ⟨rfl, rfl⟩ := hr
          refine ⟨vc, ?_⟩
          clear hfx
          refine again_n (v1, y3, v1 + 1) [0] hK mkWk
        · replace hK := ite_f hK hb2
          refine AWP_skip ?_
          with_reducible refine inBlockA_normal (thenC_normal ?_)
          -- region 10
          refine AWP_facts (by simp) fun hfx => ?_
          simp only [factS, factV, fact1, fact0, factL0, lo, hi, maxLen, and_true, true_and] at hfx
          refine AWP_rg tab_ok [1, 2, 3, 9, 10, 25, 26] fun c st' hr => ?_
          simp only [go_sem, reduceIte, reduceCtorEq, Nat.reduceEqDiff, Nat.reduceLT, Nat.reduceLeDiff, Nat.reduceBEq, Nat.reduceAdd, Nat.reduceMul, Nat.reduceSub, Nat.reducePow, Int.reduceLE, Int.reduceLT, Int.reduceNeg, Int.reduceToNat, Int.reduceAdd, Int.reduceSub] at hr
          obtain ⟨rfl, rfl⟩ := hr
          refine ⟨vc, ?_⟩
          clear hfx
          refine again_n (best, most1, v1 + 1) [0] hK mkWk
      · replace hK := ite_f hK hb1
        refine AWP_exit ?_
        with_reducible refine thenC_exit (again_x ?_)
        refine cutX_here best [] (by have hq := hpost1 _ hK; exact hq) mkWk
    · clear hK; rintro best1 hK
      try dsimp only at hK
      refine exS ⟨47, [(9, .int .i64 best1)], []⟩ rfl ?_
      with_reducible refine inBlockA_exit (thenC_normal ?_)
      refine AWP_seq ?_
      -- region 11
      refine AWP_rg tab_ok [6, 7] fun c st' hr => ?_
      simp only [go_sem, reduceIte, reduceCtorEq, Nat.reduceEqDiff, Nat.reduceLT, Nat.reduceLeDiff, Nat.reduceBEq, Nat.reduceAdd, Nat.reduceMul, Nat.reduceSub, Nat.reducePow, Int.reduceLE, Int.reduceLT, Int.reduceNeg, Int.reduceToNat, Int.reduceAdd, Int.reduceSub] at hr
      obtain ⟨rfl, rfl⟩ := hr
      refine ⟨vc, ?_⟩
      with_reducible refine thenC_normal ?_
      refine AWP_ret ?_
      cases hK
      refine EndsRW [] (.inl rfl) (of_decide_eq_true rfl) (by simp) rfl (fun c x hr => ?_) trivial
      simp only [go_sem, reduceIte, reduceCtorEq, Nat.reduceEqDiff, Nat.reduceLT, Nat.reduceLeDiff, Nat.reduceBEq, Nat.reduceAdd, Nat.reduceMul, Nat.reduceSub, Nat.reducePow, Int.reduceLE, Int.reduceLT, Int.reduceNeg, Int.reduceToNat, Int.reduceAdd, Int.reduceSub] at hr
      obtain ⟨rfl, rfl⟩ := hr
      exact ⟨rfl, endR⟩

set_option maxRecDepth 8000 in
set_option maxHeartbeats 4000000 in
theorem W_links_laid {g_0 : Int} {g_1 : List (Int × Int)} {a1 : Int} {a2 : Int} {r : List (List Int)} (hK : links_laid g_0 g_1 a1 a2 = some r) : Pure Try.prog 117 [.agg [.int .i64 g_0, .fn 2 g_1.length (fun i => [.int .i64 ((g_1.getD i (0, 0)).1), .int .i64 ((g_1.getD i (0, 0)).2)])], .int .i64 a1, .int .i64 a2] (.own 0 r.length) [(.outs 22 1 r.length idO (lenO r)), (.rows 3 .i64 r)] := by
  refine Pure_introF tab_ok (n := 88) (l := [.tmp 6]) Try.func117 rfl rfl rfl (by simp) fun hfact w0 => ?_
  simp only [factL1, fact1, fact0, factL0, lo, hi, maxLen, and_true] at hfact
  unfold links_laid at hK
  refine AWP_seq ?_
  -- region 0
  refine AWP_rg tab_ok [1, 2, 3] fun c st' hr => ?_
  simp only [go_sem, reduceIte, reduceCtorEq, Nat.reduceEqDiff, Nat.reduceLT, Nat.reduceLeDiff, Nat.reduceBEq, Nat.reduceAdd, Nat.reduceMul, Nat.reduceSub, Nat.reducePow, Int.reduceLE, Int.reduceLT, Int.reduceNeg, Int.reduceToNat, Int.reduceAdd, Int.reduceSub, idO_app, lenO_app, lenO_app2, lenO_eta] at hr
  obtain ⟨rfl, rfl⟩ := hr
  refine ⟨vc, ?_⟩
  with_reducible refine thenC_normal ?_
  refine AWP_seq ?_
  -- region 1
  replace hK := chk_some hK
  obtain ⟨h, hK⟩ := hK
  refine AWP_rg tab_ok [1, 2, 3, 7] fun c st' hr => ?_
  simp only [go_sem, reduceIte, reduceCtorEq, Nat.reduceEqDiff, Nat.reduceLT, Nat.reduceLeDiff, Nat.reduceBEq, Nat.reduceAdd, Nat.reduceMul, Nat.reduceSub, Nat.reducePow, Int.reduceLE, Int.reduceLT, Int.reduceNeg, Int.reduceToNat, Int.reduceAdd, Int.reduceSub, idO_app, lenO_app, lenO_app2, lenO_eta] at hr
  obtain ⟨rfl, rfl⟩ := hr
  refine ⟨vc, ?_⟩
  with_reducible refine thenC_normal ?_
  refine AWP_gs' (gs_outs0 1 .i64 3 rfl) fun st' hr => ?_
  simp only [go_sem, reduceIte, reduceCtorEq, Nat.reduceEqDiff, Nat.reduceLT, Nat.reduceLeDiff, Nat.reduceBEq, Nat.reduceAdd, Nat.reduceMul, Nat.reduceSub, Nat.reducePow, Int.reduceLE, Int.reduceLT, Int.reduceNeg, Int.reduceToNat, Int.reduceAdd, Int.reduceSub, idO_app, lenO_app, lenO_app2, lenO_eta, List.cons_append, List.nil_append, List.set_cons_zero, List.set_cons_succ] at hr
  subst hr
  refine AWP_seq ?_
  refine AWP_seq ?_
  -- region 2
  refine AWP_rg tab_ok [1, 2, 3, 7, 18, 19] fun c st' hr => ?_
  simp only [go_sem, reduceIte, reduceCtorEq, Nat.reduceEqDiff, Nat.reduceLT, Nat.reduceLeDiff, Nat.reduceBEq, Nat.reduceAdd, Nat.reduceMul, Nat.reduceSub, Nat.reducePow, Int.reduceLE, Int.reduceLT, Int.reduceNeg, Int.reduceToNat, Int.reduceAdd, Int.reduceSub, idO_app, lenO_app, lenO_app2, lenO_eta] at hr
  obtain ⟨rfl, rfl⟩ := hr
  refine ⟨vc, ?_⟩
  with_reducible refine thenC_normal ?_
  refine AWP_block ?_
  refine AWP_loopX 0 (fun ((v, v1) : List (List Int) × Int) => ⟨88, [(1, .int .i64 a1), (2, .int .i64 a2), (3, .ptr 0 0 0), (7, .own 1 ((2 + (2 * g_0)).toNat)), (18, .int .i64 ((2 + (2 * g_0)).toNat : Int)), (19, .int .i64 v1)], [some (.gen 39 2 [[.int .i64 g_0, .fn 2 g_1.length (fun i => [.int .i64 ((g_1.getD i (0, 0)).1), .int .i64 ((g_1.getD i (0, 0)).2)])]]), some (.outs 22 2 ((2 + (2 * g_0)).toNat) (fP v.length) (lenO v)), some (.rows 3 .i64 v)]⟩) (fun (v2 : List (List Int)) => ⟨88, [(1, .int .i64 a1), (2, .int .i64 a2), (3, .ptr 0 0 0), (7, .own 1 ((2 + (2 * g_0)).toNat))], [some (.gen 39 2 [[.int .i64 g_0, .fn 2 g_1.length (fun i => [.int .i64 ((g_1.getD i (0, 0)).1), .int .i64 ((g_1.getD i (0, 0)).2)])]]), some (.outs 22 2 ((2 + (2 * g_0)).toNat) (fP v2.length) (lenO v2)), some (.rows 3 .i64 v2)]⟩) (fun v => v) (([] : List (List Int)), 0) [0, 1, 2] hK mkWkR ?_ ?_
  · clear hK; rintro ⟨v, v1⟩ b hK hpost1
    try dsimp only at hK
    change AWP _ _ _ _ ⟨88, [(1, .int .i64 a1), (2, .int .i64 a2), (3, .ptr 0 0 0), (7, .own 1 ((2 + (2 * g_0)).toNat)), (18, .int .i64 ((2 + (2 * g_0)).toNat : Int)), (19, .int .i64 v1)], [some (.gen 39 2 [[.int .i64 g_0, .fn 2 g_1.length (fun i => [.int .i64 ((g_1.getD i (0, 0)).1), .int .i64 ((g_1.getD i (0, 0)).2)])]]), some (.outs 22 2 ((2 + (2 * g_0)).toNat) (fP v.length) (lenO v)), some (.rows 3 .i64 v)]⟩
    refine AWP_seq ?_
    -- region 3
    refine AWP_rg tab_ok [1, 2, 3, 7, 18, 19, 20] fun c st' hr => ?_
    simp only [go_sem, reduceIte, reduceCtorEq, Nat.reduceEqDiff, Nat.reduceLT, Nat.reduceLeDiff, Nat.reduceBEq, Nat.reduceAdd, Nat.reduceMul, Nat.reduceSub, Nat.reducePow, Int.reduceLE, Int.reduceLT, Int.reduceNeg, Int.reduceToNat, Int.reduceAdd, Int.reduceSub, idO_app, lenO_app, lenO_app2, lenO_eta] at hr
    obtain ⟨rfl, rfl⟩ := hr
    refine ⟨vc, ?_⟩
    with_reducible refine thenC_normal ?_
    refine AWP_seq ?_
    refine AWP_condP (v1 < ((2 + (2 * g_0)).toNat : Int)) rfl bd (fun hb => ?_) (fun hb => ?_)
    · replace hK := ite_t hK hb
      refine AWP_skip ?_
      with_reducible refine thenC_normal ?_
      refine AWP_seq ?_
      refine AWP_block ?_
      refine AWP_seq ?_
      -- region 4
      refine AWP_rg tab_ok [1, 2, 3, 7, 8, 18, 19] fun c st' hr => ?_
      simp only [go_sem, reduceIte, reduceCtorEq, Nat.reduceEqDiff, Nat.reduceLT, Nat.reduceLeDiff, Nat.reduceBEq, Nat.reduceAdd, Nat.reduceMul, Nat.reduceSub, Nat.reducePow, Int.reduceLE, Int.reduceLT, Int.reduceNeg, Int.reduceToNat, Int.reduceAdd, Int.reduceSub, idO_app, lenO_app, lenO_app2, lenO_eta] at hr
      obtain ⟨rfl, rfl⟩ := hr
      refine ⟨vc, ?_⟩
      with_reducible refine thenC_normal ?_
      -- region 5
      refine AWP_rl ?_
      replace hK := chk_some hK
      obtain ⟨h1, hK⟩ := hK
      refine AWPL_rn tab_ok 6 [1, 2, 3, 7, 18, 19, 26, 27] fun c st' hr => ?_
      simp only [go_sem, reduceIte, reduceCtorEq, Nat.reduceEqDiff, Nat.reduceLT, Nat.reduceLeDiff, Nat.reduceBEq, Nat.reduceAdd, Nat.reduceMul, Nat.reduceSub, Nat.reducePow, Int.reduceLE, Int.reduceLT, Int.reduceNeg, Int.reduceToNat, Int.reduceAdd, Int.reduceSub, idO_app, lenO_app, lenO_app2, lenO_eta] at hr
      obtain ⟨rfl, rfl⟩ := hr
      refine ⟨vc, ?_⟩
      refine AWPL_gs' (gs_adopt 26 2 rfl (by first | rfl | (simp; done)) rfl rfl (by first | rfl | (simp [noPin]; done))) fun st' hr => ?_
      simp only [go_sem, reduceIte, reduceCtorEq, Nat.reduceEqDiff, Nat.reduceLT, Nat.reduceLeDiff, Nat.reduceBEq, Nat.reduceAdd, Nat.reduceMul, Nat.reduceSub, Nat.reducePow, Int.reduceLE, Int.reduceLT, Int.reduceNeg, Int.reduceToNat, Int.reduceAdd, Int.reduceSub, idO_app, lenO_app, lenO_app2, lenO_eta, List.set_cons_zero, List.set_cons_succ] at hr
      subst hr
      replace hK := chk_some hK
      obtain ⟨h2, hK⟩ := hK
      refine AWPL_rn tab_ok 1 [1, 2, 3, 7, 18, 19] fun c st' hr => ?_
      simp only [go_sem, reduceIte, reduceCtorEq, Nat.reduceEqDiff, Nat.reduceLT, Nat.reduceLeDiff, Nat.reduceBEq, Nat.reduceAdd, Nat.reduceMul, Nat.reduceSub, Nat.reducePow, Int.reduceLE, Int.reduceLT, Int.reduceNeg, Int.reduceToNat, Int.reduceAdd, Int.reduceSub, idO_app, lenO_app, lenO_app2, lenO_eta] at hr
      obtain ⟨rfl, rfl⟩ := hr
      refine ⟨vc, ?_⟩
      refine AWPL_gs' (gs_fill 1 (X := v) (xs := List.replicate ((2 + (2 * g_0)).toNat : Int).toNat 0) rfl (by first | omega | grind) (by first | rfl | (simp; done))) fun st' hr => ?_
      simp only [go_sem, reduceIte, reduceCtorEq, Nat.reduceEqDiff, Nat.reduceLT, Nat.reduceLeDiff, Nat.reduceBEq, Nat.reduceAdd, Nat.reduceMul, Nat.reduceSub, Nat.reducePow, Int.reduceLE, Int.reduceLT, Int.reduceNeg, Int.reduceToNat, Int.reduceAdd, Int.reduceSub, idO_app, lenO_app, lenO_app2, lenO_eta, List.cons_append, List.nil_append, List.set_cons_zero, List.set_cons_succ] at hr
      subst hr
      refine AWPL_nil ?_
      with_reducible refine inBlockA_normal (thenC_normal ?_)
      -- region 6
      replace hK := chk_some hK
      obtain ⟨h3, hK⟩ := hK
      refine AWP_rg tab_ok [1, 2, 3, 7, 18, 19] fun c st' hr => ?_
      simp only [go_sem, reduceIte, reduceCtorEq, Nat.reduceEqDiff, Nat.reduceLT, Nat.reduceLeDiff, Nat.reduceBEq, Nat.reduceAdd, Nat.reduceMul, Nat.reduceSub, Nat.reducePow, Int.reduceLE, Int.reduceLT, Int.reduceNeg, Int.reduceToNat, Int.reduceAdd, Int.reduceSub, idO_app, lenO_app, lenO_app2, lenO_eta] at hr
      obtain ⟨rfl, rfl⟩ := hr
      refine ⟨vc, ?_⟩
      refine again_n (v ++ [List.replicate ((2 + (2 * g_0)).toNat : Int).toNat 0], v1 + 1) [0, 1, 2] hK mkWkR
    · replace hK := ite_f hK hb
      refine AWP_exit ?_
      with_reducible refine thenC_exit (again_x ?_)
      refine cutX_here v [0, 1, 2] (by have hq := hpost1 _ hK; exact hq) mkWkR
  · clear hK; rintro v2 hK
    try dsimp only at hK
    refine exS ⟨88, [(1, .int .i64 a1), (2, .int .i64 a2), (3, .ptr 0 0 0), (7, .own 1 ((2 + (2 * g_0)).toNat))], [some (.gen 39 2 [[.int .i64 g_0, .fn 2 g_1.length (fun i => [.int .i64 ((g_1.getD i (0, 0)).1), .int .i64 ((g_1.getD i (0, 0)).2)])]]), some (.outs 22 2 ((2 + (2 * g_0)).toNat) (fP v2.length) (lenO v2)), some (.rows 3 .i64 v2)]⟩ rfl ?_
    with_reducible refine inBlockA_exit (thenC_normal ?_)
    refine AWP_seq ?_
    refine AWP_seq ?_
    replace hK := chk_some hK
    obtain ⟨h4, hK⟩ := hK
    refine AWP_gs' (gs_full 1 (X := v2) rfl (by first | assumption | omega)) fun st' hr => ?_
    simp only [go_sem, reduceIte, reduceCtorEq, Nat.reduceEqDiff, Nat.reduceLT, Nat.reduceLeDiff, Nat.reduceBEq, Nat.reduceAdd, Nat.reduceMul, Nat.reduceSub, Nat.reducePow, Int.reduceLE, Int.reduceLT, Int.reduceNeg, Int.reduceToNat, Int.reduceAdd, Int.reduceSub, idO_app, lenO_app, lenO_app2, lenO_eta, List.set_cons_zero, List.set_cons_succ] at hr
    subst hr
    -- region 7
    refine AWP_rg tab_ok [1, 2, 3, 7, 30, 31] fun c st' hr => ?_
    simp only [go_sem, reduceIte, reduceCtorEq, Nat.reduceEqDiff, Nat.reduceLT, Nat.reduceLeDiff, Nat.reduceBEq, Nat.reduceAdd, Nat.reduceMul, Nat.reduceSub, Nat.reducePow, Int.reduceLE, Int.reduceLT, Int.reduceNeg, Int.reduceToNat, Int.reduceAdd, Int.reduceSub, idO_app, lenO_app, lenO_app2, lenO_eta] at hr
    obtain ⟨rfl, rfl⟩ := hr
    refine ⟨vc, ?_⟩
    with_reducible refine thenC_normal ?_
    refine AWP_block ?_
    refine AWP_loopX 2 (fun ((v3, v4) : List (List Int) × Int) => ⟨88, [(1, .int .i64 a1), (2, .int .i64 a2), (3, .ptr 0 0 0), (7, .own 1 v3.length), (30, .int .i64 g_0), (31, .int .i64 v4)], [some (.gen 39 2 [[.int .i64 g_0, .fn 2 g_1.length (fun i => [.int .i64 ((g_1.getD i (0, 0)).1), .int .i64 ((g_1.getD i (0, 0)).2)])]]), some (.outs 22 2 v3.length idO (lenO v3)), some (.rows 3 .i64 v3)]⟩) (fun (v5 : List (List Int)) => ⟨88, [(3, .ptr 0 0 0), (7, .own 1 v5.length)], [some (.gen 39 2 [[.int .i64 g_0, .fn 2 g_1.length (fun i => [.int .i64 ((g_1.getD i (0, 0)).1), .int .i64 ((g_1.getD i (0, 0)).2)])]]), some (.outs 22 2 v5.length idO (lenO v5)), some (.rows 3 .i64 v5)]⟩) (fun v => v) (v2, 0) [0, 1, 2] hK mkWkR ?_ ?_
    · clear hK; rintro ⟨v3, v4⟩ b1 hK hpost2
      try dsimp only at hK
      change AWP _ _ _ _ ⟨88, [(1, .int .i64 a1), (2, .int .i64 a2), (3, .ptr 0 0 0), (7, .own 1 v3.length), (30, .int .i64 g_0), (31, .int .i64 v4)], [some (.gen 39 2 [[.int .i64 g_0, .fn 2 g_1.length (fun i => [.int .i64 ((g_1.getD i (0, 0)).1), .int .i64 ((g_1.getD i (0, 0)).2)])]]), some (.outs 22 2 v3.length idO (lenO v3)), some (.rows 3 .i64 v3)]⟩
      refine AWP_seq ?_
      -- region 8
      refine AWP_rg tab_ok [1, 2, 3, 7, 30, 31, 32] fun c st' hr => ?_
      simp only [go_sem, reduceIte, reduceCtorEq, Nat.reduceEqDiff, Nat.reduceLT, Nat.reduceLeDiff, Nat.reduceBEq, Nat.reduceAdd, Nat.reduceMul, Nat.reduceSub, Nat.reducePow, Int.reduceLE, Int.reduceLT, Int.reduceNeg, Int.reduceToNat, Int.reduceAdd, Int.reduceSub, idO_app, lenO_app, lenO_app2, lenO_eta] at hr
      obtain ⟨rfl, rfl⟩ := hr
      refine ⟨vc, ?_⟩
      with_reducible refine thenC_normal ?_
      refine AWP_seq ?_
      refine AWP_condP (v4 < g_0) rfl bd (fun hb1 => ?_) (fun hb1 => ?_)
      · replace hK := ite_t hK hb1
        refine AWP_skip ?_
        with_reducible refine thenC_normal ?_
        refine AWP_seq ?_
        refine AWP_block ?_
        refine AWP_seq ?_
        -- region 9
        refine AWP_rg tab_ok [1, 2, 3, 7, 9, 30, 31] fun c st' hr => ?_
        simp only [go_sem, reduceIte, reduceCtorEq, Nat.reduceEqDiff, Nat.reduceLT, Nat.reduceLeDiff, Nat.reduceBEq, Nat.reduceAdd, Nat.reduceMul, Nat.reduceSub, Nat.reducePow, Int.reduceLE, Int.reduceLT, Int.reduceNeg, Int.reduceToNat, Int.reduceAdd, Int.reduceSub, idO_app, lenO_app, lenO_app2, lenO_eta] at hr
        obtain ⟨rfl, rfl⟩ := hr
        refine ⟨vc, ?_⟩
        with_reducible refine thenC_normal ?_
        refine AWP_seq ?_
        -- region 10
        replace hK := chk_some hK
        obtain ⟨h5, hK⟩ := hK
        refine AWP_rg tab_ok [1, 2, 3, 7, 9, 30, 31] fun c st' hr => ?_
        simp only [go_sem, reduceIte, reduceCtorEq, Nat.reduceEqDiff, Nat.reduceLT, Nat.reduceLeDiff, Nat.reduceBEq, Nat.reduceAdd, Nat.reduceMul, Nat.reduceSub, Nat.reducePow, Int.reduceLE, Int.reduceLT, Int.reduceNeg, Int.reduceToNat, Int.reduceAdd, Int.reduceSub, idO_app, lenO_app, lenO_app2, lenO_eta] at hr
        obtain ⟨rfl, rfl⟩ := hr
        refine ⟨vc, ?_⟩
        with_reducible refine thenC_normal ?_
        refine AWP_seq ?_
        -- region 11
        replace hK := chk_some hK
        obtain ⟨h6, hK⟩ := hK
        refine AWP_dt tab_ok 11 [1, 2, 3, 7, 9, 30, 31] mixed (by kernel_rfl) fun c st' hr => ?_
        simp only [go_sem, reduceIte, reduceCtorEq, Nat.reduceEqDiff, Nat.reduceLT, Nat.reduceLeDiff, Nat.reduceBEq, Nat.reduceAdd, Nat.reduceMul, Nat.reduceSub, Nat.reducePow, Int.reduceLE, Int.reduceLT, Int.reduceNeg, Int.reduceToNat, Int.reduceAdd, Int.reduceSub, idO_app, lenO_app, lenO_app2, lenO_eta] at hr
        obtain ⟨rfl, rfl⟩ := hr
        refine ⟨vc, ?_⟩
        with_reducible refine thenC_normal ?_
        -- region 12
        replace hK := chk_some hK
        obtain ⟨h7, hK⟩ := hK
        refine AWP_dt tab_ok 11 [1, 2, 3, 7, 30, 31] mixed (by kernel_rfl) fun c st' hr => ?_
        simp only [go_sem, reduceIte, reduceCtorEq, Nat.reduceEqDiff, Nat.reduceLT, Nat.reduceLeDiff, Nat.reduceBEq, Nat.reduceAdd, Nat.reduceMul, Nat.reduceSub, Nat.reducePow, Int.reduceLE, Int.reduceLT, Int.reduceNeg, Int.reduceToNat, Int.reduceAdd, Int.reduceSub, idO_app, lenO_app, lenO_app2, lenO_eta] at hr
        obtain ⟨rfl, rfl⟩ := hr
        refine ⟨vc, ?_⟩
        with_reducible refine inBlockA_normal (thenC_normal ?_)
        -- region 13
        replace hK := chk_some hK
        obtain ⟨h8, hK⟩ := hK
        refine AWP_rg tab_ok [1, 2, 3, 7, 30, 31] fun c st' hr => ?_
        simp only [go_sem, reduceIte, reduceCtorEq, Nat.reduceEqDiff, Nat.reduceLT, Nat.reduceLeDiff, Nat.reduceBEq, Nat.reduceAdd, Nat.reduceMul, Nat.reduceSub, Nat.reducePow, Int.reduceLE, Int.reduceLT, Int.reduceNeg, Int.reduceToNat, Int.reduceAdd, Int.reduceSub, idO_app, lenO_app, lenO_app2, lenO_eta] at hr
        obtain ⟨rfl, rfl⟩ := hr
        refine ⟨vc, ?_⟩
        refine again_n (((v3.set ((2 + (2 * v4)).toNat) ((v3.getD ((2 + (2 * v4)).toNat) []).set ((3 + (2 * v4)).toNat) 1)).set 0 (((v3.set ((2 + (2 * v4)).toNat) ((v3.getD ((2 + (2 * v4)).toNat) []).set ((3 + (2 * v4)).toNat) 1)).getD 0 []).set ((2 + (2 * v4)).toNat) (iand (a1 / 2 ^ v4.toNat) 1))).set ((3 + (2 * v4)).toNat) ((((v3.set ((2 + (2 * v4)).toNat) ((v3.getD ((2 + (2 * v4)).toNat) []).set ((3 + (2 * v4)).toNat) 1)).set 0 (((v3.set ((2 + (2 * v4)).toNat) ((v3.getD ((2 + (2 * v4)).toNat) []).set ((3 + (2 * v4)).toNat) 1)).getD 0 []).set ((2 + (2 * v4)).toNat) (iand (a1 / 2 ^ v4.toNat) 1))).getD ((3 + (2 * v4)).toNat) []).set 1 (iand (a2 / 2 ^ v4.toNat) 1)), v4 + 1) [0, 1, 2] hK mkWkR
      · replace hK := ite_f hK hb1
        refine AWP_exit ?_
        with_reducible refine thenC_exit (again_x ?_)
        refine cutX_here v3 [0, 1, 2] (by have hq := hpost2 _ hK; exact hq) mkWkR
    · clear hK; rintro v5 hK
      try dsimp only at hK
      refine exS ⟨88, [(3, .ptr 0 0 0), (7, .own 1 v5.length)], [some (.gen 39 2 [[.int .i64 g_0, .fn 2 g_1.length (fun i => [.int .i64 ((g_1.getD i (0, 0)).1), .int .i64 ((g_1.getD i (0, 0)).2)])]]), some (.outs 22 2 v5.length idO (lenO v5)), some (.rows 3 .i64 v5)]⟩ rfl ?_
      with_reducible refine inBlockA_exit (thenC_normal ?_)
      refine AWP_seq ?_
      refine AWP_seq ?_
      -- region 14
      refine AWP_rg tab_ok [7, 68, 69, 70] fun c st' hr => ?_
      simp only [go_sem, reduceIte, reduceCtorEq, Nat.reduceEqDiff, Nat.reduceLT, Nat.reduceLeDiff, Nat.reduceBEq, Nat.reduceAdd, Nat.reduceMul, Nat.reduceSub, Nat.reducePow, Int.reduceLE, Int.reduceLT, Int.reduceNeg, Int.reduceToNat, Int.reduceAdd, Int.reduceSub, idO_app, lenO_app, lenO_app2, lenO_eta] at hr
      obtain ⟨rfl, rfl⟩ := hr
      refine ⟨vc, ?_⟩
      with_reducible refine thenC_normal ?_
      refine AWP_block ?_
      refine AWP_loopX 4 (fun ((v6, v7) : List (List Int) × Int) => ⟨88, [(7, .own 0 v6.length), (68, .fn 2 g_1.length (fun i => [.int .i64 ((g_1.getD i (0, 0)).1), .int .i64 ((g_1.getD i (0, 0)).2)])), (69, .int .i64 (g_1.length : Int)), (70, .int .i64 v7)], [some (.outs 22 1 v6.length idO (lenO v6)), some (.rows 3 .i64 v6)]⟩) (fun (v8 : List (List Int)) => ⟨88, [(7, .own 0 v8.length)], [some (.outs 22 1 v8.length idO (lenO v8)), some (.rows 3 .i64 v8)]⟩) (fun v => v) (v5, 0) [1, 2] hK mkWkR ?_ ?_
      · clear hK; rintro ⟨v6, v7⟩ b2 hK hpost3
        try dsimp only at hK
        change AWP _ _ _ _ ⟨88, [(7, .own 0 v6.length), (68, .fn 2 g_1.length (fun i => [.int .i64 ((g_1.getD i (0, 0)).1), .int .i64 ((g_1.getD i (0, 0)).2)])), (69, .int .i64 (g_1.length : Int)), (70, .int .i64 v7)], [some (.outs 22 1 v6.length idO (lenO v6)), some (.rows 3 .i64 v6)]⟩
        refine AWP_seq ?_
        -- region 15
        refine AWP_rg tab_ok [7, 68, 69, 70, 71] fun c st' hr => ?_
        simp only [go_sem, reduceIte, reduceCtorEq, Nat.reduceEqDiff, Nat.reduceLT, Nat.reduceLeDiff, Nat.reduceBEq, Nat.reduceAdd, Nat.reduceMul, Nat.reduceSub, Nat.reducePow, Int.reduceLE, Int.reduceLT, Int.reduceNeg, Int.reduceToNat, Int.reduceAdd, Int.reduceSub, idO_app, lenO_app, lenO_app2, lenO_eta] at hr
        obtain ⟨rfl, rfl⟩ := hr
        refine ⟨vc, ?_⟩
        with_reducible refine thenC_normal ?_
        refine AWP_seq ?_
        refine AWP_condP (v7 < (g_1.length : Int)) rfl bd (fun hb2 => ?_) (fun hb2 => ?_)
        · replace hK := ite_t hK hb2
          refine AWP_skip ?_
          with_reducible refine thenC_normal ?_
          refine AWP_seq ?_
          refine AWP_block ?_
          refine AWP_seq ?_
          -- region 16
          replace hK := chk_some hK
          obtain ⟨h9, hK⟩ := hK
          refine AWP_rg tab_ok [7, 11, 68, 69, 70] fun c st' hr => ?_
          simp only [go_sem, reduceIte, reduceCtorEq, Nat.reduceEqDiff, Nat.reduceLT, Nat.reduceLeDiff, Nat.reduceBEq, Nat.reduceAdd, Nat.reduceMul, Nat.reduceSub, Nat.reducePow, Int.reduceLE, Int.reduceLT, Int.reduceNeg, Int.reduceToNat, Int.reduceAdd, Int.reduceSub, idO_app, lenO_app, lenO_app2, lenO_eta] at hr
          obtain ⟨rfl, rfl⟩ := hr
          refine ⟨vc, ?_⟩
          with_reducible refine thenC_normal ?_
          -- region 17
          replace hK := chk_some hK
          obtain ⟨h10, hK⟩ := hK
          refine AWP_dt tab_ok 12 [7, 68, 69, 70] mixed (by kernel_rfl) fun c st' hr => ?_
          simp only [go_sem, reduceIte, reduceCtorEq, Nat.reduceEqDiff, Nat.reduceLT, Nat.reduceLeDiff, Nat.reduceBEq, Nat.reduceAdd, Nat.reduceMul, Nat.reduceSub, Nat.reducePow, Int.reduceLE, Int.reduceLT, Int.reduceNeg, Int.reduceToNat, Int.reduceAdd, Int.reduceSub, idO_app, lenO_app, lenO_app2, lenO_eta] at hr
          obtain ⟨rfl, rfl⟩ := hr
          refine ⟨vc, ?_⟩
          with_reducible refine inBlockA_normal (thenC_normal ?_)
          -- region 18
          refine AWP_facts (by simp) fun hfx => ?_
          simp only [factS, factV, fact1, fact0, factL0, lo, hi, maxLen, and_true, true_and] at hfx
          refine AWP_rg tab_ok [7, 68, 69, 70] fun c st' hr => ?_
          simp only [go_sem, reduceIte, reduceCtorEq, Nat.reduceEqDiff, Nat.reduceLT, Nat.reduceLeDiff, Nat.reduceBEq, Nat.reduceAdd, Nat.reduceMul, Nat.reduceSub, Nat.reducePow, Int.reduceLE, Int.reduceLT, Int.reduceNeg, Int.reduceToNat, Int.reduceAdd, Int.reduceSub, idO_app, lenO_app, lenO_app2, lenO_eta] at hr
          obtain ⟨rfl, rfl⟩ := hr
          refine ⟨vc, ?_⟩
          clear hfx
          refine again_n (v6.set ((3 + (2 * ((g_1.getD v7.toNat (0, 0)).1))).toNat) ((v6.getD ((3 + (2 * ((g_1.getD v7.toNat (0, 0)).1))).toNat) []).set ((2 + (2 * ((g_1.getD v7.toNat (0, 0)).2))).toNat) 1), v7 + 1) [0, 1] hK mkWkR
        · replace hK := ite_f hK hb2
          refine AWP_exit ?_
          with_reducible refine thenC_exit (again_x ?_)
          refine cutX_here v6 [0, 1] (by have hq := hpost3 _ hK; exact hq) mkWkR
      · clear hK; rintro v8 hK
        try dsimp only at hK
        refine exS ⟨88, [(7, .own 0 v8.length)], [some (.outs 22 1 v8.length idO (lenO v8)), some (.rows 3 .i64 v8)]⟩ rfl ?_
        with_reducible refine inBlockA_exit (thenC_normal ?_)
        refine AWP_seq ?_
        -- region 19
        refine AWP_rg tab_ok [6] fun c st' hr => ?_
        simp only [go_sem, reduceIte, reduceCtorEq, Nat.reduceEqDiff, Nat.reduceLT, Nat.reduceLeDiff, Nat.reduceBEq, Nat.reduceAdd, Nat.reduceMul, Nat.reduceSub, Nat.reducePow, Int.reduceLE, Int.reduceLT, Int.reduceNeg, Int.reduceToNat, Int.reduceAdd, Int.reduceSub, idO_app, lenO_app, lenO_app2, lenO_eta] at hr
        obtain ⟨rfl, rfl⟩ := hr
        refine ⟨vc, ?_⟩
        with_reducible refine thenC_normal ?_
        refine AWP_ret ?_
        cases hK
        refine EndsRW [0, 1] (.inl rfl) (of_decide_eq_true rfl) (by simp) rfl (fun c x hr => ?_) endHR
        simp only [go_sem, reduceIte, reduceCtorEq, Nat.reduceEqDiff, Nat.reduceLT, Nat.reduceLeDiff, Nat.reduceBEq, Nat.reduceAdd, Nat.reduceMul, Nat.reduceSub, Nat.reducePow, Int.reduceLE, Int.reduceLT, Int.reduceNeg, Int.reduceToNat, Int.reduceAdd, Int.reduceSub, idO_app, lenO_app, lenO_app2, lenO_eta] at hr
        obtain ⟨rfl, rfl⟩ := hr
        exact ⟨rfl, endR⟩

set_option maxRecDepth 8000 in
set_option maxHeartbeats 4000000 in
theorem W_links_pipes_more {q0 : List (List Int)} {r : Bool × List (List Int)} (hK : links_pipes_more q0 = some r) : InG Try.prog 118 [(.outs 22 1 q0.length idO (lenO q0)), (.rows 3 .i64 q0)] 1 (fun _ => [.own 0 q0.length]) (.bool r.1) [(.outs 22 1 r.2.length idO (lenO r.2)), (.rows 3 .i64 r.2)] := by
  refine InG_intro tab_ok (n := 105) (l := [.tmp 2]) Try.func118 rfl rfl rfl (fun ls => by first | (split <;> simp) | simp) (of_decide_eq_true rfl) (of_decide_eq_true rfl) rfl rfl rfl (by simp [renB, ren0, renI, List.range, List.range.loop]) (of_decide_eq_true rfl) (of_decide_eq_true rfl) fun w0 ls hls => ?_
  obtain ⟨pl0, rfl⟩ : ∃ pl0, ls = [pl0] := by
    match ls, hls with
    | [a], _ => exact ⟨a, rfl⟩
  simp only [pinL, List.map_cons, List.map_nil, List.cons_append, List.nil_append, Nat.zero_add, Nat.reduceAdd]
  unfold links_pipes_more at hK
  refine AWP_seq ?_
  -- region 0
  refine AWP_rg tab_ok [0] fun c st' hr => ?_
  simp only [go_sem, reduceIte, reduceCtorEq, Nat.reduceEqDiff, Nat.reduceLT, Nat.reduceLeDiff, Nat.reduceBEq, Nat.reduceAdd, Nat.reduceMul, Nat.reduceSub, Nat.reducePow, Int.reduceLE, Int.reduceLT, Int.reduceNeg, Int.reduceToNat, Int.reduceAdd, Int.reduceSub, idO_app, lenO_app, lenO_app2, lenO_eta] at hr
  obtain ⟨rfl, rfl⟩ := hr
  refine ⟨vc, ?_⟩
  with_reducible refine thenC_normal ?_
  refine AWP_seq ?_
  -- region 1
  replace hK := chk_some hK
  obtain ⟨h, hK⟩ := hK
  refine AWP_rg tab_ok [0, 3] fun c st' hr => ?_
  simp only [go_sem, reduceIte, reduceCtorEq, Nat.reduceEqDiff, Nat.reduceLT, Nat.reduceLeDiff, Nat.reduceBEq, Nat.reduceAdd, Nat.reduceMul, Nat.reduceSub, Nat.reducePow, Int.reduceLE, Int.reduceLT, Int.reduceNeg, Int.reduceToNat, Int.reduceAdd, Int.reduceSub, idO_app, lenO_app, lenO_app2, lenO_eta] at hr
  obtain ⟨rfl, rfl⟩ := hr
  refine ⟨vc, ?_⟩
  with_reducible refine thenC_normal ?_
  refine AWP_seq ?_
  refine AWP_seq ?_
  -- region 2
  refine AWP_rg tab_ok [0, 3, 14, 15] fun c st' hr => ?_
  simp only [go_sem, reduceIte, reduceCtorEq, Nat.reduceEqDiff, Nat.reduceLT, Nat.reduceLeDiff, Nat.reduceBEq, Nat.reduceAdd, Nat.reduceMul, Nat.reduceSub, Nat.reducePow, Int.reduceLE, Int.reduceLT, Int.reduceNeg, Int.reduceToNat, Int.reduceAdd, Int.reduceSub, idO_app, lenO_app, lenO_app2, lenO_eta] at hr
  obtain ⟨rfl, rfl⟩ := hr
  refine ⟨vc, ?_⟩
  with_reducible refine thenC_normal ?_
  refine AWP_block ?_
  refine AWP_loopX 0 (fun ((v, v1) : List Int × Int) => ⟨105, [(0, .own 0 q0.length), (3, .own 3 v.length), (14, .int .i64 ((List.replicate (q0.length : Int).toNat 0).length : Int)), (15, .int .i64 v1)], [some (.outs 22 1 q0.length idO (lenO q0)), some (.rows 3 .i64 q0), some (.pin 0 pl0), some (.ints 3 .i64 v)]⟩) (fun (v2 : List Int) => ⟨105, [(0, .own 0 q0.length), (3, .own 3 v2.length)], [some (.outs 22 1 q0.length idO (lenO q0)), some (.rows 3 .i64 q0), some (.pin 0 pl0), some (.ints 3 .i64 v2)]⟩) (fun v => v) (List.replicate (q0.length : Int).toNat 0, 0) [0, 1, 2, 3] hK mkWkR ?_ ?_
  · clear hK; rintro ⟨v, v1⟩ b hK hpost1
    try dsimp only at hK
    change AWP _ _ _ _ ⟨105, [(0, .own 0 q0.length), (3, .own 3 v.length), (14, .int .i64 ((List.replicate (q0.length : Int).toNat 0).length : Int)), (15, .int .i64 v1)], [some (.outs 22 1 q0.length idO (lenO q0)), some (.rows 3 .i64 q0), some (.pin 0 pl0), some (.ints 3 .i64 v)]⟩
    refine AWP_seq ?_
    -- region 3
    refine AWP_rg tab_ok [0, 3, 14, 15, 16] fun c st' hr => ?_
    simp only [go_sem, reduceIte, reduceCtorEq, Nat.reduceEqDiff, Nat.reduceLT, Nat.reduceLeDiff, Nat.reduceBEq, Nat.reduceAdd, Nat.reduceMul, Nat.reduceSub, Nat.reducePow, Int.reduceLE, Int.reduceLT, Int.reduceNeg, Int.reduceToNat, Int.reduceAdd, Int.reduceSub, idO_app, lenO_app, lenO_app2, lenO_eta] at hr
    obtain ⟨rfl, rfl⟩ := hr
    refine ⟨vc, ?_⟩
    with_reducible refine thenC_normal ?_
    refine AWP_seq ?_
    refine AWP_condP (v1 < ((List.replicate (q0.length : Int).toNat 0).length : Int)) rfl bd (fun hb => ?_) (fun hb => ?_)
    · replace hK := ite_t hK hb
      refine AWP_skip ?_
      with_reducible refine thenC_normal ?_
      refine AWP_seq ?_
      refine AWP_block ?_
      refine AWP_seq ?_
      -- region 4
      refine AWP_rg tab_ok [0, 3, 4, 14, 15] fun c st' hr => ?_
      simp only [go_sem, reduceIte, reduceCtorEq, Nat.reduceEqDiff, Nat.reduceLT, Nat.reduceLeDiff, Nat.reduceBEq, Nat.reduceAdd, Nat.reduceMul, Nat.reduceSub, Nat.reducePow, Int.reduceLE, Int.reduceLT, Int.reduceNeg, Int.reduceToNat, Int.reduceAdd, Int.reduceSub, idO_app, lenO_app, lenO_app2, lenO_eta] at hr
      obtain ⟨rfl, rfl⟩ := hr
      refine ⟨vc, ?_⟩
      with_reducible refine thenC_normal ?_
      -- region 5
      replace hK := chk_some hK
      obtain ⟨h1, hK⟩ := hK
      refine AWP_rg tab_ok [0, 3, 14, 15] fun c st' hr => ?_
      simp only [go_sem, reduceIte, reduceCtorEq, Nat.reduceEqDiff, Nat.reduceLT, Nat.reduceLeDiff, Nat.reduceBEq, Nat.reduceAdd, Nat.reduceMul, Nat.reduceSub, Nat.reducePow, Int.reduceLE, Int.reduceLT, Int.reduceNeg, Int.reduceToNat, Int.reduceAdd, Int.reduceSub, idO_app, lenO_app, lenO_app2, lenO_eta] at hr
      obtain ⟨rfl, rfl⟩ := hr
      refine ⟨vc, ?_⟩
      with_reducible refine inBlockA_normal (thenC_normal ?_)
      -- region 6
      refine AWP_facts (by simp) fun hfx => ?_
      simp only [factS, factV, fact1, fact0, factL0, lo, hi, maxLen, and_true, true_and] at hfx
      refine AWP_rg tab_ok [0, 3, 14, 15] fun c st' hr => ?_
      simp only [go_sem, reduceIte, reduceCtorEq, Nat.reduceEqDiff, Nat.reduceLT, Nat.reduceLeDiff, Nat.reduceBEq, Nat.reduceAdd, Nat.reduceMul, Nat.reduceSub, Nat.reducePow, Int.reduceLE, Int.reduceLT, Int.reduceNeg, Int.reduceToNat, Int.reduceAdd, Int.reduceSub, idO_app, lenO_app, lenO_app2, lenO_eta] at hr
      obtain ⟨rfl, rfl⟩ := hr
      refine ⟨vc, ?_⟩
      clear hfx
      refine again_n (v.set v1.toNat (-1), v1 + 1) [0, 1, 2, 3] hK mkWkR
    · replace hK := ite_f hK hb
      refine AWP_exit ?_
      with_reducible refine thenC_exit (again_x ?_)
      refine cutX_here v [0, 1, 2, 3] (by have hq := hpost1 _ hK; exact hq) mkWkR
  · clear hK; rintro v2 hK
    try dsimp only at hK
    refine exS ⟨105, [(0, .own 0 q0.length), (3, .own 3 v2.length)], [some (.outs 22 1 q0.length idO (lenO q0)), some (.rows 3 .i64 q0), some (.pin 0 pl0), some (.ints 3 .i64 v2)]⟩ rfl ?_
    with_reducible refine inBlockA_exit (thenC_normal ?_)
    refine AWP_seq ?_
    -- region 7
    replace hK := chk_some hK
    obtain ⟨h2, hK⟩ := hK
    refine AWP_rg tab_ok [0, 3] fun c st' hr => ?_
    simp only [go_sem, reduceIte, reduceCtorEq, Nat.reduceEqDiff, Nat.reduceLT, Nat.reduceLeDiff, Nat.reduceBEq, Nat.reduceAdd, Nat.reduceMul, Nat.reduceSub, Nat.reducePow, Int.reduceLE, Int.reduceLT, Int.reduceNeg, Int.reduceToNat, Int.reduceAdd, Int.reduceSub, idO_app, lenO_app, lenO_app2, lenO_eta] at hr
    obtain ⟨rfl, rfl⟩ := hr
    refine ⟨vc, ?_⟩
    with_reducible refine thenC_normal ?_
    refine AWP_seq ?_
    -- region 8
    refine AWP_rg tab_ok [0, 3, 5] fun c st' hr => ?_
    simp only [go_sem, reduceIte, reduceCtorEq, Nat.reduceEqDiff, Nat.reduceLT, Nat.reduceLeDiff, Nat.reduceBEq, Nat.reduceAdd, Nat.reduceMul, Nat.reduceSub, Nat.reducePow, Int.reduceLE, Int.reduceLT, Int.reduceNeg, Int.reduceToNat, Int.reduceAdd, Int.reduceSub, idO_app, lenO_app, lenO_app2, lenO_eta] at hr
    obtain ⟨rfl, rfl⟩ := hr
    refine ⟨vc, ?_⟩
    with_reducible refine thenC_normal ?_
    refine AWP_seq ?_
    refine AWP_seq ?_
    -- region 9
    refine AWP_rg tab_ok [0, 3, 5, 6] fun c st' hr => ?_
    simp only [go_sem, reduceIte, reduceCtorEq, Nat.reduceEqDiff, Nat.reduceLT, Nat.reduceLeDiff, Nat.reduceBEq, Nat.reduceAdd, Nat.reduceMul, Nat.reduceSub, Nat.reducePow, Int.reduceLE, Int.reduceLT, Int.reduceNeg, Int.reduceToNat, Int.reduceAdd, Int.reduceSub, idO_app, lenO_app, lenO_app2, lenO_eta] at hr
    obtain ⟨rfl, rfl⟩ := hr
    refine ⟨vc, ?_⟩
    with_reducible refine thenC_normal ?_
    refine AWP_block ?_
    refine AWP_loopX 2 (fun ((v3, v4, v5) : List Int × List Int × Int) => ⟨105, [(0, .own 0 q0.length), (3, .own 3 v3.length), (5, .own 4 v4.length), (6, .int .i64 v5)], [some (.outs 22 1 q0.length idO (lenO q0)), some (.rows 3 .i64 q0), some (.pin 0 pl0), some (.ints 3 .i64 v3), some (.ints 3 .i64 v4)]⟩) (fun (v6 : List Int) => ⟨105, [(0, .own 0 q0.length), (3, .own 3 v6.length)], [some (.outs 22 1 q0.length idO (lenO q0)), some (.rows 3 .i64 q0), some (.pin 0 pl0), some (.ints 3 .i64 v6)]⟩) (fun v => v) (v2.set 0 0, [0], 0) [0, 1, 2, 3, 4] hK mkWkR ?_ ?_
    · clear hK; rintro ⟨v3, v4, v5⟩ b1 hK hpost2
      try dsimp only at hK
      change AWP _ _ _ _ ⟨105, [(0, .own 0 q0.length), (3, .own 3 v3.length), (5, .own 4 v4.length), (6, .int .i64 v5)], [some (.outs 22 1 q0.length idO (lenO q0)), some (.rows 3 .i64 q0), some (.pin 0 pl0), some (.ints 3 .i64 v3), some (.ints 3 .i64 v4)]⟩
      refine AWP_seq ?_
      refine AWP_seq ?_
      -- region 10
      replace hK := chk_some hK
      obtain ⟨h3, hK⟩ := hK
      refine AWP_rg tab_ok [0, 3, 5, 6, 34] fun c st' hr => ?_
      simp only [go_sem, reduceIte, reduceCtorEq, Nat.reduceEqDiff, Nat.reduceLT, Nat.reduceLeDiff, Nat.reduceBEq, Nat.reduceAdd, Nat.reduceMul, Nat.reduceSub, Nat.reducePow, Int.reduceLE, Int.reduceLT, Int.reduceNeg, Int.reduceToNat, Int.reduceAdd, Int.reduceSub, idO_app, lenO_app, lenO_app2, lenO_eta] at hr
      obtain ⟨rfl, rfl⟩ := hr
      refine ⟨vc, ?_⟩
      with_reducible refine thenC_normal ?_
      refine AWP_condP ((v5 < (v4.length : Int) ∧ v3.getD 1 0 < 0)) rfl bd (fun hb1 => ?_) (fun hb1 => ?_)
      · replace hK := ite_t hK hb1
        refine AWP_skip ?_
        with_reducible refine thenC_normal ?_
        refine AWP_seq ?_
        refine AWP_block ?_
        refine AWP_seq ?_
        -- region 12
        replace hK := chk_some hK
        obtain ⟨h4, hK⟩ := hK
        refine AWP_rg tab_ok [0, 3, 5, 6, 43, 44, 45] fun c st' hr => ?_
        simp only [go_sem, reduceIte, reduceCtorEq, Nat.reduceEqDiff, Nat.reduceLT, Nat.reduceLeDiff, Nat.reduceBEq, Nat.reduceAdd, Nat.reduceMul, Nat.reduceSub, Nat.reducePow, Int.reduceLE, Int.reduceLT, Int.reduceNeg, Int.reduceToNat, Int.reduceAdd, Int.reduceSub, idO_app, lenO_app, lenO_app2, lenO_eta] at hr
        obtain ⟨rfl, rfl⟩ := hr
        refine ⟨vc, ?_⟩
        with_reducible refine thenC_normal ?_
        refine AWP_block ?_
        refine AWP_loopX 4 (fun ((v7, v8, v9) : List Int × List Int × Int) => ⟨105, [(0, .own 0 q0.length), (3, .own 3 v7.length), (5, .own 4 v8.length), (6, .int .i64 v5), (43, .row 1 ((v4.getD v5.toNat 0).toNat) ((q0.getD ((v4.getD v5.toNat 0).toNat) []).length)), (44, .int .i64 ((q0.getD ((v4.getD v5.toNat 0).toNat) []).length : Int)), (45, .int .i64 v9)], [some (.outs 22 1 q0.length idO (lenO q0)), some (.rows 3 .i64 q0), some (.pin 0 pl0), some (.ints 3 .i64 v7), some (.ints 3 .i64 v8)]⟩) (fun ((v10, v11) : List Int × List Int) => ⟨105, [(0, .own 0 q0.length), (3, .own 3 v10.length), (5, .own 4 v11.length), (6, .int .i64 v5)], [some (.outs 22 1 q0.length idO (lenO q0)), some (.rows 3 .i64 q0), some (.pin 0 pl0), some (.ints 3 .i64 v10), some (.ints 3 .i64 v11)]⟩) (fun v => v) (v3, v4, 0) [0, 1, 2, 3, 4] hK mkWkR ?_ ?_
        · clear hK; rintro ⟨v7, v8, v9⟩ b2 hK hpost3
          try dsimp only at hK
          change AWP _ _ _ _ ⟨105, [(0, .own 0 q0.length), (3, .own 3 v7.length), (5, .own 4 v8.length), (6, .int .i64 v5), (43, .row 1 ((v4.getD v5.toNat 0).toNat) ((q0.getD ((v4.getD v5.toNat 0).toNat) []).length)), (44, .int .i64 ((q0.getD ((v4.getD v5.toNat 0).toNat) []).length : Int)), (45, .int .i64 v9)], [some (.outs 22 1 q0.length idO (lenO q0)), some (.rows 3 .i64 q0), some (.pin 0 pl0), some (.ints 3 .i64 v7), some (.ints 3 .i64 v8)]⟩
          refine AWP_seq ?_
          -- region 13
          refine AWP_rg tab_ok [0, 3, 5, 6, 43, 44, 45, 46] fun c st' hr => ?_
          simp only [go_sem, reduceIte, reduceCtorEq, Nat.reduceEqDiff, Nat.reduceLT, Nat.reduceLeDiff, Nat.reduceBEq, Nat.reduceAdd, Nat.reduceMul, Nat.reduceSub, Nat.reducePow, Int.reduceLE, Int.reduceLT, Int.reduceNeg, Int.reduceToNat, Int.reduceAdd, Int.reduceSub, idO_app, lenO_app, lenO_app2, lenO_eta] at hr
          obtain ⟨rfl, rfl⟩ := hr
          refine ⟨vc, ?_⟩
          with_reducible refine thenC_normal ?_
          refine AWP_seq ?_
          refine AWP_condP (v9 < ((q0.getD ((v4.getD v5.toNat 0).toNat) []).length : Int)) rfl bd (fun hb2 => ?_) (fun hb2 => ?_)
          · replace hK := ite_t hK hb2
            refine AWP_skip ?_
            with_reducible refine thenC_normal ?_
            refine AWP_seq ?_
            refine AWP_block ?_
            refine AWP_seq ?_
            -- region 14
            replace hK := chk_some hK
            obtain ⟨h5, hK⟩ := hK
            refine AWP_rg tab_ok [0, 3, 5, 6, 7, 8, 43, 44, 45] fun c st' hr => ?_
            simp only [go_sem, reduceIte, reduceCtorEq, Nat.reduceEqDiff, Nat.reduceLT, Nat.reduceLeDiff, Nat.reduceBEq, Nat.reduceAdd, Nat.reduceMul, Nat.reduceSub, Nat.reducePow, Int.reduceLE, Int.reduceLT, Int.reduceNeg, Int.reduceToNat, Int.reduceAdd, Int.reduceSub, idO_app, lenO_app, lenO_app2, lenO_eta] at hr
            obtain ⟨rfl, rfl⟩ := hr
            refine ⟨vc, ?_⟩
            with_reducible refine thenC_normal ?_
            refine AWP_seq ?_
            -- region 15
            replace hK := chk_some hK
            obtain ⟨h6, hK⟩ := hK
            refine AWP_rg tab_ok [0, 3, 5, 6, 7, 43, 44, 45, 58] fun c st' hr => ?_
            simp only [go_sem, reduceIte, reduceCtorEq, Nat.reduceEqDiff, Nat.reduceLT, Nat.reduceLeDiff, Nat.reduceBEq, Nat.reduceAdd, Nat.reduceMul, Nat.reduceSub, Nat.reducePow, Int.reduceLE, Int.reduceLT, Int.reduceNeg, Int.reduceToNat, Int.reduceAdd, Int.reduceSub, idO_app, lenO_app, lenO_app2, lenO_eta] at hr
            obtain ⟨rfl, rfl⟩ := hr
            refine ⟨vc, ?_⟩
            with_reducible refine thenC_normal ?_
            refine AWP_condP ((0 < (q0.getD ((v4.getD v5.toNat 0).toNat) []).getD v9.toNat 0 ∧ v7.getD v9.toNat 0 < 0)) rfl bd (fun hb3 => ?_) (fun hb3 => ?_)
            · replace hK := ite_t hK hb3
              refine AWP_seq ?_
              -- region 16
              replace hK := chk_some hK
              obtain ⟨h7, hK⟩ := hK
              refine AWP_rg tab_ok [0, 3, 5, 6, 7, 43, 44, 45] fun c st' hr => ?_
              simp only [go_sem, reduceIte, reduceCtorEq, Nat.reduceEqDiff, Nat.reduceLT, Nat.reduceLeDiff, Nat.reduceBEq, Nat.reduceAdd, Nat.reduceMul, Nat.reduceSub, Nat.reducePow, Int.reduceLE, Int.reduceLT, Int.reduceNeg, Int.reduceToNat, Int.reduceAdd, Int.reduceSub, idO_app, lenO_app, lenO_app2, lenO_eta] at hr
              obtain ⟨rfl, rfl⟩ := hr
              refine ⟨vc, ?_⟩
              with_reducible refine thenC_normal ?_
              -- region 17
              replace hK := chk_some hK
              obtain ⟨h8, hK⟩ := hK
              refine AWP_rg tab_ok [0, 3, 5, 6, 43, 44, 45] fun c st' hr => ?_
              simp only [go_sem, reduceIte, reduceCtorEq, Nat.reduceEqDiff, Nat.reduceLT, Nat.reduceLeDiff, Nat.reduceBEq, Nat.reduceAdd, Nat.reduceMul, Nat.reduceSub, Nat.reducePow, Int.reduceLE, Int.reduceLT, Int.reduceNeg, Int.reduceToNat, Int.reduceAdd, Int.reduceSub, idO_app, lenO_app, lenO_app2, lenO_eta] at hr
              obtain ⟨rfl, rfl⟩ := hr
              refine ⟨vc, ?_⟩
              with_reducible refine inBlockA_normal (thenC_normal ?_)
              -- region 18
              replace hK := chk_some hK
              obtain ⟨h9, hK⟩ := hK
              refine AWP_rg tab_ok [0, 3, 5, 6, 43, 44, 45] fun c st' hr => ?_
              simp only [go_sem, reduceIte, reduceCtorEq, Nat.reduceEqDiff, Nat.reduceLT, Nat.reduceLeDiff, Nat.reduceBEq, Nat.reduceAdd, Nat.reduceMul, Nat.reduceSub, Nat.reducePow, Int.reduceLE, Int.reduceLT, Int.reduceNeg, Int.reduceToNat, Int.reduceAdd, Int.reduceSub, idO_app, lenO_app, lenO_app2, lenO_eta] at hr
              obtain ⟨rfl, rfl⟩ := hr
              refine ⟨vc, ?_⟩
              refine again_n (v7.set v9.toNat (v8.getD v5.toNat 0), v8 ++ [v9], v9 + 1) [0, 1, 2, 3, 6] hK mkWkR
            · replace hK := ite_f hK hb3
              refine AWP_skip ?_
              with_reducible refine inBlockA_normal (thenC_normal ?_)
              -- region 18
              replace hK := chk_some hK
              obtain ⟨h10, hK⟩ := hK
              refine AWP_rg tab_ok [0, 3, 5, 6, 43, 44, 45] fun c st' hr => ?_
              simp only [go_sem, reduceIte, reduceCtorEq, Nat.reduceEqDiff, Nat.reduceLT, Nat.reduceLeDiff, Nat.reduceBEq, Nat.reduceAdd, Nat.reduceMul, Nat.reduceSub, Nat.reducePow, Int.reduceLE, Int.reduceLT, Int.reduceNeg, Int.reduceToNat, Int.reduceAdd, Int.reduceSub, idO_app, lenO_app, lenO_app2, lenO_eta] at hr
              obtain ⟨rfl, rfl⟩ := hr
              refine ⟨vc, ?_⟩
              refine again_n (v7, v8, v9 + 1) [0, 1, 2, 3, 4] hK mkWkR
          · replace hK := ite_f hK hb2
            refine AWP_exit ?_
            with_reducible refine thenC_exit (again_x ?_)
            refine cutX_here (v7, v8) [0, 1, 2, 3, 4] (by have hq := hpost3 _ hK; exact hq) mkWkR
        · clear hK; rintro ⟨v10, v11⟩ hK
          try dsimp only at hK
          refine exS ⟨105, [(0, .own 0 q0.length), (3, .own 3 v10.length), (5, .own 4 v11.length), (6, .int .i64 v5)], [some (.outs 22 1 q0.length idO (lenO q0)), some (.rows 3 .i64 q0), some (.pin 0 pl0), some (.ints 3 .i64 v10), some (.ints 3 .i64 v11)]⟩ rfl ?_
          with_reducible refine inBlockA_exit (inBlockA_normal (thenC_normal ?_))
          -- region 11
          replace hK := chk_some hK
          obtain ⟨h11, hK⟩ := hK
          refine AWP_rg tab_ok [0, 3, 5, 6] fun c st' hr => ?_
          simp only [go_sem, reduceIte, reduceCtorEq, Nat.reduceEqDiff, Nat.reduceLT, Nat.reduceLeDiff, Nat.reduceBEq, Nat.reduceAdd, Nat.reduceMul, Nat.reduceSub, Nat.reducePow, Int.reduceLE, Int.reduceLT, Int.reduceNeg, Int.reduceToNat, Int.reduceAdd, Int.reduceSub, idO_app, lenO_app, lenO_app2, lenO_eta] at hr
          obtain ⟨rfl, rfl⟩ := hr
          refine ⟨vc, ?_⟩
          refine again_n (v10, v11, v5 + 1) [0, 1, 2, 3, 4] hK mkWkR
      · replace hK := ite_f hK hb1
        refine AWP_exit ?_
        with_reducible refine thenC_exit (again_x ?_)
        refine cutX_here v3 [0, 1, 2, 3] (by have hq := hpost2 _ hK; exact hq) mkWkR
    · clear hK; rintro v6 hK
      try dsimp only at hK
      refine exS ⟨105, [(0, .own 0 q0.length), (3, .own 3 v6.length)], [some (.outs 22 1 q0.length idO (lenO q0)), some (.rows 3 .i64 q0), some (.pin 0 pl0), some (.ints 3 .i64 v6)]⟩ rfl ?_
      with_reducible refine inBlockA_exit (thenC_normal ?_)
      refine AWP_seq ?_
      refine AWP_seq ?_
      -- region 19
      replace hK := chk_some hK
      obtain ⟨h12, hK⟩ := hK
      refine AWP_rg tab_ok [0, 3, 74] fun c st' hr => ?_
      simp only [go_sem, reduceIte, reduceCtorEq, Nat.reduceEqDiff, Nat.reduceLT, Nat.reduceLeDiff, Nat.reduceBEq, Nat.reduceAdd, Nat.reduceMul, Nat.reduceSub, Nat.reducePow, Int.reduceLE, Int.reduceLT, Int.reduceNeg, Int.reduceToNat, Int.reduceAdd, Int.reduceSub, idO_app, lenO_app, lenO_app2, lenO_eta] at hr
      obtain ⟨rfl, rfl⟩ := hr
      refine ⟨vc, ?_⟩
      with_reducible refine thenC_normal ?_
      refine AWP_condP (v6.getD 1 0 < 0) rfl bd (fun hb4 => ?_) (fun hb4 => ?_)
      · replace hK := ite_t hK hb4
        refine AWP_seq ?_
        -- region 20
        refine AWP_rg tab_ok [2] fun c st' hr => ?_
        simp only [go_sem, reduceIte, reduceCtorEq, Nat.reduceEqDiff, Nat.reduceLT, Nat.reduceLeDiff, Nat.reduceBEq, Nat.reduceAdd, Nat.reduceMul, Nat.reduceSub, Nat.reducePow, Int.reduceLE, Int.reduceLT, Int.reduceNeg, Int.reduceToNat, Int.reduceAdd, Int.reduceSub, idO_app, lenO_app, lenO_app2, lenO_eta] at hr
        obtain ⟨rfl, rfl⟩ := hr
        refine ⟨vc, ?_⟩
        with_reducible refine thenC_normal ?_
        refine AWP_ret ?_
        with_reducible refine thenC_ret ?_
        cases hK
        refine EndsRW [0, 1, 2] (.inl rfl) (of_decide_eq_true rfl) (by simp) rfl (fun c x hr => ?_) endHR
        simp only [go_sem, reduceIte, reduceCtorEq, Nat.reduceEqDiff, Nat.reduceLT, Nat.reduceLeDiff, Nat.reduceBEq, Nat.reduceAdd, Nat.reduceMul, Nat.reduceSub, Nat.reducePow, Int.reduceLE, Int.reduceLT, Int.reduceNeg, Int.reduceToNat, Int.reduceAdd, Int.reduceSub, idO_app, lenO_app, lenO_app2, lenO_eta] at hr
        obtain ⟨rfl, rfl⟩ := hr
        exact ⟨rfl, endR⟩
      · replace hK := ite_f hK hb4
        refine AWP_skip ?_
        with_reducible refine thenC_normal ?_
        refine AWP_seq ?_
        refine AWP_seq ?_
        -- region 21
        refine AWP_rg tab_ok [0, 3, 9] fun c st' hr => ?_
        simp only [go_sem, reduceIte, reduceCtorEq, Nat.reduceEqDiff, Nat.reduceLT, Nat.reduceLeDiff, Nat.reduceBEq, Nat.reduceAdd, Nat.reduceMul, Nat.reduceSub, Nat.reducePow, Int.reduceLE, Int.reduceLT, Int.reduceNeg, Int.reduceToNat, Int.reduceAdd, Int.reduceSub, idO_app, lenO_app, lenO_app2, lenO_eta] at hr
        obtain ⟨rfl, rfl⟩ := hr
        refine ⟨vc, ?_⟩
        with_reducible refine thenC_normal ?_
        refine AWP_block ?_
        refine AWP_loopX 6 (fun ((q01, v12) : List (List Int) × Int) => ⟨105, [(0, .own 0 q01.length), (3, .own 3 v6.length), (9, .int .i64 v12)], [some (.outs 22 1 q01.length idO (lenO q01)), some (.rows 3 .i64 q01), some (.pin 0 pl0), some (.ints 3 .i64 v6)]⟩) (fun (q02 : List (List Int)) => ⟨105, [], [some (.outs 22 1 q02.length idO (lenO q02)), some (.rows 3 .i64 q02), some (.pin 0 pl0)]⟩) (fun v => v) (q0, 1) [0, 1, 2, 3] hK mkWkR ?_ ?_
        · clear hK; rintro ⟨q01, v12⟩ b3 hK hpost3
          try dsimp only at hK
          change AWP _ _ _ _ ⟨105, [(0, .own 0 q01.length), (3, .own 3 v6.length), (9, .int .i64 v12)], [some (.outs 22 1 q01.length idO (lenO q01)), some (.rows 3 .i64 q01), some (.pin 0 pl0), some (.ints 3 .i64 v6)]⟩
          refine AWP_seq ?_
          refine AWP_seq ?_
          -- region 22
          refine AWP_rg tab_ok [0, 3, 9, 76] fun c st' hr => ?_
          simp only [go_sem, reduceIte, reduceCtorEq, Nat.reduceEqDiff, Nat.reduceLT, Nat.reduceLeDiff, Nat.reduceBEq, Nat.reduceAdd, Nat.reduceMul, Nat.reduceSub, Nat.reducePow, Int.reduceLE, Int.reduceLT, Int.reduceNeg, Int.reduceToNat, Int.reduceAdd, Int.reduceSub, idO_app, lenO_app, lenO_app2, lenO_eta] at hr
          obtain ⟨rfl, rfl⟩ := hr
          refine ⟨vc, ?_⟩
          with_reducible refine thenC_normal ?_
          refine AWP_condP (v12 ≠ 0) rfl bd (fun hb5 => ?_) (fun hb5 => ?_)
          · replace hK := ite_t hK hb5
            refine AWP_skip ?_
            with_reducible refine thenC_normal ?_
            refine AWP_seq ?_
            refine AWP_block ?_
            refine AWP_seq ?_
            -- region 24
            replace hK := chk_some hK
            obtain ⟨h13, hK⟩ := hK
            refine AWP_rg tab_ok [0, 3, 9] fun c st' hr => ?_
            simp only [go_sem, reduceIte, reduceCtorEq, Nat.reduceEqDiff, Nat.reduceLT, Nat.reduceLeDiff, Nat.reduceBEq, Nat.reduceAdd, Nat.reduceMul, Nat.reduceSub, Nat.reducePow, Int.reduceLE, Int.reduceLT, Int.reduceNeg, Int.reduceToNat, Int.reduceAdd, Int.reduceSub, idO_app, lenO_app, lenO_app2, lenO_eta] at hr
            obtain ⟨rfl, rfl⟩ := hr
            refine ⟨vc, ?_⟩
            with_reducible refine thenC_normal ?_
            -- region 25
            replace hK := chk_some hK
            obtain ⟨h14, hK⟩ := hK
            refine AWP_dt tab_ok 12 [0, 3, 9] mixed (by kernel_rfl) fun c st' hr => ?_
            simp only [go_sem, reduceIte, reduceCtorEq, Nat.reduceEqDiff, Nat.reduceLT, Nat.reduceLeDiff, Nat.reduceBEq, Nat.reduceAdd, Nat.reduceMul, Nat.reduceSub, Nat.reducePow, Int.reduceLE, Int.reduceLT, Int.reduceNeg, Int.reduceToNat, Int.reduceAdd, Int.reduceSub, idO_app, lenO_app, lenO_app2, lenO_eta] at hr
            obtain ⟨rfl, rfl⟩ := hr
            refine ⟨vc, ?_⟩
            with_reducible refine inBlockA_normal (thenC_normal ?_)
            -- region 23
            replace hK := chk_some hK
            obtain ⟨h15, hK⟩ := hK
            refine AWP_rg tab_ok [0, 3, 9] fun c st' hr => ?_
            simp only [go_sem, reduceIte, reduceCtorEq, Nat.reduceEqDiff, Nat.reduceLT, Nat.reduceLeDiff, Nat.reduceBEq, Nat.reduceAdd, Nat.reduceMul, Nat.reduceSub, Nat.reducePow, Int.reduceLE, Int.reduceLT, Int.reduceNeg, Int.reduceToNat, Int.reduceAdd, Int.reduceSub, idO_app, lenO_app, lenO_app2, lenO_eta] at hr
            obtain ⟨rfl, rfl⟩ := hr
            refine ⟨vc, ?_⟩
            refine again_n ((q01.set ((v6.getD v12.toNat 0).toNat) ((q01.getD ((v6.getD v12.toNat 0).toNat) []).set v12.toNat (((q01.getD ((v6.getD v12.toNat 0).toNat) []).getD v12.toNat 0) - 1))).set v12.toNat (((q01.set ((v6.getD v12.toNat 0).toNat) ((q01.getD ((v6.getD v12.toNat 0).toNat) []).set v12.toNat (((q01.getD ((v6.getD v12.toNat 0).toNat) []).getD v12.toNat 0) - 1))).getD v12.toNat []).set ((v6.getD v12.toNat 0).toNat) ((((q01.set ((v6.getD v12.toNat 0).toNat) ((q01.getD ((v6.getD v12.toNat 0).toNat) []).set v12.toNat (((q01.getD ((v6.getD v12.toNat 0).toNat) []).getD v12.toNat 0) - 1))).getD v12.toNat []).getD ((v6.getD v12.toNat 0).toNat) 0) + 1)), v6.getD v12.toNat 0) [0, 1, 2, 3] hK mkWkR
          · replace hK := ite_f hK hb5
            refine AWP_exit ?_
            with_reducible refine thenC_exit (again_x ?_)
            refine cutX_here q01 [0, 1, 2] (by have hq := hpost3 _ hK; exact hq) mkWkR
        · clear hK; rintro q02 hK
          try dsimp only at hK
          refine exS ⟨105, [], [some (.outs 22 1 q02.length idO (lenO q02)), some (.rows 3 .i64 q02), some (.pin 0 pl0)]⟩ rfl ?_
          with_reducible refine inBlockA_exit (thenC_normal ?_)
          refine AWP_seq ?_
          -- region 26
          refine AWP_rg tab_ok [2] fun c st' hr => ?_
          simp only [go_sem, reduceIte, reduceCtorEq, Nat.reduceEqDiff, Nat.reduceLT, Nat.reduceLeDiff, Nat.reduceBEq, Nat.reduceAdd, Nat.reduceMul, Nat.reduceSub, Nat.reducePow, Int.reduceLE, Int.reduceLT, Int.reduceNeg, Int.reduceToNat, Int.reduceAdd, Int.reduceSub, idO_app, lenO_app, lenO_app2, lenO_eta] at hr
          obtain ⟨rfl, rfl⟩ := hr
          refine ⟨vc, ?_⟩
          with_reducible refine thenC_normal ?_
          refine AWP_ret ?_
          cases hK
          refine EndsRW [0, 1, 2] (.inl rfl) (of_decide_eq_true rfl) (by simp) rfl (fun c x hr => ?_) endHR
          simp only [go_sem, reduceIte, reduceCtorEq, Nat.reduceEqDiff, Nat.reduceLT, Nat.reduceLeDiff, Nat.reduceBEq, Nat.reduceAdd, Nat.reduceMul, Nat.reduceSub, Nat.reducePow, Int.reduceLE, Int.reduceLT, Int.reduceNeg, Int.reduceToNat, Int.reduceAdd, Int.reduceSub, idO_app, lenO_app, lenO_app2, lenO_eta] at hr
          obtain ⟨rfl, rfl⟩ := hr
          exact ⟨rfl, endR⟩

set_option maxRecDepth 8000 in
set_option maxHeartbeats 4000000 in
theorem W_links_ways {g_0 : Int} {g_1 : List (Int × Int)} {from0 : Int} {to : Int} {r : Int} (hK : links_ways g_0 g_1 from0 to = some r) : Pure Try.prog 89 [.agg [.int .i64 g_0, .fn 2 g_1.length (fun i => [.int .i64 ((g_1.getD i (0, 0)).1), .int .i64 ((g_1.getD i (0, 0)).2)])], .int .i64 from0, .int .i64 to] (.int .i64 r) [] := by
  refine Pure_introF tab_ok (n := 18) (l := [.tmp 6]) Try.func89 rfl rfl rfl (by simp) fun hfact w0 => ?_
  simp only [factL1, fact1, fact0, factL0, lo, hi, maxLen, and_true] at hfact
  unfold links_ways at hK
  refine AWP_seq ?_
  -- region 0
  refine AWP_rg tab_ok [1, 2, 3] fun c st' hr => ?_
  simp only [go_sem, reduceIte, reduceCtorEq, Nat.reduceEqDiff, Nat.reduceLT, Nat.reduceLeDiff, Nat.reduceBEq, Nat.reduceAdd, Nat.reduceMul, Nat.reduceSub, Nat.reducePow, Int.reduceLE, Int.reduceLT, Int.reduceNeg, Int.reduceToNat, Int.reduceAdd, Int.reduceSub, idO_app, lenO_app, lenO_app2, lenO_eta] at hr
  obtain ⟨rfl, rfl⟩ := hr
  refine ⟨vc, ?_⟩
  with_reducible refine thenC_normal ?_
  refine AWP_seq ?_
  -- region 1
  refine AWP_rl ?_
  refine AWPL_rn tab_ok 3 [9, 10, 11] fun c st' hr => ?_
  simp only [go_sem, reduceIte, reduceCtorEq, Nat.reduceEqDiff, Nat.reduceLT, Nat.reduceLeDiff, Nat.reduceBEq, Nat.reduceAdd, Nat.reduceMul, Nat.reduceSub, Nat.reducePow, Int.reduceLE, Int.reduceLT, Int.reduceNeg, Int.reduceToNat, Int.reduceAdd, Int.reduceSub, idO_app, lenO_app, lenO_app2, lenO_eta] at hr
  obtain ⟨rfl, rfl⟩ := hr
  refine ⟨vc, ?_⟩
  replace hK := bind_s hK
  obtain ⟨y, hy, hK⟩ := hK
  refine AWPL_callK [12] (W_links_laid hy) rfl rfl pcT rfl Try.call117 (.cons (.agg _ _ rfl (ArgsOk.get (.cons (.atom _ rfl) (.cons (.atom _ rfl) .nil))).2) (.cons (.atom _ rfl) (.cons (.atom _ rfl) .nil))) (hscG trivial) (of_decide_eq_true rfl) (by first | rfl | simp [nI, nI1, nI0]) (by first | rfl | simp [nIB, nI0]) fun st' hr => ?_
  simp only [go_sem, reduceIte, reduceCtorEq, Nat.reduceEqDiff, Nat.reduceLT, Nat.reduceLeDiff, Nat.reduceBEq, Nat.reduceAdd, Nat.reduceMul, Nat.reduceSub, Nat.reducePow, Int.reduceLE, Int.reduceLT, Int.reduceNeg, Int.reduceToNat, Int.reduceAdd, Int.reduceSub, idO_app, lenO_app, lenO_app2, lenO_eta] at hr
  subst hr
  clear hy
  refine AWPL_rn tab_ok 1 [7] fun c st' hr => ?_
  simp only [go_sem, reduceIte, reduceCtorEq, Nat.reduceEqDiff, Nat.reduceLT, Nat.reduceLeDiff, Nat.reduceBEq, Nat.reduceAdd, Nat.reduceMul, Nat.reduceSub, Nat.reducePow, Int.reduceLE, Int.reduceLT, Int.reduceNeg, Int.reduceToNat, Int.reduceAdd, Int.reduceSub, idO_app, lenO_app, lenO_app2, lenO_eta] at hr
  obtain ⟨rfl, rfl⟩ := hr
  refine ⟨vc, ?_⟩
  refine AWPL_nil ?_
  with_reducible refine thenC_normal ?_
  refine AWP_seq ?_
  -- region 2
  refine AWP_rg tab_ok [7, 8] fun c st' hr => ?_
  simp only [go_sem, reduceIte, reduceCtorEq, Nat.reduceEqDiff, Nat.reduceLT, Nat.reduceLeDiff, Nat.reduceBEq, Nat.reduceAdd, Nat.reduceMul, Nat.reduceSub, Nat.reducePow, Int.reduceLE, Int.reduceLT, Int.reduceNeg, Int.reduceToNat, Int.reduceAdd, Int.reduceSub, idO_app, lenO_app, lenO_app2, lenO_eta] at hr
  obtain ⟨rfl, rfl⟩ := hr
  refine ⟨vc, ?_⟩
  with_reducible refine thenC_normal ?_
  refine AWP_seq ?_
  refine AWP_block ?_
  refine AWP_loopX 0 (fun ((p, n) : List (List Int) × Int) => ⟨18, [(7, .own 0 p.length), (8, .int .i64 n)], [some (.outs 22 1 p.length idO (lenO p)), some (.rows 3 .i64 p)]⟩) (fun (n1 : Int) => ⟨18, [(8, .int .i64 n1)], []⟩) (fun v => v) (y, 0) [1, 2] hK mkWkR ?_ ?_
  · clear hK; rintro ⟨p, n⟩ b hK hpost1
    try dsimp only at hK
    change AWP _ _ _ _ ⟨18, [(7, .own 0 p.length), (8, .int .i64 n)], [some (.outs 22 1 p.length idO (lenO p)), some (.rows 3 .i64 p)]⟩
    refine AWP_seq ?_
    refine AWP_seq ?_
    -- region 3
    refine AWP_rl ?_
    refine AWPL_rn tab_ok 1 [7, 8, 13] fun c st' hr => ?_
    simp only [go_sem, reduceIte, reduceCtorEq, Nat.reduceEqDiff, Nat.reduceLT, Nat.reduceLeDiff, Nat.reduceBEq, Nat.reduceAdd, Nat.reduceMul, Nat.reduceSub, Nat.reducePow, Int.reduceLE, Int.reduceLT, Int.reduceNeg, Int.reduceToNat, Int.reduceAdd, Int.reduceSub, idO_app, lenO_app, lenO_app2, lenO_eta] at hr
    obtain ⟨rfl, rfl⟩ := hr
    refine ⟨vc, ?_⟩
    replace hK := bind_s hK
    obtain ⟨y1, hy, hK⟩ := hK
    replace hK := chk_some hK
    obtain ⟨h, hK⟩ := hK
    refine AWPL_gM [7, 8, 14] [0, 1] [.own 0 p.length] [some (.outs 22 2 y1.2.length idO (lenO y1.2)), none, some (.rows 3 .i64 y1.2)] (W_links_pipes_more hy) rfl rfl pcT rfl Try.call118 (of_decide_eq_true rfl) ⟨rfl, rfl, trivial⟩ rfl (hscG trivial) (of_decide_eq_true rfl) rfl rfl (of_decide_eq_true rfl) rfl fun st' hr => ?_
    simp only [go_sem, reduceIte, reduceCtorEq, Nat.reduceEqDiff, Nat.reduceLT, Nat.reduceLeDiff, Nat.reduceBEq, Nat.reduceAdd, Nat.reduceMul, Nat.reduceSub, Nat.reducePow, Int.reduceLE, Int.reduceLT, Int.reduceNeg, Int.reduceToNat, Int.reduceAdd, Int.reduceSub, idO_app, lenO_app, lenO_app2, lenO_eta] at hr
    subst hr
    clear hy
    refine AWPL_stP [(7, .own 0 y1.2.length), (8, .int .i64 n), (14, .bool y1.1)] (by simp [SameS, AX.look, h]) ?_
    refine AWPL_nil ?_
    with_reducible refine thenC_normal ?_
    refine AWP_condP (y1.1 = true) rfl bd (fun hb => ?_) (fun hb => ?_)
    · replace hK := ite_t hK hb
      refine AWP_skip ?_
      with_reducible refine thenC_normal ?_
      refine AWP_block ?_
      -- region 4
      replace hK := chk_some hK
      obtain ⟨h1, hK⟩ := hK
      refine AWP_rg tab_ok [7, 8] fun c st' hr => ?_
      simp only [go_sem, reduceIte, reduceCtorEq, Nat.reduceEqDiff, Nat.reduceLT, Nat.reduceLeDiff, Nat.reduceBEq, Nat.reduceAdd, Nat.reduceMul, Nat.reduceSub, Nat.reducePow, Int.reduceLE, Int.reduceLT, Int.reduceNeg, Int.reduceToNat, Int.reduceAdd, Int.reduceSub, idO_app, lenO_app, lenO_app2, lenO_eta] at hr
      obtain ⟨rfl, rfl⟩ := hr
      refine ⟨vc, ?_⟩
      with_reducible refine inBlockA_normal ?_
      refine again_n (y1.2, n + 1) [0, 2] hK mkWkR
    · replace hK := ite_f hK hb
      refine AWP_exit ?_
      with_reducible refine thenC_exit (again_x ?_)
      refine cutX_here n [] (by have hq := hpost1 _ hK; exact hq) mkWkR
  · clear hK; rintro n1 hK
    try dsimp only at hK
    refine exS ⟨18, [(8, .int .i64 n1)], []⟩ rfl ?_
    with_reducible refine inBlockA_exit (thenC_normal ?_)
    refine AWP_seq ?_
    -- region 5
    refine AWP_rg tab_ok [6] fun c st' hr => ?_
    simp only [go_sem, reduceIte, reduceCtorEq, Nat.reduceEqDiff, Nat.reduceLT, Nat.reduceLeDiff, Nat.reduceBEq, Nat.reduceAdd, Nat.reduceMul, Nat.reduceSub, Nat.reducePow, Int.reduceLE, Int.reduceLT, Int.reduceNeg, Int.reduceToNat, Int.reduceAdd, Int.reduceSub, idO_app, lenO_app, lenO_app2, lenO_eta] at hr
    obtain ⟨rfl, rfl⟩ := hr
    refine ⟨vc, ?_⟩
    with_reducible refine thenC_normal ?_
    refine AWP_ret ?_
    cases hK
    refine EndsRW [] (.inl rfl) (of_decide_eq_true rfl) (by simp) rfl (fun c x hr => ?_) trivial
    simp only [go_sem, reduceIte, reduceCtorEq, Nat.reduceEqDiff, Nat.reduceLT, Nat.reduceLeDiff, Nat.reduceBEq, Nat.reduceAdd, Nat.reduceMul, Nat.reduceSub, Nat.reducePow, Int.reduceLE, Int.reduceLT, Int.reduceNeg, Int.reduceToNat, Int.reduceAdd, Int.reduceSub, idO_app, lenO_app, lenO_app2, lenO_eta] at hr
    obtain ⟨rfl, rfl⟩ := hr
    exact ⟨rfl, endR⟩

set_option maxRecDepth 8000 in
set_option maxHeartbeats 4000000 in
theorem W_links_Most {g_0 : Int} {g_1 : List (Int × Int)} {from0 : Int} {to : Int} {r : Int × Int} (hK : links_Most g_0 g_1 from0 to = some r) : Pure Try.prog 39 [.agg [.int .i64 g_0, .fn 2 g_1.length (fun i => [.int .i64 ((g_1.getD i (0, 0)).1), .int .i64 ((g_1.getD i (0, 0)).2)])], .int .i64 from0, .int .i64 to] (.tup [.int .i64 r.1, .int .i64 r.2]) [] := by
  refine Pure_introF tab_ok (n := 21) (l := [.tmp 6, .tmp 7]) Try.func39 rfl rfl rfl (by simp) fun hfact w0 => ?_
  simp only [factL1, fact1, fact0, factL0, lo, hi, maxLen, and_true] at hfact
  unfold links_Most at hK
  refine AWP_seq ?_
  -- region 0
  refine AWP_rg tab_ok [1, 2, 3] fun c st' hr => ?_
  simp only [go_sem, reduceIte, reduceCtorEq, Nat.reduceEqDiff, Nat.reduceLT, Nat.reduceLeDiff, Nat.reduceBEq, Nat.reduceAdd, Nat.reduceMul, Nat.reduceSub, Nat.reducePow, Int.reduceLE, Int.reduceLT, Int.reduceNeg, Int.reduceToNat, Int.reduceAdd, Int.reduceSub] at hr
  obtain ⟨rfl, rfl⟩ := hr
  refine ⟨vc, ?_⟩
  with_reducible refine thenC_normal ?_
  refine AWP_seq ?_
  refine AWP_seq ?_
  -- region 1
  refine AWP_rl ?_
  refine AWPL_rn tab_ok 4 [1, 2, 3, 9, 12] fun c st' hr => ?_
  simp only [go_sem, reduceIte, reduceCtorEq, Nat.reduceEqDiff, Nat.reduceLT, Nat.reduceLeDiff, Nat.reduceBEq, Nat.reduceAdd, Nat.reduceMul, Nat.reduceSub, Nat.reducePow, Int.reduceLE, Int.reduceLT, Int.reduceNeg, Int.reduceToNat, Int.reduceAdd, Int.reduceSub] at hr
  obtain ⟨rfl, rfl⟩ := hr
  refine ⟨vc, ?_⟩
  replace hK := bind_s hK
  obtain ⟨y, hy, hK⟩ := hK
  refine AWPL_callK [1, 2, 3, 13] (W_links_right hy) rfl rfl pcT rfl Try.call86 (.cons (.agg _ _ rfl (ArgsOk.get (.cons (.atom _ rfl) (.cons (.atom _ rfl) .nil))).2) (.cons (.ownI _ _ _ _ _ [from0, to] rfl (by simp) (by first | simp | exact List.take_of_length_le (by simp))) .nil)) (hscG trivial) (of_decide_eq_true rfl) (by first | rfl | simp [nI, nI1, nI0]) (by first | rfl | simp [nIB, nI0]) fun st' hr => ?_
  simp only [go_sem, reduceIte, reduceCtorEq, Nat.reduceEqDiff, Nat.reduceLT, Nat.reduceLeDiff, Nat.reduceBEq, Nat.reduceAdd, Nat.reduceMul, Nat.reduceSub, Nat.reducePow, Int.reduceLE, Int.reduceLT, Int.reduceNeg, Int.reduceToNat, Int.reduceAdd, Int.reduceSub] at hr
  subst hr
  clear hy
  refine AWPL_rn tab_ok 1 [1, 2, 3, 8] fun c st' hr => ?_
  simp only [go_sem, reduceIte, reduceCtorEq, Nat.reduceEqDiff, Nat.reduceLT, Nat.reduceLeDiff, Nat.reduceBEq, Nat.reduceAdd, Nat.reduceMul, Nat.reduceSub, Nat.reducePow, Int.reduceLE, Int.reduceLT, Int.reduceNeg, Int.reduceToNat, Int.reduceAdd, Int.reduceSub] at hr
  obtain ⟨rfl, rfl⟩ := hr
  refine ⟨vc, ?_⟩
  refine AWPL_nil ?_
  with_reducible refine thenC_normal ?_
  refine AWP_seq ?_
  -- region 2
  refine AWP_rg tab_ok [1, 2, 3, 8, 15] fun c st' hr => ?_
  simp only [go_sem, reduceIte, reduceCtorEq, Nat.reduceEqDiff, Nat.reduceLT, Nat.reduceLeDiff, Nat.reduceBEq, Nat.reduceAdd, Nat.reduceMul, Nat.reduceSub, Nat.reducePow, Int.reduceLE, Int.reduceLT, Int.reduceNeg, Int.reduceToNat, Int.reduceAdd, Int.reduceSub] at hr
  obtain ⟨rfl, rfl⟩ := hr
  refine ⟨vc, ?_⟩
  with_reducible refine thenC_normal ?_
  refine AWP_condP (y ≠ 0) rfl bd (fun hb => ?_) (fun hb => ?_)
  · replace hK := ite_t hK hb
    refine AWP_seq ?_
    -- region 3
    refine AWP_rg tab_ok [6, 7] fun c st' hr => ?_
    simp only [go_sem, reduceIte, reduceCtorEq, Nat.reduceEqDiff, Nat.reduceLT, Nat.reduceLeDiff, Nat.reduceBEq, Nat.reduceAdd, Nat.reduceMul, Nat.reduceSub, Nat.reducePow, Int.reduceLE, Int.reduceLT, Int.reduceNeg, Int.reduceToNat, Int.reduceAdd, Int.reduceSub] at hr
    obtain ⟨rfl, rfl⟩ := hr
    refine ⟨vc, ?_⟩
    with_reducible refine thenC_normal ?_
    refine AWP_ret ?_
    with_reducible refine thenC_ret ?_
    cases hK
    refine EndsRW [] (.inl rfl) (of_decide_eq_true rfl) (by simp) rfl (fun c x hr => ?_) trivial
    simp only [go_sem, reduceIte, reduceCtorEq, Nat.reduceEqDiff, Nat.reduceLT, Nat.reduceLeDiff, Nat.reduceBEq, Nat.reduceAdd, Nat.reduceMul, Nat.reduceSub, Nat.reducePow, Int.reduceLE, Int.reduceLT, Int.reduceNeg, Int.reduceToNat, Int.reduceAdd, Int.reduceSub] at hr
    obtain ⟨rfl, rfl⟩ := hr
    exact ⟨rfl, endR⟩
  · replace hK := ite_f hK hb
    refine AWP_skip ?_
    with_reducible refine thenC_normal ?_
    refine AWP_seq ?_
    -- region 4
    refine AWP_rl ?_
    refine AWPL_rn tab_ok 3 [17, 18, 19] fun c st' hr => ?_
    simp only [go_sem, reduceIte, reduceCtorEq, Nat.reduceEqDiff, Nat.reduceLT, Nat.reduceLeDiff, Nat.reduceBEq, Nat.reduceAdd, Nat.reduceMul, Nat.reduceSub, Nat.reducePow, Int.reduceLE, Int.reduceLT, Int.reduceNeg, Int.reduceToNat, Int.reduceAdd, Int.reduceSub] at hr
    obtain ⟨rfl, rfl⟩ := hr
    refine ⟨vc, ?_⟩
    replace hK := bind_s hK
    obtain ⟨y1, hy, hK⟩ := hK
    refine AWPL_callK [20] (W_links_ways hy) rfl rfl pcT rfl Try.call89 (.cons (.agg _ _ rfl (ArgsOk.get (.cons (.atom _ rfl) (.cons (.atom _ rfl) .nil))).2) (.cons (.atom _ rfl) (.cons (.atom _ rfl) .nil))) (hscG trivial) (of_decide_eq_true rfl) (by first | rfl | simp [nI, nI1, nI0]) (by first | rfl | simp [nIB, nI0]) fun st' hr => ?_
    simp only [go_sem, reduceIte, reduceCtorEq, Nat.reduceEqDiff, Nat.reduceLT, Nat.reduceLeDiff, Nat.reduceBEq, Nat.reduceAdd, Nat.reduceMul, Nat.reduceSub, Nat.reducePow, Int.reduceLE, Int.reduceLT, Int.reduceNeg, Int.reduceToNat, Int.reduceAdd, Int.reduceSub] at hr
    subst hr
    clear hy
    refine AWPL_rn tab_ok 2 [6, 7] fun c st' hr => ?_
    simp only [go_sem, reduceIte, reduceCtorEq, Nat.reduceEqDiff, Nat.reduceLT, Nat.reduceLeDiff, Nat.reduceBEq, Nat.reduceAdd, Nat.reduceMul, Nat.reduceSub, Nat.reducePow, Int.reduceLE, Int.reduceLT, Int.reduceNeg, Int.reduceToNat, Int.reduceAdd, Int.reduceSub] at hr
    obtain ⟨rfl, rfl⟩ := hr
    refine ⟨vc, ?_⟩
    refine AWPL_nil ?_
    with_reducible refine thenC_normal ?_
    refine AWP_ret ?_
    cases hK
    refine EndsRW [] (.inl rfl) (of_decide_eq_true rfl) (by simp) rfl (fun c x hr => ?_) trivial
    simp only [go_sem, reduceIte, reduceCtorEq, Nat.reduceEqDiff, Nat.reduceLT, Nat.reduceLeDiff, Nat.reduceBEq, Nat.reduceAdd, Nat.reduceMul, Nat.reduceSub, Nat.reducePow, Int.reduceLE, Int.reduceLT, Int.reduceNeg, Int.reduceToNat, Int.reduceAdd, Int.reduceSub] at hr
    obtain ⟨rfl, rfl⟩ := hr
    exact ⟨rfl, endR⟩

set_option maxRecDepth 8000 in
set_option maxHeartbeats 4000000 in
theorem W_links_Sets {g_0 : Int} {g_1 : List (Int × Int)} {to : Int} {r : List Int × Int} (hK : links_Sets g_0 g_1 to = some r) : Pure Try.prog 44 [.agg [.int .i64 g_0, .fn 2 g_1.length (fun i => [.int .i64 ((g_1.getD i (0, 0)).1), .int .i64 ((g_1.getD i (0, 0)).2)])], .int .i64 to] (.tup [.own 0 r.1.length, .int .i64 r.2]) [(.ints 3 .i64 r.1)] := by
  refine Pure_introF tab_ok (n := 54) (l := [.tmp 4, .tmp 5]) Try.func44 rfl rfl rfl (by simp) fun hfact w0 => ?_
  simp only [factL1, fact1, fact0, factL0, lo, hi, maxLen, and_true] at hfact
  unfold links_Sets at hK
  refine AWP_seq ?_
  -- region 0
  refine AWP_rg tab_ok [1, 2] fun c st' hr => ?_
  simp only [go_sem, reduceIte, reduceCtorEq, Nat.reduceEqDiff, Nat.reduceLT, Nat.reduceLeDiff, Nat.reduceBEq, Nat.reduceAdd, Nat.reduceMul, Nat.reduceSub, Nat.reducePow, Int.reduceLE, Int.reduceLT, Int.reduceNeg, Int.reduceToNat, Int.reduceAdd, Int.reduceSub] at hr
  obtain ⟨rfl, rfl⟩ := hr
  refine ⟨vc, ?_⟩
  with_reducible refine thenC_normal ?_
  refine AWP_seq ?_
  refine AWP_seq ?_
  -- region 1
  refine AWP_rl ?_
  refine AWPL_rn tab_ok 3 [1, 2, 12, 14] fun c st' hr => ?_
  simp only [go_sem, reduceIte, reduceCtorEq, Nat.reduceEqDiff, Nat.reduceLT, Nat.reduceLeDiff, Nat.reduceBEq, Nat.reduceAdd, Nat.reduceMul, Nat.reduceSub, Nat.reducePow, Int.reduceLE, Int.reduceLT, Int.reduceNeg, Int.reduceToNat, Int.reduceAdd, Int.reduceSub] at hr
  obtain ⟨rfl, rfl⟩ := hr
  refine ⟨vc, ?_⟩
  replace hK := bind_s hK
  obtain ⟨y, hy, hK⟩ := hK
  refine AWPL_callK [1, 2, 15] (W_links_right hy) rfl rfl pcT rfl Try.call86 (.cons (.agg _ _ rfl (ArgsOk.get (.cons (.atom _ rfl) (.cons (.atom _ rfl) .nil))).2) (.cons (.ownI _ _ _ _ _ [to] rfl (by simp) (by first | simp | exact List.take_of_length_le (by simp))) .nil)) (hscG trivial) (of_decide_eq_true rfl) (by first | rfl | simp [nI, nI1, nI0]) (by first | rfl | simp [nIB, nI0]) fun st' hr => ?_
  simp only [go_sem, reduceIte, reduceCtorEq, Nat.reduceEqDiff, Nat.reduceLT, Nat.reduceLeDiff, Nat.reduceBEq, Nat.reduceAdd, Nat.reduceMul, Nat.reduceSub, Nat.reducePow, Int.reduceLE, Int.reduceLT, Int.reduceNeg, Int.reduceToNat, Int.reduceAdd, Int.reduceSub] at hr
  subst hr
  clear hy
  refine AWPL_rn tab_ok 1 [1, 2, 6] fun c st' hr => ?_
  simp only [go_sem, reduceIte, reduceCtorEq, Nat.reduceEqDiff, Nat.reduceLT, Nat.reduceLeDiff, Nat.reduceBEq, Nat.reduceAdd, Nat.reduceMul, Nat.reduceSub, Nat.reducePow, Int.reduceLE, Int.reduceLT, Int.reduceNeg, Int.reduceToNat, Int.reduceAdd, Int.reduceSub] at hr
  obtain ⟨rfl, rfl⟩ := hr
  refine ⟨vc, ?_⟩
  refine AWPL_nil ?_
  with_reducible refine thenC_normal ?_
  refine AWP_seq ?_
  -- region 2
  refine AWP_rg tab_ok [1, 2, 6, 17] fun c st' hr => ?_
  simp only [go_sem, reduceIte, reduceCtorEq, Nat.reduceEqDiff, Nat.reduceLT, Nat.reduceLeDiff, Nat.reduceBEq, Nat.reduceAdd, Nat.reduceMul, Nat.reduceSub, Nat.reducePow, Int.reduceLE, Int.reduceLT, Int.reduceNeg, Int.reduceToNat, Int.reduceAdd, Int.reduceSub] at hr
  obtain ⟨rfl, rfl⟩ := hr
  refine ⟨vc, ?_⟩
  with_reducible refine thenC_normal ?_
  refine AWP_condP (y ≠ 0) rfl bd (fun hb => ?_) (fun hb => ?_)
  · replace hK := ite_t hK hb
    refine AWP_seq ?_
    -- region 3
    refine AWP_rg tab_ok [4, 5] fun c st' hr => ?_
    simp only [go_sem, reduceIte, reduceCtorEq, Nat.reduceEqDiff, Nat.reduceLT, Nat.reduceLeDiff, Nat.reduceBEq, Nat.reduceAdd, Nat.reduceMul, Nat.reduceSub, Nat.reducePow, Int.reduceLE, Int.reduceLT, Int.reduceNeg, Int.reduceToNat, Int.reduceAdd, Int.reduceSub] at hr
    obtain ⟨rfl, rfl⟩ := hr
    refine ⟨vc, ?_⟩
    with_reducible refine thenC_normal ?_
    refine AWP_own 4 (.ints 3 .i64 []) rfl rfl fun st' hr => ?_
    simp only [go_sem, reduceIte, reduceCtorEq, Nat.reduceEqDiff, Nat.reduceLT, Nat.reduceLeDiff, Nat.reduceBEq, Nat.reduceAdd, Nat.reduceMul, Nat.reduceSub, Nat.reducePow, Int.reduceLE, Int.reduceLT, Int.reduceNeg, Int.reduceToNat, Int.reduceAdd, Int.reduceSub] at hr
    subst hr
    refine AWP_ret ?_
    with_reducible refine thenC_ret ?_
    cases hK
    refine EndsRW [2] (.inl rfl) (of_decide_eq_true rfl) (by simp) rfl (fun c x hr => ?_) endH
    simp only [go_sem, reduceIte, reduceCtorEq, Nat.reduceEqDiff, Nat.reduceLT, Nat.reduceLeDiff, Nat.reduceBEq, Nat.reduceAdd, Nat.reduceMul, Nat.reduceSub, Nat.reducePow, Int.reduceLE, Int.reduceLT, Int.reduceNeg, Int.reduceToNat, Int.reduceAdd, Int.reduceSub] at hr
    obtain ⟨rfl, rfl⟩ := hr
    exact ⟨rfl, endR⟩
  · replace hK := ite_f hK hb
    refine AWP_skip ?_
    with_reducible refine thenC_normal ?_
    refine AWP_seq ?_
    -- region 4
    refine AWP_rg tab_ok [1, 2, 7] fun c st' hr => ?_
    simp only [go_sem, reduceIte, reduceCtorEq, Nat.reduceEqDiff, Nat.reduceLT, Nat.reduceLeDiff, Nat.reduceBEq, Nat.reduceAdd, Nat.reduceMul, Nat.reduceSub, Nat.reducePow, Int.reduceLE, Int.reduceLT, Int.reduceNeg, Int.reduceToNat, Int.reduceAdd, Int.reduceSub] at hr
    obtain ⟨rfl, rfl⟩ := hr
    refine ⟨vc, ?_⟩
    with_reducible refine thenC_normal ?_
    refine AWP_own 7 (.ints 3 .i64 []) rfl rfl fun st' hr => ?_
    simp only [go_sem, reduceIte, reduceCtorEq, Nat.reduceEqDiff, Nat.reduceLT, Nat.reduceLeDiff, Nat.reduceBEq, Nat.reduceAdd, Nat.reduceMul, Nat.reduceSub, Nat.reducePow, Int.reduceLE, Int.reduceLT, Int.reduceNeg, Int.reduceToNat, Int.reduceAdd, Int.reduceSub] at hr
    subst hr
    refine AWP_seq ?_
    refine AWP_seq ?_
    -- region 5
    refine AWP_rg tab_ok [1, 2, 7, 20, 21] fun c st' hr => ?_
    simp only [go_sem, reduceIte, reduceCtorEq, Nat.reduceEqDiff, Nat.reduceLT, Nat.reduceLeDiff, Nat.reduceBEq, Nat.reduceAdd, Nat.reduceMul, Nat.reduceSub, Nat.reducePow, Int.reduceLE, Int.reduceLT, Int.reduceNeg, Int.reduceToNat, Int.reduceAdd, Int.reduceSub] at hr
    obtain ⟨rfl, rfl⟩ := hr
    refine ⟨vc, ?_⟩
    with_reducible refine thenC_normal ?_
    refine AWP_block ?_
    refine AWP_loopX 0 (fun ((out0, v) : List Int × Int) => ⟨54, [(1, .int .i64 to), (2, .ptr 0 0 0), (7, .own 1 out0.length), (20, .int .i64 g_0), (21, .int .i64 v)], [some (.gen 39 2 [[.int .i64 g_0, .fn 2 g_1.length (fun i => [.int .i64 ((g_1.getD i (0, 0)).1), .int .i64 ((g_1.getD i (0, 0)).2)])]]), some (.ints 3 .i64 out0)]⟩) (fun (out01 : List Int) => ⟨54, [(7, .own 0 out01.length)], [some (.ints 3 .i64 out01)]⟩) (fun v => v) ([], 0) [0, 2] hK mkWk ?_ ?_
    · clear hK; rintro ⟨out0, v⟩ b hK hpost1
      try dsimp only at hK
      change AWP _ _ _ _ ⟨54, [(1, .int .i64 to), (2, .ptr 0 0 0), (7, .own 1 out0.length), (20, .int .i64 g_0), (21, .int .i64 v)], [some (.gen 39 2 [[.int .i64 g_0, .fn 2 g_1.length (fun i => [.int .i64 ((g_1.getD i (0, 0)).1), .int .i64 ((g_1.getD i (0, 0)).2)])]]), some (.ints 3 .i64 out0)]⟩
      refine AWP_seq ?_
      -- region 6
      refine AWP_rg tab_ok [1, 2, 7, 20, 21, 22] fun c st' hr => ?_
      simp only [go_sem, reduceIte, reduceCtorEq, Nat.reduceEqDiff, Nat.reduceLT, Nat.reduceLeDiff, Nat.reduceBEq, Nat.reduceAdd, Nat.reduceMul, Nat.reduceSub, Nat.reducePow, Int.reduceLE, Int.reduceLT, Int.reduceNeg, Int.reduceToNat, Int.reduceAdd, Int.reduceSub] at hr
      obtain ⟨rfl, rfl⟩ := hr
      refine ⟨vc, ?_⟩
      with_reducible refine thenC_normal ?_
      refine AWP_seq ?_
      refine AWP_condP (v < g_0) rfl bd (fun hb1 => ?_) (fun hb1 => ?_)
      · replace hK := ite_t hK hb1
        refine AWP_skip ?_
        with_reducible refine thenC_normal ?_
        refine AWP_seq ?_
        refine AWP_block ?_
        refine AWP_seq ?_
        -- region 7
        refine AWP_rg tab_ok [1, 2, 7, 8, 20, 21] fun c st' hr => ?_
        simp only [go_sem, reduceIte, reduceCtorEq, Nat.reduceEqDiff, Nat.reduceLT, Nat.reduceLeDiff, Nat.reduceBEq, Nat.reduceAdd, Nat.reduceMul, Nat.reduceSub, Nat.reducePow, Int.reduceLE, Int.reduceLT, Int.reduceNeg, Int.reduceToNat, Int.reduceAdd, Int.reduceSub] at hr
        obtain ⟨rfl, rfl⟩ := hr
        refine ⟨vc, ?_⟩
        with_reducible refine thenC_normal ?_
        refine AWP_seq ?_
        refine AWP_seq ?_
        -- region 8
        replace hK := chk_some hK
        obtain ⟨h, hK⟩ := hK
        refine AWP_rg tab_ok [1, 2, 7, 8, 20, 21, 28] fun c st' hr => ?_
        simp only [go_sem, reduceIte, reduceCtorEq, Nat.reduceEqDiff, Nat.reduceLT, Nat.reduceLeDiff, Nat.reduceBEq, Nat.reduceAdd, Nat.reduceMul, Nat.reduceSub, Nat.reducePow, Int.reduceLE, Int.reduceLT, Int.reduceNeg, Int.reduceToNat, Int.reduceAdd, Int.reduceSub] at hr
        obtain ⟨rfl, rfl⟩ := hr
        refine ⟨vc, ?_⟩
        with_reducible refine thenC_normal ?_
        refine AWP_condP (iand (to / 2 ^ v.toNat) 1 = 1) rfl bd (fun hb2 => ?_) (fun hb2 => ?_)
        · replace hK := ite_t hK hb2
          refine AWP_exit ?_
          with_reducible refine thenC_exit (inBlockA_exit (thenC_normal ?_))
          -- region 17
          refine AWP_facts (by simp) fun hfx => ?_
          simp only [factS, factV, fact1, fact0, factL0, lo, hi, maxLen, and_true, true_and] at hfx
          refine AWP_rg tab_ok [1, 2, 7, 20, 21] fun c st' hr => ?_
          simp only [go_sem, reduceIte, reduceCtorEq, Nat.reduceEqDiff, Nat.reduceLT, Nat.reduceLeDiff, Nat.reduceBEq, Nat.reduceAdd, Nat.reduceMul, Nat.reduceSub, Nat.reducePow, Int.reduceLE, Int.reduceLT, Int.reduceNeg, Int.reduceToNat, Int.reduceAdd, Int.reduceSub] at hr
          obtain ⟨rfl, rfl⟩ := hr
          refine ⟨vc, ?_⟩
          clear hfx
          refine again_n (out0, v + 1) [0, 1] hK mkWk
        · replace hK := ite_f hK hb2
          refine AWP_skip ?_
          with_reducible refine thenC_normal ?_
          refine AWP_seq ?_
          -- region 9
          replace hK := chk_some hK
          obtain ⟨h1, hK⟩ := hK
          refine AWP_rg tab_ok [1, 2, 7, 8, 9, 20, 21] fun c st' hr => ?_
          simp only [go_sem, reduceIte, reduceCtorEq, Nat.reduceEqDiff, Nat.reduceLT, Nat.reduceLeDiff, Nat.reduceBEq, Nat.reduceAdd, Nat.reduceMul, Nat.reduceSub, Nat.reducePow, Int.reduceLE, Int.reduceLT, Int.reduceNeg, Int.reduceToNat, Int.reduceAdd, Int.reduceSub] at hr
          obtain ⟨rfl, rfl⟩ := hr
          refine ⟨vc, ?_⟩
          with_reducible refine thenC_normal ?_
          refine AWP_seq ?_
          refine AWP_seq ?_
          -- region 10
          refine AWP_rg tab_ok [1, 2, 7, 8, 9, 20, 21, 32, 33, 34] fun c st' hr => ?_
          simp only [go_sem, reduceIte, reduceCtorEq, Nat.reduceEqDiff, Nat.reduceLT, Nat.reduceLeDiff, Nat.reduceBEq, Nat.reduceAdd, Nat.reduceMul, Nat.reduceSub, Nat.reducePow, Int.reduceLE, Int.reduceLT, Int.reduceNeg, Int.reduceToNat, Int.reduceAdd, Int.reduceSub] at hr
          obtain ⟨rfl, rfl⟩ := hr
          refine ⟨vc, ?_⟩
          with_reducible refine thenC_normal ?_
          refine AWP_block ?_
          refine AWP_loopX 2 (fun ((s, v1) : Int × Int) => ⟨54, [(1, .int .i64 to), (2, .ptr 0 0 0), (7, .own 1 out0.length), (8, .int .i64 v), (9, .int .i64 s), (20, .int .i64 g_0), (21, .int .i64 v), (32, .fn 2 g_1.length (fun i => [.int .i64 ((g_1.getD i (0, 0)).1), .int .i64 ((g_1.getD i (0, 0)).2)])), (33, .int .i64 (g_1.length : Int)), (34, .int .i64 v1)], [some (.gen 39 2 [[.int .i64 g_0, .fn 2 g_1.length (fun i => [.int .i64 ((g_1.getD i (0, 0)).1), .int .i64 ((g_1.getD i (0, 0)).2)])]]), some (.ints 3 .i64 out0)]⟩) (fun (s1 : Int) => ⟨54, [(1, .int .i64 to), (2, .ptr 0 0 0), (7, .own 1 out0.length), (9, .int .i64 s1), (20, .int .i64 g_0), (21, .int .i64 v)], [some (.gen 39 2 [[.int .i64 g_0, .fn 2 g_1.length (fun i => [.int .i64 ((g_1.getD i (0, 0)).1), .int .i64 ((g_1.getD i (0, 0)).2)])]]), some (.ints 3 .i64 out0)]⟩) (fun v => v) ((2 ^ v.toNat : Int), 0) [0, 1] hK mkWk ?_ ?_
          · clear hK; rintro ⟨s, v1⟩ b1 hK hpost2
            try dsimp only at hK
            change AWP _ _ _ _ ⟨54, [(1, .int .i64 to), (2, .ptr 0 0 0), (7, .own 1 out0.length), (8, .int .i64 v), (9, .int .i64 s), (20, .int .i64 g_0), (21, .int .i64 v), (32, .fn 2 g_1.length (fun i => [.int .i64 ((g_1.getD i (0, 0)).1), .int .i64 ((g_1.getD i (0, 0)).2)])), (33, .int .i64 (g_1.length : Int)), (34, .int .i64 v1)], [some (.gen 39 2 [[.int .i64 g_0, .fn 2 g_1.length (fun i => [.int .i64 ((g_1.getD i (0, 0)).1), .int .i64 ((g_1.getD i (0, 0)).2)])]]), some (.ints 3 .i64 out0)]⟩
            refine AWP_seq ?_
            -- region 11
            refine AWP_rg tab_ok [1, 2, 7, 8, 9, 20, 21, 32, 33, 34, 35] fun c st' hr => ?_
            simp only [go_sem, reduceIte, reduceCtorEq, Nat.reduceEqDiff, Nat.reduceLT, Nat.reduceLeDiff, Nat.reduceBEq, Nat.reduceAdd, Nat.reduceMul, Nat.reduceSub, Nat.reducePow, Int.reduceLE, Int.reduceLT, Int.reduceNeg, Int.reduceToNat, Int.reduceAdd, Int.reduceSub] at hr
            obtain ⟨rfl, rfl⟩ := hr
            refine ⟨vc, ?_⟩
            with_reducible refine thenC_normal ?_
            refine AWP_seq ?_
            refine AWP_condP (v1 < (g_1.length : Int)) rfl bd (fun hb3 => ?_) (fun hb3 => ?_)
            · replace hK := ite_t hK hb3
              refine AWP_skip ?_
              with_reducible refine thenC_normal ?_
              refine AWP_seq ?_
              refine AWP_block ?_
              refine AWP_seq ?_
              -- region 12
              replace hK := chk_some hK
              obtain ⟨h2, hK⟩ := hK
              refine AWP_rg tab_ok [1, 2, 7, 8, 9, 11, 20, 21, 32, 33, 34] fun c st' hr => ?_
              simp only [go_sem, reduceIte, reduceCtorEq, Nat.reduceEqDiff, Nat.reduceLT, Nat.reduceLeDiff, Nat.reduceBEq, Nat.reduceAdd, Nat.reduceMul, Nat.reduceSub, Nat.reducePow, Int.reduceLE, Int.reduceLT, Int.reduceNeg, Int.reduceToNat, Int.reduceAdd, Int.reduceSub] at hr
              obtain ⟨rfl, rfl⟩ := hr
              refine ⟨vc, ?_⟩
              with_reducible refine thenC_normal ?_
              refine AWP_seq ?_
              -- region 13
              refine AWP_rg tab_ok [1, 2, 7, 8, 9, 11, 20, 21, 32, 33, 34, 41] fun c st' hr => ?_
              simp only [go_sem, reduceIte, reduceCtorEq, Nat.reduceEqDiff, Nat.reduceLT, Nat.reduceLeDiff, Nat.reduceBEq, Nat.reduceAdd, Nat.reduceMul, Nat.reduceSub, Nat.reducePow, Int.reduceLE, Int.reduceLT, Int.reduceNeg, Int.reduceToNat, Int.reduceAdd, Int.reduceSub] at hr
              obtain ⟨rfl, rfl⟩ := hr
              refine ⟨vc, ?_⟩
              with_reducible refine thenC_normal ?_
              refine AWP_condP ((g_1.getD v1.toNat (0, 0)).1 = v) rfl bd (fun hb4 => ?_) (fun hb4 => ?_)
              · replace hK := ite_t hK hb4
                -- region 14
                replace hK := chk_some hK
                obtain ⟨h3, hK⟩ := hK
                refine AWP_rg tab_ok [1, 2, 7, 8, 9, 20, 21, 32, 33, 34] fun c st' hr => ?_
                simp only [go_sem, reduceIte, reduceCtorEq, Nat.reduceEqDiff, Nat.reduceLT, Nat.reduceLeDiff, Nat.reduceBEq, Nat.reduceAdd, Nat.reduceMul, Nat.reduceSub, Nat.reducePow, Int.reduceLE, Int.reduceLT, Int.reduceNeg, Int.reduceToNat, Int.reduceAdd, Int.reduceSub] at hr
                obtain ⟨rfl, rfl⟩ := hr
                refine ⟨vc, ?_⟩
                with_reducible refine inBlockA_normal (thenC_normal ?_)
                -- region 15
                refine AWP_facts (by simp) fun hfx => ?_
                simp only [factS, factV, fact1, fact0, factL0, lo, hi, maxLen, and_true, true_and] at hfx
                refine AWP_rg tab_ok [1, 2, 7, 8, 9, 20, 21, 32, 33, 34] fun c st' hr => ?_
                simp only [go_sem, reduceIte, reduceCtorEq, Nat.reduceEqDiff, Nat.reduceLT, Nat.reduceLeDiff, Nat.reduceBEq, Nat.reduceAdd, Nat.reduceMul, Nat.reduceSub, Nat.reducePow, Int.reduceLE, Int.reduceLT, Int.reduceNeg, Int.reduceToNat, Int.reduceAdd, Int.reduceSub] at hr
                obtain ⟨rfl, rfl⟩ := hr
                refine ⟨vc, ?_⟩
                clear hfx
                refine again_n (ior s (2 ^ ((g_1.getD v1.toNat (0, 0)).2).toNat : Int), v1 + 1) [0, 1] hK mkWk
              · replace hK := ite_f hK hb4
                refine AWP_skip ?_
                with_reducible refine inBlockA_normal (thenC_normal ?_)
                -- region 15
                refine AWP_facts (by simp) fun hfx => ?_
                simp only [factS, factV, fact1, fact0, factL0, lo, hi, maxLen, and_true, true_and] at hfx
                refine AWP_rg tab_ok [1, 2, 7, 8, 9, 20, 21, 32, 33, 34] fun c st' hr => ?_
                simp only [go_sem, reduceIte, reduceCtorEq, Nat.reduceEqDiff, Nat.reduceLT, Nat.reduceLeDiff, Nat.reduceBEq, Nat.reduceAdd, Nat.reduceMul, Nat.reduceSub, Nat.reducePow, Int.reduceLE, Int.reduceLT, Int.reduceNeg, Int.reduceToNat, Int.reduceAdd, Int.reduceSub] at hr
                obtain ⟨rfl, rfl⟩ := hr
                refine ⟨vc, ?_⟩
                clear hfx
                refine again_n (s, v1 + 1) [0, 1] hK mkWk
            · replace hK := ite_f hK hb3
              refine AWP_exit ?_
              with_reducible refine thenC_exit (again_x ?_)
              refine cutX_here s [0, 1] (by have hq := hpost2 _ hK; exact hq) mkWk
          · clear hK; rintro s1 hK
            try dsimp only at hK
            refine exS ⟨54, [(1, .int .i64 to), (2, .ptr 0 0 0), (7, .own 1 out0.length), (9, .int .i64 s1), (20, .int .i64 g_0), (21, .int .i64 v)], [some (.gen 39 2 [[.int .i64 g_0, .fn 2 g_1.length (fun i => [.int .i64 ((g_1.getD i (0, 0)).1), .int .i64 ((g_1.getD i (0, 0)).2)])]]), some (.ints 3 .i64 out0)]⟩ rfl ?_
            with_reducible refine inBlockA_exit (thenC_normal ?_)
            -- region 16
            replace hK := chk_some hK
            obtain ⟨h4, hK⟩ := hK
            refine AWP_rg tab_ok [1, 2, 7, 20, 21] fun c st' hr => ?_
            simp only [go_sem, reduceIte, reduceCtorEq, Nat.reduceEqDiff, Nat.reduceLT, Nat.reduceLeDiff, Nat.reduceBEq, Nat.reduceAdd, Nat.reduceMul, Nat.reduceSub, Nat.reducePow, Int.reduceLE, Int.reduceLT, Int.reduceNeg, Int.reduceToNat, Int.reduceAdd, Int.reduceSub] at hr
            obtain ⟨rfl, rfl⟩ := hr
            refine ⟨vc, ?_⟩
            with_reducible refine inBlockA_normal (thenC_normal ?_)
            -- region 17
            refine AWP_facts (by simp) fun hfx => ?_
            simp only [factS, factV, fact1, fact0, factL0, lo, hi, maxLen, and_true, true_and] at hfx
            refine AWP_rg tab_ok [1, 2, 7, 20, 21] fun c st' hr => ?_
            simp only [go_sem, reduceIte, reduceCtorEq, Nat.reduceEqDiff, Nat.reduceLT, Nat.reduceLeDiff, Nat.reduceBEq, Nat.reduceAdd, Nat.reduceMul, Nat.reduceSub, Nat.reducePow, Int.reduceLE, Int.reduceLT, Int.reduceNeg, Int.reduceToNat, Int.reduceAdd, Int.reduceSub] at hr
            obtain ⟨rfl, rfl⟩ := hr
            refine ⟨vc, ?_⟩
            clear hfx
            refine again_n (out0 ++ [s1], v + 1) [0, 3] hK mkWk
      · replace hK := ite_f hK hb1
        refine AWP_exit ?_
        with_reducible refine thenC_exit (again_x ?_)
        refine cutX_here out0 [1] (by have hq := hpost1 _ hK; exact hq) mkWk
    · clear hK; rintro out01 hK
      try dsimp only at hK
      refine exS ⟨54, [(7, .own 0 out01.length)], [some (.ints 3 .i64 out01)]⟩ rfl ?_
      with_reducible refine inBlockA_exit (thenC_normal ?_)
      refine AWP_seq ?_
      -- region 18
      refine AWP_rg tab_ok [4, 5] fun c st' hr => ?_
      simp only [go_sem, reduceIte, reduceCtorEq, Nat.reduceEqDiff, Nat.reduceLT, Nat.reduceLeDiff, Nat.reduceBEq, Nat.reduceAdd, Nat.reduceMul, Nat.reduceSub, Nat.reducePow, Int.reduceLE, Int.reduceLT, Int.reduceNeg, Int.reduceToNat, Int.reduceAdd, Int.reduceSub] at hr
      obtain ⟨rfl, rfl⟩ := hr
      refine ⟨vc, ?_⟩
      with_reducible refine thenC_normal ?_
      refine AWP_ret ?_
      cases hK
      refine EndsRW [0] (.inl rfl) (of_decide_eq_true rfl) (by simp) rfl (fun c x hr => ?_) endH
      simp only [go_sem, reduceIte, reduceCtorEq, Nat.reduceEqDiff, Nat.reduceLT, Nat.reduceLeDiff, Nat.reduceBEq, Nat.reduceAdd, Nat.reduceMul, Nat.reduceSub, Nat.reducePow, Int.reduceLE, Int.reduceLT, Int.reduceNeg, Int.reduceToNat, Int.reduceAdd, Int.reduceSub] at hr
      obtain ⟨rfl, rfl⟩ := hr
      exact ⟨rfl, endR⟩

set_option maxRecDepth 8000 in
set_option maxHeartbeats 4000000 in
theorem W_links_Gammoid {g_0 : Int} {g_1 : List (Int × Int)} {to : Int} {r : Int × List Int × Int} (hK : links_Gammoid g_0 g_1 to = some r) : Pure Try.prog 45 [.agg [.int .i64 g_0, .fn 2 g_1.length (fun i => [.int .i64 ((g_1.getD i (0, 0)).1), .int .i64 ((g_1.getD i (0, 0)).2)])], .int .i64 to] (.tup [.agg [.int .i64 r.1, .own 0 r.2.1.length], .int .i64 r.2.2]) [(.ints 3 .i64 r.2.1)] := by
  refine Pure_introF tab_ok (n := 48) (l := [.cell 4 24, .tmp 5]) Try.func45 rfl rfl rfl (by simp) fun hfact w0 => ?_
  simp only [factL1, fact1, fact0, factL0, lo, hi, maxLen, and_true] at hfact
  unfold links_Gammoid at hK
  refine AWP_seq ?_
  -- region 0
  refine AWP_rg tab_ok [1, 2, 4] fun c st' hr => ?_
  simp only [go_sem, reduceIte, reduceCtorEq, Nat.reduceEqDiff, Nat.reduceLT, Nat.reduceLeDiff, Nat.reduceBEq, Nat.reduceAdd, Nat.reduceMul, Nat.reduceSub, Nat.reducePow, Int.reduceLE, Int.reduceLT, Int.reduceNeg, Int.reduceToNat, Int.reduceAdd, Int.reduceSub] at hr
  obtain ⟨rfl, rfl⟩ := hr
  refine ⟨vc, ?_⟩
  with_reducible refine thenC_normal ?_
  refine AWP_ownH 1 1 (.ints 3 .i64 []) rfl rfl rfl fun st' hr => ?_
  simp only [go_sem, reduceIte, reduceCtorEq, Nat.reduceEqDiff, Nat.reduceLT, Nat.reduceLeDiff, Nat.reduceBEq, Nat.reduceAdd, Nat.reduceMul, Nat.reduceSub, Nat.reducePow, Int.reduceLE, Int.reduceLT, Int.reduceNeg, Int.reduceToNat, Int.reduceAdd, Int.reduceSub] at hr
  subst hr
  refine AWP_seq ?_
  refine AWP_seq ?_
  -- region 1
  refine AWP_rl ?_
  refine AWPL_rn tab_ok 3 [1, 2, 4, 9, 11] fun c st' hr => ?_
  simp only [go_sem, reduceIte, reduceCtorEq, Nat.reduceEqDiff, Nat.reduceLT, Nat.reduceLeDiff, Nat.reduceBEq, Nat.reduceAdd, Nat.reduceMul, Nat.reduceSub, Nat.reducePow, Int.reduceLE, Int.reduceLT, Int.reduceNeg, Int.reduceToNat, Int.reduceAdd, Int.reduceSub] at hr
  obtain ⟨rfl, rfl⟩ := hr
  refine ⟨vc, ?_⟩
  replace hK := bind_s hK
  obtain ⟨y, hy, hK⟩ := hK
  refine AWPL_callK [1, 2, 4, 12] (W_links_right hy) rfl rfl pcT rfl Try.call86 (.cons (.agg _ _ rfl (ArgsOk.get (.cons (.atom _ rfl) (.cons (.atom _ rfl) .nil))).2) (.cons (.ownI _ _ _ _ _ [to] rfl (by simp) (by first | simp | exact List.take_of_length_le (by simp))) .nil)) (hscG trivial) (of_decide_eq_true rfl) (by first | rfl | simp [nI, nI1, nI0]) (by first | rfl | simp [nIB, nI0]) fun st' hr => ?_
  simp only [go_sem, reduceIte, reduceCtorEq, Nat.reduceEqDiff, Nat.reduceLT, Nat.reduceLeDiff, Nat.reduceBEq, Nat.reduceAdd, Nat.reduceMul, Nat.reduceSub, Nat.reducePow, Int.reduceLE, Int.reduceLT, Int.reduceNeg, Int.reduceToNat, Int.reduceAdd, Int.reduceSub] at hr
  subst hr
  clear hy
  refine AWPL_rn tab_ok 1 [1, 2, 4, 6] fun c st' hr => ?_
  simp only [go_sem, reduceIte, reduceCtorEq, Nat.reduceEqDiff, Nat.reduceLT, Nat.reduceLeDiff, Nat.reduceBEq, Nat.reduceAdd, Nat.reduceMul, Nat.reduceSub, Nat.reducePow, Int.reduceLE, Int.reduceLT, Int.reduceNeg, Int.reduceToNat, Int.reduceAdd, Int.reduceSub] at hr
  obtain ⟨rfl, rfl⟩ := hr
  refine ⟨vc, ?_⟩
  refine AWPL_nil ?_
  with_reducible refine thenC_normal ?_
  refine AWP_seq ?_
  -- region 2
  refine AWP_rg tab_ok [1, 2, 4, 6, 14] fun c st' hr => ?_
  simp only [go_sem, reduceIte, reduceCtorEq, Nat.reduceEqDiff, Nat.reduceLT, Nat.reduceLeDiff, Nat.reduceBEq, Nat.reduceAdd, Nat.reduceMul, Nat.reduceSub, Nat.reducePow, Int.reduceLE, Int.reduceLT, Int.reduceNeg, Int.reduceToNat, Int.reduceAdd, Int.reduceSub] at hr
  obtain ⟨rfl, rfl⟩ := hr
  refine ⟨vc, ?_⟩
  with_reducible refine thenC_normal ?_
  refine AWP_condP (y ≠ 0) rfl bd (fun hb => ?_) (fun hb => ?_)
  · replace hK := ite_t hK hb
    refine AWP_seq ?_
    -- region 3
    refine AWP_rg tab_ok [4, 5] fun c st' hr => ?_
    simp only [go_sem, reduceIte, reduceCtorEq, Nat.reduceEqDiff, Nat.reduceLT, Nat.reduceLeDiff, Nat.reduceBEq, Nat.reduceAdd, Nat.reduceMul, Nat.reduceSub, Nat.reducePow, Int.reduceLE, Int.reduceLT, Int.reduceNeg, Int.reduceToNat, Int.reduceAdd, Int.reduceSub] at hr
    obtain ⟨rfl, rfl⟩ := hr
    refine ⟨vc, ?_⟩
    with_reducible refine thenC_normal ?_
    refine AWP_ownH 1 1 (.ints 3 .i64 []) rfl rfl rfl fun st' hr => ?_
    simp only [go_sem, reduceIte, reduceCtorEq, Nat.reduceEqDiff, Nat.reduceLT, Nat.reduceLeDiff, Nat.reduceBEq, Nat.reduceAdd, Nat.reduceMul, Nat.reduceSub, Nat.reducePow, Int.reduceLE, Int.reduceLT, Int.reduceNeg, Int.reduceToNat, Int.reduceAdd, Int.reduceSub] at hr
    subst hr
    refine AWP_ret ?_
    with_reducible refine thenC_ret ?_
    cases hK
    refine EndsRW [4] (.inl rfl) (of_decide_eq_true rfl) (by simp) rfl (fun c x hr => ?_) endH
    simp only [go_sem, reduceIte, reduceCtorEq, Nat.reduceEqDiff, Nat.reduceLT, Nat.reduceLeDiff, Nat.reduceBEq, Nat.reduceAdd, Nat.reduceMul, Nat.reduceSub, Nat.reducePow, Int.reduceLE, Int.reduceLT, Int.reduceNeg, Int.reduceToNat, Int.reduceAdd, Int.reduceSub] at hr
    obtain ⟨rfl, rfl⟩ := hr
    exact ⟨rfl, endR⟩
  · replace hK := ite_f hK hb
    refine AWP_skip ?_
    with_reducible refine thenC_normal ?_
    refine AWP_seq ?_
    -- region 4
    refine AWP_rg tab_ok [1, 2, 4, 7] fun c st' hr => ?_
    simp only [go_sem, reduceIte, reduceCtorEq, Nat.reduceEqDiff, Nat.reduceLT, Nat.reduceLeDiff, Nat.reduceBEq, Nat.reduceAdd, Nat.reduceMul, Nat.reduceSub, Nat.reducePow, Int.reduceLE, Int.reduceLT, Int.reduceNeg, Int.reduceToNat, Int.reduceAdd, Int.reduceSub] at hr
    obtain ⟨rfl, rfl⟩ := hr
    refine ⟨vc, ?_⟩
    with_reducible refine thenC_normal ?_
    refine AWP_ownH 4 1 (.ints 3 .i64 []) rfl rfl rfl fun st' hr => ?_
    simp only [go_sem, reduceIte, reduceCtorEq, Nat.reduceEqDiff, Nat.reduceLT, Nat.reduceLeDiff, Nat.reduceBEq, Nat.reduceAdd, Nat.reduceMul, Nat.reduceSub, Nat.reducePow, Int.reduceLE, Int.reduceLT, Int.reduceNeg, Int.reduceToNat, Int.reduceAdd, Int.reduceSub] at hr
    subst hr
    refine AWP_seq ?_
    refine AWP_seq ?_
    -- region 5
    replace hK := chk_some hK
    obtain ⟨h, hK⟩ := hK
    refine AWP_rg tab_ok [1, 2, 4, 7, 22, 23] fun c st' hr => ?_
    simp only [go_sem, reduceIte, reduceCtorEq, Nat.reduceEqDiff, Nat.reduceLT, Nat.reduceLeDiff, Nat.reduceBEq, Nat.reduceAdd, Nat.reduceMul, Nat.reduceSub, Nat.reducePow, Int.reduceLE, Int.reduceLT, Int.reduceNeg, Int.reduceToNat, Int.reduceAdd, Int.reduceSub] at hr
    obtain ⟨rfl, rfl⟩ := hr
    refine ⟨vc, ?_⟩
    with_reducible refine thenC_normal ?_
    refine AWP_block ?_
    refine AWP_loopX 0 (fun ((m, v) : List Int × Int) => ⟨48, [(1, .int .i64 to), (2, .ptr 0 0 0), (4, .ptr 1 0 0), (7, .ptr 3 0 0), (22, .int .i64 (2 ^ g_0.toNat : Int)), (23, .int .i64 v)], [some (.gen 39 2 [[.int .i64 g_0, .fn 2 g_1.length (fun i => [.int .i64 ((g_1.getD i (0, 0)).1), .int .i64 ((g_1.getD i (0, 0)).2)])]]), some (.gen 24 2 [[.int .i64 0, .own 2 0]]), some (.ints 3 .i64 []), some (.gen 24 2 [[.int .i64 g_0, .own 4 m.length]]), some (.ints 3 .i64 m)]⟩) (fun (m1 : List Int) => ⟨48, [(4, .ptr 0 0 0), (7, .ptr 2 0 0)], [some (.gen 24 2 [[.int .i64 0, .own 1 0]]), some (.ints 3 .i64 []), some (.gen 24 2 [[.int .i64 g_0, .own 3 m1.length]]), some (.ints 3 .i64 m1)]⟩) (fun v => v) ([], 0) [0, 1, 2, 4, 5] hK mkWk ?_ ?_
    · clear hK; rintro ⟨m, v⟩ b hK hpost1
      try dsimp only at hK
      change AWP _ _ _ _ ⟨48, [(1, .int .i64 to), (2, .ptr 0 0 0), (4, .ptr 1 0 0), (7, .ptr 3 0 0), (22, .int .i64 (2 ^ g_0.toNat : Int)), (23, .int .i64 v)], [some (.gen 39 2 [[.int .i64 g_0, .fn 2 g_1.length (fun i => [.int .i64 ((g_1.getD i (0, 0)).1), .int .i64 ((g_1.getD i (0, 0)).2)])]]), some (.gen 24 2 [[.int .i64 0, .own 2 0]]), some (.ints 3 .i64 []), some (.gen 24 2 [[.int .i64 g_0, .own 4 m.length]]), some (.ints 3 .i64 m)]⟩
      refine AWP_seq ?_
      -- region 6
      refine AWP_rg tab_ok [1, 2, 4, 7, 22, 23, 24] fun c st' hr => ?_
      simp only [go_sem, reduceIte, reduceCtorEq, Nat.reduceEqDiff, Nat.reduceLT, Nat.reduceLeDiff, Nat.reduceBEq, Nat.reduceAdd, Nat.reduceMul, Nat.reduceSub, Nat.reducePow, Int.reduceLE, Int.reduceLT, Int.reduceNeg, Int.reduceToNat, Int.reduceAdd, Int.reduceSub] at hr
      obtain ⟨rfl, rfl⟩ := hr
      refine ⟨vc, ?_⟩
      with_reducible refine thenC_normal ?_
      refine AWP_seq ?_
      refine AWP_condP (v < (2 ^ g_0.toNat : Int)) rfl bd (fun hb1 => ?_) (fun hb1 => ?_)
      · replace hK := ite_t hK hb1
        refine AWP_skip ?_
        with_reducible refine thenC_normal ?_
        refine AWP_seq ?_
        refine AWP_block ?_
        refine AWP_seq ?_
        -- region 7
        refine AWP_rg tab_ok [1, 2, 4, 7, 8, 22, 23] fun c st' hr => ?_
        simp only [go_sem, reduceIte, reduceCtorEq, Nat.reduceEqDiff, Nat.reduceLT, Nat.reduceLeDiff, Nat.reduceBEq, Nat.reduceAdd, Nat.reduceMul, Nat.reduceSub, Nat.reducePow, Int.reduceLE, Int.reduceLT, Int.reduceNeg, Int.reduceToNat, Int.reduceAdd, Int.reduceSub] at hr
        obtain ⟨rfl, rfl⟩ := hr
        refine ⟨vc, ?_⟩
        with_reducible refine thenC_normal ?_
        refine AWP_seq ?_
        -- region 8
        refine AWP_rl ?_
        refine AWPL_rn tab_ok 1 [1, 2, 4, 7, 8, 22, 23, 26] fun c st' hr => ?_
        simp only [go_sem, reduceIte, reduceCtorEq, Nat.reduceEqDiff, Nat.reduceLT, Nat.reduceLeDiff, Nat.reduceBEq, Nat.reduceAdd, Nat.reduceMul, Nat.reduceSub, Nat.reducePow, Int.reduceLE, Int.reduceLT, Int.reduceNeg, Int.reduceToNat, Int.reduceAdd, Int.reduceSub] at hr
        obtain ⟨rfl, rfl⟩ := hr
        refine ⟨vc, ?_⟩
        replace hK := bind_s hK
        obtain ⟨y1, hy, hK⟩ := hK
        refine AWPL_callK [1, 2, 4, 7, 8, 22, 23, 27] (W_links_size hy) rfl rfl pcT rfl Try.call87 (.cons (.atom _ rfl) .nil) (hscG trivial) (of_decide_eq_true rfl) (by first | rfl | simp [nI, nI1, nI0]) (by first | rfl | simp [nIB, nI0]) fun st' hr => ?_
        simp only [go_sem, reduceIte, reduceCtorEq, Nat.reduceEqDiff, Nat.reduceLT, Nat.reduceLeDiff, Nat.reduceBEq, Nat.reduceAdd, Nat.reduceMul, Nat.reduceSub, Nat.reducePow, Int.reduceLE, Int.reduceLT, Int.reduceNeg, Int.reduceToNat, Int.reduceAdd, Int.reduceSub] at hr
        subst hr
        clear hy
        refine AWPL_rn tab_ok 1 [1, 2, 4, 7, 8, 22, 23, 27, 28] fun c st' hr => ?_
        simp only [go_sem, reduceIte, reduceCtorEq, Nat.reduceEqDiff, Nat.reduceLT, Nat.reduceLeDiff, Nat.reduceBEq, Nat.reduceAdd, Nat.reduceMul, Nat.reduceSub, Nat.reducePow, Int.reduceLE, Int.reduceLT, Int.reduceNeg, Int.reduceToNat, Int.reduceAdd, Int.reduceSub] at hr
        obtain ⟨rfl, rfl⟩ := hr
        refine ⟨vc, ?_⟩
        replace hK := bind_s hK
        obtain ⟨y2, hy, hK⟩ := hK
        refine AWPL_callK [1, 2, 4, 7, 8, 22, 23, 27, 29] (W_links_size hy) rfl rfl pcT rfl Try.call87 (.cons (.atom _ rfl) .nil) (hscG trivial) (of_decide_eq_true rfl) (by first | rfl | simp [nI, nI1, nI0]) (by first | rfl | simp [nIB, nI0]) fun st' hr => ?_
        simp only [go_sem, reduceIte, reduceCtorEq, Nat.reduceEqDiff, Nat.reduceLT, Nat.reduceLeDiff, Nat.reduceBEq, Nat.reduceAdd, Nat.reduceMul, Nat.reduceSub, Nat.reducePow, Int.reduceLE, Int.reduceLT, Int.reduceNeg, Int.reduceToNat, Int.reduceAdd, Int.reduceSub] at hr
        subst hr
        clear hy
        refine AWPL_rn tab_ok 5 [1, 2, 4, 7, 8, 22, 23, 31, 32, 33, 34] fun c st' hr => ?_
        simp only [go_sem, reduceIte, reduceCtorEq, Nat.reduceEqDiff, Nat.reduceLT, Nat.reduceLeDiff, Nat.reduceBEq, Nat.reduceAdd, Nat.reduceMul, Nat.reduceSub, Nat.reducePow, Int.reduceLE, Int.reduceLT, Int.reduceNeg, Int.reduceToNat, Int.reduceAdd, Int.reduceSub] at hr
        obtain ⟨rfl, rfl⟩ := hr
        refine ⟨vc, ?_⟩
        replace hK := bind_s hK
        obtain ⟨y3, hy, hK⟩ := hK
        refine AWPL_callGP [1, 2, 4, 7, 8, 22, 23, 31, 35] (y1 = y2) (fun hg => (W_links_ways (ite_t hy hg))) rfl rfl pcG rfl Try.call89 (.cons (.agg _ _ rfl (ArgsOk.get (.cons (.atom _ rfl) (.cons (.atom _ rfl) .nil))).2) (.cons (.atom _ rfl) (.cons (.atom _ rfl) .nil))) (fun hg => hscG hg) (of_decide_eq_true rfl) (by first | rfl | simp [nI, nI1, nI0]) (by first | rfl | simp [sh, sh1, sh0]) fun st' hr => ?_
        simp only [go_sem, reduceIte, reduceCtorEq, Nat.reduceEqDiff, Nat.reduceLT, Nat.reduceLeDiff, Nat.reduceBEq, Nat.reduceAdd, Nat.reduceMul, Nat.reduceSub, Nat.reducePow, Int.reduceLE, Int.reduceLT, Int.reduceNeg, Int.reduceToNat, Int.reduceAdd, Int.reduceSub] at hr
        subst hr
        clear hy
        refine AWPL_rn tab_ok 1 [1, 2, 4, 7, 8, 22, 23, 31, 35, 36] fun c st' hr => ?_
        simp only [go_sem, reduceIte, reduceCtorEq, Nat.reduceEqDiff, Nat.reduceLT, Nat.reduceLeDiff, Nat.reduceBEq, Nat.reduceAdd, Nat.reduceMul, Nat.reduceSub, Nat.reducePow, Int.reduceLE, Int.reduceLT, Int.reduceNeg, Int.reduceToNat, Int.reduceAdd, Int.reduceSub] at hr
        obtain ⟨rfl, rfl⟩ := hr
        refine ⟨vc, ?_⟩
        replace hK := bind_s hK
        obtain ⟨y4, hy, hK⟩ := hK
        refine AWPL_callGP [1, 2, 4, 7, 8, 22, 23, 31, 35, 37] (y1 = y2) (fun hg => (W_links_size (ite_t hy hg))) rfl rfl pcG rfl Try.call87 (.cons (.atom _ rfl) .nil) (fun hg => hscG hg) (of_decide_eq_true rfl) (by first | rfl | simp [nI, nI1, nI0]) (by first | rfl | simp [sh, sh1, sh0]) fun st' hr => ?_
        simp only [go_sem, reduceIte, reduceCtorEq, Nat.reduceEqDiff, Nat.reduceLT, Nat.reduceLeDiff, Nat.reduceBEq, Nat.reduceAdd, Nat.reduceMul, Nat.reduceSub, Nat.reducePow, Int.reduceLE, Int.reduceLT, Int.reduceNeg, Int.reduceToNat, Int.reduceAdd, Int.reduceSub] at hr
        subst hr
        clear hy
        refine AWPL_rn tab_ok 2 [1, 2, 4, 7, 8, 22, 23, 39] fun c st' hr => ?_
        simp only [go_sem, reduceIte, reduceCtorEq, Nat.reduceEqDiff, Nat.reduceLT, Nat.reduceLeDiff, Nat.reduceBEq, Nat.reduceAdd, Nat.reduceMul, Nat.reduceSub, Nat.reducePow, Int.reduceLE, Int.reduceLT, Int.reduceNeg, Int.reduceToNat, Int.reduceAdd, Int.reduceSub] at hr
        obtain ⟨rfl, rfl⟩ := hr
        refine ⟨vc, ?_⟩
        refine AWPL_nil ?_
        with_reducible refine thenC_normal ?_
        refine AWP_condP ((y1 = y2 ∧ y3 = y4)) rfl bd (fun hb2 => ?_) (fun hb2 => ?_)
        · replace hK := ite_t hK hb2
          -- region 9
          replace hK := chk_some hK
          obtain ⟨h1, hK⟩ := hK
          refine AWP_rg tab_ok [1, 2, 4, 7, 22, 23] fun c st' hr => ?_
          simp only [go_sem, reduceIte, reduceCtorEq, Nat.reduceEqDiff, Nat.reduceLT, Nat.reduceLeDiff, Nat.reduceBEq, Nat.reduceAdd, Nat.reduceMul, Nat.reduceSub, Nat.reducePow, Int.reduceLE, Int.reduceLT, Int.reduceNeg, Int.reduceToNat, Int.reduceAdd, Int.reduceSub] at hr
          obtain ⟨rfl, rfl⟩ := hr
          refine ⟨vc, ?_⟩
          with_reducible refine inBlockA_normal (thenC_normal ?_)
          -- region 10
          refine AWP_facts (by simp) fun hfx => ?_
          simp only [factS, factV, fact1, fact0, factL0, lo, hi, maxLen, and_true, true_and] at hfx
          refine AWP_rg tab_ok [1, 2, 4, 7, 22, 23] fun c st' hr => ?_
          simp only [go_sem, reduceIte, reduceCtorEq, Nat.reduceEqDiff, Nat.reduceLT, Nat.reduceLeDiff, Nat.reduceBEq, Nat.reduceAdd, Nat.reduceMul, Nat.reduceSub, Nat.reducePow, Int.reduceLE, Int.reduceLT, Int.reduceNeg, Int.reduceToNat, Int.reduceAdd, Int.reduceSub] at hr
          obtain ⟨rfl, rfl⟩ := hr
          refine ⟨vc, ?_⟩
          clear hfx
          refine again_n (m ++ [v], v + 1) [0, 1, 2, 3, 6] hK mkWk
        · replace hK := ite_f hK hb2
          refine AWP_skip ?_
          with_reducible refine inBlockA_normal (thenC_normal ?_)
          -- region 10
          refine AWP_facts (by simp) fun hfx => ?_
          simp only [factS, factV, fact1, fact0, factL0, lo, hi, maxLen, and_true, true_and] at hfx
          refine AWP_rg tab_ok [1, 2, 4, 7, 22, 23] fun c st' hr => ?_
          simp only [go_sem, reduceIte, reduceCtorEq, Nat.reduceEqDiff, Nat.reduceLT, Nat.reduceLeDiff, Nat.reduceBEq, Nat.reduceAdd, Nat.reduceMul, Nat.reduceSub, Nat.reducePow, Int.reduceLE, Int.reduceLT, Int.reduceNeg, Int.reduceToNat, Int.reduceAdd, Int.reduceSub] at hr
          obtain ⟨rfl, rfl⟩ := hr
          refine ⟨vc, ?_⟩
          clear hfx
          refine again_n (m, v + 1) [0, 1, 2, 3, 4] hK mkWk
      · replace hK := ite_f hK hb1
        refine AWP_exit ?_
        with_reducible refine thenC_exit (again_x ?_)
        refine cutX_here m [1, 2, 3, 4] (by have hq := hpost1 _ hK; exact hq) mkWk
    · clear hK; rintro m1 hK
      try dsimp only at hK
      refine exS ⟨48, [(4, .ptr 0 0 0), (7, .ptr 2 0 0)], [some (.gen 24 2 [[.int .i64 0, .own 1 0]]), some (.ints 3 .i64 []), some (.gen 24 2 [[.int .i64 g_0, .own 3 m1.length]]), some (.ints 3 .i64 m1)]⟩ rfl ?_
      with_reducible refine inBlockA_exit (thenC_normal ?_)
      refine AWP_seq ?_
      -- region 11
      refine AWP_rg tab_ok [4, 5] fun c st' hr => ?_
      simp only [go_sem, reduceIte, reduceCtorEq, Nat.reduceEqDiff, Nat.reduceLT, Nat.reduceLeDiff, Nat.reduceBEq, Nat.reduceAdd, Nat.reduceMul, Nat.reduceSub, Nat.reducePow, Int.reduceLE, Int.reduceLT, Int.reduceNeg, Int.reduceToNat, Int.reduceAdd, Int.reduceSub] at hr
      obtain ⟨rfl, rfl⟩ := hr
      refine ⟨vc, ?_⟩
      with_reducible refine thenC_normal ?_
      refine AWP_ret ?_
      cases hK
      refine EndsRW [3] (.inl rfl) (of_decide_eq_true rfl) (by simp) rfl (fun c x hr => ?_) endH
      simp only [go_sem, reduceIte, reduceCtorEq, Nat.reduceEqDiff, Nat.reduceLT, Nat.reduceLeDiff, Nat.reduceBEq, Nat.reduceAdd, Nat.reduceMul, Nat.reduceSub, Nat.reducePow, Int.reduceLE, Int.reduceLT, Int.reduceNeg, Int.reduceToNat, Int.reduceAdd, Int.reduceSub] at hr
      obtain ⟨rfl, rfl⟩ := hr
      exact ⟨rfl, endR⟩

end Go.SH
