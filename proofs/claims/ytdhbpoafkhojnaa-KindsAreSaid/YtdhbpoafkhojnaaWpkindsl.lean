/-
  That the code computes these functions: kinds_Laminar_1, kinds_Laminar. By a program of mine (shal.py). Conditions: none.
-/
import Derived.Test.YtdhbpoafkhojnaaAxT
import Derived.Test.YtdhbpoafkhojnaaAxR
import Derived.Test.YtdhbpoafkhojnaaSp
import Derived.Test.YtdhbpoafkhojnaaWpkindsb
import Derived.Test.YtdhbpoafkhojnaaWpsets
set_option linter.unusedVariables false
set_option linter.unusedSimpArgs false
namespace Go.SH
open Go Go.AX Go.AX.Try Go.Proofs

set_option maxRecDepth 8000 in
set_option maxHeartbeats 4000000 in
theorem W_kinds_Laminar_1 {s : Int} {c0 : List Int} {c1 : List Int} {r : Bool} (hK : kinds_Laminar_1 s c0 c1 = some r) : Pure Try.prog 96 [.int .i64 s, .immp [.ints .i64 c0], .immp [.ints .i64 c1]] (.bool r) [] := by
  refine Pure_introF tab_ok (n := 24) (l := [.tmp 4]) Try.func96 rfl rfl rfl (by simp) fun hfact w0 => ?_
  simp only [factL1, fact1, fact0, factL0, lo, hi, maxLen, and_true] at hfact
  unfold kinds_Laminar_1 at hK
  refine AWP_seq ?_
  -- region 0
  refine AWP_rg tab_ok [0, 1, 2] fun c st' hr => ?_
  simp only [go_sem, reduceIte, reduceCtorEq, Nat.reduceEqDiff, Nat.reduceLT, Nat.reduceLeDiff, Nat.reduceBEq, Nat.reduceAdd, Nat.reduceMul, Nat.reduceSub, Nat.reducePow, Int.reduceLE, Int.reduceLT, Int.reduceNeg, Int.reduceToNat, Int.reduceAdd, Int.reduceSub] at hr
  obtain ⟨rfl, rfl⟩ := hr
  refine ⟨vc, ?_⟩
  with_reducible refine thenC_normal ?_
  refine AWP_seq ?_
  refine AWP_seq ?_
  -- region 1
  refine AWP_rg tab_ok [0, 2, 7, 8, 9] fun c st' hr => ?_
  simp only [go_sem, reduceIte, reduceCtorEq, Nat.reduceEqDiff, Nat.reduceLT, Nat.reduceLeDiff, Nat.reduceBEq, Nat.reduceAdd, Nat.reduceMul, Nat.reduceSub, Nat.reducePow, Int.reduceLE, Int.reduceLT, Int.reduceNeg, Int.reduceToNat, Int.reduceAdd, Int.reduceSub] at hr
  obtain ⟨rfl, rfl⟩ := hr
  refine ⟨vc, ?_⟩
  with_reducible refine thenC_normal ?_
  refine AWP_block ?_
  refine AWP_loopX 0 (fun (v : Int) => ⟨24, [(0, .int .i64 s), (2, .immp [.ints .i64 c1]), (7, .ints .i64 c0), (8, .int .i64 (c0.length : Int)), (9, .int .i64 v)], []⟩) (fun (_ : Unit) => ⟨24, [], []⟩) Sum.inl 0 [] hK mkWk ?_ ?_
  · clear hK; rintro v b hK hpost1
    try dsimp only at hK
    change AWP _ _ _ _ ⟨24, [(0, .int .i64 s), (2, .immp [.ints .i64 c1]), (7, .ints .i64 c0), (8, .int .i64 (c0.length : Int)), (9, .int .i64 v)], []⟩
    refine AWP_seq ?_
    -- region 2
    refine AWP_rg tab_ok [0, 2, 7, 8, 9, 10] fun c st' hr => ?_
    simp only [go_sem, reduceIte, reduceCtorEq, Nat.reduceEqDiff, Nat.reduceLT, Nat.reduceLeDiff, Nat.reduceBEq, Nat.reduceAdd, Nat.reduceMul, Nat.reduceSub, Nat.reducePow, Int.reduceLE, Int.reduceLT, Int.reduceNeg, Int.reduceToNat, Int.reduceAdd, Int.reduceSub] at hr
    obtain ⟨rfl, rfl⟩ := hr
    refine ⟨vc, ?_⟩
    with_reducible refine thenC_normal ?_
    refine AWP_seq ?_
    refine AWP_condP (v < (c0.length : Int)) rfl bd (fun hb => ?_) (fun hb => ?_)
    · replace hK := ite_t hK hb
      refine AWP_skip ?_
      with_reducible refine thenC_normal ?_
      refine AWP_seq ?_
      refine AWP_block ?_
      refine AWP_seq ?_
      -- region 3
      replace hK := chk_some hK
      obtain ⟨h, hK⟩ := hK
      refine AWP_rg tab_ok [0, 2, 5, 6, 7, 8, 9] fun c st' hr => ?_
      simp only [go_sem, reduceIte, reduceCtorEq, Nat.reduceEqDiff, Nat.reduceLT, Nat.reduceLeDiff, Nat.reduceBEq, Nat.reduceAdd, Nat.reduceMul, Nat.reduceSub, Nat.reducePow, Int.reduceLE, Int.reduceLT, Int.reduceNeg, Int.reduceToNat, Int.reduceAdd, Int.reduceSub] at hr
      obtain ⟨rfl, rfl⟩ := hr
      refine ⟨vc, ?_⟩
      with_reducible refine thenC_normal ?_
      refine AWP_seq ?_
      -- region 4
      refine AWP_drawQ mixed (by kernel_rfl) ?_
      refine AWQL_rn tab_ok 3 [0, 2, 5, 7, 8, 9, 16] fun c st' hr => ?_
      simp only [go_sem, reduceIte, reduceCtorEq, Nat.reduceEqDiff, Nat.reduceLT, Nat.reduceLeDiff, Nat.reduceBEq, Nat.reduceAdd, Nat.reduceMul, Nat.reduceSub, Nat.reducePow, Int.reduceLE, Int.reduceLT, Int.reduceNeg, Int.reduceToNat, Int.reduceAdd, Int.reduceSub] at hr
      obtain ⟨rfl, rfl⟩ := hr
      refine ⟨vc, ?_⟩
      replace hK := bind_s hK
      obtain ⟨y, hy, hK⟩ := hK
      refine AWQL_callK [0, 2, 5, 7, 8, 9, 17] (W_kinds_size hy) rfl rfl pcT rfl Try.call81 (.cons (.atom _ rfl) .nil) (hscG trivial) (of_decide_eq_true rfl) rfl fun st' hr => ?_
      simp only [go_sem, reduceIte, reduceCtorEq, Nat.reduceEqDiff, Nat.reduceLT, Nat.reduceLeDiff, Nat.reduceBEq, Nat.reduceAdd, Nat.reduceMul, Nat.reduceSub, Nat.reducePow, Int.reduceLE, Int.reduceLT, Int.reduceNeg, Int.reduceToNat, Int.reduceAdd, Int.reduceSub] at hr
      subst hr
      clear hy
      replace hK := chk_some hK
      obtain ⟨h1, hK⟩ := hK
      refine AWQL_rn tab_ok 5 [0, 2, 7, 8, 9, 22] fun c st' hr => ?_
      simp only [go_sem, reduceIte, reduceCtorEq, Nat.reduceEqDiff, Nat.reduceLT, Nat.reduceLeDiff, Nat.reduceBEq, Nat.reduceAdd, Nat.reduceMul, Nat.reduceSub, Nat.reducePow, Int.reduceLE, Int.reduceLT, Int.reduceNeg, Int.reduceToNat, Int.reduceAdd, Int.reduceSub] at hr
      obtain ⟨rfl, rfl⟩ := hr
      refine ⟨vc, ?_⟩
      refine AWQL_nil ?_
      with_reducible refine thenC_normal ?_
      refine AWP_condP (c1.getD v.toNat 0 < y) rfl bd (fun hb1 => ?_) (fun hb1 => ?_)
      · replace hK := ite_t hK hb1
        refine AWP_seq ?_
        -- region 5
        refine AWP_rg tab_ok [4] fun c st' hr => ?_
        simp only [go_sem, reduceIte, reduceCtorEq, Nat.reduceEqDiff, Nat.reduceLT, Nat.reduceLeDiff, Nat.reduceBEq, Nat.reduceAdd, Nat.reduceMul, Nat.reduceSub, Nat.reducePow, Int.reduceLE, Int.reduceLT, Int.reduceNeg, Int.reduceToNat, Int.reduceAdd, Int.reduceSub] at hr
        obtain ⟨rfl, rfl⟩ := hr
        refine ⟨vc, ?_⟩
        with_reducible refine thenC_normal ?_
        refine AWP_ret ?_
        with_reducible refine inBlockA_ret (thenC_ret (again_r (cutX_r (inBlockA_ret (thenC_ret ?_)))))
        replace hK := hpost1 _ hK
        try dsimp only at hK
        cases hK
        refine EndsRW [] (.inl rfl) (of_decide_eq_true rfl) (by simp) rfl (fun c x hr => ?_) trivial
        simp only [go_sem, reduceIte, reduceCtorEq, Nat.reduceEqDiff, Nat.reduceLT, Nat.reduceLeDiff, Nat.reduceBEq, Nat.reduceAdd, Nat.reduceMul, Nat.reduceSub, Nat.reducePow, Int.reduceLE, Int.reduceLT, Int.reduceNeg, Int.reduceToNat, Int.reduceAdd, Int.reduceSub] at hr
        obtain ⟨rfl, rfl⟩ := hr
        exact ⟨rfl, endR⟩
      · replace hK := ite_f hK hb1
        refine AWP_skip ?_
        with_reducible refine inBlockA_normal (thenC_normal ?_)
        -- region 6
        refine AWP_facts (by simp) fun hfx => ?_
        simp only [factS, factV, fact1, fact0, factL0, lo, hi, maxLen, and_true, true_and] at hfx
        refine AWP_rg tab_ok [0, 2, 7, 8, 9] fun c st' hr => ?_
        simp only [go_sem, reduceIte, reduceCtorEq, Nat.reduceEqDiff, Nat.reduceLT, Nat.reduceLeDiff, Nat.reduceBEq, Nat.reduceAdd, Nat.reduceMul, Nat.reduceSub, Nat.reducePow, Int.reduceLE, Int.reduceLT, Int.reduceNeg, Int.reduceToNat, Int.reduceAdd, Int.reduceSub] at hr
        obtain ⟨rfl, rfl⟩ := hr
        refine ⟨vc, ?_⟩
        clear hfx
        refine again_n (v + 1) [] hK mkWk
    · replace hK := ite_f hK hb
      refine AWP_exit ?_
      with_reducible refine thenC_exit (again_x ?_)
      refine cutX_here () [] (by have hq := hpost1 _ hK; exact hq) mkWk
  · clear hK; rintro _ hK
    try dsimp only at hK
    refine exS ⟨24, [], []⟩ rfl ?_
    with_reducible refine inBlockA_exit (thenC_normal ?_)
    refine AWP_seq ?_
    -- region 7
    refine AWP_rg tab_ok [4] fun c st' hr => ?_
    simp only [go_sem, reduceIte, reduceCtorEq, Nat.reduceEqDiff, Nat.reduceLT, Nat.reduceLeDiff, Nat.reduceBEq, Nat.reduceAdd, Nat.reduceMul, Nat.reduceSub, Nat.reducePow, Int.reduceLE, Int.reduceLT, Int.reduceNeg, Int.reduceToNat, Int.reduceAdd, Int.reduceSub] at hr
    obtain ⟨rfl, rfl⟩ := hr
    refine ⟨vc, ?_⟩
    with_reducible refine thenC_normal ?_
    refine AWP_ret ?_
    cases hK
    refine EndsRW [] (.inl rfl) (of_decide_eq_true rfl) (by simp) rfl (fun c x hr => ?_) trivial
    simp only [go_sem, reduceIte, reduceCtorEq, Nat.reduceEqDiff, Nat.reduceLT, Nat.reduceLeDiff, Nat.reduceBEq, Nat.reduceAdd, Nat.reduceMul, Nat.reduceSub, Nat.reducePow, Int.reduceLE, Int.reduceLT, Int.reduceNeg, Int.reduceToNat, Int.reduceAdd, Int.reduceSub] at hr
    obtain ⟨rfl, rfl⟩ := hr
    exact ⟨rfl, endR⟩

set_option maxRecDepth 8000 in
set_option maxHeartbeats 4000000 in
theorem W_kinds_Laminar {n : Int} {a1 : List Int} {a2 : List Int} {r : Int × List Int × Int} (hK : kinds_Laminar n a1 a2 = some r) : Pure Try.prog 51 [.int .i64 n, .ints .i64 a1, .ints .i64 a2] (.tup [.agg [.int .i64 r.1, .own 0 r.2.1.length], .int .i64 r.2.2]) [(.ints 3 .i64 r.2.1)] := by
  refine Pure_introF tab_ok (n := 69) (l := [.cell 6 24, .tmp 7]) Try.func51 rfl rfl rfl (by simp) fun hfact w0 => ?_
  simp only [factL1, fact1, fact0, factL0, lo, hi, maxLen, and_true] at hfact
  unfold kinds_Laminar at hK
  refine AWP_seq ?_
  -- region 0
  refine AWP_rg tab_ok [0, 4, 5, 6] fun c st' hr => ?_
  simp only [go_sem, reduceIte, reduceCtorEq, Nat.reduceEqDiff, Nat.reduceLT, Nat.reduceLeDiff, Nat.reduceBEq, Nat.reduceAdd, Nat.reduceMul, Nat.reduceSub, Nat.reducePow, Int.reduceLE, Int.reduceLT, Int.reduceNeg, Int.reduceToNat, Int.reduceAdd, Int.reduceSub] at hr
  obtain ⟨rfl, rfl⟩ := hr
  refine ⟨vc, ?_⟩
  with_reducible refine thenC_normal ?_
  refine AWP_ownH 2 1 (.ints 3 .i64 []) rfl rfl rfl fun st' hr => ?_
  simp only [go_sem, reduceIte, reduceCtorEq, Nat.reduceEqDiff, Nat.reduceLT, Nat.reduceLeDiff, Nat.reduceBEq, Nat.reduceAdd, Nat.reduceMul, Nat.reduceSub, Nat.reducePow, Int.reduceLE, Int.reduceLT, Int.reduceNeg, Int.reduceToNat, Int.reduceAdd, Int.reduceSub] at hr
  subst hr
  refine AWP_seq ?_
  refine AWP_seq ?_
  -- region 1
  refine AWP_rl ?_
  refine AWPL_rn tab_ok 2 [0, 4, 5, 6, 14, 15] fun c st' hr => ?_
  simp only [go_sem, reduceIte, reduceCtorEq, Nat.reduceEqDiff, Nat.reduceLT, Nat.reduceLeDiff, Nat.reduceBEq, Nat.reduceAdd, Nat.reduceMul, Nat.reduceSub, Nat.reducePow, Int.reduceLE, Int.reduceLT, Int.reduceNeg, Int.reduceToNat, Int.reduceAdd, Int.reduceSub] at hr
  obtain ⟨rfl, rfl⟩ := hr
  refine ⟨vc, ?_⟩
  replace hK := bind_s hK
  obtain ⟨y, hy, hK⟩ := hK
  refine AWPL_callK [0, 4, 5, 6, 16] (W_sets_Family hy) rfl rfl pcT rfl Try.call95 (.cons (.atom _ rfl) (.cons (.atom _ rfl) .nil)) (hscG trivial) (of_decide_eq_true rfl) (by first | rfl | simp [nI, nI1, nI0]) (by first | rfl | simp [nIB, nI0]) fun st' hr => ?_
  simp only [go_sem, reduceIte, reduceCtorEq, Nat.reduceEqDiff, Nat.reduceLT, Nat.reduceLeDiff, Nat.reduceBEq, Nat.reduceAdd, Nat.reduceMul, Nat.reduceSub, Nat.reducePow, Int.reduceLE, Int.reduceLT, Int.reduceNeg, Int.reduceToNat, Int.reduceAdd, Int.reduceSub] at hr
  subst hr
  clear hy
  refine AWPL_rn tab_ok 1 [0, 4, 5, 6, 8] fun c st' hr => ?_
  simp only [go_sem, reduceIte, reduceCtorEq, Nat.reduceEqDiff, Nat.reduceLT, Nat.reduceLeDiff, Nat.reduceBEq, Nat.reduceAdd, Nat.reduceMul, Nat.reduceSub, Nat.reducePow, Int.reduceLE, Int.reduceLT, Int.reduceNeg, Int.reduceToNat, Int.reduceAdd, Int.reduceSub] at hr
  obtain ⟨rfl, rfl⟩ := hr
  refine ⟨vc, ?_⟩
  refine AWPL_nil ?_
  with_reducible refine thenC_normal ?_
  refine AWP_seq ?_
  -- region 2
  refine AWP_rg tab_ok [0, 4, 5, 6, 8, 18] fun c st' hr => ?_
  simp only [go_sem, reduceIte, reduceCtorEq, Nat.reduceEqDiff, Nat.reduceLT, Nat.reduceLeDiff, Nat.reduceBEq, Nat.reduceAdd, Nat.reduceMul, Nat.reduceSub, Nat.reducePow, Int.reduceLE, Int.reduceLT, Int.reduceNeg, Int.reduceToNat, Int.reduceAdd, Int.reduceSub] at hr
  obtain ⟨rfl, rfl⟩ := hr
  refine ⟨vc, ?_⟩
  with_reducible refine thenC_normal ?_
  refine AWP_condP (y ≠ 0) rfl bd (fun hb => ?_) (fun hb => ?_)
  · replace hK := ite_t hK hb
    refine AWP_seq ?_
    -- region 3
    refine AWP_rg tab_ok [6, 7] fun c st' hr => ?_
    simp only [go_sem, reduceIte, reduceCtorEq, Nat.reduceEqDiff, Nat.reduceLT, Nat.reduceLeDiff, Nat.reduceBEq, Nat.reduceAdd, Nat.reduceMul, Nat.reduceSub, Nat.reducePow, Int.reduceLE, Int.reduceLT, Int.reduceNeg, Int.reduceToNat, Int.reduceAdd, Int.reduceSub] at hr
    obtain ⟨rfl, rfl⟩ := hr
    refine ⟨vc, ?_⟩
    with_reducible refine thenC_normal ?_
    refine AWP_ownH 2 1 (.ints 3 .i64 []) rfl rfl rfl fun st' hr => ?_
    simp only [go_sem, reduceIte, reduceCtorEq, Nat.reduceEqDiff, Nat.reduceLT, Nat.reduceLeDiff, Nat.reduceBEq, Nat.reduceAdd, Nat.reduceMul, Nat.reduceSub, Nat.reducePow, Int.reduceLE, Int.reduceLT, Int.reduceNeg, Int.reduceToNat, Int.reduceAdd, Int.reduceSub] at hr
    subst hr
    refine AWP_ret ?_
    with_reducible refine thenC_ret ?_
    cases hK
    refine EndsRW [4] (.inl rfl) (of_decide_eq_true rfl) (by simp) rfl (fun c x hr => ?_) endH
    simp only [go_sem, reduceIte, reduceCtorEq, Nat.reduceEqDiff, Nat.reduceLT, Nat.reduceLeDiff, Nat.reduceBEq, Nat.reduceAdd, Nat.reduceMul, Nat.reduceSub, Nat.reducePow, Int.reduceLE, Int.reduceLT, Int.reduceNeg, Int.reduceToNat, Int.reduceAdd, Int.reduceSub] at hr
    obtain ⟨rfl, rfl⟩ := hr
    exact ⟨rfl, endR⟩
  · replace hK := ite_f hK hb
    refine AWP_skip ?_
    with_reducible refine thenC_normal ?_
    refine AWP_seq ?_
    refine AWP_seq ?_
    -- region 4
    refine AWP_rg tab_ok [0, 4, 5, 6, 25] fun c st' hr => ?_
    simp only [go_sem, reduceIte, reduceCtorEq, Nat.reduceEqDiff, Nat.reduceLT, Nat.reduceLeDiff, Nat.reduceBEq, Nat.reduceAdd, Nat.reduceMul, Nat.reduceSub, Nat.reducePow, Int.reduceLE, Int.reduceLT, Int.reduceNeg, Int.reduceToNat, Int.reduceAdd, Int.reduceSub] at hr
    obtain ⟨rfl, rfl⟩ := hr
    refine ⟨vc, ?_⟩
    with_reducible refine thenC_normal ?_
    refine AWP_condP ((a2.length : Int) ≠ (a1.length : Int)) rfl bd (fun hb1 => ?_) (fun hb1 => ?_)
    · replace hK := ite_t hK hb1
      refine AWP_seq ?_
      -- region 5
      refine AWP_rg tab_ok [6, 7] fun c st' hr => ?_
      simp only [go_sem, reduceIte, reduceCtorEq, Nat.reduceEqDiff, Nat.reduceLT, Nat.reduceLeDiff, Nat.reduceBEq, Nat.reduceAdd, Nat.reduceMul, Nat.reduceSub, Nat.reducePow, Int.reduceLE, Int.reduceLT, Int.reduceNeg, Int.reduceToNat, Int.reduceAdd, Int.reduceSub] at hr
      obtain ⟨rfl, rfl⟩ := hr
      refine ⟨vc, ?_⟩
      with_reducible refine thenC_normal ?_
      refine AWP_ownH 2 1 (.ints 3 .i64 []) rfl rfl rfl fun st' hr => ?_
      simp only [go_sem, reduceIte, reduceCtorEq, Nat.reduceEqDiff, Nat.reduceLT, Nat.reduceLeDiff, Nat.reduceBEq, Nat.reduceAdd, Nat.reduceMul, Nat.reduceSub, Nat.reducePow, Int.reduceLE, Int.reduceLT, Int.reduceNeg, Int.reduceToNat, Int.reduceAdd, Int.reduceSub] at hr
      subst hr
      refine AWP_ret ?_
      with_reducible refine thenC_ret ?_
      cases hK
      refine EndsRW [4] (.inl rfl) (of_decide_eq_true rfl) (by simp) rfl (fun c x hr => ?_) endH
      simp only [go_sem, reduceIte, reduceCtorEq, Nat.reduceEqDiff, Nat.reduceLT, Nat.reduceLeDiff, Nat.reduceBEq, Nat.reduceAdd, Nat.reduceMul, Nat.reduceSub, Nat.reducePow, Int.reduceLE, Int.reduceLT, Int.reduceNeg, Int.reduceToNat, Int.reduceAdd, Int.reduceSub] at hr
      obtain ⟨rfl, rfl⟩ := hr
      exact ⟨rfl, endR⟩
    · replace hK := ite_f hK hb1
      refine AWP_skip ?_
      with_reducible refine thenC_normal ?_
      refine AWP_seq ?_
      refine AWP_seq ?_
      -- region 6
      refine AWP_rg tab_ok [0, 4, 5, 6, 27, 28, 29] fun c st' hr => ?_
      simp only [go_sem, reduceIte, reduceCtorEq, Nat.reduceEqDiff, Nat.reduceLT, Nat.reduceLeDiff, Nat.reduceBEq, Nat.reduceAdd, Nat.reduceMul, Nat.reduceSub, Nat.reducePow, Int.reduceLE, Int.reduceLT, Int.reduceNeg, Int.reduceToNat, Int.reduceAdd, Int.reduceSub] at hr
      obtain ⟨rfl, rfl⟩ := hr
      refine ⟨vc, ?_⟩
      with_reducible refine thenC_normal ?_
      refine AWP_block ?_
      refine AWP_loopX 0 (fun (v : Int) => ⟨69, [(0, .int .i64 n), (4, .ptr 0 0 0), (5, .ptr 1 0 0), (6, .ptr 2 0 0), (27, .ints .i64 a1), (28, .int .i64 (a1.length : Int)), (29, .int .i64 v)], [some (.gen 22 1 [[.ints .i64 a1]]), some (.gen 22 1 [[.ints .i64 a2]]), some (.gen 24 2 [[.int .i64 0, .own 3 0]]), some (.ints 3 .i64 [])]⟩) (fun (_ : Unit) => ⟨69, [(0, .int .i64 n), (4, .ptr 0 0 0), (5, .ptr 1 0 0), (6, .ptr 2 0 0)], [some (.gen 22 1 [[.ints .i64 a1]]), some (.gen 22 1 [[.ints .i64 a2]]), some (.gen 24 2 [[.int .i64 0, .own 3 0]]), some (.ints 3 .i64 [])]⟩) Sum.inl 0 [0, 1, 2, 3] hK mkWk ?_ ?_
      · clear hK; rintro v b hK hpost1
        try dsimp only at hK
        change AWP _ _ _ _ ⟨69, [(0, .int .i64 n), (4, .ptr 0 0 0), (5, .ptr 1 0 0), (6, .ptr 2 0 0), (27, .ints .i64 a1), (28, .int .i64 (a1.length : Int)), (29, .int .i64 v)], [some (.gen 22 1 [[.ints .i64 a1]]), some (.gen 22 1 [[.ints .i64 a2]]), some (.gen 24 2 [[.int .i64 0, .own 3 0]]), some (.ints 3 .i64 [])]⟩
        refine AWP_seq ?_
        -- region 7
        refine AWP_rg tab_ok [0, 4, 5, 6, 27, 28, 29, 30] fun c st' hr => ?_
        simp only [go_sem, reduceIte, reduceCtorEq, Nat.reduceEqDiff, Nat.reduceLT, Nat.reduceLeDiff, Nat.reduceBEq, Nat.reduceAdd, Nat.reduceMul, Nat.reduceSub, Nat.reducePow, Int.reduceLE, Int.reduceLT, Int.reduceNeg, Int.reduceToNat, Int.reduceAdd, Int.reduceSub] at hr
        obtain ⟨rfl, rfl⟩ := hr
        refine ⟨vc, ?_⟩
        with_reducible refine thenC_normal ?_
        refine AWP_seq ?_
        refine AWP_condP (v < (a1.length : Int)) rfl bd (fun hb2 => ?_) (fun hb2 => ?_)
        · replace hK := ite_t hK hb2
          refine AWP_skip ?_
          with_reducible refine thenC_normal ?_
          refine AWP_seq ?_
          refine AWP_block ?_
          refine AWP_seq ?_
          -- region 8
          replace hK := chk_some hK
          obtain ⟨h, hK⟩ := hK
          refine AWP_rg tab_ok [0, 4, 5, 6, 9, 10, 27, 28, 29] fun c st' hr => ?_
          simp only [go_sem, reduceIte, reduceCtorEq, Nat.reduceEqDiff, Nat.reduceLT, Nat.reduceLeDiff, Nat.reduceBEq, Nat.reduceAdd, Nat.reduceMul, Nat.reduceSub, Nat.reducePow, Int.reduceLE, Int.reduceLT, Int.reduceNeg, Int.reduceToNat, Int.reduceAdd, Int.reduceSub] at hr
          obtain ⟨rfl, rfl⟩ := hr
          refine ⟨vc, ?_⟩
          with_reducible refine thenC_normal ?_
          refine AWP_seq ?_
          refine AWP_seq ?_
          -- region 9
          replace hK := chk_some hK
          obtain ⟨h1, hK⟩ := hK
          refine AWP_rg tab_ok [0, 4, 5, 6, 9, 10, 27, 28, 29, 38] fun c st' hr => ?_
          simp only [go_sem, reduceIte, reduceCtorEq, Nat.reduceEqDiff, Nat.reduceLT, Nat.reduceLeDiff, Nat.reduceBEq, Nat.reduceAdd, Nat.reduceMul, Nat.reduceSub, Nat.reducePow, Int.reduceLE, Int.reduceLT, Int.reduceNeg, Int.reduceToNat, Int.reduceAdd, Int.reduceSub] at hr
          obtain ⟨rfl, rfl⟩ := hr
          refine ⟨vc, ?_⟩
          with_reducible refine thenC_normal ?_
          refine AWP_condP (a2.getD v.toNat 0 < 0) rfl bd (fun hb3 => ?_) (fun hb3 => ?_)
          · replace hK := ite_t hK hb3
            refine AWP_seq ?_
            -- region 10
            refine AWP_rg tab_ok [6, 7] fun c st' hr => ?_
            simp only [go_sem, reduceIte, reduceCtorEq, Nat.reduceEqDiff, Nat.reduceLT, Nat.reduceLeDiff, Nat.reduceBEq, Nat.reduceAdd, Nat.reduceMul, Nat.reduceSub, Nat.reducePow, Int.reduceLE, Int.reduceLT, Int.reduceNeg, Int.reduceToNat, Int.reduceAdd, Int.reduceSub] at hr
            obtain ⟨rfl, rfl⟩ := hr
            refine ⟨vc, ?_⟩
            with_reducible refine thenC_normal ?_
            refine AWP_ownH 2 1 (.ints 3 .i64 []) rfl rfl rfl fun st' hr => ?_
            simp only [go_sem, reduceIte, reduceCtorEq, Nat.reduceEqDiff, Nat.reduceLT, Nat.reduceLeDiff, Nat.reduceBEq, Nat.reduceAdd, Nat.reduceMul, Nat.reduceSub, Nat.reducePow, Int.reduceLE, Int.reduceLT, Int.reduceNeg, Int.reduceToNat, Int.reduceAdd, Int.reduceSub] at hr
            subst hr
            refine AWP_ret ?_
            with_reducible refine thenC_ret (inBlockA_ret (thenC_ret (again_r (cutX_r (inBlockA_ret (thenC_ret ?_))))))
            replace hK := hpost1 _ hK
            try dsimp only at hK
            cases hK
            refine EndsRW [4] (.inl rfl) (of_decide_eq_true rfl) (by simp) rfl (fun c x hr => ?_) endH
            simp only [go_sem, reduceIte, reduceCtorEq, Nat.reduceEqDiff, Nat.reduceLT, Nat.reduceLeDiff, Nat.reduceBEq, Nat.reduceAdd, Nat.reduceMul, Nat.reduceSub, Nat.reducePow, Int.reduceLE, Int.reduceLT, Int.reduceNeg, Int.reduceToNat, Int.reduceAdd, Int.reduceSub] at hr
            obtain ⟨rfl, rfl⟩ := hr
            exact ⟨rfl, endR⟩
          · replace hK := ite_f hK hb3
            refine AWP_skip ?_
            with_reducible refine thenC_normal ?_
            refine AWP_seq ?_
            -- region 11
            replace hK := chk_some hK
            obtain ⟨h2, hK⟩ := hK
            refine AWP_rg tab_ok [0, 4, 5, 6, 10, 27, 28, 29, 42, 43, 44] fun c st' hr => ?_
            simp only [go_sem, reduceIte, reduceCtorEq, Nat.reduceEqDiff, Nat.reduceLT, Nat.reduceLeDiff, Nat.reduceBEq, Nat.reduceAdd, Nat.reduceMul, Nat.reduceSub, Nat.reducePow, Int.reduceLE, Int.reduceLT, Int.reduceNeg, Int.reduceToNat, Int.reduceAdd, Int.reduceSub] at hr
            obtain ⟨rfl, rfl⟩ := hr
            refine ⟨vc, ?_⟩
            with_reducible refine thenC_normal ?_
            refine AWP_block ?_
            refine AWP_loopX 2 (fun (v1 : Int) => ⟨69, [(0, .int .i64 n), (4, .ptr 0 0 0), (5, .ptr 1 0 0), (6, .ptr 2 0 0), (10, .int .i64 (a1.getD v.toNat 0)), (27, .ints .i64 a1), (28, .int .i64 (a1.length : Int)), (29, .int .i64 v), (42, .ints .i64 (a1.take v.toNat)), (43, .int .i64 ((a1.take v.toNat).length : Int)), (44, .int .i64 v1)], [some (.gen 22 1 [[.ints .i64 a1]]), some (.gen 22 1 [[.ints .i64 a2]]), some (.gen 24 2 [[.int .i64 0, .own 3 0]]), some (.ints 3 .i64 [])]⟩) (fun (_ : Unit) => ⟨69, [(0, .int .i64 n), (4, .ptr 0 0 0), (5, .ptr 1 0 0), (6, .ptr 2 0 0), (27, .ints .i64 a1), (28, .int .i64 (a1.length : Int)), (29, .int .i64 v)], [some (.gen 22 1 [[.ints .i64 a1]]), some (.gen 22 1 [[.ints .i64 a2]]), some (.gen 24 2 [[.int .i64 0, .own 3 0]]), some (.ints 3 .i64 [])]⟩) Sum.inl 0 [0, 1, 2, 3] hK mkWk ?_ ?_
            · clear hK; rintro v1 b1 hK hpost2
              try dsimp only at hK
              change AWP _ _ _ _ ⟨69, [(0, .int .i64 n), (4, .ptr 0 0 0), (5, .ptr 1 0 0), (6, .ptr 2 0 0), (10, .int .i64 (a1.getD v.toNat 0)), (27, .ints .i64 a1), (28, .int .i64 (a1.length : Int)), (29, .int .i64 v), (42, .ints .i64 (a1.take v.toNat)), (43, .int .i64 ((a1.take v.toNat).length : Int)), (44, .int .i64 v1)], [some (.gen 22 1 [[.ints .i64 a1]]), some (.gen 22 1 [[.ints .i64 a2]]), some (.gen 24 2 [[.int .i64 0, .own 3 0]]), some (.ints 3 .i64 [])]⟩
              refine AWP_seq ?_
              -- region 12
              refine AWP_rg tab_ok [0, 4, 5, 6, 10, 27, 28, 29, 42, 43, 44, 45] fun c st' hr => ?_
              simp only [go_sem, reduceIte, reduceCtorEq, Nat.reduceEqDiff, Nat.reduceLT, Nat.reduceLeDiff, Nat.reduceBEq, Nat.reduceAdd, Nat.reduceMul, Nat.reduceSub, Nat.reducePow, Int.reduceLE, Int.reduceLT, Int.reduceNeg, Int.reduceToNat, Int.reduceAdd, Int.reduceSub] at hr
              obtain ⟨rfl, rfl⟩ := hr
              refine ⟨vc, ?_⟩
              with_reducible refine thenC_normal ?_
              refine AWP_seq ?_
              refine AWP_condP (v1 < ((a1.take v.toNat).length : Int)) rfl bd (fun hb4 => ?_) (fun hb4 => ?_)
              · replace hK := ite_t hK hb4
                refine AWP_skip ?_
                with_reducible refine thenC_normal ?_
                refine AWP_seq ?_
                refine AWP_block ?_
                refine AWP_seq ?_
                -- region 13
                replace hK := chk_some hK
                obtain ⟨h3, hK⟩ := hK
                refine AWP_rg tab_ok [0, 4, 5, 6, 10, 12, 27, 28, 29, 42, 43, 44] fun c st' hr => ?_
                simp only [go_sem, reduceIte, reduceCtorEq, Nat.reduceEqDiff, Nat.reduceLT, Nat.reduceLeDiff, Nat.reduceBEq, Nat.reduceAdd, Nat.reduceMul, Nat.reduceSub, Nat.reducePow, Int.reduceLE, Int.reduceLT, Int.reduceNeg, Int.reduceToNat, Int.reduceAdd, Int.reduceSub] at hr
                obtain ⟨rfl, rfl⟩ := hr
                refine ⟨vc, ?_⟩
                with_reducible refine thenC_normal ?_
                refine AWP_seq ?_
                -- region 14
                refine AWP_rg tab_ok [0, 4, 5, 6, 10, 12, 13, 27, 28, 29, 42, 43, 44] fun c st' hr => ?_
                simp only [go_sem, reduceIte, reduceCtorEq, Nat.reduceEqDiff, Nat.reduceLT, Nat.reduceLeDiff, Nat.reduceBEq, Nat.reduceAdd, Nat.reduceMul, Nat.reduceSub, Nat.reducePow, Int.reduceLE, Int.reduceLT, Int.reduceNeg, Int.reduceToNat, Int.reduceAdd, Int.reduceSub] at hr
                obtain ⟨rfl, rfl⟩ := hr
                refine ⟨vc, ?_⟩
                with_reducible refine thenC_normal ?_
                refine AWP_seq ?_
                -- region 15
                refine AWP_rg tab_ok [0, 4, 5, 6, 10, 27, 28, 29, 42, 43, 44, 62] fun c st' hr => ?_
                simp only [go_sem, reduceIte, reduceCtorEq, Nat.reduceEqDiff, Nat.reduceLT, Nat.reduceLeDiff, Nat.reduceBEq, Nat.reduceAdd, Nat.reduceMul, Nat.reduceSub, Nat.reducePow, Int.reduceLE, Int.reduceLT, Int.reduceNeg, Int.reduceToNat, Int.reduceAdd, Int.reduceSub] at hr
                obtain ⟨rfl, rfl⟩ := hr
                refine ⟨vc, ?_⟩
                with_reducible refine thenC_normal ?_
                refine AWP_condP (((iand (a1.getD v.toNat 0) ((a1.take v.toNat).getD v1.toNat 0) ≠ 0 ∧ iand (a1.getD v.toNat 0) ((a1.take v.toNat).getD v1.toNat 0) ≠ a1.getD v.toNat 0) ∧ iand (a1.getD v.toNat 0) ((a1.take v.toNat).getD v1.toNat 0) ≠ (a1.take v.toNat).getD v1.toNat 0)) rfl bd (fun hb5 => ?_) (fun hb5 => ?_)
                · replace hK := ite_t hK hb5
                  refine AWP_seq ?_
                  -- region 16
                  refine AWP_rg tab_ok [6, 7] fun c st' hr => ?_
                  simp only [go_sem, reduceIte, reduceCtorEq, Nat.reduceEqDiff, Nat.reduceLT, Nat.reduceLeDiff, Nat.reduceBEq, Nat.reduceAdd, Nat.reduceMul, Nat.reduceSub, Nat.reducePow, Int.reduceLE, Int.reduceLT, Int.reduceNeg, Int.reduceToNat, Int.reduceAdd, Int.reduceSub] at hr
                  obtain ⟨rfl, rfl⟩ := hr
                  refine ⟨vc, ?_⟩
                  with_reducible refine thenC_normal ?_
                  refine AWP_ownH 2 1 (.ints 3 .i64 []) rfl rfl rfl fun st' hr => ?_
                  simp only [go_sem, reduceIte, reduceCtorEq, Nat.reduceEqDiff, Nat.reduceLT, Nat.reduceLeDiff, Nat.reduceBEq, Nat.reduceAdd, Nat.reduceMul, Nat.reduceSub, Nat.reducePow, Int.reduceLE, Int.reduceLT, Int.reduceNeg, Int.reduceToNat, Int.reduceAdd, Int.reduceSub] at hr
                  subst hr
                  refine AWP_ret ?_
                  with_reducible refine inBlockA_ret (thenC_ret (again_r (cutX_r (inBlockA_ret (inBlockA_ret (thenC_ret (again_r (cutX_r (inBlockA_ret (thenC_ret ?_))))))))))
                  replace hK := hpost2 _ hK
                  try dsimp only at hK
                  replace hK := hpost1 _ hK
                  try dsimp only at hK
                  cases hK
                  refine EndsRW [4] (.inl rfl) (of_decide_eq_true rfl) (by simp) rfl (fun c x hr => ?_) endH
                  simp only [go_sem, reduceIte, reduceCtorEq, Nat.reduceEqDiff, Nat.reduceLT, Nat.reduceLeDiff, Nat.reduceBEq, Nat.reduceAdd, Nat.reduceMul, Nat.reduceSub, Nat.reducePow, Int.reduceLE, Int.reduceLT, Int.reduceNeg, Int.reduceToNat, Int.reduceAdd, Int.reduceSub] at hr
                  obtain ⟨rfl, rfl⟩ := hr
                  exact ⟨rfl, endR⟩
                · replace hK := ite_f hK hb5
                  refine AWP_skip ?_
                  with_reducible refine inBlockA_normal (thenC_normal ?_)
                  -- region 17
                  refine AWP_facts (by simp) fun hfx => ?_
                  simp only [factS, factV, fact1, fact0, factL0, lo, hi, maxLen, and_true, true_and] at hfx
                  refine AWP_rg tab_ok [0, 4, 5, 6, 10, 27, 28, 29, 42, 43, 44] fun c st' hr => ?_
                  simp only [go_sem, reduceIte, reduceCtorEq, Nat.reduceEqDiff, Nat.reduceLT, Nat.reduceLeDiff, Nat.reduceBEq, Nat.reduceAdd, Nat.reduceMul, Nat.reduceSub, Nat.reducePow, Int.reduceLE, Int.reduceLT, Int.reduceNeg, Int.reduceToNat, Int.reduceAdd, Int.reduceSub] at hr
                  obtain ⟨rfl, rfl⟩ := hr
                  refine ⟨vc, ?_⟩
                  clear hfx
                  refine again_n (v1 + 1) [0, 1, 2, 3] hK mkWk
              · replace hK := ite_f hK hb4
                refine AWP_exit ?_
                with_reducible refine thenC_exit (again_x ?_)
                refine cutX_here () [0, 1, 2, 3] (by have hq := hpost2 _ hK; exact hq) mkWk
            · clear hK; rintro _ hK
              try dsimp only at hK
              refine exS ⟨69, [(0, .int .i64 n), (4, .ptr 0 0 0), (5, .ptr 1 0 0), (6, .ptr 2 0 0), (27, .ints .i64 a1), (28, .int .i64 (a1.length : Int)), (29, .int .i64 v)], [some (.gen 22 1 [[.ints .i64 a1]]), some (.gen 22 1 [[.ints .i64 a2]]), some (.gen 24 2 [[.int .i64 0, .own 3 0]]), some (.ints 3 .i64 [])]⟩ rfl ?_
              with_reducible refine inBlockA_exit (inBlockA_normal (thenC_normal ?_))
              -- region 18
              refine AWP_facts (by simp) fun hfx => ?_
              simp only [factS, factV, fact1, fact0, factL0, lo, hi, maxLen, and_true, true_and] at hfx
              refine AWP_rg tab_ok [0, 4, 5, 6, 27, 28, 29] fun c st' hr => ?_
              simp only [go_sem, reduceIte, reduceCtorEq, Nat.reduceEqDiff, Nat.reduceLT, Nat.reduceLeDiff, Nat.reduceBEq, Nat.reduceAdd, Nat.reduceMul, Nat.reduceSub, Nat.reducePow, Int.reduceLE, Int.reduceLT, Int.reduceNeg, Int.reduceToNat, Int.reduceAdd, Int.reduceSub] at hr
              obtain ⟨rfl, rfl⟩ := hr
              refine ⟨vc, ?_⟩
              clear hfx
              refine again_n (v + 1) [0, 1, 2, 3] hK mkWk
        · replace hK := ite_f hK hb2
          refine AWP_exit ?_
          with_reducible refine thenC_exit (again_x ?_)
          refine cutX_here () [0, 1, 2, 3] (by have hq := hpost1 _ hK; exact hq) mkWk
      · clear hK; rintro _ hK
        try dsimp only at hK
        refine exS ⟨69, [(0, .int .i64 n), (4, .ptr 0 0 0), (5, .ptr 1 0 0), (6, .ptr 2 0 0)], [some (.gen 22 1 [[.ints .i64 a1]]), some (.gen 22 1 [[.ints .i64 a2]]), some (.gen 24 2 [[.int .i64 0, .own 3 0]]), some (.ints 3 .i64 [])]⟩ rfl ?_
        with_reducible refine inBlockA_exit (thenC_normal ?_)
        refine AWP_seq ?_
        -- region 19
        refine AWP_rl ?_
        refine AWPL_rn tab_ok 2 [6, 66, 67] fun c st' hr => ?_
        simp only [go_sem, reduceIte, reduceCtorEq, Nat.reduceEqDiff, Nat.reduceLT, Nat.reduceLeDiff, Nat.reduceBEq, Nat.reduceAdd, Nat.reduceMul, Nat.reduceSub, Nat.reducePow, Int.reduceLE, Int.reduceLT, Int.reduceNeg, Int.reduceToNat, Int.reduceAdd, Int.reduceSub] at hr
        obtain ⟨rfl, rfl⟩ := hr
        refine ⟨vc, ?_⟩
        replace hK := bind_s hK
        obtain ⟨y1, hy, hK⟩ := hK
        refine AWPL_callK [6, 68] (W_kinds_greatest Try.call96 rfl (fun _ _ hh => by simpa using W_kinds_Laminar_1 hh) hy) rfl rfl pcT rfl Try.call75 (.cons (.atom _ rfl) (.cons (.funcOf (.cons (.ptrM _ _ _ _ _ _ _ rfl rfl rfl (ArgsOk.get (.cons (.atom _ rfl) .nil)).2) (.cons (.ptrM _ _ _ _ _ _ _ rfl rfl rfl (ArgsOk.get (.cons (.atom _ rfl) .nil)).2) .nil))) .nil)) (hscG trivial) (of_decide_eq_true rfl) (by first | rfl | simp [nI, nI1, nI0]) (by first | rfl | simp [nIB, nI0]) fun st' hr => ?_
        simp only [go_sem, reduceIte, reduceCtorEq, Nat.reduceEqDiff, Nat.reduceLT, Nat.reduceLeDiff, Nat.reduceBEq, Nat.reduceAdd, Nat.reduceMul, Nat.reduceSub, Nat.reducePow, Int.reduceLE, Int.reduceLT, Int.reduceNeg, Int.reduceToNat, Int.reduceAdd, Int.reduceSub] at hr
        subst hr
        clear hy
        refine AWPL_rn tab_ok 2 [6, 7] fun c st' hr => ?_
        simp only [go_sem, reduceIte, reduceCtorEq, Nat.reduceEqDiff, Nat.reduceLT, Nat.reduceLeDiff, Nat.reduceBEq, Nat.reduceAdd, Nat.reduceMul, Nat.reduceSub, Nat.reducePow, Int.reduceLE, Int.reduceLT, Int.reduceNeg, Int.reduceToNat, Int.reduceAdd, Int.reduceSub] at hr
        obtain ⟨rfl, rfl⟩ := hr
        refine ⟨vc, ?_⟩
        refine AWPL_nil ?_
        with_reducible refine thenC_normal ?_
        refine AWP_ret ?_
        cases hK
        refine EndsRW [4] (.inl rfl) (of_decide_eq_true rfl) (by simp) rfl (fun c x hr => ?_) endH
        simp only [go_sem, reduceIte, reduceCtorEq, Nat.reduceEqDiff, Nat.reduceLT, Nat.reduceLeDiff, Nat.reduceBEq, Nat.reduceAdd, Nat.reduceMul, Nat.reduceSub, Nat.reducePow, Int.reduceLE, Int.reduceLT, Int.reduceNeg, Int.reduceToNat, Int.reduceAdd, Int.reduceSub] at hr
        obtain ⟨rfl, rfl⟩ := hr
        exact ⟨rfl, endR⟩

end Go.SH
