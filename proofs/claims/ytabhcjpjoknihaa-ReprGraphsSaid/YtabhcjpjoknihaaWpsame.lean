/-
  That the code computes these functions: same_ranks, same_ones, same_restricted, same_Isomorphic_1, same_moved, same_each_1, same_each, same_Isomorphic, same_Minor. By a program of mine (shal.py). Conditions: none.
-/
import Derived.Test.YtabhcjpjoknihaaAxT
import Derived.Test.YtabhcjpjoknihaaAxR
import Derived.Test.YtabhcjpjoknihaaAxGc
import Derived.Test.YtabhcjpjoknihaaAxCy
import Derived.Test.YtabhcjpjoknihaaAxOp
import Derived.Test.YtabhcjpjoknihaaAxJm
import Derived.Test.YtabhcjpjoknihaaAxZ
import Derived.Test.YtabhcjpjoknihaaAxW
import Derived.Test.YtabhcjpjoknihaaAxP
import Derived.Test.YtabhcjpjoknihaaShelf
import Derived.Test.YtabhcjpjoknihaaSp
import Derived.Test.YtabhcjpjoknihaaWpaxioms
set_option linter.unusedVariables false
set_option linter.unusedSimpArgs false
namespace Go.SH
open Go Go.AX Go.AX.Try Go.Proofs

set_option maxRecDepth 8000 in
set_option maxHeartbeats 4000000 in
theorem W_same_ranks {m_0 : Int} {m_1 : List Int} {r : List Int} (hK : same_ranks m_0 m_1 = some r) : Pure Try.prog 103 [.agg [.int .i64 m_0, .ints .i64 m_1]] (.own 0 r.length) [(.ints 3 .i64 r)] := by
  refine Pure_introF tab_ok (n := 11) (l := [.tmp 2]) Try.func103 rfl rfl rfl (by simp) fun hfact w0 => ?_
  simp only [factL1, fact1, fact0, factL0, lo, hi, maxLen, and_true] at hfact
  unfold same_ranks at hK
  refine AWP_seq ?_
  refine AWP_rg tab_ok [1] fun c st' hr => ?_
  simp only [go_sem, reduceIte, reduceCtorEq, Nat.reduceEqDiff, Nat.reduceLT, Nat.reduceLeDiff, Nat.reduceBEq, Nat.reduceAdd, Int.reduceLE, Int.reduceLT] at hr
  obtain ⟨rfl, rfl⟩ := hr
  refine ⟨vc, ?_⟩
  with_reducible refine thenC_normal ?_
  refine AWP_seq ?_
  refine AWP_rl ?_
  refine AWPL_rn tab_ok 1 [6] fun c st' hr => ?_
  simp only [go_sem, reduceIte, reduceCtorEq, Nat.reduceEqDiff, Nat.reduceLT, Nat.reduceLeDiff, Nat.reduceBEq, Nat.reduceAdd, Int.reduceLE, Int.reduceLT] at hr
  obtain ⟨rfl, rfl⟩ := hr
  refine ⟨vc, ?_⟩
  replace hK := bind_s hK
  obtain ⟨y, hy, hK⟩ := hK
  refine AWPL_callK [7] (W_axioms_Ranks hy) rfl rfl pcT rfl Try.call123 (.cons (.agg _ _ rfl (ArgsOk.get (.cons (.atom _ rfl) (.cons (.atom _ rfl) .nil))).2) .nil) (hscG trivial) (of_decide_eq_true rfl) (by first | rfl | simp [nI, nI1, nI0]) (by first | rfl | simp [nIB, nI0]) fun st' hr => ?_
  simp only [go_sem, reduceIte, reduceCtorEq, Nat.reduceEqDiff, Nat.reduceLT, Nat.reduceLeDiff, Nat.reduceBEq, Nat.reduceAdd, Int.reduceLE, Int.reduceLT] at hr
  subst hr
  clear hy
  refine AWPL_rn tab_ok 5 [3] fun c st' hr => ?_
  simp only [go_sem, reduceIte, reduceCtorEq, Nat.reduceEqDiff, Nat.reduceLT, Nat.reduceLeDiff, Nat.reduceBEq, Nat.reduceAdd, Int.reduceLE, Int.reduceLT] at hr
  obtain ⟨rfl, rfl⟩ := hr
  refine ⟨vc, ?_⟩
  refine AWPL_nil ?_
  with_reducible refine thenC_normal ?_
  refine AWP_seq ?_
  refine AWP_rg tab_ok [2] fun c st' hr => ?_
  simp only [go_sem, reduceIte, reduceCtorEq, Nat.reduceEqDiff, Nat.reduceLT, Nat.reduceLeDiff, Nat.reduceBEq, Nat.reduceAdd, Int.reduceLE, Int.reduceLT] at hr
  obtain ⟨rfl, rfl⟩ := hr
  refine ⟨vc, ?_⟩
  with_reducible refine thenC_normal ?_
  refine AWP_ret ?_
  cases hK
  refine EndsRW [1] (.inl rfl) (of_decide_eq_true rfl) (by simp) rfl (fun c x hr => ?_) endH
  simp only [go_sem, reduceIte, reduceCtorEq, Nat.reduceEqDiff, Nat.reduceLT, Nat.reduceLeDiff, Nat.reduceBEq, Nat.reduceAdd, Int.reduceLE, Int.reduceLT] at hr
  obtain ⟨rfl, rfl⟩ := hr
  exact ⟨rfl, endR⟩

set_option maxRecDepth 8000 in
set_option maxHeartbeats 4000000 in
theorem W_same_ones {s : Int} {r : Int} (hK : same_ones s = some r) : Pure Try.prog 104 [.int .i64 s] (.int .i64 r) [] := by
  refine Pure_introF tab_ok (n := 13) (l := [.tmp 2]) Try.func104 rfl rfl rfl (by simp) fun hfact w0 => ?_
  simp only [factL1, fact1, fact0, factL0, lo, hi, maxLen, and_true] at hfact
  unfold same_ones at hK
  refine AWP_seq ?_
  refine AWP_rg tab_ok [0] fun c st' hr => ?_
  simp only [go_sem, reduceIte, reduceCtorEq, Nat.reduceEqDiff, Nat.reduceLT, Nat.reduceLeDiff, Nat.reduceBEq, Nat.reduceAdd, Int.reduceLE, Int.reduceLT] at hr
  obtain ⟨rfl, rfl⟩ := hr
  refine ⟨vc, ?_⟩
  with_reducible refine thenC_normal ?_
  refine AWP_seq ?_
  refine AWP_rg tab_ok [0, 3] fun c st' hr => ?_
  simp only [go_sem, reduceIte, reduceCtorEq, Nat.reduceEqDiff, Nat.reduceLT, Nat.reduceLeDiff, Nat.reduceBEq, Nat.reduceAdd, Int.reduceLE, Int.reduceLT] at hr
  obtain ⟨rfl, rfl⟩ := hr
  refine ⟨vc, ?_⟩
  with_reducible refine thenC_normal ?_
  refine AWP_seq ?_
  refine AWP_block ?_
  refine AWP_loopX 0 (fun ((s1, n) : Int × Int) => ⟨13, [(0, .int .i64 s1), (3, .int .i64 n)], []⟩) (fun (n1 : Int) => ⟨13, [(3, .int .i64 n1)], []⟩) (fun v => v) (s, 0) [] hK mkWk ?_ ?_
  · clear hK; rintro ⟨s1, n⟩ b hK hpost1
    try dsimp only at hK
    change AWP _ _ _ _ ⟨13, [(0, .int .i64 s1), (3, .int .i64 n)], []⟩
    refine AWP_seq ?_
    refine AWP_seq ?_
    refine AWP_rg tab_ok [0, 3, 5] fun c st' hr => ?_
    simp only [go_sem, reduceIte, reduceCtorEq, Nat.reduceEqDiff, Nat.reduceLT, Nat.reduceLeDiff, Nat.reduceBEq, Nat.reduceAdd, Int.reduceLE, Int.reduceLT] at hr
    obtain ⟨rfl, rfl⟩ := hr
    refine ⟨vc, ?_⟩
    with_reducible refine thenC_normal ?_
    refine AWP_condP (s1 ≠ 0) rfl bd (fun hb => ?_) (fun hb => ?_)
    · replace hK := ite_t hK hb
      refine AWP_skip ?_
      with_reducible refine thenC_normal ?_
      refine AWP_seq ?_
      refine AWP_block ?_
      replace hK := chk_some hK
      obtain ⟨h, hK⟩ := hK
      refine AWP_rg tab_ok [0, 3] fun c st' hr => ?_
      simp only [go_sem, reduceIte, reduceCtorEq, Nat.reduceEqDiff, Nat.reduceLT, Nat.reduceLeDiff, Nat.reduceBEq, Nat.reduceAdd, Int.reduceLE, Int.reduceLT] at hr
      obtain ⟨rfl, rfl⟩ := hr
      refine ⟨vc, ?_⟩
      with_reducible refine inBlockA_normal (thenC_normal ?_)
      replace hK := chk_some hK
      obtain ⟨h1, hK⟩ := hK
      refine AWP_rg tab_ok [0, 3] fun c st' hr => ?_
      simp only [go_sem, reduceIte, reduceCtorEq, Nat.reduceEqDiff, Nat.reduceLT, Nat.reduceLeDiff, Nat.reduceBEq, Nat.reduceAdd, Int.reduceLE, Int.reduceLT] at hr
      obtain ⟨rfl, rfl⟩ := hr
      refine ⟨vc, ?_⟩
      refine again_n (iand s1 (s1 - 1), n + 1) [] hK mkWk
    · replace hK := ite_f hK hb
      refine AWP_exit ?_
      with_reducible refine thenC_exit (again_x ?_)
      refine cutX_here n [] (by have hq := hpost1 _ hK; exact hq) mkWk
  · clear hK; rintro n1 hK
    try dsimp only at hK
    refine exS ⟨13, [(3, .int .i64 n1)], []⟩ rfl ?_
    with_reducible refine inBlockA_exit (thenC_normal ?_)
    refine AWP_seq ?_
    refine AWP_rg tab_ok [2] fun c st' hr => ?_
    simp only [go_sem, reduceIte, reduceCtorEq, Nat.reduceEqDiff, Nat.reduceLT, Nat.reduceLeDiff, Nat.reduceBEq, Nat.reduceAdd, Int.reduceLE, Int.reduceLT] at hr
    obtain ⟨rfl, rfl⟩ := hr
    refine ⟨vc, ?_⟩
    with_reducible refine thenC_normal ?_
    refine AWP_ret ?_
    cases hK
    refine EndsRW [] (.inl rfl) (of_decide_eq_true rfl) (by simp) rfl (fun c x hr => ?_) trivial
    simp only [go_sem, reduceIte, reduceCtorEq, Nat.reduceEqDiff, Nat.reduceLT, Nat.reduceLeDiff, Nat.reduceBEq, Nat.reduceAdd, Int.reduceLE, Int.reduceLT] at hr
    obtain ⟨rfl, rfl⟩ := hr
    exact ⟨rfl, endR⟩

set_option maxRecDepth 8000 in
set_option maxHeartbeats 4000000 in
theorem W_same_restricted {n : Int} {a1 : List Int} {a2 : Int} {a3 : Int} {r : Int × List Int} (hK : same_restricted n a1 a2 a3 = some r) : Pure Try.prog 105 [.int .i64 n, .ints .i64 a1, .int .i64 a2, .int .i64 a3] (.agg [.int .i64 r.1, .own 0 r.2.length]) [(.ints 3 .i64 r.2)] := by
  refine Pure_introF tab_ok (n := 94) (l := [.cell 8 46]) Try.func105 rfl rfl rfl (by simp) fun hfact w0 => ?_
  simp only [factL1, fact1, fact0, factL0, lo, hi, maxLen, and_true] at hfact
  unfold same_restricted at hK
  refine AWP_seq ?_
  refine AWP_rg tab_ok [0, 1, 2, 3, 8] fun c st' hr => ?_
  simp only [go_sem, reduceIte, reduceCtorEq, Nat.reduceEqDiff, Nat.reduceLT, Nat.reduceLeDiff, Nat.reduceBEq, Nat.reduceAdd, Int.reduceLE, Int.reduceLT] at hr
  obtain ⟨rfl, rfl⟩ := hr
  refine ⟨vc, ?_⟩
  with_reducible refine thenC_normal ?_
  refine AWP_ownH 0 1 (.ints 3 .i64 []) rfl rfl rfl fun st' hr => ?_
  simp only [go_sem, reduceIte, reduceCtorEq, Nat.reduceEqDiff, Nat.reduceLT, Nat.reduceLeDiff, Nat.reduceBEq, Nat.reduceAdd, Int.reduceLE, Int.reduceLT] at hr
  subst hr
  refine AWP_seq ?_
  refine AWP_rg tab_ok [0, 1, 2, 3, 8, 9] fun c st' hr => ?_
  simp only [go_sem, reduceIte, reduceCtorEq, Nat.reduceEqDiff, Nat.reduceLT, Nat.reduceLeDiff, Nat.reduceBEq, Nat.reduceAdd, Int.reduceLE, Int.reduceLT] at hr
  obtain ⟨rfl, rfl⟩ := hr
  refine ⟨vc, ?_⟩
  with_reducible refine thenC_normal ?_
  refine AWP_own 9 (.ints 3 .i64 []) rfl rfl fun st' hr => ?_
  simp only [go_sem, reduceIte, reduceCtorEq, Nat.reduceEqDiff, Nat.reduceLT, Nat.reduceLeDiff, Nat.reduceBEq, Nat.reduceAdd, Int.reduceLE, Int.reduceLT] at hr
  subst hr
  refine AWP_seq ?_
  refine AWP_seq ?_
  refine AWP_rg tab_ok [1, 2, 3, 8, 9, 17, 18] fun c st' hr => ?_
  simp only [go_sem, reduceIte, reduceCtorEq, Nat.reduceEqDiff, Nat.reduceLT, Nat.reduceLeDiff, Nat.reduceBEq, Nat.reduceAdd, Int.reduceLE, Int.reduceLT] at hr
  obtain ⟨rfl, rfl⟩ := hr
  refine ⟨vc, ?_⟩
  with_reducible refine thenC_normal ?_
  refine AWP_block ?_
  refine AWP_loopX 0 (fun ((v, v1) : List Int × Int) => ⟨94, [(1, .ints .i64 a1), (2, .int .i64 a2), (3, .int .i64 a3), (8, .ptr 0 0 0), (9, .own 2 v.length), (17, .int .i64 n), (18, .int .i64 v1)], [some (.gen 46 2 [[.int .i64 0, .own 1 0]]), some (.ints 3 .i64 []), some (.ints 3 .i64 v)]⟩) (fun (v2 : List Int) => ⟨94, [(1, .ints .i64 a1), (2, .int .i64 a2), (3, .int .i64 a3), (8, .ptr 0 0 0), (9, .own 2 v2.length)], [some (.gen 46 2 [[.int .i64 0, .own 1 0]]), some (.ints 3 .i64 []), some (.ints 3 .i64 v2)]⟩) (fun v => v) ([], 0) [0, 1, 2] hK mkWk ?_ ?_
  · clear hK; rintro ⟨v, v1⟩ b hK hpost1
    try dsimp only at hK
    change AWP _ _ _ _ ⟨94, [(1, .ints .i64 a1), (2, .int .i64 a2), (3, .int .i64 a3), (8, .ptr 0 0 0), (9, .own 2 v.length), (17, .int .i64 n), (18, .int .i64 v1)], [some (.gen 46 2 [[.int .i64 0, .own 1 0]]), some (.ints 3 .i64 []), some (.ints 3 .i64 v)]⟩
    refine AWP_seq ?_
    refine AWP_rg tab_ok [1, 2, 3, 8, 9, 17, 18, 19] fun c st' hr => ?_
    simp only [go_sem, reduceIte, reduceCtorEq, Nat.reduceEqDiff, Nat.reduceLT, Nat.reduceLeDiff, Nat.reduceBEq, Nat.reduceAdd, Int.reduceLE, Int.reduceLT] at hr
    obtain ⟨rfl, rfl⟩ := hr
    refine ⟨vc, ?_⟩
    with_reducible refine thenC_normal ?_
    refine AWP_seq ?_
    refine AWP_condP (v1 < n) rfl bd (fun hb => ?_) (fun hb => ?_)
    · replace hK := ite_t hK hb
      refine AWP_skip ?_
      with_reducible refine thenC_normal ?_
      refine AWP_seq ?_
      refine AWP_block ?_
      refine AWP_seq ?_
      refine AWP_rg tab_ok [1, 2, 3, 8, 9, 10, 17, 18] fun c st' hr => ?_
      simp only [go_sem, reduceIte, reduceCtorEq, Nat.reduceEqDiff, Nat.reduceLT, Nat.reduceLeDiff, Nat.reduceBEq, Nat.reduceAdd, Int.reduceLE, Int.reduceLT] at hr
      obtain ⟨rfl, rfl⟩ := hr
      refine ⟨vc, ?_⟩
      with_reducible refine thenC_normal ?_
      refine AWP_seq ?_
      replace hK := chk_some hK
      obtain ⟨h, hK⟩ := hK
      refine AWP_rg tab_ok [1, 2, 3, 8, 9, 10, 17, 18, 25] fun c st' hr => ?_
      simp only [go_sem, reduceIte, reduceCtorEq, Nat.reduceEqDiff, Nat.reduceLT, Nat.reduceLeDiff, Nat.reduceBEq, Nat.reduceAdd, Int.reduceLE, Int.reduceLT] at hr
      obtain ⟨rfl, rfl⟩ := hr
      refine ⟨vc, ?_⟩
      with_reducible refine thenC_normal ?_
      refine AWP_condP (iand (a2 / 2 ^ v1.toNat) 1 = 1) rfl bd (fun hb1 => ?_) (fun hb1 => ?_)
      · replace hK := ite_t hK hb1
        replace hK := chk_some hK
        obtain ⟨h1, hK⟩ := hK
        refine AWP_rg tab_ok [1, 2, 3, 8, 9, 17, 18] fun c st' hr => ?_
        simp only [go_sem, reduceIte, reduceCtorEq, Nat.reduceEqDiff, Nat.reduceLT, Nat.reduceLeDiff, Nat.reduceBEq, Nat.reduceAdd, Int.reduceLE, Int.reduceLT] at hr
        obtain ⟨rfl, rfl⟩ := hr
        refine ⟨vc, ?_⟩
        with_reducible refine inBlockA_normal (thenC_normal ?_)
        refine AWP_facts (by simp) fun hfx => ?_
        simp only [factS, factV, fact1, fact0, factL0, lo, hi, maxLen, and_true, true_and] at hfx
        refine AWP_rg tab_ok [1, 2, 3, 8, 9, 17, 18] fun c st' hr => ?_
        simp only [go_sem, reduceIte, reduceCtorEq, Nat.reduceEqDiff, Nat.reduceLT, Nat.reduceLeDiff, Nat.reduceBEq, Nat.reduceAdd, Int.reduceLE, Int.reduceLT] at hr
        obtain ⟨rfl, rfl⟩ := hr
        refine ⟨vc, ?_⟩
        clear hfx
        refine again_n (v ++ [v1], v1 + 1) [0, 1, 4] hK mkWk
      · replace hK := ite_f hK hb1
        refine AWP_skip ?_
        with_reducible refine inBlockA_normal (thenC_normal ?_)
        refine AWP_facts (by simp) fun hfx => ?_
        simp only [factS, factV, fact1, fact0, factL0, lo, hi, maxLen, and_true, true_and] at hfx
        refine AWP_rg tab_ok [1, 2, 3, 8, 9, 17, 18] fun c st' hr => ?_
        simp only [go_sem, reduceIte, reduceCtorEq, Nat.reduceEqDiff, Nat.reduceLT, Nat.reduceLeDiff, Nat.reduceBEq, Nat.reduceAdd, Int.reduceLE, Int.reduceLT] at hr
        obtain ⟨rfl, rfl⟩ := hr
        refine ⟨vc, ?_⟩
        clear hfx
        refine again_n (v, v1 + 1) [0, 1, 2] hK mkWk
    · replace hK := ite_f hK hb
      refine AWP_exit ?_
      with_reducible refine thenC_exit (again_x ?_)
      refine cutX_here v [0, 1, 2] (by have hq := hpost1 _ hK; exact hq) mkWk
  · clear hK; rintro v2 hK
    try dsimp only at hK
    refine exS ⟨94, [(1, .ints .i64 a1), (2, .int .i64 a2), (3, .int .i64 a3), (8, .ptr 0 0 0), (9, .own 2 v2.length)], [some (.gen 46 2 [[.int .i64 0, .own 1 0]]), some (.ints 3 .i64 []), some (.ints 3 .i64 v2)]⟩ rfl ?_
    with_reducible refine inBlockA_exit (thenC_normal ?_)
    refine AWP_seq ?_
    refine AWP_rg tab_ok [1, 2, 3, 8, 9, 11] fun c st' hr => ?_
    simp only [go_sem, reduceIte, reduceCtorEq, Nat.reduceEqDiff, Nat.reduceLT, Nat.reduceLeDiff, Nat.reduceBEq, Nat.reduceAdd, Int.reduceLE, Int.reduceLT] at hr
    obtain ⟨rfl, rfl⟩ := hr
    refine ⟨vc, ?_⟩
    with_reducible refine thenC_normal ?_
    refine AWP_ownH 3 1 (.ints 3 .i64 []) rfl rfl rfl fun st' hr => ?_
    simp only [go_sem, reduceIte, reduceCtorEq, Nat.reduceEqDiff, Nat.reduceLT, Nat.reduceLeDiff, Nat.reduceBEq, Nat.reduceAdd, Int.reduceLE, Int.reduceLT] at hr
    subst hr
    refine AWP_seq ?_
    replace hK := chk_some hK
    obtain ⟨h2, hK⟩ := hK
    refine AWP_dr tab_ok [1, 3, 8, 9, 11, 12] mixed (by kernel_rfl) fun c st' hr => ?_
    simp only [go_sem, reduceIte, reduceCtorEq, Nat.reduceEqDiff, Nat.reduceLT, Nat.reduceLeDiff, Nat.reduceBEq, Nat.reduceAdd, Int.reduceLE, Int.reduceLT] at hr
    obtain ⟨rfl, rfl⟩ := hr
    refine ⟨vc, ?_⟩
    with_reducible refine thenC_normal ?_
    refine AWP_seq ?_
    refine AWP_seq ?_
    replace hK := chk_some hK
    obtain ⟨h3, hK⟩ := hK
    refine AWP_rg tab_ok [1, 3, 8, 9, 11, 12, 47, 48] fun c st' hr => ?_
    simp only [go_sem, reduceIte, reduceCtorEq, Nat.reduceEqDiff, Nat.reduceLT, Nat.reduceLeDiff, Nat.reduceBEq, Nat.reduceAdd, Int.reduceLE, Int.reduceLT] at hr
    obtain ⟨rfl, rfl⟩ := hr
    refine ⟨vc, ?_⟩
    with_reducible refine thenC_normal ?_
    refine AWP_block ?_
    refine AWP_loopX 2 (fun ((v3, v4) : List Int × Int) => ⟨94, [(1, .ints .i64 a1), (3, .int .i64 a3), (8, .ptr 0 0 0), (9, .own 2 v2.length), (11, .ptr 3 0 0), (12, .int .i64 ((a1.getD (ior a2 a3).toNat 0) - (a1.getD a3.toNat 0))), (47, .int .i64 (2 ^ (v2.length : Int).toNat : Int)), (48, .int .i64 v4)], [some (.gen 46 2 [[.int .i64 0, .own 1 0]]), some (.ints 3 .i64 []), some (.ints 3 .i64 v2), some (.gen 46 2 [[.int .i64 (v2.length : Int), .own 4 v3.length]]), some (.ints 3 .i64 v3)]⟩) (fun (v5 : List Int) => ⟨94, [(8, .ptr 0 0 0), (11, .ptr 2 0 0)], [some (.gen 46 2 [[.int .i64 0, .own 1 0]]), some (.ints 3 .i64 []), some (.gen 46 2 [[.int .i64 (v2.length : Int), .own 3 v5.length]]), some (.ints 3 .i64 v5)]⟩) (fun v => v) ([], 0) [0, 1, 2, 3, 4] hK mkWk ?_ ?_
    · clear hK; rintro ⟨v3, v4⟩ b1 hK hpost2
      try dsimp only at hK
      change AWP _ _ _ _ ⟨94, [(1, .ints .i64 a1), (3, .int .i64 a3), (8, .ptr 0 0 0), (9, .own 2 v2.length), (11, .ptr 3 0 0), (12, .int .i64 ((a1.getD (ior a2 a3).toNat 0) - (a1.getD a3.toNat 0))), (47, .int .i64 (2 ^ (v2.length : Int).toNat : Int)), (48, .int .i64 v4)], [some (.gen 46 2 [[.int .i64 0, .own 1 0]]), some (.ints 3 .i64 []), some (.ints 3 .i64 v2), some (.gen 46 2 [[.int .i64 (v2.length : Int), .own 4 v3.length]]), some (.ints 3 .i64 v3)]⟩
      refine AWP_seq ?_
      refine AWP_rg tab_ok [1, 3, 8, 9, 11, 12, 47, 48, 49] fun c st' hr => ?_
      simp only [go_sem, reduceIte, reduceCtorEq, Nat.reduceEqDiff, Nat.reduceLT, Nat.reduceLeDiff, Nat.reduceBEq, Nat.reduceAdd, Int.reduceLE, Int.reduceLT] at hr
      obtain ⟨rfl, rfl⟩ := hr
      refine ⟨vc, ?_⟩
      with_reducible refine thenC_normal ?_
      refine AWP_seq ?_
      refine AWP_condP (v4 < (2 ^ (v2.length : Int).toNat : Int)) rfl bd (fun hb2 => ?_) (fun hb2 => ?_)
      · replace hK := ite_t hK hb2
        refine AWP_skip ?_
        with_reducible refine thenC_normal ?_
        refine AWP_seq ?_
        refine AWP_block ?_
        refine AWP_seq ?_
        refine AWP_rg tab_ok [1, 3, 8, 9, 11, 12, 13, 47, 48] fun c st' hr => ?_
        simp only [go_sem, reduceIte, reduceCtorEq, Nat.reduceEqDiff, Nat.reduceLT, Nat.reduceLeDiff, Nat.reduceBEq, Nat.reduceAdd, Int.reduceLE, Int.reduceLT] at hr
        obtain ⟨rfl, rfl⟩ := hr
        refine ⟨vc, ?_⟩
        with_reducible refine thenC_normal ?_
        refine AWP_seq ?_
        refine AWP_rg tab_ok [1, 3, 8, 9, 11, 12, 13, 14, 47, 48] fun c st' hr => ?_
        simp only [go_sem, reduceIte, reduceCtorEq, Nat.reduceEqDiff, Nat.reduceLT, Nat.reduceLeDiff, Nat.reduceBEq, Nat.reduceAdd, Int.reduceLE, Int.reduceLT] at hr
        obtain ⟨rfl, rfl⟩ := hr
        refine ⟨vc, ?_⟩
        with_reducible refine thenC_normal ?_
        refine AWP_seq ?_
        refine AWP_seq ?_
        refine AWP_rg tab_ok [1, 3, 8, 9, 11, 12, 13, 14, 47, 48, 51, 52, 53] fun c st' hr => ?_
        simp only [go_sem, reduceIte, reduceCtorEq, Nat.reduceEqDiff, Nat.reduceLT, Nat.reduceLeDiff, Nat.reduceBEq, Nat.reduceAdd, Int.reduceLE, Int.reduceLT] at hr
        obtain ⟨rfl, rfl⟩ := hr
        refine ⟨vc, ?_⟩
        with_reducible refine thenC_normal ?_
        refine AWP_block ?_
        refine AWP_loopX 4 (fun ((v6, v7) : Int × Int) => ⟨94, [(1, .ints .i64 a1), (3, .int .i64 a3), (8, .ptr 0 0 0), (9, .own 2 v2.length), (11, .ptr 3 0 0), (12, .int .i64 ((a1.getD (ior a2 a3).toNat 0) - (a1.getD a3.toNat 0))), (13, .int .i64 v4), (14, .int .i64 v6), (47, .int .i64 (2 ^ (v2.length : Int).toNat : Int)), (48, .int .i64 v4), (51, .own 2 v2.length), (52, .int .i64 (v2.length : Int)), (53, .int .i64 v7)], [some (.gen 46 2 [[.int .i64 0, .own 1 0]]), some (.ints 3 .i64 []), some (.ints 3 .i64 v2), some (.gen 46 2 [[.int .i64 (v2.length : Int), .own 4 v3.length]]), some (.ints 3 .i64 v3)]⟩) (fun (v8 : Int) => ⟨94, [(1, .ints .i64 a1), (3, .int .i64 a3), (8, .ptr 0 0 0), (9, .own 2 v2.length), (11, .ptr 3 0 0), (12, .int .i64 ((a1.getD (ior a2 a3).toNat 0) - (a1.getD a3.toNat 0))), (13, .int .i64 v4), (14, .int .i64 v8), (47, .int .i64 (2 ^ (v2.length : Int).toNat : Int)), (48, .int .i64 v4)], [some (.gen 46 2 [[.int .i64 0, .own 1 0]]), some (.ints 3 .i64 []), some (.ints 3 .i64 v2), some (.gen 46 2 [[.int .i64 (v2.length : Int), .own 4 v3.length]]), some (.ints 3 .i64 v3)]⟩) (fun v => v) (0, 0) [0, 1, 2, 3, 4] hK mkWk ?_ ?_
        · clear hK; rintro ⟨v6, v7⟩ b2 hK hpost3
          try dsimp only at hK
          change AWP _ _ _ _ ⟨94, [(1, .ints .i64 a1), (3, .int .i64 a3), (8, .ptr 0 0 0), (9, .own 2 v2.length), (11, .ptr 3 0 0), (12, .int .i64 ((a1.getD (ior a2 a3).toNat 0) - (a1.getD a3.toNat 0))), (13, .int .i64 v4), (14, .int .i64 v6), (47, .int .i64 (2 ^ (v2.length : Int).toNat : Int)), (48, .int .i64 v4), (51, .own 2 v2.length), (52, .int .i64 (v2.length : Int)), (53, .int .i64 v7)], [some (.gen 46 2 [[.int .i64 0, .own 1 0]]), some (.ints 3 .i64 []), some (.ints 3 .i64 v2), some (.gen 46 2 [[.int .i64 (v2.length : Int), .own 4 v3.length]]), some (.ints 3 .i64 v3)]⟩
          refine AWP_seq ?_
          refine AWP_rg tab_ok [1, 3, 8, 9, 11, 12, 13, 14, 47, 48, 51, 52, 53, 54] fun c st' hr => ?_
          simp only [go_sem, reduceIte, reduceCtorEq, Nat.reduceEqDiff, Nat.reduceLT, Nat.reduceLeDiff, Nat.reduceBEq, Nat.reduceAdd, Int.reduceLE, Int.reduceLT] at hr
          obtain ⟨rfl, rfl⟩ := hr
          refine ⟨vc, ?_⟩
          with_reducible refine thenC_normal ?_
          refine AWP_seq ?_
          refine AWP_condP (v7 < (v2.length : Int)) rfl bd (fun hb3 => ?_) (fun hb3 => ?_)
          · replace hK := ite_t hK hb3
            refine AWP_skip ?_
            with_reducible refine thenC_normal ?_
            refine AWP_seq ?_
            refine AWP_block ?_
            refine AWP_seq ?_
            replace hK := chk_some hK
            obtain ⟨h4, hK⟩ := hK
            refine AWP_rg tab_ok [1, 3, 8, 9, 11, 12, 13, 14, 15, 16, 47, 48, 51, 52, 53] fun c st' hr => ?_
            simp only [go_sem, reduceIte, reduceCtorEq, Nat.reduceEqDiff, Nat.reduceLT, Nat.reduceLeDiff, Nat.reduceBEq, Nat.reduceAdd, Int.reduceLE, Int.reduceLT] at hr
            obtain ⟨rfl, rfl⟩ := hr
            refine ⟨vc, ?_⟩
            with_reducible refine thenC_normal ?_
            replace hK := chk_some hK
            obtain ⟨h5, hK⟩ := hK
            refine AWP_rg tab_ok [1, 3, 8, 9, 11, 12, 13, 14, 47, 48, 51, 52, 53] fun c st' hr => ?_
            simp only [go_sem, reduceIte, reduceCtorEq, Nat.reduceEqDiff, Nat.reduceLT, Nat.reduceLeDiff, Nat.reduceBEq, Nat.reduceAdd, Int.reduceLE, Int.reduceLT] at hr
            obtain ⟨rfl, rfl⟩ := hr
            refine ⟨vc, ?_⟩
            with_reducible refine inBlockA_normal (thenC_normal ?_)
            refine AWP_facts (by simp) fun hfx => ?_
            simp only [factS, factV, fact1, fact0, factL0, lo, hi, maxLen, and_true, true_and] at hfx
            refine AWP_rg tab_ok [1, 3, 8, 9, 11, 12, 13, 14, 47, 48, 51, 52, 53] fun c st' hr => ?_
            simp only [go_sem, reduceIte, reduceCtorEq, Nat.reduceEqDiff, Nat.reduceLT, Nat.reduceLeDiff, Nat.reduceBEq, Nat.reduceAdd, Int.reduceLE, Int.reduceLT] at hr
            obtain ⟨rfl, rfl⟩ := hr
            refine ⟨vc, ?_⟩
            clear hfx
            refine again_n (ior v6 ((iand (v4 / 2 ^ v7.toNat) 1) * (2 ^ (v2.getD v7.toNat 0).toNat : Int)), v7 + 1) [0, 1, 2, 3, 4] hK mkWk
          · replace hK := ite_f hK hb3
            refine AWP_exit ?_
            with_reducible refine thenC_exit (again_x ?_)
            refine cutX_here v6 [0, 1, 2, 3, 4] (by have hq := hpost3 _ hK; exact hq) mkWk
        · clear hK; rintro v8 hK
          try dsimp only at hK
          refine exS ⟨94, [(1, .ints .i64 a1), (3, .int .i64 a3), (8, .ptr 0 0 0), (9, .own 2 v2.length), (11, .ptr 3 0 0), (12, .int .i64 ((a1.getD (ior a2 a3).toNat 0) - (a1.getD a3.toNat 0))), (13, .int .i64 v4), (14, .int .i64 v8), (47, .int .i64 (2 ^ (v2.length : Int).toNat : Int)), (48, .int .i64 v4)], [some (.gen 46 2 [[.int .i64 0, .own 1 0]]), some (.ints 3 .i64 []), some (.ints 3 .i64 v2), some (.gen 46 2 [[.int .i64 (v2.length : Int), .own 4 v3.length]]), some (.ints 3 .i64 v3)]⟩ rfl ?_
          with_reducible refine inBlockA_exit (thenC_normal ?_)
          refine AWP_seq ?_
          refine AWP_drawQ mixed (by kernel_rfl) ?_
          refine AWQL_rn tab_ok 1 [1, 3, 8, 9, 11, 12, 13, 14, 47, 48, 67] fun c st' hr => ?_
          simp only [go_sem, reduceIte, reduceCtorEq, Nat.reduceEqDiff, Nat.reduceLT, Nat.reduceLeDiff, Nat.reduceBEq, Nat.reduceAdd, Int.reduceLE, Int.reduceLT] at hr
          obtain ⟨rfl, rfl⟩ := hr
          refine ⟨vc, ?_⟩
          replace hK := bind_s hK
          obtain ⟨y, hy, hK⟩ := hK
          refine AWQL_callK [1, 3, 8, 9, 11, 12, 13, 14, 47, 48, 68] (W_same_ones hy) rfl rfl pcT rfl Try.call104 (.cons (.atom _ rfl) .nil) (hscG trivial) (of_decide_eq_true rfl) rfl fun st' hr => ?_
          simp only [go_sem, reduceIte, reduceCtorEq, Nat.reduceEqDiff, Nat.reduceLT, Nat.reduceLeDiff, Nat.reduceBEq, Nat.reduceAdd, Int.reduceLE, Int.reduceLT] at hr
          subst hr
          clear hy
          replace hK := chk_some hK
          obtain ⟨h6, hK⟩ := hK
          refine AWQL_rn tab_ok 17 [1, 3, 8, 9, 11, 12, 13, 47, 48, 85] fun c st' hr => ?_
          simp only [go_sem, reduceIte, reduceCtorEq, Nat.reduceEqDiff, Nat.reduceLT, Nat.reduceLeDiff, Nat.reduceBEq, Nat.reduceAdd, Int.reduceLE, Int.reduceLT] at hr
          obtain ⟨rfl, rfl⟩ := hr
          refine ⟨vc, ?_⟩
          refine AWQL_nil ?_
          with_reducible refine thenC_normal ?_
          refine AWP_condP ((y = (a1.getD (ior a2 a3).toNat 0) - (a1.getD a3.toNat 0) ∧ (a1.getD (ior v8 a3).toNat 0) - (a1.getD a3.toNat 0) = (a1.getD (ior a2 a3).toNat 0) - (a1.getD a3.toNat 0))) rfl bd (fun hb4 => ?_) (fun hb4 => ?_)
          · replace hK := ite_t hK hb4
            replace hK := chk_some hK
            obtain ⟨h7, hK⟩ := hK
            refine AWP_rg tab_ok [1, 3, 8, 9, 11, 12, 47, 48] fun c st' hr => ?_
            simp only [go_sem, reduceIte, reduceCtorEq, Nat.reduceEqDiff, Nat.reduceLT, Nat.reduceLeDiff, Nat.reduceBEq, Nat.reduceAdd, Int.reduceLE, Int.reduceLT] at hr
            obtain ⟨rfl, rfl⟩ := hr
            refine ⟨vc, ?_⟩
            with_reducible refine inBlockA_normal (thenC_normal ?_)
            refine AWP_facts (by simp) fun hfx => ?_
            simp only [factS, factV, fact1, fact0, factL0, lo, hi, maxLen, and_true, true_and] at hfx
            refine AWP_rg tab_ok [1, 3, 8, 9, 11, 12, 47, 48] fun c st' hr => ?_
            simp only [go_sem, reduceIte, reduceCtorEq, Nat.reduceEqDiff, Nat.reduceLT, Nat.reduceLeDiff, Nat.reduceBEq, Nat.reduceAdd, Int.reduceLE, Int.reduceLT] at hr
            obtain ⟨rfl, rfl⟩ := hr
            refine ⟨vc, ?_⟩
            clear hfx
            refine again_n (v3 ++ [v4], v4 + 1) [0, 1, 2, 3, 6] hK mkWk
          · replace hK := ite_f hK hb4
            refine AWP_skip ?_
            with_reducible refine inBlockA_normal (thenC_normal ?_)
            refine AWP_facts (by simp) fun hfx => ?_
            simp only [factS, factV, fact1, fact0, factL0, lo, hi, maxLen, and_true, true_and] at hfx
            refine AWP_rg tab_ok [1, 3, 8, 9, 11, 12, 47, 48] fun c st' hr => ?_
            simp only [go_sem, reduceIte, reduceCtorEq, Nat.reduceEqDiff, Nat.reduceLT, Nat.reduceLeDiff, Nat.reduceBEq, Nat.reduceAdd, Int.reduceLE, Int.reduceLT] at hr
            obtain ⟨rfl, rfl⟩ := hr
            refine ⟨vc, ?_⟩
            clear hfx
            refine again_n (v3, v4 + 1) [0, 1, 2, 3, 4] hK mkWk
      · replace hK := ite_f hK hb2
        refine AWP_exit ?_
        with_reducible refine thenC_exit (again_x ?_)
        refine cutX_here v3 [0, 1, 3, 4] (by have hq := hpost2 _ hK; exact hq) mkWk
    · clear hK; rintro v5 hK
      try dsimp only at hK
      refine exS ⟨94, [(8, .ptr 0 0 0), (11, .ptr 2 0 0)], [some (.gen 46 2 [[.int .i64 0, .own 1 0]]), some (.ints 3 .i64 []), some (.gen 46 2 [[.int .i64 (v2.length : Int), .own 3 v5.length]]), some (.ints 3 .i64 v5)]⟩ rfl ?_
      with_reducible refine inBlockA_exit (thenC_normal ?_)
      refine AWP_seq ?_
      refine AWP_rg tab_ok [8] fun c st' hr => ?_
      simp only [go_sem, reduceIte, reduceCtorEq, Nat.reduceEqDiff, Nat.reduceLT, Nat.reduceLeDiff, Nat.reduceBEq, Nat.reduceAdd, Int.reduceLE, Int.reduceLT] at hr
      obtain ⟨rfl, rfl⟩ := hr
      refine ⟨vc, ?_⟩
      with_reducible refine thenC_normal ?_
      refine AWP_ret ?_
      cases hK
      refine EndsRW [3] (.inl rfl) (of_decide_eq_true rfl) (by simp) rfl (fun c x hr => ?_) endH
      simp only [go_sem, reduceIte, reduceCtorEq, Nat.reduceEqDiff, Nat.reduceLT, Nat.reduceLeDiff, Nat.reduceBEq, Nat.reduceAdd, Int.reduceLE, Int.reduceLT] at hr
      obtain ⟨rfl, rfl⟩ := hr
      exact ⟨rfl, endR⟩

set_option maxRecDepth 8000 in
set_option maxHeartbeats 4000000 in
theorem W_same_Isomorphic_1 {p : List Int} {q0 : List Int} {q1 : Bool} {r : Bool × List Int × Bool} (hK : same_Isomorphic_1 p q0 q1 = some r) : InG Try.prog 170 [(.gen 35 1 [[.own 2 q0.length]]), (.gen 4 1 [[.bool q1]]), (.ints 3 .i64 q0)] 2 (fun ls => match ls with | [pl0, pl1] => [.ints .i64 p, .ptr 0 0 0, .ptr 1 0 0] | _ => []) (.bool r.1) [(.gen 35 1 [[.own 2 r.2.1.length]]), (.gen 4 1 [[.bool r.2.2]]), (.ints 3 .i64 r.2.1)] := by
  refine InG_intro tab_ok (n := 7) (l := [.tmp 4]) Try.func170 rfl rfl rfl (fun ls => by first | (split <;> simp) | simp) (of_decide_eq_true rfl) (of_decide_eq_true rfl) rfl rfl rfl (by simp [renB, ren0, renI, List.range, List.range.loop]) (of_decide_eq_true rfl) (of_decide_eq_true rfl) fun w0 ls hls => ?_
  obtain ⟨pl0, pl1, rfl⟩ : ∃ pl0 pl1, ls = [pl0, pl1] := by
    match ls, hls with
    | [a, b], _ => exact ⟨a, b, rfl⟩
  simp only [pinL, List.map_cons, List.map_nil, List.cons_append, List.nil_append, Nat.zero_add, Nat.reduceAdd]
  unfold same_Isomorphic_1 at hK
  refine AWP_seq ?_
  refine AWP_rg tab_ok [0, 1, 2] fun c st' hr => ?_
  simp only [go_sem, reduceIte, reduceCtorEq, Nat.reduceEqDiff, Nat.reduceLT, Nat.reduceLeDiff, Nat.reduceBEq, Nat.reduceAdd, Int.reduceLE, Int.reduceLT] at hr
  obtain ⟨rfl, rfl⟩ := hr
  refine ⟨vc, ?_⟩
  with_reducible refine thenC_normal ?_
  refine AWP_seq ?_
  refine AWP_rl ?_
  refine AWPL_rn tab_ok 1 [1, 2, 5] fun c st' hr => ?_
  simp only [go_sem, reduceIte, reduceCtorEq, Nat.reduceEqDiff, Nat.reduceLT, Nat.reduceLeDiff, Nat.reduceBEq, Nat.reduceAdd, Int.reduceLE, Int.reduceLT] at hr
  obtain ⟨rfl, rfl⟩ := hr
  refine ⟨vc, ?_⟩
  replace hK := chk_some hK
  obtain ⟨h, hK⟩ := hK
  refine AWPL_cloneI [1, 2, 6] 3 Try.laysNm215 rfl rfl pcT rfl Try.call75 (of_decide_eq_true rfl) rfl h rfl fun st' hr => ?_
  simp only [go_sem, reduceIte, reduceCtorEq, Nat.reduceEqDiff, Nat.reduceLT, Nat.reduceLeDiff, Nat.reduceBEq, Nat.reduceAdd, Int.reduceLE, Int.reduceLT] at hr
  subst hr
  refine AWPL_rn tab_ok 2 [] fun c st' hr => ?_
  simp only [go_sem, reduceIte, reduceCtorEq, Nat.reduceEqDiff, Nat.reduceLT, Nat.reduceLeDiff, Nat.reduceBEq, Nat.reduceAdd, Int.reduceLE, Int.reduceLT] at hr
  obtain ⟨rfl, rfl⟩ := hr
  refine ⟨vc, ?_⟩
  refine AWPL_nil ?_
  with_reducible refine thenC_normal ?_
  refine AWP_seq ?_
  refine AWP_rg tab_ok [4] fun c st' hr => ?_
  simp only [go_sem, reduceIte, reduceCtorEq, Nat.reduceEqDiff, Nat.reduceLT, Nat.reduceLeDiff, Nat.reduceBEq, Nat.reduceAdd, Int.reduceLE, Int.reduceLT] at hr
  obtain ⟨rfl, rfl⟩ := hr
  refine ⟨vc, ?_⟩
  with_reducible refine thenC_normal ?_
  refine AWP_ret ?_
  cases hK
  refine EndsRW [0, 1, 5, 3, 4] (.inl rfl) (of_decide_eq_true rfl) (by simp) rfl (fun c x hr => ?_) endH
  simp only [go_sem, reduceIte, reduceCtorEq, Nat.reduceEqDiff, Nat.reduceLT, Nat.reduceLeDiff, Nat.reduceBEq, Nat.reduceAdd, Int.reduceLE, Int.reduceLT] at hr
  obtain ⟨rfl, rfl⟩ := hr
  exact ⟨rfl, endR⟩

set_option maxRecDepth 8000 in
set_option maxHeartbeats 4000000 in
theorem W_same_moved {p : List Int} {s : Int} {r : Int} (hK : same_moved p s = some r) : Pure Try.prog 213 [.ints .i64 p, .int .i64 s] (.int .i64 r) [] := by
  refine Pure_introF tab_ok (n := 25) (l := [.tmp 4]) Try.func213 rfl rfl rfl (by simp) fun hfact w0 => ?_
  simp only [factL1, fact1, fact0, factL0, lo, hi, maxLen, and_true] at hfact
  unfold same_moved at hK
  refine AWP_seq ?_
  refine AWP_rg tab_ok [0, 1] fun c st' hr => ?_
  simp only [go_sem, reduceIte, reduceCtorEq, Nat.reduceEqDiff, Nat.reduceLT, Nat.reduceLeDiff, Nat.reduceBEq, Nat.reduceAdd, Int.reduceLE, Int.reduceLT] at hr
  obtain ⟨rfl, rfl⟩ := hr
  refine ⟨vc, ?_⟩
  with_reducible refine thenC_normal ?_
  refine AWP_seq ?_
  refine AWP_rg tab_ok [0, 1, 5] fun c st' hr => ?_
  simp only [go_sem, reduceIte, reduceCtorEq, Nat.reduceEqDiff, Nat.reduceLT, Nat.reduceLeDiff, Nat.reduceBEq, Nat.reduceAdd, Int.reduceLE, Int.reduceLT] at hr
  obtain ⟨rfl, rfl⟩ := hr
  refine ⟨vc, ?_⟩
  with_reducible refine thenC_normal ?_
  refine AWP_seq ?_
  refine AWP_seq ?_
  refine AWP_rg tab_ok [1, 5, 8, 9, 10] fun c st' hr => ?_
  simp only [go_sem, reduceIte, reduceCtorEq, Nat.reduceEqDiff, Nat.reduceLT, Nat.reduceLeDiff, Nat.reduceBEq, Nat.reduceAdd, Int.reduceLE, Int.reduceLT] at hr
  obtain ⟨rfl, rfl⟩ := hr
  refine ⟨vc, ?_⟩
  with_reducible refine thenC_normal ?_
  refine AWP_block ?_
  refine AWP_loopX 0 (fun ((out0, v) : Int × Int) => ⟨25, [(1, .int .i64 s), (5, .int .i64 out0), (8, .ints .i64 p), (9, .int .i64 (p.length : Int)), (10, .int .i64 v)], []⟩) (fun (out01 : Int) => ⟨25, [(5, .int .i64 out01)], []⟩) (fun v => v) (0, 0) [] hK mkWk ?_ ?_
  · clear hK; rintro ⟨out0, v⟩ b hK hpost1
    try dsimp only at hK
    change AWP _ _ _ _ ⟨25, [(1, .int .i64 s), (5, .int .i64 out0), (8, .ints .i64 p), (9, .int .i64 (p.length : Int)), (10, .int .i64 v)], []⟩
    refine AWP_seq ?_
    refine AWP_rg tab_ok [1, 5, 8, 9, 10, 11] fun c st' hr => ?_
    simp only [go_sem, reduceIte, reduceCtorEq, Nat.reduceEqDiff, Nat.reduceLT, Nat.reduceLeDiff, Nat.reduceBEq, Nat.reduceAdd, Int.reduceLE, Int.reduceLT] at hr
    obtain ⟨rfl, rfl⟩ := hr
    refine ⟨vc, ?_⟩
    with_reducible refine thenC_normal ?_
    refine AWP_seq ?_
    refine AWP_condP (v < (p.length : Int)) rfl bd (fun hb => ?_) (fun hb => ?_)
    · replace hK := ite_t hK hb
      refine AWP_skip ?_
      with_reducible refine thenC_normal ?_
      refine AWP_seq ?_
      refine AWP_block ?_
      refine AWP_seq ?_
      replace hK := chk_some hK
      obtain ⟨h, hK⟩ := hK
      refine AWP_rg tab_ok [1, 5, 6, 7, 8, 9, 10] fun c st' hr => ?_
      simp only [go_sem, reduceIte, reduceCtorEq, Nat.reduceEqDiff, Nat.reduceLT, Nat.reduceLeDiff, Nat.reduceBEq, Nat.reduceAdd, Int.reduceLE, Int.reduceLT] at hr
      obtain ⟨rfl, rfl⟩ := hr
      refine ⟨vc, ?_⟩
      with_reducible refine thenC_normal ?_
      replace hK := chk_some hK
      obtain ⟨h1, hK⟩ := hK
      refine AWP_rg tab_ok [1, 5, 8, 9, 10] fun c st' hr => ?_
      simp only [go_sem, reduceIte, reduceCtorEq, Nat.reduceEqDiff, Nat.reduceLT, Nat.reduceLeDiff, Nat.reduceBEq, Nat.reduceAdd, Int.reduceLE, Int.reduceLT] at hr
      obtain ⟨rfl, rfl⟩ := hr
      refine ⟨vc, ?_⟩
      with_reducible refine inBlockA_normal (thenC_normal ?_)
      refine AWP_facts (by simp) fun hfx => ?_
      simp only [factS, factV, fact1, fact0, factL0, lo, hi, maxLen, and_true, true_and] at hfx
      refine AWP_rg tab_ok [1, 5, 8, 9, 10] fun c st' hr => ?_
      simp only [go_sem, reduceIte, reduceCtorEq, Nat.reduceEqDiff, Nat.reduceLT, Nat.reduceLeDiff, Nat.reduceBEq, Nat.reduceAdd, Int.reduceLE, Int.reduceLT] at hr
      obtain ⟨rfl, rfl⟩ := hr
      refine ⟨vc, ?_⟩
      clear hfx
      refine again_n (ior out0 ((iand (s / 2 ^ v.toNat) 1) * (2 ^ (p.getD v.toNat 0).toNat : Int)), v + 1) [] hK mkWk
    · replace hK := ite_f hK hb
      refine AWP_exit ?_
      with_reducible refine thenC_exit (again_x ?_)
      refine cutX_here out0 [] (by have hq := hpost1 _ hK; exact hq) mkWk
  · clear hK; rintro out01 hK
    try dsimp only at hK
    refine exS ⟨25, [(5, .int .i64 out01)], []⟩ rfl ?_
    with_reducible refine inBlockA_exit (thenC_normal ?_)
    refine AWP_seq ?_
    refine AWP_rg tab_ok [4] fun c st' hr => ?_
    simp only [go_sem, reduceIte, reduceCtorEq, Nat.reduceEqDiff, Nat.reduceLT, Nat.reduceLeDiff, Nat.reduceBEq, Nat.reduceAdd, Int.reduceLE, Int.reduceLT] at hr
    obtain ⟨rfl, rfl⟩ := hr
    refine ⟨vc, ?_⟩
    with_reducible refine thenC_normal ?_
    refine AWP_ret ?_
    cases hK
    refine EndsRW [] (.inl rfl) (of_decide_eq_true rfl) (by simp) rfl (fun c x hr => ?_) trivial
    simp only [go_sem, reduceIte, reduceCtorEq, Nat.reduceEqDiff, Nat.reduceLT, Nat.reduceLeDiff, Nat.reduceBEq, Nat.reduceAdd, Int.reduceLE, Int.reduceLT] at hr
    obtain ⟨rfl, rfl⟩ := hr
    exact ⟨rfl, endR⟩

set_option maxRecDepth 8000 in
set_option maxHeartbeats 4000000 in
theorem WS_same_each_1 {fuel : Nat} (ih : ∀ {used : Int} {c1_0 : Int} {c1_1 : List Int} {c3_0 : Int} {c3_1 : List Int} {c4 : List Int} {c5 : List Int} {q0 : List Int} {q1 : List Int} {q2 : Bool} {r : Bool × List Int × List Int × Bool}, same_each_1 fuel used c1_0 c1_1 c3_0 c3_1 c4 c5 q0 q1 q2 = some r → InG Try.prog 212 [(.gen 35 1 [[.own 3 q0.length]]), (.gen 35 1 [[.own 4 q1.length]]), (.gen 4 1 [[.bool q2]]), (.ints 3 .i64 q0), (.ints 3 .i64 q1)] 3 (fun ls => match ls with | [pl0, pl1, pl2] => [.int .i64 used, .ptr 0 0 0, .immp [.int .i64 c1_0, .ints .i64 c1_1], .immp [.func 170 [.abs pl1 0 0, .abs pl2 0 0]], .immp [.int .i64 c3_0, .ints .i64 c3_1], .immp [.ints .i64 c4], .immp [.ints .i64 c5], cycA 212 [.abs pl0 0 0, .immp [.int .i64 c1_0, .ints .i64 c1_1], .immp [.func 170 [.abs pl1 0 0, .abs pl2 0 0]], .immp [.int .i64 c3_0, .ints .i64 c3_1], .immp [.ints .i64 c4], .immp [.ints .i64 c5]] fuel] | _ => []) (.bool r.1) [(.gen 35 1 [[.own 3 r.2.1.length]]), (.gen 35 1 [[.own 4 r.2.2.1.length]]), (.gen 4 1 [[.bool r.2.2.2]]), (.ints 3 .i64 r.2.1), (.ints 3 .i64 r.2.2.1)]) {used : Int} {c1_0 : Int} {c1_1 : List Int} {c3_0 : Int} {c3_1 : List Int} {c4 : List Int} {c5 : List Int} {q0 : List Int} {q1 : List Int} {q2 : Bool} {r : Bool × List Int × List Int × Bool} (hK : same_each_1 (fuel + 1) used c1_0 c1_1 c3_0 c3_1 c4 c5 q0 q1 q2 = some r) : InG Try.prog 212 [(.gen 35 1 [[.own 3 q0.length]]), (.gen 35 1 [[.own 4 q1.length]]), (.gen 4 1 [[.bool q2]]), (.ints 3 .i64 q0), (.ints 3 .i64 q1)] 3 (fun ls => match ls with | [pl0, pl1, pl2] => [.int .i64 used, .ptr 0 0 0, .immp [.int .i64 c1_0, .ints .i64 c1_1], .immp [.func 170 [.abs pl1 0 0, .abs pl2 0 0]], .immp [.int .i64 c3_0, .ints .i64 c3_1], .immp [.ints .i64 c4], .immp [.ints .i64 c5], .immp [.func 212 [.abs pl0 0 0, .immp [.int .i64 c1_0, .ints .i64 c1_1], .immp [.func 170 [.abs pl1 0 0, .abs pl2 0 0]], .immp [.int .i64 c3_0, .ints .i64 c3_1], .immp [.ints .i64 c4], .immp [.ints .i64 c5], cycA 212 [.abs pl0 0 0, .immp [.int .i64 c1_0, .ints .i64 c1_1], .immp [.func 170 [.abs pl1 0 0, .abs pl2 0 0]], .immp [.int .i64 c3_0, .ints .i64 c3_1], .immp [.ints .i64 c4], .immp [.ints .i64 c5]] fuel]]] | _ => []) (.bool r.1) [(.gen 35 1 [[.own 3 r.2.1.length]]), (.gen 35 1 [[.own 4 r.2.2.1.length]]), (.gen 4 1 [[.bool r.2.2.2]]), (.ints 3 .i64 r.2.1), (.ints 3 .i64 r.2.2.1)] := by
  refine InG_intro tab_ok (n := 76) (l := [.tmp 9]) Try.func212 rfl rfl rfl (fun ls => by first | (split <;> simp) | simp) (of_decide_eq_true rfl) (of_decide_eq_true rfl) rfl rfl rfl (by simp [renB, ren0, renI, List.range, List.range.loop]) (of_decide_eq_true rfl) (of_decide_eq_true rfl) fun w0 ls hls => ?_
  obtain ⟨pl0, pl1, pl2, rfl⟩ : ∃ pl0 pl1 pl2, ls = [pl0, pl1, pl2] := by
    match ls, hls with
    | [a, b, c], _ => exact ⟨a, b, c, rfl⟩
  simp only [pinL, List.map_cons, List.map_nil, List.cons_append, List.nil_append, Nat.zero_add, Nat.reduceAdd]
  rw [same_each_1.eq_2] at hK
  refine AWP_seq ?_
  refine AWP_rg tab_ok [0, 1, 2, 3, 4, 5, 6, 7] fun c st' hr => ?_
  simp only [go_sem, reduceIte, reduceCtorEq, Nat.reduceEqDiff, Nat.reduceLT, Nat.reduceLeDiff, Nat.reduceBEq, Nat.reduceAdd, Int.reduceLE, Int.reduceLT] at hr
  obtain ⟨rfl, rfl⟩ := hr
  refine ⟨vc, ?_⟩
  with_reducible refine thenC_normal ?_
  refine AWP_seq ?_
  refine AWP_rg tab_ok [0, 1, 2, 3, 4, 5, 6, 7, 10] fun c st' hr => ?_
  simp only [go_sem, reduceIte, reduceCtorEq, Nat.reduceEqDiff, Nat.reduceLT, Nat.reduceLeDiff, Nat.reduceBEq, Nat.reduceAdd, Int.reduceLE, Int.reduceLT] at hr
  obtain ⟨rfl, rfl⟩ := hr
  refine ⟨vc, ?_⟩
  with_reducible refine thenC_normal ?_
  refine AWP_seq ?_
  refine AWP_seq ?_
  refine AWP_rg tab_ok [0, 1, 3, 4, 5, 6, 7, 10, 20] fun c st' hr => ?_
  simp only [go_sem, reduceIte, reduceCtorEq, Nat.reduceEqDiff, Nat.reduceLT, Nat.reduceLeDiff, Nat.reduceBEq, Nat.reduceAdd, Int.reduceLE, Int.reduceLT] at hr
  obtain ⟨rfl, rfl⟩ := hr
  refine ⟨vc, ?_⟩
  with_reducible refine thenC_normal ?_
  refine AWP_condP ((q0.length : Int) = c1_0) rfl bd (fun hb => ?_) (fun hb => ?_)
  · replace hK := ite_t hK hb
    refine AWP_seq ?_
    refine AWP_rl ?_
    refine AWPL_rn tab_ok 2 [21, 22] fun c st' hr => ?_
    simp only [go_sem, reduceIte, reduceCtorEq, Nat.reduceEqDiff, Nat.reduceLT, Nat.reduceLeDiff, Nat.reduceBEq, Nat.reduceAdd, Int.reduceLE, Int.reduceLT] at hr
    obtain ⟨rfl, rfl⟩ := hr
    refine ⟨vc, ?_⟩
    replace hK := bind_s hK
    obtain ⟨y, hy, hK⟩ := hK
    refine AWPL_gK [23] [1, 2, 4] [pl1, pl2] [some (.gen 35 1 [[.own 3 q0.length]]), some (.gen 35 1 [[.own 8 ((y.2.1).length)]]), some (.gen 4 1 [[.bool y.2.2]]), some (.ints 3 .i64 q0), none, some (.pin 0 pl0), some (.pin 1 pl1), some (.pin 2 pl2), some (.ints 3 .i64 y.2.1)] (W_same_Isomorphic_1 hy) rfl rfl pcT rfl Try.call170 (of_decide_eq_true rfl) ⟨(by first | rfl | simp [renB, ren0, renI]), (by first | rfl | simp [renB, ren0, renI]), (by first | rfl | simp [renB, ren0, renI]), trivial⟩ ⟨⟨6, rfl⟩, ⟨7, rfl⟩, trivial⟩ rfl (.cons (.ownI _ _ _ _ _ q0 rfl (by simp) (by first | simp | exact List.take_of_length_le (by simp))) (.abs 0 6 rfl rfl (.abs 1 7 rfl rfl .nil))) (hscG trivial) (of_decide_eq_true rfl) rfl rfl (of_decide_eq_true rfl) rfl fun st' hr => ?_
    simp only [go_sem, reduceIte, reduceCtorEq, Nat.reduceEqDiff, Nat.reduceLT, Nat.reduceLeDiff, Nat.reduceBEq, Nat.reduceAdd, Int.reduceLE, Int.reduceLT] at hr
    subst hr
    clear hy
    refine AWPL_rn tab_ok 1 [9] fun c st' hr => ?_
    simp only [go_sem, reduceIte, reduceCtorEq, Nat.reduceEqDiff, Nat.reduceLT, Nat.reduceLeDiff, Nat.reduceBEq, Nat.reduceAdd, Int.reduceLE, Int.reduceLT] at hr
    obtain ⟨rfl, rfl⟩ := hr
    refine ⟨vc, ?_⟩
    refine AWPL_nil ?_
    with_reducible refine thenC_normal ?_
    refine AWP_ret ?_
    with_reducible refine thenC_ret ?_
    cases hK
    refine EndsRW [0, 1, 2, 3, 8, 5, 6, 7] (.inl rfl) (of_decide_eq_true rfl) (by simp) rfl (fun c x hr => ?_) endH
    simp only [go_sem, reduceIte, reduceCtorEq, Nat.reduceEqDiff, Nat.reduceLT, Nat.reduceLeDiff, Nat.reduceBEq, Nat.reduceAdd, Int.reduceLE, Int.reduceLT] at hr
    obtain ⟨rfl, rfl⟩ := hr
    exact ⟨rfl, endR⟩
  · replace hK := ite_f hK hb
    refine AWP_skip ?_
    with_reducible refine thenC_normal ?_
    refine AWP_seq ?_
    refine AWP_seq ?_
    refine AWP_rg tab_ok [0, 1, 5, 6, 7, 10, 25, 26] fun c st' hr => ?_
    simp only [go_sem, reduceIte, reduceCtorEq, Nat.reduceEqDiff, Nat.reduceLT, Nat.reduceLeDiff, Nat.reduceBEq, Nat.reduceAdd, Int.reduceLE, Int.reduceLT] at hr
    obtain ⟨rfl, rfl⟩ := hr
    refine ⟨vc, ?_⟩
    with_reducible refine thenC_normal ?_
    refine AWP_block ?_
    refine AWP_loopX 0 (fun ((q01, q11, q21, v) : List Int × List Int × Bool × Int) => ⟨76, [(0, .int .i64 used), (1, .ptr 0 0 0), (5, .immp [.ints .i64 c4]), (6, .immp [.ints .i64 c5]), (7, .immp [.func 212 [.abs pl0 0 0, .immp [.int .i64 c1_0, .ints .i64 c1_1], .immp [.func 170 [.abs pl1 0 0, .abs pl2 0 0]], .immp [.int .i64 c3_0, .ints .i64 c3_1], .immp [.ints .i64 c4], .immp [.ints .i64 c5], cycA 212 [.abs pl0 0 0, .immp [.int .i64 c1_0, .ints .i64 c1_1], .immp [.func 170 [.abs pl1 0 0, .abs pl2 0 0]], .immp [.int .i64 c3_0, .ints .i64 c3_1], .immp [.ints .i64 c4], .immp [.ints .i64 c5]] fuel]]), (10, .int .i64 (q0.length : Int)), (25, .int .i64 c3_0), (26, .int .i64 v)], [some (.gen 35 1 [[.own 3 q01.length]]), some (.gen 35 1 [[.own 4 q11.length]]), some (.gen 4 1 [[.bool q21]]), some (.ints 3 .i64 q01), some (.ints 3 .i64 q11), some (.pin 0 pl0), some (.pin 1 pl1), some (.pin 2 pl2)]⟩) (fun ((q02, q12, q22) : List Int × List Int × Bool) => ⟨76, [], [some (.gen 35 1 [[.own 3 q02.length]]), some (.gen 35 1 [[.own 4 q12.length]]), some (.gen 4 1 [[.bool q22]]), some (.ints 3 .i64 q02), some (.ints 3 .i64 q12), some (.pin 0 pl0), some (.pin 1 pl1), some (.pin 2 pl2)]⟩) Sum.inl (q0, q1, q2, 0) [0, 1, 2, 3, 4, 5, 6, 7] hK mkWk ?_ ?_
    · clear hK; rintro ⟨q01, q11, q21, v⟩ b hK hpost1
      try dsimp only at hK
      change AWP _ _ _ _ ⟨76, [(0, .int .i64 used), (1, .ptr 0 0 0), (5, .immp [.ints .i64 c4]), (6, .immp [.ints .i64 c5]), (7, .immp [.func 212 [.abs pl0 0 0, .immp [.int .i64 c1_0, .ints .i64 c1_1], .immp [.func 170 [.abs pl1 0 0, .abs pl2 0 0]], .immp [.int .i64 c3_0, .ints .i64 c3_1], .immp [.ints .i64 c4], .immp [.ints .i64 c5], cycA 212 [.abs pl0 0 0, .immp [.int .i64 c1_0, .ints .i64 c1_1], .immp [.func 170 [.abs pl1 0 0, .abs pl2 0 0]], .immp [.int .i64 c3_0, .ints .i64 c3_1], .immp [.ints .i64 c4], .immp [.ints .i64 c5]] fuel]]), (10, .int .i64 (q0.length : Int)), (25, .int .i64 c3_0), (26, .int .i64 v)], [some (.gen 35 1 [[.own 3 q01.length]]), some (.gen 35 1 [[.own 4 q11.length]]), some (.gen 4 1 [[.bool q21]]), some (.ints 3 .i64 q01), some (.ints 3 .i64 q11), some (.pin 0 pl0), some (.pin 1 pl1), some (.pin 2 pl2)]⟩
      refine AWP_seq ?_
      refine AWP_rg tab_ok [0, 1, 5, 6, 7, 10, 25, 26, 27] fun c st' hr => ?_
      simp only [go_sem, reduceIte, reduceCtorEq, Nat.reduceEqDiff, Nat.reduceLT, Nat.reduceLeDiff, Nat.reduceBEq, Nat.reduceAdd, Int.reduceLE, Int.reduceLT] at hr
      obtain ⟨rfl, rfl⟩ := hr
      refine ⟨vc, ?_⟩
      with_reducible refine thenC_normal ?_
      refine AWP_seq ?_
      refine AWP_condP (v < c3_0) rfl bd (fun hb1 => ?_) (fun hb1 => ?_)
      · replace hK := ite_t hK hb1
        refine AWP_skip ?_
        with_reducible refine thenC_normal ?_
        refine AWP_seq ?_
        refine AWP_block ?_
        refine AWP_seq ?_
        refine AWP_rg tab_ok [0, 1, 5, 6, 7, 10, 11, 25, 26] fun c st' hr => ?_
        simp only [go_sem, reduceIte, reduceCtorEq, Nat.reduceEqDiff, Nat.reduceLT, Nat.reduceLeDiff, Nat.reduceBEq, Nat.reduceAdd, Int.reduceLE, Int.reduceLT] at hr
        obtain ⟨rfl, rfl⟩ := hr
        refine ⟨vc, ?_⟩
        with_reducible refine thenC_normal ?_
        refine AWP_seq ?_
        refine AWP_seq ?_
        replace hK := chk_some hK
        obtain ⟨h, hK⟩ := hK
        refine AWP_rg tab_ok [0, 1, 5, 6, 7, 10, 11, 25, 26, 33] fun c st' hr => ?_
        simp only [go_sem, reduceIte, reduceCtorEq, Nat.reduceEqDiff, Nat.reduceLT, Nat.reduceLeDiff, Nat.reduceBEq, Nat.reduceAdd, Int.reduceLE, Int.reduceLT] at hr
        obtain ⟨rfl, rfl⟩ := hr
        refine ⟨vc, ?_⟩
        with_reducible refine thenC_normal ?_
        refine AWP_condP (iand (used / 2 ^ v.toNat) 1 = 1) rfl bd (fun hb2 => ?_) (fun hb2 => ?_)
        · replace hK := ite_t hK hb2
          refine AWP_exit ?_
          with_reducible refine thenC_exit (inBlockA_exit (thenC_normal ?_))
          refine AWP_facts (by simp) fun hfx => ?_
          simp only [factS, factV, fact1, fact0, factL0, lo, hi, maxLen, and_true, true_and] at hfx
          refine AWP_rg tab_ok [0, 1, 5, 6, 7, 10, 25, 26] fun c st' hr => ?_
          simp only [go_sem, reduceIte, reduceCtorEq, Nat.reduceEqDiff, Nat.reduceLT, Nat.reduceLeDiff, Nat.reduceBEq, Nat.reduceAdd, Int.reduceLE, Int.reduceLT] at hr
          obtain ⟨rfl, rfl⟩ := hr
          refine ⟨vc, ?_⟩
          clear hfx
          refine again_n (q01, q11, q21, v + 1) [0, 1, 2, 3, 4, 5, 6, 7] hK mkWk
        · replace hK := ite_f hK hb2
          refine AWP_skip ?_
          with_reducible refine thenC_normal ?_
          refine AWP_seq ?_
          replace hK := chk_some hK
          obtain ⟨h1, hK⟩ := hK
          refine AWP_rg tab_ok [0, 1, 5, 6, 7, 10, 11, 25, 26] fun c st' hr => ?_
          simp only [go_sem, reduceIte, reduceCtorEq, Nat.reduceEqDiff, Nat.reduceLT, Nat.reduceLeDiff, Nat.reduceBEq, Nat.reduceAdd, Int.reduceLE, Int.reduceLT] at hr
          obtain ⟨rfl, rfl⟩ := hr
          refine ⟨vc, ?_⟩
          with_reducible refine thenC_normal ?_
          refine AWP_seq ?_
          refine AWP_rg tab_ok [0, 1, 5, 6, 7, 10, 11, 12, 25, 26] fun c st' hr => ?_
          simp only [go_sem, reduceIte, reduceCtorEq, Nat.reduceEqDiff, Nat.reduceLT, Nat.reduceLeDiff, Nat.reduceBEq, Nat.reduceAdd, Int.reduceLE, Int.reduceLT] at hr
          obtain ⟨rfl, rfl⟩ := hr
          refine ⟨vc, ?_⟩
          with_reducible refine thenC_normal ?_
          refine AWP_seq ?_
          refine AWP_seq ?_
          replace hK := chk_some hK
          obtain ⟨h2, hK⟩ := hK
          refine AWP_rg tab_ok [0, 1, 5, 6, 7, 10, 11, 12, 13, 25, 26] fun c st' hr => ?_
          simp only [go_sem, reduceIte, reduceCtorEq, Nat.reduceEqDiff, Nat.reduceLT, Nat.reduceLeDiff, Nat.reduceBEq, Nat.reduceAdd, Int.reduceLE, Int.reduceLT] at hr
          obtain ⟨rfl, rfl⟩ := hr
          refine ⟨vc, ?_⟩
          with_reducible refine thenC_normal ?_
          refine AWP_block ?_
          refine AWP_loopX 2 (fun ((v1, v2) : Bool × Int) => ⟨76, [(0, .int .i64 used), (1, .ptr 0 0 0), (5, .immp [.ints .i64 c4]), (6, .immp [.ints .i64 c5]), (7, .immp [.func 212 [.abs pl0 0 0, .immp [.int .i64 c1_0, .ints .i64 c1_1], .immp [.func 170 [.abs pl1 0 0, .abs pl2 0 0]], .immp [.int .i64 c3_0, .ints .i64 c3_1], .immp [.ints .i64 c4], .immp [.ints .i64 c5], cycA 212 [.abs pl0 0 0, .immp [.int .i64 c1_0, .ints .i64 c1_1], .immp [.func 170 [.abs pl1 0 0, .abs pl2 0 0]], .immp [.int .i64 c3_0, .ints .i64 c3_1], .immp [.ints .i64 c4], .immp [.ints .i64 c5]] fuel]]), (10, .int .i64 (q0.length : Int)), (11, .int .i64 v), (12, .bool v1), (13, .int .i64 v2), (25, .int .i64 c3_0), (26, .int .i64 v)], [some (.gen 35 1 [[.own 3 ((q01 ++ [v]).length)]]), some (.gen 35 1 [[.own 4 q11.length]]), some (.gen 4 1 [[.bool q21]]), some (.ints 3 .i64 (q01 ++ [v])), some (.ints 3 .i64 q11), some (.pin 0 pl0), some (.pin 1 pl1), some (.pin 2 pl2)]⟩) (fun (v3 : Bool) => ⟨76, [(0, .int .i64 used), (1, .ptr 0 0 0), (5, .immp [.ints .i64 c4]), (6, .immp [.ints .i64 c5]), (7, .immp [.func 212 [.abs pl0 0 0, .immp [.int .i64 c1_0, .ints .i64 c1_1], .immp [.func 170 [.abs pl1 0 0, .abs pl2 0 0]], .immp [.int .i64 c3_0, .ints .i64 c3_1], .immp [.ints .i64 c4], .immp [.ints .i64 c5], cycA 212 [.abs pl0 0 0, .immp [.int .i64 c1_0, .ints .i64 c1_1], .immp [.func 170 [.abs pl1 0 0, .abs pl2 0 0]], .immp [.int .i64 c3_0, .ints .i64 c3_1], .immp [.ints .i64 c4], .immp [.ints .i64 c5]] fuel]]), (10, .int .i64 (q0.length : Int)), (11, .int .i64 v), (12, .bool v3), (25, .int .i64 c3_0), (26, .int .i64 v)], [some (.gen 35 1 [[.own 3 ((q01 ++ [v]).length)]]), some (.gen 35 1 [[.own 4 q11.length]]), some (.gen 4 1 [[.bool q21]]), some (.ints 3 .i64 (q01 ++ [v])), some (.ints 3 .i64 q11), some (.pin 0 pl0), some (.pin 1 pl1), some (.pin 2 pl2)]⟩) (fun v => v) (true, (2 ^ (q0.length : Int).toNat : Int)) [0, 1, 2, 9, 4, 5, 6, 7] hK mkWk ?_ ?_
          · clear hK; rintro ⟨v1, v2⟩ b1 hK hpost2
            try dsimp only at hK
            change AWP _ _ _ _ ⟨76, [(0, .int .i64 used), (1, .ptr 0 0 0), (5, .immp [.ints .i64 c4]), (6, .immp [.ints .i64 c5]), (7, .immp [.func 212 [.abs pl0 0 0, .immp [.int .i64 c1_0, .ints .i64 c1_1], .immp [.func 170 [.abs pl1 0 0, .abs pl2 0 0]], .immp [.int .i64 c3_0, .ints .i64 c3_1], .immp [.ints .i64 c4], .immp [.ints .i64 c5], cycA 212 [.abs pl0 0 0, .immp [.int .i64 c1_0, .ints .i64 c1_1], .immp [.func 170 [.abs pl1 0 0, .abs pl2 0 0]], .immp [.int .i64 c3_0, .ints .i64 c3_1], .immp [.ints .i64 c4], .immp [.ints .i64 c5]] fuel]]), (10, .int .i64 (q0.length : Int)), (11, .int .i64 v), (12, .bool v1), (13, .int .i64 v2), (25, .int .i64 c3_0), (26, .int .i64 v)], [some (.gen 35 1 [[.own 3 ((q01 ++ [v]).length)]]), some (.gen 35 1 [[.own 4 q11.length]]), some (.gen 4 1 [[.bool q21]]), some (.ints 3 .i64 (q01 ++ [v])), some (.ints 3 .i64 q11), some (.pin 0 pl0), some (.pin 1 pl1), some (.pin 2 pl2)]⟩
            refine AWP_seq ?_
            refine AWP_seq ?_
            replace hK := chk_some hK
            obtain ⟨h3, hK⟩ := hK
            refine AWP_rg tab_ok [0, 1, 5, 6, 7, 10, 11, 12, 13, 25, 26, 46] fun c st' hr => ?_
            simp only [go_sem, reduceIte, reduceCtorEq, Nat.reduceEqDiff, Nat.reduceLT, Nat.reduceLeDiff, Nat.reduceBEq, Nat.reduceAdd, Int.reduceLE, Int.reduceLT] at hr
            obtain ⟨rfl, rfl⟩ := hr
            refine ⟨vc, ?_⟩
            with_reducible refine thenC_normal ?_
            refine AWP_condP ((v2 < 2 * (2 ^ (q0.length : Int).toNat : Int) ∧ v1 = true)) rfl bd (fun hb3 => ?_) (fun hb3 => ?_)
            · replace hK := ite_t hK hb3
              refine AWP_skip ?_
              with_reducible refine thenC_normal ?_
              refine AWP_seq ?_
              refine AWP_block ?_
              refine AWP_drawQ mixed (by kernel_rfl) ?_
              replace hK := chk_some hK
              obtain ⟨h4, hK⟩ := hK
              refine AWQL_rn tab_ok 7 [0, 1, 5, 6, 7, 10, 11, 13, 25, 26, 52, 53, 54, 55] fun c st' hr => ?_
              simp only [go_sem, reduceIte, reduceCtorEq, Nat.reduceEqDiff, Nat.reduceLT, Nat.reduceLeDiff, Nat.reduceBEq, Nat.reduceAdd, Int.reduceLE, Int.reduceLT] at hr
              obtain ⟨rfl, rfl⟩ := hr
              refine ⟨vc, ?_⟩
              replace hK := bind_s hK
              obtain ⟨y1, hy, hK⟩ := hK
              refine AWQL_callK [0, 1, 5, 6, 7, 10, 11, 13, 25, 26, 52, 53, 56] (W_same_moved hy) rfl rfl pcT rfl Try.call213 (.cons (.ownI _ _ _ _ _ (q01 ++ [v]) rfl (by simp) (by first | simp | exact List.take_of_length_le (by simp))) (.cons (.atom _ rfl) .nil)) (hscG trivial) (of_decide_eq_true rfl) rfl fun st' hr => ?_
              simp only [go_sem, reduceIte, reduceCtorEq, Nat.reduceEqDiff, Nat.reduceLT, Nat.reduceLeDiff, Nat.reduceBEq, Nat.reduceAdd, Int.reduceLE, Int.reduceLT] at hr
              subst hr
              clear hy
              replace hK := chk_some hK
              obtain ⟨h5, hK⟩ := hK
              refine AWQL_rn tab_ok 4 [0, 1, 5, 6, 7, 10, 11, 12, 13, 25, 26] fun c st' hr => ?_
              simp only [go_sem, reduceIte, reduceCtorEq, Nat.reduceEqDiff, Nat.reduceLT, Nat.reduceLeDiff, Nat.reduceBEq, Nat.reduceAdd, Int.reduceLE, Int.reduceLT] at hr
              obtain ⟨rfl, rfl⟩ := hr
              refine ⟨vc, ?_⟩
              refine AWQL_nil ?_
              with_reducible refine inBlockA_normal (thenC_normal ?_)
              replace hK := chk_some hK
              obtain ⟨h6, hK⟩ := hK
              refine AWP_rg tab_ok [0, 1, 5, 6, 7, 10, 11, 12, 13, 25, 26] fun c st' hr => ?_
              simp only [go_sem, reduceIte, reduceCtorEq, Nat.reduceEqDiff, Nat.reduceLT, Nat.reduceLeDiff, Nat.reduceBEq, Nat.reduceAdd, Int.reduceLE, Int.reduceLT] at hr
              obtain ⟨rfl, rfl⟩ := hr
              refine ⟨vc, ?_⟩
              refine again_n (decide (c4.getD v2.toNat 0 = c5.getD y1.toNat 0), v2 + 1) [0, 1, 2, 3, 4, 5, 6, 7] hK mkWk
            · replace hK := ite_f hK hb3
              refine AWP_exit ?_
              with_reducible refine thenC_exit (again_x ?_)
              refine cutX_here v1 [0, 1, 2, 3, 4, 5, 6, 7] (by have hq := hpost2 _ hK; exact hq) mkWk
          · clear hK; rintro v3 hK
            try dsimp only at hK
            refine exS ⟨76, [(0, .int .i64 used), (1, .ptr 0 0 0), (5, .immp [.ints .i64 c4]), (6, .immp [.ints .i64 c5]), (7, .immp [.func 212 [.abs pl0 0 0, .immp [.int .i64 c1_0, .ints .i64 c1_1], .immp [.func 170 [.abs pl1 0 0, .abs pl2 0 0]], .immp [.int .i64 c3_0, .ints .i64 c3_1], .immp [.ints .i64 c4], .immp [.ints .i64 c5], cycA 212 [.abs pl0 0 0, .immp [.int .i64 c1_0, .ints .i64 c1_1], .immp [.func 170 [.abs pl1 0 0, .abs pl2 0 0]], .immp [.int .i64 c3_0, .ints .i64 c3_1], .immp [.ints .i64 c4], .immp [.ints .i64 c5]] fuel]]), (10, .int .i64 (q0.length : Int)), (11, .int .i64 v), (12, .bool v3), (25, .int .i64 c3_0), (26, .int .i64 v)], [some (.gen 35 1 [[.own 3 ((q01 ++ [v]).length)]]), some (.gen 35 1 [[.own 4 q11.length]]), some (.gen 4 1 [[.bool q21]]), some (.ints 3 .i64 (q01 ++ [v])), some (.ints 3 .i64 q11), some (.pin 0 pl0), some (.pin 1 pl1), some (.pin 2 pl2)]⟩ rfl ?_
            with_reducible refine inBlockA_exit (thenC_normal ?_)
            refine AWP_seq ?_
            replace hK := chk_some hK
            obtain ⟨h7, hK⟩ := hK
            refine AWP_drawTail tab_ok 8 mixed (by kernel_rfl) fun c st' hr => ?_
            simp only [go_sem, reduceIte, reduceCtorEq, Nat.reduceEqDiff, Nat.reduceLT, Nat.reduceLeDiff, Nat.reduceBEq, Nat.reduceAdd, Int.reduceLE, Int.reduceLT] at hr
            obtain ⟨rfl, rfl⟩ := hr
            refine ⟨vc, ?_⟩
            by_cases hg : ¬ (¬ (v3 = true))
            · replace hK := ite_t hK hg
              refine AWPL_stP [(0, .int .i64 used), (1, .ptr 0 0 0), (5, .immp [.ints .i64 c4]), (6, .immp [.ints .i64 c5]), (7, .immp [.func 212 [.abs pl0 0 0, .immp [.int .i64 c1_0, .ints .i64 c1_1], .immp [.func 170 [.abs pl1 0 0, .abs pl2 0 0]], .immp [.int .i64 c3_0, .ints .i64 c3_1], .immp [.ints .i64 c4], .immp [.ints .i64 c5], cycA 212 [.abs pl0 0 0, .immp [.int .i64 c1_0, .ints .i64 c1_1], .immp [.func 170 [.abs pl1 0 0, .abs pl2 0 0]], .immp [.int .i64 c3_0, .ints .i64 c3_1], .immp [.ints .i64 c4], .immp [.ints .i64 c5]] fuel]]), (10, .int .i64 (q0.length : Int)), (11, .int .i64 v), (12, .bool v3), (25, .int .i64 c3_0), (26, .int .i64 v), (60, .bool v3), (61, .bool (decide (¬ (v3 = true)))), (62, .bool false), (63, .opt true (.func 212 [.abs pl0 0 0, .immp [.int .i64 c1_0, .ints .i64 c1_1], .immp [.func 170 [.abs pl1 0 0, .abs pl2 0 0]], .immp [.int .i64 c3_0, .ints .i64 c3_1], .immp [.ints .i64 c4], .immp [.ints .i64 c5], cycA 212 [.abs pl0 0 0, .immp [.int .i64 c1_0, .ints .i64 c1_1], .immp [.func 170 [.abs pl1 0 0, .abs pl2 0 0]], .immp [.int .i64 c3_0, .ints .i64 c3_1], .immp [.ints .i64 c4], .immp [.ints .i64 c5]] fuel])), (64, .opt true (.int .i64 used)), (65, .opt true (.int .i64 v)), (66, .opt true (.int .i64 (2 ^ v.toNat : Int))), (67, .opt true (.int .i64 (ior used (2 ^ v.toNat : Int))))] (by first | (simp [SameS, AX.look, hg]; done) | (simp at hg ⊢; simp [SameS, AX.look, hg]; done) | (simp_all [SameS, AX.look]; done)) ?_
              refine AWPL_unopt 63 (.func 212 [.abs pl0 0 0, .immp [.int .i64 c1_0, .ints .i64 c1_1], .immp [.func 170 [.abs pl1 0 0, .abs pl2 0 0]], .immp [.int .i64 c3_0, .ints .i64 c3_1], .immp [.ints .i64 c4], .immp [.ints .i64 c5], cycA 212 [.abs pl0 0 0, .immp [.int .i64 c1_0, .ints .i64 c1_1], .immp [.func 170 [.abs pl1 0 0, .abs pl2 0 0]], .immp [.int .i64 c3_0, .ints .i64 c3_1], .immp [.ints .i64 c4], .immp [.ints .i64 c5]] fuel]) rfl fun st' hr => ?_
              simp only [go_sem, reduceIte, reduceCtorEq, Nat.reduceEqDiff, Nat.reduceLT, Nat.reduceLeDiff, Nat.reduceBEq, Nat.reduceAdd, Int.reduceLE, Int.reduceLT] at hr
              subst hr
              replace hK := bind_s hK
              obtain ⟨y2, hy, hK⟩ := hK
              refine AWPL_gK [0, 1, 5, 6, 7, 10, 25, 26, 62, 68] [0, 1, 2, 3, 4] [pl0, pl1, pl2] [some (.gen 35 1 [[.own 8 ((y2.2.1).length)]]), some (.gen 35 1 [[.own 9 ((y2.2.2.1).length)]]), some (.gen 4 1 [[.bool y2.2.2.2]]), none, none, some (.pin 0 pl0), some (.pin 1 pl1), some (.pin 2 pl2), some (.ints 3 .i64 y2.2.1), some (.ints 3 .i64 y2.2.2.1)] (ih hy) rfl rfl pcT rfl Try.call212 (of_decide_eq_true rfl) ⟨(by first | rfl | simp [renB, ren0, renI]), (by first | rfl | simp [renB, ren0, renI]), (by first | rfl | simp [renB, ren0, renI]), (by first | rfl | simp [renB, ren0, renI]), (by first | rfl | simp [renB, ren0, renI]), trivial⟩ ⟨⟨5, rfl⟩, ⟨6, rfl⟩, ⟨7, rfl⟩, trivial⟩ rfl (.cons (.atom _ rfl) (.abs 0 5 rfl rfl (.cons (.atom _ rfl) (.cons (.atom _ rfl) (.cons (.atom _ rfl) (.cons (.atom _ rfl) (.cons (.atom _ rfl) (.cons (ArgOk.cycRefl _ _ _) .nil)))))))) (hscG trivial) (of_decide_eq_true rfl) rfl rfl (of_decide_eq_true rfl) rfl fun st' hr => ?_
              simp only [go_sem, reduceIte, reduceCtorEq, Nat.reduceEqDiff, Nat.reduceLT, Nat.reduceLeDiff, Nat.reduceBEq, Nat.reduceAdd, Int.reduceLE, Int.reduceLT] at hr
              subst hr
              clear hy
              refine AWPL_rn tab_ok 2 [0, 1, 5, 6, 7, 10, 14, 25, 26] fun c st' hr => ?_
              simp only [go_sem, reduceIte, reduceCtorEq, Nat.reduceEqDiff, Nat.reduceLT, Nat.reduceLeDiff, Nat.reduceBEq, Nat.reduceAdd, Int.reduceLE, Int.reduceLT] at hr
              obtain ⟨rfl, rfl⟩ := hr
              refine ⟨vc, ?_⟩
              refine AWPL_nil ?_
              with_reducible refine thenC_normal ?_
              refine AWP_seq ?_
              replace hK := chk_some hK
              obtain ⟨h8, hK⟩ := hK
              refine AWP_rg tab_ok [0, 1, 5, 6, 7, 10, 14, 25, 26] fun c st' hr => ?_
              simp only [go_sem, reduceIte, reduceCtorEq, Nat.reduceEqDiff, Nat.reduceLT, Nat.reduceLeDiff, Nat.reduceBEq, Nat.reduceAdd, Int.reduceLE, Int.reduceLT] at hr
              obtain ⟨rfl, rfl⟩ := hr
              refine ⟨vc, ?_⟩
              with_reducible refine thenC_normal ?_
              refine AWP_trunc 0 8 (List.take ((q0.length : Int).toNat) y2.2.1) rfl rfl rfl (by first | (rw [List.length_take]; omega) | (simp only [List.length_take, List.length_append, List.length_replicate]; omega)) fun st' hr => ?_
              simp only [go_sem, reduceIte, reduceCtorEq, Nat.reduceEqDiff, Nat.reduceLT, Nat.reduceLeDiff, Nat.reduceBEq, Nat.reduceAdd, Int.reduceLE, Int.reduceLT, List.set_cons_zero, List.set_cons_succ] at hr
              subst hr
              refine AWP_seq ?_
              refine AWP_rg tab_ok [0, 1, 5, 6, 7, 10, 25, 26, 74] fun c st' hr => ?_
              simp only [go_sem, reduceIte, reduceCtorEq, Nat.reduceEqDiff, Nat.reduceLT, Nat.reduceLeDiff, Nat.reduceBEq, Nat.reduceAdd, Int.reduceLE, Int.reduceLT] at hr
              obtain ⟨rfl, rfl⟩ := hr
              refine ⟨vc, ?_⟩
              with_reducible refine thenC_normal ?_
              refine AWP_condP (¬ (y2.1 = true)) rfl bd (fun hb4 => ?_) (fun hb4 => ?_)
              · replace hK := ite_t hK hb4
                refine AWP_seq ?_
                refine AWP_rg tab_ok [9] fun c st' hr => ?_
                simp only [go_sem, reduceIte, reduceCtorEq, Nat.reduceEqDiff, Nat.reduceLT, Nat.reduceLeDiff, Nat.reduceBEq, Nat.reduceAdd, Int.reduceLE, Int.reduceLT] at hr
                obtain ⟨rfl, rfl⟩ := hr
                refine ⟨vc, ?_⟩
                with_reducible refine thenC_normal ?_
                refine AWP_ret ?_
                with_reducible refine inBlockA_ret (thenC_ret (again_r (cutX_r (inBlockA_ret (thenC_ret ?_)))))
                replace hK := hpost1 _ hK
                try dsimp only at hK
                cases hK
                refine EndsRW [0, 1, 2, 8, 9, 5, 6, 7] (.inl rfl) (of_decide_eq_true rfl) (by simp) rfl (fun c x hr => ?_) endH
                simp only [go_sem, reduceIte, reduceCtorEq, Nat.reduceEqDiff, Nat.reduceLT, Nat.reduceLeDiff, Nat.reduceBEq, Nat.reduceAdd, Int.reduceLE, Int.reduceLT] at hr
                obtain ⟨rfl, rfl⟩ := hr
                exact ⟨rfl, endR⟩
              · replace hK := ite_f hK hb4
                refine AWP_skip ?_
                with_reducible refine inBlockA_normal (thenC_normal ?_)
                refine AWP_facts (by simp) fun hfx => ?_
                simp only [factS, factV, fact1, fact0, factL0, lo, hi, maxLen, and_true, true_and] at hfx
                refine AWP_rg tab_ok [0, 1, 5, 6, 7, 10, 25, 26] fun c st' hr => ?_
                simp only [go_sem, reduceIte, reduceCtorEq, Nat.reduceEqDiff, Nat.reduceLT, Nat.reduceLeDiff, Nat.reduceBEq, Nat.reduceAdd, Int.reduceLE, Int.reduceLT] at hr
                obtain ⟨rfl, rfl⟩ := hr
                refine ⟨vc, ?_⟩
                clear hfx
                refine again_n (List.take ((q0.length : Int).toNat) y2.2.1, y2.2.2.1, y2.2.2.2, v + 1) [0, 1, 2, 8, 9, 5, 6, 7] hK mkWk
            · replace hK := ite_f hK hg
              refine AWPL_stP [(0, .int .i64 used), (1, .ptr 0 0 0), (5, .immp [.ints .i64 c4]), (6, .immp [.ints .i64 c5]), (7, .immp [.func 212 [.abs pl0 0 0, .immp [.int .i64 c1_0, .ints .i64 c1_1], .immp [.func 170 [.abs pl1 0 0, .abs pl2 0 0]], .immp [.int .i64 c3_0, .ints .i64 c3_1], .immp [.ints .i64 c4], .immp [.ints .i64 c5], cycA 212 [.abs pl0 0 0, .immp [.int .i64 c1_0, .ints .i64 c1_1], .immp [.func 170 [.abs pl1 0 0, .abs pl2 0 0]], .immp [.int .i64 c3_0, .ints .i64 c3_1], .immp [.ints .i64 c4], .immp [.ints .i64 c5]] fuel]]), (10, .int .i64 (q0.length : Int)), (11, .int .i64 v), (12, .bool v3), (25, .int .i64 c3_0), (26, .int .i64 v), (60, .bool v3), (61, .bool (decide (¬ (v3 = true)))), (62, .bool true), (63, .opt false (.func 212 [.abs pl0 0 0, .immp [.int .i64 c1_0, .ints .i64 c1_1], .immp [.func 170 [.abs pl1 0 0, .abs pl2 0 0]], .immp [.int .i64 c3_0, .ints .i64 c3_1], .immp [.ints .i64 c4], .immp [.ints .i64 c5], cycA 212 [.abs pl0 0 0, .immp [.int .i64 c1_0, .ints .i64 c1_1], .immp [.func 170 [.abs pl1 0 0, .abs pl2 0 0]], .immp [.int .i64 c3_0, .ints .i64 c3_1], .immp [.ints .i64 c4], .immp [.ints .i64 c5]] fuel])), (64, .opt false (.int .i64 used)), (65, .opt false (.int .i64 v)), (66, .opt false (.int .i64 (2 ^ v.toNat : Int))), (67, .opt false (.int .i64 (ior used (2 ^ v.toNat : Int))))] (by first | (simp [SameS, AX.look, hg]; done) | (simp at hg ⊢; simp [SameS, AX.look, hg]; done) | (simp_all [SameS, AX.look]; done)) ?_
              refine AWPL_skipV [0, 1, 5, 6, 7, 10, 25, 26, 62, 68] (.bool false) rfl pcF (of_decide_eq_true rfl) fun st' hr => ?_
              simp only [go_sem, reduceIte, reduceCtorEq, Nat.reduceEqDiff, Nat.reduceLT, Nat.reduceLeDiff, Nat.reduceBEq, Nat.reduceAdd, Int.reduceLE, Int.reduceLT] at hr
              subst hr
              refine AWPL_rn tab_ok 2 [0, 1, 5, 6, 7, 10, 14, 25, 26] fun c st' hr => ?_
              simp only [go_sem, reduceIte, reduceCtorEq, Nat.reduceEqDiff, Nat.reduceLT, Nat.reduceLeDiff, Nat.reduceBEq, Nat.reduceAdd, Int.reduceLE, Int.reduceLT] at hr
              obtain ⟨rfl, rfl⟩ := hr
              refine ⟨vc, ?_⟩
              refine AWPL_nil ?_
              with_reducible refine thenC_normal ?_
              refine AWP_seq ?_
              replace hK := chk_some hK
              obtain ⟨h9, hK⟩ := hK
              refine AWP_rg tab_ok [0, 1, 5, 6, 7, 10, 14, 25, 26] fun c st' hr => ?_
              simp only [go_sem, reduceIte, reduceCtorEq, Nat.reduceEqDiff, Nat.reduceLT, Nat.reduceLeDiff, Nat.reduceBEq, Nat.reduceAdd, Int.reduceLE, Int.reduceLT] at hr
              obtain ⟨rfl, rfl⟩ := hr
              refine ⟨vc, ?_⟩
              with_reducible refine thenC_normal ?_
              refine AWP_trunc 0 3 (List.take ((q0.length : Int).toNat) (q01 ++ [v])) rfl rfl rfl (by first | (rw [List.length_take]; omega) | (simp only [List.length_take, List.length_append, List.length_replicate]; omega)) fun st' hr => ?_
              simp only [go_sem, reduceIte, reduceCtorEq, Nat.reduceEqDiff, Nat.reduceLT, Nat.reduceLeDiff, Nat.reduceBEq, Nat.reduceAdd, Int.reduceLE, Int.reduceLT, List.set_cons_zero, List.set_cons_succ] at hr
              subst hr
              refine AWP_seq ?_
              refine AWP_rg tab_ok [0, 1, 5, 6, 7, 10, 25, 26, 74] fun c st' hr => ?_
              simp only [go_sem, reduceIte, reduceCtorEq, Nat.reduceEqDiff, Nat.reduceLT, Nat.reduceLeDiff, Nat.reduceBEq, Nat.reduceAdd, Int.reduceLE, Int.reduceLT] at hr
              obtain ⟨rfl, rfl⟩ := hr
              refine ⟨vc, ?_⟩
              with_reducible refine thenC_normal ?_
              refine AWP_condP (¬ (True)) rfl bd (fun hb5 => ?_) (fun hb5 => ?_)
              · replace hK := ite_t hK hb5
                refine AWP_seq ?_
                refine AWP_rg tab_ok [9] fun c st' hr => ?_
                simp only [go_sem, reduceIte, reduceCtorEq, Nat.reduceEqDiff, Nat.reduceLT, Nat.reduceLeDiff, Nat.reduceBEq, Nat.reduceAdd, Int.reduceLE, Int.reduceLT] at hr
                obtain ⟨rfl, rfl⟩ := hr
                refine ⟨vc, ?_⟩
                with_reducible refine thenC_normal ?_
                refine AWP_ret ?_
                with_reducible refine inBlockA_ret (thenC_ret (again_r (cutX_r (inBlockA_ret (thenC_ret ?_)))))
                replace hK := hpost1 _ hK
                try dsimp only at hK
                cases hK
                refine EndsRW [0, 1, 2, 3, 4, 5, 6, 7] (.inl rfl) (of_decide_eq_true rfl) (by simp) rfl (fun c x hr => ?_) endH
                simp only [go_sem, reduceIte, reduceCtorEq, Nat.reduceEqDiff, Nat.reduceLT, Nat.reduceLeDiff, Nat.reduceBEq, Nat.reduceAdd, Int.reduceLE, Int.reduceLT] at hr
                obtain ⟨rfl, rfl⟩ := hr
                exact ⟨rfl, endR⟩
              · replace hK := ite_f hK hb5
                refine AWP_skip ?_
                with_reducible refine inBlockA_normal (thenC_normal ?_)
                refine AWP_facts (by simp) fun hfx => ?_
                simp only [factS, factV, fact1, fact0, factL0, lo, hi, maxLen, and_true, true_and] at hfx
                refine AWP_rg tab_ok [0, 1, 5, 6, 7, 10, 25, 26] fun c st' hr => ?_
                simp only [go_sem, reduceIte, reduceCtorEq, Nat.reduceEqDiff, Nat.reduceLT, Nat.reduceLeDiff, Nat.reduceBEq, Nat.reduceAdd, Int.reduceLE, Int.reduceLT] at hr
                obtain ⟨rfl, rfl⟩ := hr
                refine ⟨vc, ?_⟩
                clear hfx
                refine again_n (List.take ((q0.length : Int).toNat) (q01 ++ [v]), q11, q21, v + 1) [0, 1, 2, 3, 4, 5, 6, 7] hK mkWk
      · replace hK := ite_f hK hb1
        refine AWP_exit ?_
        with_reducible refine thenC_exit (again_x ?_)
        refine cutX_here (q01, q11, q21) [0, 1, 2, 3, 4, 5, 6, 7] (by have hq := hpost1 _ hK; exact hq) mkWk
    · clear hK; rintro ⟨q02, q12, q22⟩ hK
      try dsimp only at hK
      refine exS ⟨76, [], [some (.gen 35 1 [[.own 3 q02.length]]), some (.gen 35 1 [[.own 4 q12.length]]), some (.gen 4 1 [[.bool q22]]), some (.ints 3 .i64 q02), some (.ints 3 .i64 q12), some (.pin 0 pl0), some (.pin 1 pl1), some (.pin 2 pl2)]⟩ rfl ?_
      with_reducible refine inBlockA_exit (thenC_normal ?_)
      refine AWP_seq ?_
      refine AWP_rg tab_ok [9] fun c st' hr => ?_
      simp only [go_sem, reduceIte, reduceCtorEq, Nat.reduceEqDiff, Nat.reduceLT, Nat.reduceLeDiff, Nat.reduceBEq, Nat.reduceAdd, Int.reduceLE, Int.reduceLT] at hr
      obtain ⟨rfl, rfl⟩ := hr
      refine ⟨vc, ?_⟩
      with_reducible refine thenC_normal ?_
      refine AWP_ret ?_
      cases hK
      refine EndsRW [0, 1, 2, 3, 4, 5, 6, 7] (.inl rfl) (of_decide_eq_true rfl) (by simp) rfl (fun c x hr => ?_) endH
      simp only [go_sem, reduceIte, reduceCtorEq, Nat.reduceEqDiff, Nat.reduceLT, Nat.reduceLeDiff, Nat.reduceBEq, Nat.reduceAdd, Int.reduceLE, Int.reduceLT] at hr
      obtain ⟨rfl, rfl⟩ := hr
      exact ⟨rfl, endR⟩

theorem W_same_each_1 {fuel : Nat} {used : Int} {c1_0 : Int} {c1_1 : List Int} {c3_0 : Int} {c3_1 : List Int} {c4 : List Int} {c5 : List Int} {q0 : List Int} {q1 : List Int} {q2 : Bool} {r : Bool × List Int × List Int × Bool} (hK : same_each_1 fuel used c1_0 c1_1 c3_0 c3_1 c4 c5 q0 q1 q2 = some r) : InG Try.prog 212 [(.gen 35 1 [[.own 3 q0.length]]), (.gen 35 1 [[.own 4 q1.length]]), (.gen 4 1 [[.bool q2]]), (.ints 3 .i64 q0), (.ints 3 .i64 q1)] 3 (fun ls => match ls with | [pl0, pl1, pl2] => [.int .i64 used, .ptr 0 0 0, .immp [.int .i64 c1_0, .ints .i64 c1_1], .immp [.func 170 [.abs pl1 0 0, .abs pl2 0 0]], .immp [.int .i64 c3_0, .ints .i64 c3_1], .immp [.ints .i64 c4], .immp [.ints .i64 c5], cycA 212 [.abs pl0 0 0, .immp [.int .i64 c1_0, .ints .i64 c1_1], .immp [.func 170 [.abs pl1 0 0, .abs pl2 0 0]], .immp [.int .i64 c3_0, .ints .i64 c3_1], .immp [.ints .i64 c4], .immp [.ints .i64 c5]] fuel] | _ => []) (.bool r.1) [(.gen 35 1 [[.own 3 r.2.1.length]]), (.gen 35 1 [[.own 4 r.2.2.1.length]]), (.gen 4 1 [[.bool r.2.2.2]]), (.ints 3 .i64 r.2.1), (.ints 3 .i64 r.2.2.1)] := by
  induction fuel generalizing used c1_0 c1_1 c3_0 c3_1 c4 c5 q0 q1 q2 r with
  | zero => cases hK
  | succ fuel ih => exact WS_same_each_1 ih hK

set_option maxRecDepth 8000 in
set_option maxHeartbeats 4000000 in
theorem W_same_each {a_0 : Int} {a_1 : List Int} {b_0 : Int} {b_1 : List Int} {q0 : List Int} {q1 : Bool} {r : List Int × Bool} (hK : same_each a_0 a_1 b_0 b_1 q0 q1 = some r) : InG Try.prog 169 [(.gen 35 1 [[.own 2 q0.length]]), (.gen 4 1 [[.bool q1]]), (.ints 3 .i64 q0)] 2 (fun ls => match ls with | [pl0, pl1] => [.agg [.int .i64 a_0, .ints .i64 a_1], .agg [.int .i64 b_0, .ints .i64 b_1], .func 170 [.abs pl0 0 0, .abs pl1 0 0]] | _ => []) (.tup []) [(.gen 35 1 [[.own 2 r.1.length]]), (.gen 4 1 [[.bool r.2]]), (.ints 3 .i64 r.1)] := by
  refine InG_intro tab_ok (n := 17) (l := []) Try.func169 rfl rfl rfl (fun ls => by first | (split <;> simp) | simp) (of_decide_eq_true rfl) (of_decide_eq_true rfl) rfl rfl rfl (by simp [renB, ren0, renI, List.range, List.range.loop]) (of_decide_eq_true rfl) (of_decide_eq_true rfl) fun w0 ls hls => ?_
  obtain ⟨pl0, pl1, rfl⟩ : ∃ pl0 pl1, ls = [pl0, pl1] := by
    match ls, hls with
    | [a, b], _ => exact ⟨a, b, rfl⟩
  simp only [pinL, List.map_cons, List.map_nil, List.cons_append, List.nil_append, Nat.zero_add, Nat.reduceAdd]
  unfold same_each at hK
  refine AWP_seq ?_
  refine AWP_rg tab_ok [3, 4, 5] fun c st' hr => ?_
  simp only [go_sem, reduceIte, reduceCtorEq, Nat.reduceEqDiff, Nat.reduceLT, Nat.reduceLeDiff, Nat.reduceBEq, Nat.reduceAdd, Int.reduceLE, Int.reduceLT] at hr
  obtain ⟨rfl, rfl⟩ := hr
  refine ⟨vc, ?_⟩
  with_reducible refine thenC_normal ?_
  refine AWP_seq ?_
  refine AWP_freeze 3 5 (y := .immp [.int .i64 a_0, .ints .i64 a_1]) rfl (.one (.ptrM _ _ _ _ _ _ _ rfl rfl rfl (ArgsOk.get (.cons (.atom _ rfl) (.cons (.atom _ rfl) .nil))).2)) fun st' hr => ?_
  simp only [go_sem, reduceIte, reduceCtorEq, Nat.reduceEqDiff, Nat.reduceLT, Nat.reduceLeDiff, Nat.reduceBEq, Nat.reduceAdd, Int.reduceLE, Int.reduceLT, List.set_cons_zero, List.set_cons_succ] at hr
  subst hr
  refine AWP_freeze 4 6 (y := .immp [.int .i64 b_0, .ints .i64 b_1]) rfl (.one (.ptrM _ _ _ _ _ _ _ rfl rfl rfl (ArgsOk.get (.cons (.atom _ rfl) (.cons (.atom _ rfl) .nil))).2)) fun st' hr => ?_
  simp only [go_sem, reduceIte, reduceCtorEq, Nat.reduceEqDiff, Nat.reduceLT, Nat.reduceLeDiff, Nat.reduceBEq, Nat.reduceAdd, Int.reduceLE, Int.reduceLT, List.set_cons_zero, List.set_cons_succ] at hr
  subst hr
  refine AWP_freeze 5 7 (y := .immp [.func 170 [.abs pl0 0 0, .abs pl1 0 0]]) rfl (.one (.ptrM _ _ _ _ _ _ [.func 170 [.abs pl0 0 0, .abs pl1 0 0]] rfl rfl rfl (ArgsOk.get (.cons (.funcOf (.cons (.atom _ rfl) (.cons (.atom _ rfl) .nil))) .nil)).2)) fun st' hr => ?_
  simp only [go_sem, reduceIte, reduceCtorEq, Nat.reduceEqDiff, Nat.reduceLT, Nat.reduceLeDiff, Nat.reduceBEq, Nat.reduceAdd, Int.reduceLE, Int.reduceLT, List.set_cons_zero, List.set_cons_succ] at hr
  subst hr
  replace hK := bind_s hK
  obtain ⟨y, hy, hK⟩ := hK
  replace hK := bind_s hK
  obtain ⟨y1, hy1, hK⟩ := hK
  refine AWP_drawJ ⟨17, [(3, .immp [.int .i64 a_0, .ints .i64 a_1]), (4, .immp [.int .i64 b_0, .ints .i64 b_1]), (5, .immp [.func 170 [.abs pl0 0 0, .abs pl1 0 0]]), (6, .ptr 10 0 0), (7, .ptr 11 0 0)], [some (.gen 35 1 [[.own 2 q0.length]]), some (.gen 4 1 [[.bool q1]]), some (.ints 3 .i64 q0), some (.pin 0 pl0), some (.pin 1 pl1), none, none, none, some (.ints 3 .i64 y), some (.ints 3 .i64 y1), some (.gen 35 1 [[.own 8 y.length]]), some (.gen 35 1 [[.own 9 y1.length]])]⟩ mixed ?_ ?_
  · refine AWPB_memo fun AA hAA => ?_
    have hn : AA 0 #[true, true, true, true, true, true, true, true] ⟨17, [(3, .immp [.int .i64 a_0, .ints .i64 a_1]), (4, .immp [.int .i64 b_0, .ints .i64 b_1]), (5, .immp [.func 170 [.abs pl0 0 0, .abs pl1 0 0]]), (6, .ptr 10 0 0), (7, .ptr 11 0 0)], [some (.gen 35 1 [[.own 2 q0.length]]), some (.gen 4 1 [[.bool q1]]), some (.ints 3 .i64 q0), some (.pin 0 pl0), some (.pin 1 pl1), none, none, none, some (.ints 3 .i64 y), some (.ints 3 .i64 y1), some (.gen 35 1 [[.own 8 y.length]]), some (.gen 35 1 [[.own 9 y1.length]])]⟩ := (hAA _ _ _).2 (by
      exact AWPB_end [0, 1, 2, 3, 4, 5, 6, 7, 8, 9, 10, 11] (by kernel_rfl) mkWk)
    have hn1 : AA 1 #[true, true, true, true, true, true, true, false] ⟨17, [(3, .immp [.int .i64 a_0, .ints .i64 a_1]), (4, .immp [.int .i64 b_0, .ints .i64 b_1]), (5, .immp [.func 170 [.abs pl0 0 0, .abs pl1 0 0]]), (6, .ptr 10 0 0), (7, .ptr 11 0 0), (13, .own 9 y1.length)], [some (.gen 35 1 [[.own 2 q0.length]]), some (.gen 4 1 [[.bool q1]]), some (.ints 3 .i64 q0), some (.pin 0 pl0), some (.pin 1 pl1), none, none, none, some (.ints 3 .i64 y), some (.ints 3 .i64 y1), some (.gen 35 1 [[.own 8 y.length]]), some (.gen 35 1 [[.nil]])]⟩ := (hAA _ _ _).2 (by
      refine AWPB_one 7 _ (by kernel_rfl) rfl ?_
      refine AWPL_rn tab_ok 1 [3, 4, 5, 6, 7] fun c st' hr => ?_
      simp only [go_sem, reduceIte, reduceCtorEq, Nat.reduceEqDiff, Nat.reduceLT, Nat.reduceLeDiff, Nat.reduceBEq, Nat.reduceAdd, Int.reduceLE, Int.reduceLT] at hr
      obtain ⟨rfl, rfl⟩ := hr
      refine ⟨vc, ?_⟩
      refine AWPL_nil ?_
      refine QB_normal ?_
      exact AWPB_wk [0, 1, 2, 3, 4, 5, 6, 7, 8, 9, 10, 11] mkWk ((hAA _ _ _).1 hn))
    have hn2 : AA 2 #[true, true, true, true, true, true, false, false] ⟨17, [(3, .immp [.int .i64 a_0, .ints .i64 a_1]), (4, .immp [.int .i64 b_0, .ints .i64 b_1]), (5, .immp [.func 170 [.abs pl0 0 0, .abs pl1 0 0]]), (6, .ptr 10 0 0), (7, .ptr 11 0 0), (11, .own 8 y.length), (13, .own 9 y1.length)], [some (.gen 35 1 [[.own 2 q0.length]]), some (.gen 4 1 [[.bool q1]]), some (.ints 3 .i64 q0), some (.pin 0 pl0), some (.pin 1 pl1), none, none, none, some (.ints 3 .i64 y), some (.ints 3 .i64 y1), some (.gen 35 1 [[.nil]]), some (.gen 35 1 [[.nil]])]⟩ := (hAA _ _ _).2 (by
      refine AWPB_one 6 _ (by kernel_rfl) rfl ?_
      refine AWPL_rn tab_ok 1 [3, 4, 5, 6, 7, 13] fun c st' hr => ?_
      simp only [go_sem, reduceIte, reduceCtorEq, Nat.reduceEqDiff, Nat.reduceLT, Nat.reduceLeDiff, Nat.reduceBEq, Nat.reduceAdd, Int.reduceLE, Int.reduceLT] at hr
      obtain ⟨rfl, rfl⟩ := hr
      refine ⟨vc, ?_⟩
      refine AWPL_nil ?_
      refine QB_normal ?_
      exact AWPB_wk [0, 1, 2, 3, 4, 5, 6, 7, 8, 9, 10, 11] mkWk ((hAA _ _ _).1 hn1))
    have hn3 : AA 3 #[true, true, true, true, true, false, false, false] ⟨17, [(3, .immp [.int .i64 a_0, .ints .i64 a_1]), (4, .immp [.int .i64 b_0, .ints .i64 b_1]), (5, .immp [.func 170 [.abs pl0 0 0, .abs pl1 0 0]]), (6, .ptr 10 0 0), (11, .own 8 y.length), (13, .own 9 y1.length)], [some (.gen 35 1 [[.own 2 q0.length]]), some (.gen 4 1 [[.bool q1]]), some (.ints 3 .i64 q0), some (.pin 0 pl0), some (.pin 1 pl1), none, none, none, some (.ints 3 .i64 y), some (.ints 3 .i64 y1), some (.gen 35 1 [[.nil]])]⟩ := (hAA _ _ _).2 (by
      refine AWPB_one 5 _ (by kernel_rfl) rfl ?_
      refine AWPL_rn tab_ok 1 [3, 4, 5, 6, 7, 11, 13] fun c st' hr => ?_
      simp only [go_sem, reduceIte, reduceCtorEq, Nat.reduceEqDiff, Nat.reduceLT, Nat.reduceLeDiff, Nat.reduceBEq, Nat.reduceAdd, Int.reduceLE, Int.reduceLT] at hr
      obtain ⟨rfl, rfl⟩ := hr
      refine ⟨vc, ?_⟩
      refine AWPL_nil ?_
      refine QB_normal ?_
      exact AWPB_wk [0, 1, 2, 3, 4, 5, 6, 7, 8, 9, 10, 11] mkWk ((hAA _ _ _).1 hn2))
    have hn4 : AA 3 #[true, true, true, true, false, true, false, false] ⟨17, [(3, .immp [.int .i64 a_0, .ints .i64 a_1]), (4, .immp [.int .i64 b_0, .ints .i64 b_1]), (5, .immp [.func 170 [.abs pl0 0 0, .abs pl1 0 0]]), (7, .ptr 10 0 0), (11, .own 8 y.length), (13, .own 9 y1.length)], [some (.gen 35 1 [[.own 2 q0.length]]), some (.gen 4 1 [[.bool q1]]), some (.ints 3 .i64 q0), some (.pin 0 pl0), some (.pin 1 pl1), none, none, none, some (.ints 3 .i64 y), some (.ints 3 .i64 y1), some (.gen 35 1 [[.nil]])]⟩ := (hAA _ _ _).2 (by
      refine AWPB_one 4 _ (by kernel_rfl) rfl ?_
      refine AWPL_rn tab_ok 1 [3, 4, 5, 6, 7, 11, 13] fun c st' hr => ?_
      simp only [go_sem, reduceIte, reduceCtorEq, Nat.reduceEqDiff, Nat.reduceLT, Nat.reduceLeDiff, Nat.reduceBEq, Nat.reduceAdd, Int.reduceLE, Int.reduceLT] at hr
      obtain ⟨rfl, rfl⟩ := hr
      refine ⟨vc, ?_⟩
      refine AWPL_nil ?_
      refine QB_normal ?_
      exact AWPB_wk [0, 1, 2, 3, 4, 5, 6, 7, 8, 9, 11, 10] mkWk ((hAA _ _ _).1 hn2))
    have hn5 : AA 4 #[true, true, true, true, false, false, false, false] ⟨17, [(3, .immp [.int .i64 a_0, .ints .i64 a_1]), (4, .immp [.int .i64 b_0, .ints .i64 b_1]), (5, .immp [.func 170 [.abs pl0 0 0, .abs pl1 0 0]]), (11, .own 8 y.length), (13, .own 9 y1.length)], [some (.gen 35 1 [[.own 2 q0.length]]), some (.gen 4 1 [[.bool q1]]), some (.ints 3 .i64 q0), some (.pin 0 pl0), some (.pin 1 pl1), none, none, none, some (.ints 3 .i64 y), some (.ints 3 .i64 y1)]⟩ := (hAA _ _ _).2 (by
      refine AWPB_two 4 5 _ _ (by kernel_rfl) rfl rfl ?_ ?_
      · skip
        refine AWPL_rn tab_ok 1 [3, 4, 5, 6, 7, 11, 13] fun c st' hr => ?_
        simp only [go_sem, reduceIte, reduceCtorEq, Nat.reduceEqDiff, Nat.reduceLT, Nat.reduceLeDiff, Nat.reduceBEq, Nat.reduceAdd, Int.reduceLE, Int.reduceLT] at hr
        obtain ⟨rfl, rfl⟩ := hr
        refine ⟨vc, ?_⟩
        refine AWPL_nil ?_
        refine QB_normal ?_
        exact AWPB_wk [0, 1, 2, 3, 4, 5, 6, 7, 8, 9, 10] mkWk ((hAA _ _ _).1 hn3)
      · skip
        refine AWPL_rn tab_ok 1 [3, 4, 5, 6, 7, 11, 13] fun c st' hr => ?_
        simp only [go_sem, reduceIte, reduceCtorEq, Nat.reduceEqDiff, Nat.reduceLT, Nat.reduceLeDiff, Nat.reduceBEq, Nat.reduceAdd, Int.reduceLE, Int.reduceLT] at hr
        obtain ⟨rfl, rfl⟩ := hr
        refine ⟨vc, ?_⟩
        refine AWPL_nil ?_
        refine QB_normal ?_
        exact AWPB_wk [0, 1, 2, 3, 4, 5, 6, 7, 8, 9, 10] mkWk ((hAA _ _ _).1 hn4))
    have hn6 : AA 3 #[true, true, true, false, true, true, false, false] ⟨17, [(3, .immp [.int .i64 a_0, .ints .i64 a_1]), (4, .immp [.int .i64 b_0, .ints .i64 b_1]), (5, .immp [.func 170 [.abs pl0 0 0, .abs pl1 0 0]]), (6, .ptr 9 0 0), (7, .ptr 10 0 0), (11, .own 8 y.length), (12, .agg [.int .i64 b_0, .ints .i64 b_1])], [some (.gen 35 1 [[.own 2 q0.length]]), some (.gen 4 1 [[.bool q1]]), some (.ints 3 .i64 q0), some (.pin 0 pl0), some (.pin 1 pl1), none, none, none, some (.ints 3 .i64 y), some (.gen 35 1 [[.nil]]), some (.gen 35 1 [[.nil]])]⟩ := (hAA _ _ _).2 (by
      refine AWPB_one 3 _ (by kernel_rfl) rfl ?_
      refine AWPL_callK [3, 4, 5, 6, 7, 11, 13] (W_same_ranks hy1) rfl rfl pcT rfl Try.call103 (.cons (.agg _ _ rfl (ArgsOk.get (.cons (.atom _ rfl) (.cons (.atom _ rfl) .nil))).2) .nil) (hscG trivial) (of_decide_eq_true rfl) (by first | rfl | simp [nI, nI1, nI0]) (by first | rfl | simp [nIB, nI0]) fun st' hr => ?_
      simp only [go_sem, reduceIte, reduceCtorEq, Nat.reduceEqDiff, Nat.reduceLT, Nat.reduceLeDiff, Nat.reduceBEq, Nat.reduceAdd, Int.reduceLE, Int.reduceLT] at hr
      subst hr
      refine AWPL_nil ?_
      refine QB_normal ?_
      exact AWPB_wk [0, 1, 2, 3, 4, 5, 6, 7, 8, 11, 9, 10] mkWk ((hAA _ _ _).1 hn2))
    have hn7 : AA 4 #[true, true, true, false, true, false, false, false] ⟨17, [(3, .immp [.int .i64 a_0, .ints .i64 a_1]), (4, .immp [.int .i64 b_0, .ints .i64 b_1]), (5, .immp [.func 170 [.abs pl0 0 0, .abs pl1 0 0]]), (6, .ptr 9 0 0), (11, .own 8 y.length), (12, .agg [.int .i64 b_0, .ints .i64 b_1])], [some (.gen 35 1 [[.own 2 q0.length]]), some (.gen 4 1 [[.bool q1]]), some (.ints 3 .i64 q0), some (.pin 0 pl0), some (.pin 1 pl1), none, none, none, some (.ints 3 .i64 y), some (.gen 35 1 [[.nil]])]⟩ := (hAA _ _ _).2 (by
      refine AWPB_two 3 5 _ _ (by kernel_rfl) rfl rfl ?_ ?_
      · skip
        refine AWPL_callK [3, 4, 5, 6, 7, 11, 13] (W_same_ranks hy1) rfl rfl pcT rfl Try.call103 (.cons (.agg _ _ rfl (ArgsOk.get (.cons (.atom _ rfl) (.cons (.atom _ rfl) .nil))).2) .nil) (hscG trivial) (of_decide_eq_true rfl) (by first | rfl | simp [nI, nI1, nI0]) (by first | rfl | simp [nIB, nI0]) fun st' hr => ?_
        simp only [go_sem, reduceIte, reduceCtorEq, Nat.reduceEqDiff, Nat.reduceLT, Nat.reduceLeDiff, Nat.reduceBEq, Nat.reduceAdd, Int.reduceLE, Int.reduceLT] at hr
        subst hr
        refine AWPL_nil ?_
        refine QB_normal ?_
        exact AWPB_wk [0, 1, 2, 3, 4, 5, 6, 7, 8, 10, 9] mkWk ((hAA _ _ _).1 hn3)
      · skip
        refine AWPL_rn tab_ok 1 [3, 4, 5, 6, 7, 11, 12, 13] fun c st' hr => ?_
        simp only [go_sem, reduceIte, reduceCtorEq, Nat.reduceEqDiff, Nat.reduceLT, Nat.reduceLeDiff, Nat.reduceBEq, Nat.reduceAdd, Int.reduceLE, Int.reduceLT] at hr
        obtain ⟨rfl, rfl⟩ := hr
        refine ⟨vc, ?_⟩
        refine AWPL_nil ?_
        refine QB_normal ?_
        exact AWPB_wk [0, 1, 2, 3, 4, 5, 6, 7, 8, 9, 10] mkWk ((hAA _ _ _).1 hn6))
    have hn8 : AA 4 #[true, true, true, false, false, true, false, false] ⟨17, [(3, .immp [.int .i64 a_0, .ints .i64 a_1]), (4, .immp [.int .i64 b_0, .ints .i64 b_1]), (5, .immp [.func 170 [.abs pl0 0 0, .abs pl1 0 0]]), (7, .ptr 9 0 0), (11, .own 8 y.length), (12, .agg [.int .i64 b_0, .ints .i64 b_1])], [some (.gen 35 1 [[.own 2 q0.length]]), some (.gen 4 1 [[.bool q1]]), some (.ints 3 .i64 q0), some (.pin 0 pl0), some (.pin 1 pl1), none, none, none, some (.ints 3 .i64 y), some (.gen 35 1 [[.nil]])]⟩ := (hAA _ _ _).2 (by
      refine AWPB_two 3 4 _ _ (by kernel_rfl) rfl rfl ?_ ?_
      · skip
        refine AWPL_callK [3, 4, 5, 6, 7, 11, 13] (W_same_ranks hy1) rfl rfl pcT rfl Try.call103 (.cons (.agg _ _ rfl (ArgsOk.get (.cons (.atom _ rfl) (.cons (.atom _ rfl) .nil))).2) .nil) (hscG trivial) (of_decide_eq_true rfl) (by first | rfl | simp [nI, nI1, nI0]) (by first | rfl | simp [nIB, nI0]) fun st' hr => ?_
        simp only [go_sem, reduceIte, reduceCtorEq, Nat.reduceEqDiff, Nat.reduceLT, Nat.reduceLeDiff, Nat.reduceBEq, Nat.reduceAdd, Int.reduceLE, Int.reduceLT] at hr
        subst hr
        refine AWPL_nil ?_
        refine QB_normal ?_
        exact AWPB_wk [0, 1, 2, 3, 4, 5, 6, 7, 8, 10, 9] mkWk ((hAA _ _ _).1 hn4)
      · skip
        refine AWPL_rn tab_ok 1 [3, 4, 5, 6, 7, 11, 12, 13] fun c st' hr => ?_
        simp only [go_sem, reduceIte, reduceCtorEq, Nat.reduceEqDiff, Nat.reduceLT, Nat.reduceLeDiff, Nat.reduceBEq, Nat.reduceAdd, Int.reduceLE, Int.reduceLT] at hr
        obtain ⟨rfl, rfl⟩ := hr
        refine ⟨vc, ?_⟩
        refine AWPL_nil ?_
        refine QB_normal ?_
        exact AWPB_wk [0, 1, 2, 3, 4, 5, 6, 7, 8, 10, 9] mkWk ((hAA _ _ _).1 hn6))
    have hn9 : AA 5 #[true, true, true, false, false, false, false, false] ⟨17, [(3, .immp [.int .i64 a_0, .ints .i64 a_1]), (4, .immp [.int .i64 b_0, .ints .i64 b_1]), (5, .immp [.func 170 [.abs pl0 0 0, .abs pl1 0 0]]), (11, .own 8 y.length), (12, .agg [.int .i64 b_0, .ints .i64 b_1])], [some (.gen 35 1 [[.own 2 q0.length]]), some (.gen 4 1 [[.bool q1]]), some (.ints 3 .i64 q0), some (.pin 0 pl0), some (.pin 1 pl1), none, none, none, some (.ints 3 .i64 y)]⟩ := (hAA _ _ _).2 (by
      refine AWPB_three 3 4 5 _ _ _ (by kernel_rfl) rfl rfl rfl ?_ ?_ ?_
      · skip
        refine AWPL_callK [3, 4, 5, 6, 7, 11, 13] (W_same_ranks hy1) rfl rfl pcT rfl Try.call103 (.cons (.agg _ _ rfl (ArgsOk.get (.cons (.atom _ rfl) (.cons (.atom _ rfl) .nil))).2) .nil) (hscG trivial) (of_decide_eq_true rfl) (by first | rfl | simp [nI, nI1, nI0]) (by first | rfl | simp [nIB, nI0]) fun st' hr => ?_
        simp only [go_sem, reduceIte, reduceCtorEq, Nat.reduceEqDiff, Nat.reduceLT, Nat.reduceLeDiff, Nat.reduceBEq, Nat.reduceAdd, Int.reduceLE, Int.reduceLT] at hr
        subst hr
        refine AWPL_nil ?_
        refine QB_normal ?_
        exact AWPB_wk [0, 1, 2, 3, 4, 5, 6, 7, 8, 9] mkWk ((hAA _ _ _).1 hn5)
      · skip
        refine AWPL_rn tab_ok 1 [3, 4, 5, 6, 7, 11, 12, 13] fun c st' hr => ?_
        simp only [go_sem, reduceIte, reduceCtorEq, Nat.reduceEqDiff, Nat.reduceLT, Nat.reduceLeDiff, Nat.reduceBEq, Nat.reduceAdd, Int.reduceLE, Int.reduceLT] at hr
        obtain ⟨rfl, rfl⟩ := hr
        refine ⟨vc, ?_⟩
        refine AWPL_nil ?_
        refine QB_normal ?_
        exact AWPB_wk [0, 1, 2, 3, 4, 5, 6, 7, 8, 9] mkWk ((hAA _ _ _).1 hn7)
      · skip
        refine AWPL_rn tab_ok 1 [3, 4, 5, 6, 7, 11, 12, 13] fun c st' hr => ?_
        simp only [go_sem, reduceIte, reduceCtorEq, Nat.reduceEqDiff, Nat.reduceLT, Nat.reduceLeDiff, Nat.reduceBEq, Nat.reduceAdd, Int.reduceLE, Int.reduceLT] at hr
        obtain ⟨rfl, rfl⟩ := hr
        refine ⟨vc, ?_⟩
        refine AWPL_nil ?_
        refine QB_normal ?_
        exact AWPB_wk [0, 1, 2, 3, 4, 5, 6, 7, 8, 9] mkWk ((hAA _ _ _).1 hn8))
    have hn10 : AA 4 #[true, true, false, false, true, true, false, false] ⟨17, [(3, .immp [.int .i64 a_0, .ints .i64 a_1]), (4, .immp [.int .i64 b_0, .ints .i64 b_1]), (5, .immp [.func 170 [.abs pl0 0 0, .abs pl1 0 0]]), (6, .ptr 9 0 0), (7, .ptr 10 0 0), (11, .own 8 y.length)], [some (.gen 35 1 [[.own 2 q0.length]]), some (.gen 4 1 [[.bool q1]]), some (.ints 3 .i64 q0), some (.pin 0 pl0), some (.pin 1 pl1), none, none, none, some (.ints 3 .i64 y), some (.gen 35 1 [[.nil]]), some (.gen 35 1 [[.nil]])]⟩ := (hAA _ _ _).2 (by
      refine AWPB_one 2 _ (by kernel_rfl) rfl ?_
      refine AWPL_rn tab_ok 1 [3, 4, 5, 6, 7, 11, 12, 13] fun c st' hr => ?_
      simp only [go_sem, reduceIte, reduceCtorEq, Nat.reduceEqDiff, Nat.reduceLT, Nat.reduceLeDiff, Nat.reduceBEq, Nat.reduceAdd, Int.reduceLE, Int.reduceLT] at hr
      obtain ⟨rfl, rfl⟩ := hr
      refine ⟨vc, ?_⟩
      refine AWPL_nil ?_
      refine QB_normal ?_
      exact AWPB_wk [0, 1, 2, 3, 4, 5, 6, 7, 8, 9, 10] mkWk ((hAA _ _ _).1 hn6))
    have hn11 : AA 5 #[true, true, false, false, true, false, false, false] ⟨17, [(3, .immp [.int .i64 a_0, .ints .i64 a_1]), (4, .immp [.int .i64 b_0, .ints .i64 b_1]), (5, .immp [.func 170 [.abs pl0 0 0, .abs pl1 0 0]]), (6, .ptr 9 0 0), (11, .own 8 y.length)], [some (.gen 35 1 [[.own 2 q0.length]]), some (.gen 4 1 [[.bool q1]]), some (.ints 3 .i64 q0), some (.pin 0 pl0), some (.pin 1 pl1), none, none, none, some (.ints 3 .i64 y), some (.gen 35 1 [[.nil]])]⟩ := (hAA _ _ _).2 (by
      refine AWPB_two 2 5 _ _ (by kernel_rfl) rfl rfl ?_ ?_
      · skip
        refine AWPL_rn tab_ok 1 [3, 4, 5, 6, 7, 11, 12, 13] fun c st' hr => ?_
        simp only [go_sem, reduceIte, reduceCtorEq, Nat.reduceEqDiff, Nat.reduceLT, Nat.reduceLeDiff, Nat.reduceBEq, Nat.reduceAdd, Int.reduceLE, Int.reduceLT] at hr
        obtain ⟨rfl, rfl⟩ := hr
        refine ⟨vc, ?_⟩
        refine AWPL_nil ?_
        refine QB_normal ?_
        exact AWPB_wk [0, 1, 2, 3, 4, 5, 6, 7, 8, 9] mkWk ((hAA _ _ _).1 hn7)
      · skip
        refine AWPL_rn tab_ok 1 [3, 4, 5, 6, 7, 11, 12, 13] fun c st' hr => ?_
        simp only [go_sem, reduceIte, reduceCtorEq, Nat.reduceEqDiff, Nat.reduceLT, Nat.reduceLeDiff, Nat.reduceBEq, Nat.reduceAdd, Int.reduceLE, Int.reduceLT] at hr
        obtain ⟨rfl, rfl⟩ := hr
        refine ⟨vc, ?_⟩
        refine AWPL_nil ?_
        refine QB_normal ?_
        exact AWPB_wk [0, 1, 2, 3, 4, 5, 6, 7, 8, 9, 10] mkWk ((hAA _ _ _).1 hn10))
    have hn12 : AA 5 #[true, true, false, false, false, true, false, false] ⟨17, [(3, .immp [.int .i64 a_0, .ints .i64 a_1]), (4, .immp [.int .i64 b_0, .ints .i64 b_1]), (5, .immp [.func 170 [.abs pl0 0 0, .abs pl1 0 0]]), (7, .ptr 9 0 0), (11, .own 8 y.length)], [some (.gen 35 1 [[.own 2 q0.length]]), some (.gen 4 1 [[.bool q1]]), some (.ints 3 .i64 q0), some (.pin 0 pl0), some (.pin 1 pl1), none, none, none, some (.ints 3 .i64 y), some (.gen 35 1 [[.nil]])]⟩ := (hAA _ _ _).2 (by
      refine AWPB_two 2 4 _ _ (by kernel_rfl) rfl rfl ?_ ?_
      · skip
        refine AWPL_rn tab_ok 1 [3, 4, 5, 6, 7, 11, 12, 13] fun c st' hr => ?_
        simp only [go_sem, reduceIte, reduceCtorEq, Nat.reduceEqDiff, Nat.reduceLT, Nat.reduceLeDiff, Nat.reduceBEq, Nat.reduceAdd, Int.reduceLE, Int.reduceLT] at hr
        obtain ⟨rfl, rfl⟩ := hr
        refine ⟨vc, ?_⟩
        refine AWPL_nil ?_
        refine QB_normal ?_
        exact AWPB_wk [0, 1, 2, 3, 4, 5, 6, 7, 8, 9] mkWk ((hAA _ _ _).1 hn8)
      · skip
        refine AWPL_rn tab_ok 1 [3, 4, 5, 6, 7, 11, 12, 13] fun c st' hr => ?_
        simp only [go_sem, reduceIte, reduceCtorEq, Nat.reduceEqDiff, Nat.reduceLT, Nat.reduceLeDiff, Nat.reduceBEq, Nat.reduceAdd, Int.reduceLE, Int.reduceLT] at hr
        obtain ⟨rfl, rfl⟩ := hr
        refine ⟨vc, ?_⟩
        refine AWPL_nil ?_
        refine QB_normal ?_
        exact AWPB_wk [0, 1, 2, 3, 4, 5, 6, 7, 8, 10, 9] mkWk ((hAA _ _ _).1 hn10))
    have hn13 : AA 6 #[true, true, false, false, false, false, false, false] ⟨17, [(3, .immp [.int .i64 a_0, .ints .i64 a_1]), (4, .immp [.int .i64 b_0, .ints .i64 b_1]), (5, .immp [.func 170 [.abs pl0 0 0, .abs pl1 0 0]]), (11, .own 8 y.length)], [some (.gen 35 1 [[.own 2 q0.length]]), some (.gen 4 1 [[.bool q1]]), some (.ints 3 .i64 q0), some (.pin 0 pl0), some (.pin 1 pl1), none, none, none, some (.ints 3 .i64 y)]⟩ := (hAA _ _ _).2 (by
      refine AWPB_three 2 4 5 _ _ _ (by kernel_rfl) rfl rfl rfl ?_ ?_ ?_
      · skip
        refine AWPL_rn tab_ok 1 [3, 4, 5, 6, 7, 11, 12, 13] fun c st' hr => ?_
        simp only [go_sem, reduceIte, reduceCtorEq, Nat.reduceEqDiff, Nat.reduceLT, Nat.reduceLeDiff, Nat.reduceBEq, Nat.reduceAdd, Int.reduceLE, Int.reduceLT] at hr
        obtain ⟨rfl, rfl⟩ := hr
        refine ⟨vc, ?_⟩
        refine AWPL_nil ?_
        refine QB_normal ?_
        exact AWPB_wk [0, 1, 2, 3, 4, 5, 6, 7, 8] mkWk ((hAA _ _ _).1 hn9)
      · skip
        refine AWPL_rn tab_ok 1 [3, 4, 5, 6, 7, 11, 12, 13] fun c st' hr => ?_
        simp only [go_sem, reduceIte, reduceCtorEq, Nat.reduceEqDiff, Nat.reduceLT, Nat.reduceLeDiff, Nat.reduceBEq, Nat.reduceAdd, Int.reduceLE, Int.reduceLT] at hr
        obtain ⟨rfl, rfl⟩ := hr
        refine ⟨vc, ?_⟩
        refine AWPL_nil ?_
        refine QB_normal ?_
        exact AWPB_wk [0, 1, 2, 3, 4, 5, 6, 7, 8, 9] mkWk ((hAA _ _ _).1 hn11)
      · skip
        refine AWPL_rn tab_ok 1 [3, 4, 5, 6, 7, 11, 12, 13] fun c st' hr => ?_
        simp only [go_sem, reduceIte, reduceCtorEq, Nat.reduceEqDiff, Nat.reduceLT, Nat.reduceLeDiff, Nat.reduceBEq, Nat.reduceAdd, Int.reduceLE, Int.reduceLT] at hr
        obtain ⟨rfl, rfl⟩ := hr
        refine ⟨vc, ?_⟩
        refine AWPL_nil ?_
        refine QB_normal ?_
        exact AWPB_wk [0, 1, 2, 3, 4, 5, 6, 7, 8, 9] mkWk ((hAA _ _ _).1 hn12))
    have hn14 : AA 4 #[true, false, true, false, true, true, false, false] ⟨17, [(3, .immp [.int .i64 a_0, .ints .i64 a_1]), (4, .immp [.int .i64 b_0, .ints .i64 b_1]), (5, .immp [.func 170 [.abs pl0 0 0, .abs pl1 0 0]]), (6, .ptr 8 0 0), (7, .ptr 9 0 0), (10, .agg [.int .i64 a_0, .ints .i64 a_1]), (12, .agg [.int .i64 b_0, .ints .i64 b_1])], [some (.gen 35 1 [[.own 2 q0.length]]), some (.gen 4 1 [[.bool q1]]), some (.ints 3 .i64 q0), some (.pin 0 pl0), some (.pin 1 pl1), none, none, none, some (.gen 35 1 [[.nil]]), some (.gen 35 1 [[.nil]])]⟩ := (hAA _ _ _).2 (by
      refine AWPB_one 1 _ (by kernel_rfl) rfl ?_
      refine AWPL_callK [3, 4, 5, 6, 7, 11, 12, 13] (W_same_ranks hy) rfl rfl pcT rfl Try.call103 (.cons (.agg _ _ rfl (ArgsOk.get (.cons (.atom _ rfl) (.cons (.atom _ rfl) .nil))).2) .nil) (hscG trivial) (of_decide_eq_true rfl) (by first | rfl | simp [nI, nI1, nI0]) (by first | rfl | simp [nIB, nI0]) fun st' hr => ?_
      simp only [go_sem, reduceIte, reduceCtorEq, Nat.reduceEqDiff, Nat.reduceLT, Nat.reduceLeDiff, Nat.reduceBEq, Nat.reduceAdd, Int.reduceLE, Int.reduceLT] at hr
      subst hr
      refine AWPL_nil ?_
      refine QB_normal ?_
      exact AWPB_wk [0, 1, 2, 3, 4, 5, 6, 7, 10, 8, 9] mkWk ((hAA _ _ _).1 hn6))
    have hn15 : AA 5 #[true, false, true, false, true, false, false, false] ⟨17, [(3, .immp [.int .i64 a_0, .ints .i64 a_1]), (4, .immp [.int .i64 b_0, .ints .i64 b_1]), (5, .immp [.func 170 [.abs pl0 0 0, .abs pl1 0 0]]), (6, .ptr 8 0 0), (10, .agg [.int .i64 a_0, .ints .i64 a_1]), (12, .agg [.int .i64 b_0, .ints .i64 b_1])], [some (.gen 35 1 [[.own 2 q0.length]]), some (.gen 4 1 [[.bool q1]]), some (.ints 3 .i64 q0), some (.pin 0 pl0), some (.pin 1 pl1), none, none, none, some (.gen 35 1 [[.nil]])]⟩ := (hAA _ _ _).2 (by
      refine AWPB_two 1 5 _ _ (by kernel_rfl) rfl rfl ?_ ?_
      · skip
        refine AWPL_callK [3, 4, 5, 6, 7, 11, 12, 13] (W_same_ranks hy) rfl rfl pcT rfl Try.call103 (.cons (.agg _ _ rfl (ArgsOk.get (.cons (.atom _ rfl) (.cons (.atom _ rfl) .nil))).2) .nil) (hscG trivial) (of_decide_eq_true rfl) (by first | rfl | simp [nI, nI1, nI0]) (by first | rfl | simp [nIB, nI0]) fun st' hr => ?_
        simp only [go_sem, reduceIte, reduceCtorEq, Nat.reduceEqDiff, Nat.reduceLT, Nat.reduceLeDiff, Nat.reduceBEq, Nat.reduceAdd, Int.reduceLE, Int.reduceLT] at hr
        subst hr
        refine AWPL_nil ?_
        refine QB_normal ?_
        exact AWPB_wk [0, 1, 2, 3, 4, 5, 6, 7, 9, 8] mkWk ((hAA _ _ _).1 hn7)
      · skip
        refine AWPL_rn tab_ok 1 [3, 4, 5, 6, 7, 10, 11, 12, 13] fun c st' hr => ?_
        simp only [go_sem, reduceIte, reduceCtorEq, Nat.reduceEqDiff, Nat.reduceLT, Nat.reduceLeDiff, Nat.reduceBEq, Nat.reduceAdd, Int.reduceLE, Int.reduceLT] at hr
        obtain ⟨rfl, rfl⟩ := hr
        refine ⟨vc, ?_⟩
        refine AWPL_nil ?_
        refine QB_normal ?_
        exact AWPB_wk [0, 1, 2, 3, 4, 5, 6, 7, 8, 9] mkWk ((hAA _ _ _).1 hn14))
    have hn16 : AA 5 #[true, false, true, false, false, true, false, false] ⟨17, [(3, .immp [.int .i64 a_0, .ints .i64 a_1]), (4, .immp [.int .i64 b_0, .ints .i64 b_1]), (5, .immp [.func 170 [.abs pl0 0 0, .abs pl1 0 0]]), (7, .ptr 8 0 0), (10, .agg [.int .i64 a_0, .ints .i64 a_1]), (12, .agg [.int .i64 b_0, .ints .i64 b_1])], [some (.gen 35 1 [[.own 2 q0.length]]), some (.gen 4 1 [[.bool q1]]), some (.ints 3 .i64 q0), some (.pin 0 pl0), some (.pin 1 pl1), none, none, none, some (.gen 35 1 [[.nil]])]⟩ := (hAA _ _ _).2 (by
      refine AWPB_two 1 4 _ _ (by kernel_rfl) rfl rfl ?_ ?_
      · skip
        refine AWPL_callK [3, 4, 5, 6, 7, 11, 12, 13] (W_same_ranks hy) rfl rfl pcT rfl Try.call103 (.cons (.agg _ _ rfl (ArgsOk.get (.cons (.atom _ rfl) (.cons (.atom _ rfl) .nil))).2) .nil) (hscG trivial) (of_decide_eq_true rfl) (by first | rfl | simp [nI, nI1, nI0]) (by first | rfl | simp [nIB, nI0]) fun st' hr => ?_
        simp only [go_sem, reduceIte, reduceCtorEq, Nat.reduceEqDiff, Nat.reduceLT, Nat.reduceLeDiff, Nat.reduceBEq, Nat.reduceAdd, Int.reduceLE, Int.reduceLT] at hr
        subst hr
        refine AWPL_nil ?_
        refine QB_normal ?_
        exact AWPB_wk [0, 1, 2, 3, 4, 5, 6, 7, 9, 8] mkWk ((hAA _ _ _).1 hn8)
      · skip
        refine AWPL_rn tab_ok 1 [3, 4, 5, 6, 7, 10, 11, 12, 13] fun c st' hr => ?_
        simp only [go_sem, reduceIte, reduceCtorEq, Nat.reduceEqDiff, Nat.reduceLT, Nat.reduceLeDiff, Nat.reduceBEq, Nat.reduceAdd, Int.reduceLE, Int.reduceLT] at hr
        obtain ⟨rfl, rfl⟩ := hr
        refine ⟨vc, ?_⟩
        refine AWPL_nil ?_
        refine QB_normal ?_
        exact AWPB_wk [0, 1, 2, 3, 4, 5, 6, 7, 9, 8] mkWk ((hAA _ _ _).1 hn14))
    have hn17 : AA 6 #[true, false, true, false, false, false, false, false] ⟨17, [(3, .immp [.int .i64 a_0, .ints .i64 a_1]), (4, .immp [.int .i64 b_0, .ints .i64 b_1]), (5, .immp [.func 170 [.abs pl0 0 0, .abs pl1 0 0]]), (10, .agg [.int .i64 a_0, .ints .i64 a_1]), (12, .agg [.int .i64 b_0, .ints .i64 b_1])], [some (.gen 35 1 [[.own 2 q0.length]]), some (.gen 4 1 [[.bool q1]]), some (.ints 3 .i64 q0), some (.pin 0 pl0), some (.pin 1 pl1), none, none, none]⟩ := (hAA _ _ _).2 (by
      refine AWPB_three 1 4 5 _ _ _ (by kernel_rfl) rfl rfl rfl ?_ ?_ ?_
      · skip
        refine AWPL_callK [3, 4, 5, 6, 7, 11, 12, 13] (W_same_ranks hy) rfl rfl pcT rfl Try.call103 (.cons (.agg _ _ rfl (ArgsOk.get (.cons (.atom _ rfl) (.cons (.atom _ rfl) .nil))).2) .nil) (hscG trivial) (of_decide_eq_true rfl) (by first | rfl | simp [nI, nI1, nI0]) (by first | rfl | simp [nIB, nI0]) fun st' hr => ?_
        simp only [go_sem, reduceIte, reduceCtorEq, Nat.reduceEqDiff, Nat.reduceLT, Nat.reduceLeDiff, Nat.reduceBEq, Nat.reduceAdd, Int.reduceLE, Int.reduceLT] at hr
        subst hr
        refine AWPL_nil ?_
        refine QB_normal ?_
        exact AWPB_wk [0, 1, 2, 3, 4, 5, 6, 7, 8] mkWk ((hAA _ _ _).1 hn9)
      · skip
        refine AWPL_rn tab_ok 1 [3, 4, 5, 6, 7, 10, 11, 12, 13] fun c st' hr => ?_
        simp only [go_sem, reduceIte, reduceCtorEq, Nat.reduceEqDiff, Nat.reduceLT, Nat.reduceLeDiff, Nat.reduceBEq, Nat.reduceAdd, Int.reduceLE, Int.reduceLT] at hr
        obtain ⟨rfl, rfl⟩ := hr
        refine ⟨vc, ?_⟩
        refine AWPL_nil ?_
        refine QB_normal ?_
        exact AWPB_wk [0, 1, 2, 3, 4, 5, 6, 7, 8] mkWk ((hAA _ _ _).1 hn15)
      · skip
        refine AWPL_rn tab_ok 1 [3, 4, 5, 6, 7, 10, 11, 12, 13] fun c st' hr => ?_
        simp only [go_sem, reduceIte, reduceCtorEq, Nat.reduceEqDiff, Nat.reduceLT, Nat.reduceLeDiff, Nat.reduceBEq, Nat.reduceAdd, Int.reduceLE, Int.reduceLT] at hr
        obtain ⟨rfl, rfl⟩ := hr
        refine ⟨vc, ?_⟩
        refine AWPL_nil ?_
        refine QB_normal ?_
        exact AWPB_wk [0, 1, 2, 3, 4, 5, 6, 7, 8] mkWk ((hAA _ _ _).1 hn16))
    have hn18 : AA 5 #[true, false, false, false, true, true, false, false] ⟨17, [(3, .immp [.int .i64 a_0, .ints .i64 a_1]), (4, .immp [.int .i64 b_0, .ints .i64 b_1]), (5, .immp [.func 170 [.abs pl0 0 0, .abs pl1 0 0]]), (6, .ptr 8 0 0), (7, .ptr 9 0 0), (10, .agg [.int .i64 a_0, .ints .i64 a_1])], [some (.gen 35 1 [[.own 2 q0.length]]), some (.gen 4 1 [[.bool q1]]), some (.ints 3 .i64 q0), some (.pin 0 pl0), some (.pin 1 pl1), none, none, none, some (.gen 35 1 [[.nil]]), some (.gen 35 1 [[.nil]])]⟩ := (hAA _ _ _).2 (by
      refine AWPB_two 1 2 _ _ (by kernel_rfl) rfl rfl ?_ ?_
      · skip
        refine AWPL_callK [3, 4, 5, 6, 7, 11, 12, 13] (W_same_ranks hy) rfl rfl pcT rfl Try.call103 (.cons (.agg _ _ rfl (ArgsOk.get (.cons (.atom _ rfl) (.cons (.atom _ rfl) .nil))).2) .nil) (hscG trivial) (of_decide_eq_true rfl) (by first | rfl | simp [nI, nI1, nI0]) (by first | rfl | simp [nIB, nI0]) fun st' hr => ?_
        simp only [go_sem, reduceIte, reduceCtorEq, Nat.reduceEqDiff, Nat.reduceLT, Nat.reduceLeDiff, Nat.reduceBEq, Nat.reduceAdd, Int.reduceLE, Int.reduceLT] at hr
        subst hr
        refine AWPL_nil ?_
        refine QB_normal ?_
        exact AWPB_wk [0, 1, 2, 3, 4, 5, 6, 7, 10, 8, 9] mkWk ((hAA _ _ _).1 hn10)
      · skip
        refine AWPL_rn tab_ok 1 [3, 4, 5, 6, 7, 10, 11, 12, 13] fun c st' hr => ?_
        simp only [go_sem, reduceIte, reduceCtorEq, Nat.reduceEqDiff, Nat.reduceLT, Nat.reduceLeDiff, Nat.reduceBEq, Nat.reduceAdd, Int.reduceLE, Int.reduceLT] at hr
        obtain ⟨rfl, rfl⟩ := hr
        refine ⟨vc, ?_⟩
        refine AWPL_nil ?_
        refine QB_normal ?_
        exact AWPB_wk [0, 1, 2, 3, 4, 5, 6, 7, 8, 9] mkWk ((hAA _ _ _).1 hn14))
    have hn19 : AA 6 #[true, false, false, false, true, false, false, false] ⟨17, [(3, .immp [.int .i64 a_0, .ints .i64 a_1]), (4, .immp [.int .i64 b_0, .ints .i64 b_1]), (5, .immp [.func 170 [.abs pl0 0 0, .abs pl1 0 0]]), (6, .ptr 8 0 0), (10, .agg [.int .i64 a_0, .ints .i64 a_1])], [some (.gen 35 1 [[.own 2 q0.length]]), some (.gen 4 1 [[.bool q1]]), some (.ints 3 .i64 q0), some (.pin 0 pl0), some (.pin 1 pl1), none, none, none, some (.gen 35 1 [[.nil]])]⟩ := (hAA _ _ _).2 (by
      refine AWPB_three 1 2 5 _ _ _ (by kernel_rfl) rfl rfl rfl ?_ ?_ ?_
      · skip
        refine AWPL_callK [3, 4, 5, 6, 7, 11, 12, 13] (W_same_ranks hy) rfl rfl pcT rfl Try.call103 (.cons (.agg _ _ rfl (ArgsOk.get (.cons (.atom _ rfl) (.cons (.atom _ rfl) .nil))).2) .nil) (hscG trivial) (of_decide_eq_true rfl) (by first | rfl | simp [nI, nI1, nI0]) (by first | rfl | simp [nIB, nI0]) fun st' hr => ?_
        simp only [go_sem, reduceIte, reduceCtorEq, Nat.reduceEqDiff, Nat.reduceLT, Nat.reduceLeDiff, Nat.reduceBEq, Nat.reduceAdd, Int.reduceLE, Int.reduceLT] at hr
        subst hr
        refine AWPL_nil ?_
        refine QB_normal ?_
        exact AWPB_wk [0, 1, 2, 3, 4, 5, 6, 7, 9, 8] mkWk ((hAA _ _ _).1 hn11)
      · skip
        refine AWPL_rn tab_ok 1 [3, 4, 5, 6, 7, 10, 11, 12, 13] fun c st' hr => ?_
        simp only [go_sem, reduceIte, reduceCtorEq, Nat.reduceEqDiff, Nat.reduceLT, Nat.reduceLeDiff, Nat.reduceBEq, Nat.reduceAdd, Int.reduceLE, Int.reduceLT] at hr
        obtain ⟨rfl, rfl⟩ := hr
        refine ⟨vc, ?_⟩
        refine AWPL_nil ?_
        refine QB_normal ?_
        exact AWPB_wk [0, 1, 2, 3, 4, 5, 6, 7, 8] mkWk ((hAA _ _ _).1 hn15)
      · skip
        refine AWPL_rn tab_ok 1 [3, 4, 5, 6, 7, 10, 11, 12, 13] fun c st' hr => ?_
        simp only [go_sem, reduceIte, reduceCtorEq, Nat.reduceEqDiff, Nat.reduceLT, Nat.reduceLeDiff, Nat.reduceBEq, Nat.reduceAdd, Int.reduceLE, Int.reduceLT] at hr
        obtain ⟨rfl, rfl⟩ := hr
        refine ⟨vc, ?_⟩
        refine AWPL_nil ?_
        refine QB_normal ?_
        exact AWPB_wk [0, 1, 2, 3, 4, 5, 6, 7, 8, 9] mkWk ((hAA _ _ _).1 hn18))
    have hn20 : AA 6 #[true, false, false, false, false, true, false, false] ⟨17, [(3, .immp [.int .i64 a_0, .ints .i64 a_1]), (4, .immp [.int .i64 b_0, .ints .i64 b_1]), (5, .immp [.func 170 [.abs pl0 0 0, .abs pl1 0 0]]), (7, .ptr 8 0 0), (10, .agg [.int .i64 a_0, .ints .i64 a_1])], [some (.gen 35 1 [[.own 2 q0.length]]), some (.gen 4 1 [[.bool q1]]), some (.ints 3 .i64 q0), some (.pin 0 pl0), some (.pin 1 pl1), none, none, none, some (.gen 35 1 [[.nil]])]⟩ := (hAA _ _ _).2 (by
      refine AWPB_three 1 2 4 _ _ _ (by kernel_rfl) rfl rfl rfl ?_ ?_ ?_
      · skip
        refine AWPL_callK [3, 4, 5, 6, 7, 11, 12, 13] (W_same_ranks hy) rfl rfl pcT rfl Try.call103 (.cons (.agg _ _ rfl (ArgsOk.get (.cons (.atom _ rfl) (.cons (.atom _ rfl) .nil))).2) .nil) (hscG trivial) (of_decide_eq_true rfl) (by first | rfl | simp [nI, nI1, nI0]) (by first | rfl | simp [nIB, nI0]) fun st' hr => ?_
        simp only [go_sem, reduceIte, reduceCtorEq, Nat.reduceEqDiff, Nat.reduceLT, Nat.reduceLeDiff, Nat.reduceBEq, Nat.reduceAdd, Int.reduceLE, Int.reduceLT] at hr
        subst hr
        refine AWPL_nil ?_
        refine QB_normal ?_
        exact AWPB_wk [0, 1, 2, 3, 4, 5, 6, 7, 9, 8] mkWk ((hAA _ _ _).1 hn12)
      · skip
        refine AWPL_rn tab_ok 1 [3, 4, 5, 6, 7, 10, 11, 12, 13] fun c st' hr => ?_
        simp only [go_sem, reduceIte, reduceCtorEq, Nat.reduceEqDiff, Nat.reduceLT, Nat.reduceLeDiff, Nat.reduceBEq, Nat.reduceAdd, Int.reduceLE, Int.reduceLT] at hr
        obtain ⟨rfl, rfl⟩ := hr
        refine ⟨vc, ?_⟩
        refine AWPL_nil ?_
        refine QB_normal ?_
        exact AWPB_wk [0, 1, 2, 3, 4, 5, 6, 7, 8] mkWk ((hAA _ _ _).1 hn16)
      · skip
        refine AWPL_rn tab_ok 1 [3, 4, 5, 6, 7, 10, 11, 12, 13] fun c st' hr => ?_
        simp only [go_sem, reduceIte, reduceCtorEq, Nat.reduceEqDiff, Nat.reduceLT, Nat.reduceLeDiff, Nat.reduceBEq, Nat.reduceAdd, Int.reduceLE, Int.reduceLT] at hr
        obtain ⟨rfl, rfl⟩ := hr
        refine ⟨vc, ?_⟩
        refine AWPL_nil ?_
        refine QB_normal ?_
        exact AWPB_wk [0, 1, 2, 3, 4, 5, 6, 7, 9, 8] mkWk ((hAA _ _ _).1 hn18))
    have hn21 : AA 7 #[true, false, false, false, false, false, false, false] ⟨17, [(3, .immp [.int .i64 a_0, .ints .i64 a_1]), (4, .immp [.int .i64 b_0, .ints .i64 b_1]), (5, .immp [.func 170 [.abs pl0 0 0, .abs pl1 0 0]]), (10, .agg [.int .i64 a_0, .ints .i64 a_1])], [some (.gen 35 1 [[.own 2 q0.length]]), some (.gen 4 1 [[.bool q1]]), some (.ints 3 .i64 q0), some (.pin 0 pl0), some (.pin 1 pl1), none, none, none]⟩ := (hAA _ _ _).2 (by
      refine AWPB_four 1 2 4 5 _ _ _ _ (by kernel_rfl) rfl rfl rfl rfl ?_ ?_ ?_ ?_
      · skip
        refine AWPL_callK [3, 4, 5, 6, 7, 11, 12, 13] (W_same_ranks hy) rfl rfl pcT rfl Try.call103 (.cons (.agg _ _ rfl (ArgsOk.get (.cons (.atom _ rfl) (.cons (.atom _ rfl) .nil))).2) .nil) (hscG trivial) (of_decide_eq_true rfl) (by first | rfl | simp [nI, nI1, nI0]) (by first | rfl | simp [nIB, nI0]) fun st' hr => ?_
        simp only [go_sem, reduceIte, reduceCtorEq, Nat.reduceEqDiff, Nat.reduceLT, Nat.reduceLeDiff, Nat.reduceBEq, Nat.reduceAdd, Int.reduceLE, Int.reduceLT] at hr
        subst hr
        refine AWPL_nil ?_
        refine QB_normal ?_
        exact AWPB_wk [0, 1, 2, 3, 4, 5, 6, 7, 8] mkWk ((hAA _ _ _).1 hn13)
      · skip
        refine AWPL_rn tab_ok 1 [3, 4, 5, 6, 7, 10, 11, 12, 13] fun c st' hr => ?_
        simp only [go_sem, reduceIte, reduceCtorEq, Nat.reduceEqDiff, Nat.reduceLT, Nat.reduceLeDiff, Nat.reduceBEq, Nat.reduceAdd, Int.reduceLE, Int.reduceLT] at hr
        obtain ⟨rfl, rfl⟩ := hr
        refine ⟨vc, ?_⟩
        refine AWPL_nil ?_
        refine QB_normal ?_
        exact AWPB_wk [0, 1, 2, 3, 4, 5, 6, 7] mkWk ((hAA _ _ _).1 hn17)
      · skip
        refine AWPL_rn tab_ok 1 [3, 4, 5, 6, 7, 10, 11, 12, 13] fun c st' hr => ?_
        simp only [go_sem, reduceIte, reduceCtorEq, Nat.reduceEqDiff, Nat.reduceLT, Nat.reduceLeDiff, Nat.reduceBEq, Nat.reduceAdd, Int.reduceLE, Int.reduceLT] at hr
        obtain ⟨rfl, rfl⟩ := hr
        refine ⟨vc, ?_⟩
        refine AWPL_nil ?_
        refine QB_normal ?_
        exact AWPB_wk [0, 1, 2, 3, 4, 5, 6, 7, 8] mkWk ((hAA _ _ _).1 hn19)
      · skip
        refine AWPL_rn tab_ok 1 [3, 4, 5, 6, 7, 10, 11, 12, 13] fun c st' hr => ?_
        simp only [go_sem, reduceIte, reduceCtorEq, Nat.reduceEqDiff, Nat.reduceLT, Nat.reduceLeDiff, Nat.reduceBEq, Nat.reduceAdd, Int.reduceLE, Int.reduceLT] at hr
        obtain ⟨rfl, rfl⟩ := hr
        refine ⟨vc, ?_⟩
        refine AWPL_nil ?_
        refine QB_normal ?_
        exact AWPB_wk [0, 1, 2, 3, 4, 5, 6, 7, 8] mkWk ((hAA _ _ _).1 hn20))
    have hn22 : AA 5 #[false, false, true, false, true, true, false, false] ⟨17, [(3, .immp [.int .i64 a_0, .ints .i64 a_1]), (4, .immp [.int .i64 b_0, .ints .i64 b_1]), (5, .immp [.func 170 [.abs pl0 0 0, .abs pl1 0 0]]), (6, .ptr 8 0 0), (7, .ptr 9 0 0), (12, .agg [.int .i64 b_0, .ints .i64 b_1])], [some (.gen 35 1 [[.own 2 q0.length]]), some (.gen 4 1 [[.bool q1]]), some (.ints 3 .i64 q0), some (.pin 0 pl0), some (.pin 1 pl1), none, none, none, some (.gen 35 1 [[.nil]]), some (.gen 35 1 [[.nil]])]⟩ := (hAA _ _ _).2 (by
      refine AWPB_one 0 _ (by kernel_rfl) rfl ?_
      refine AWPL_rn tab_ok 1 [3, 4, 5, 6, 7, 10, 11, 12, 13] fun c st' hr => ?_
      simp only [go_sem, reduceIte, reduceCtorEq, Nat.reduceEqDiff, Nat.reduceLT, Nat.reduceLeDiff, Nat.reduceBEq, Nat.reduceAdd, Int.reduceLE, Int.reduceLT] at hr
      obtain ⟨rfl, rfl⟩ := hr
      refine ⟨vc, ?_⟩
      refine AWPL_nil ?_
      refine QB_normal ?_
      exact AWPB_wk [0, 1, 2, 3, 4, 5, 6, 7, 8, 9] mkWk ((hAA _ _ _).1 hn14))
    have hn23 : AA 6 #[false, false, true, false, true, false, false, false] ⟨17, [(3, .immp [.int .i64 a_0, .ints .i64 a_1]), (4, .immp [.int .i64 b_0, .ints .i64 b_1]), (5, .immp [.func 170 [.abs pl0 0 0, .abs pl1 0 0]]), (6, .ptr 8 0 0), (12, .agg [.int .i64 b_0, .ints .i64 b_1])], [some (.gen 35 1 [[.own 2 q0.length]]), some (.gen 4 1 [[.bool q1]]), some (.ints 3 .i64 q0), some (.pin 0 pl0), some (.pin 1 pl1), none, none, none, some (.gen 35 1 [[.nil]])]⟩ := (hAA _ _ _).2 (by
      refine AWPB_two 0 5 _ _ (by kernel_rfl) rfl rfl ?_ ?_
      · skip
        refine AWPL_rn tab_ok 1 [3, 4, 5, 6, 7, 10, 11, 12, 13] fun c st' hr => ?_
        simp only [go_sem, reduceIte, reduceCtorEq, Nat.reduceEqDiff, Nat.reduceLT, Nat.reduceLeDiff, Nat.reduceBEq, Nat.reduceAdd, Int.reduceLE, Int.reduceLT] at hr
        obtain ⟨rfl, rfl⟩ := hr
        refine ⟨vc, ?_⟩
        refine AWPL_nil ?_
        refine QB_normal ?_
        exact AWPB_wk [0, 1, 2, 3, 4, 5, 6, 7, 8] mkWk ((hAA _ _ _).1 hn15)
      · skip
        refine AWPL_rn tab_ok 1 [3, 4, 5, 6, 7, 10, 11, 12, 13] fun c st' hr => ?_
        simp only [go_sem, reduceIte, reduceCtorEq, Nat.reduceEqDiff, Nat.reduceLT, Nat.reduceLeDiff, Nat.reduceBEq, Nat.reduceAdd, Int.reduceLE, Int.reduceLT] at hr
        obtain ⟨rfl, rfl⟩ := hr
        refine ⟨vc, ?_⟩
        refine AWPL_nil ?_
        refine QB_normal ?_
        exact AWPB_wk [0, 1, 2, 3, 4, 5, 6, 7, 8, 9] mkWk ((hAA _ _ _).1 hn22))
    have hn24 : AA 6 #[false, false, true, false, false, true, false, false] ⟨17, [(3, .immp [.int .i64 a_0, .ints .i64 a_1]), (4, .immp [.int .i64 b_0, .ints .i64 b_1]), (5, .immp [.func 170 [.abs pl0 0 0, .abs pl1 0 0]]), (7, .ptr 8 0 0), (12, .agg [.int .i64 b_0, .ints .i64 b_1])], [some (.gen 35 1 [[.own 2 q0.length]]), some (.gen 4 1 [[.bool q1]]), some (.ints 3 .i64 q0), some (.pin 0 pl0), some (.pin 1 pl1), none, none, none, some (.gen 35 1 [[.nil]])]⟩ := (hAA _ _ _).2 (by
      refine AWPB_two 0 4 _ _ (by kernel_rfl) rfl rfl ?_ ?_
      · skip
        refine AWPL_rn tab_ok 1 [3, 4, 5, 6, 7, 10, 11, 12, 13] fun c st' hr => ?_
        simp only [go_sem, reduceIte, reduceCtorEq, Nat.reduceEqDiff, Nat.reduceLT, Nat.reduceLeDiff, Nat.reduceBEq, Nat.reduceAdd, Int.reduceLE, Int.reduceLT] at hr
        obtain ⟨rfl, rfl⟩ := hr
        refine ⟨vc, ?_⟩
        refine AWPL_nil ?_
        refine QB_normal ?_
        exact AWPB_wk [0, 1, 2, 3, 4, 5, 6, 7, 8] mkWk ((hAA _ _ _).1 hn16)
      · skip
        refine AWPL_rn tab_ok 1 [3, 4, 5, 6, 7, 10, 11, 12, 13] fun c st' hr => ?_
        simp only [go_sem, reduceIte, reduceCtorEq, Nat.reduceEqDiff, Nat.reduceLT, Nat.reduceLeDiff, Nat.reduceBEq, Nat.reduceAdd, Int.reduceLE, Int.reduceLT] at hr
        obtain ⟨rfl, rfl⟩ := hr
        refine ⟨vc, ?_⟩
        refine AWPL_nil ?_
        refine QB_normal ?_
        exact AWPB_wk [0, 1, 2, 3, 4, 5, 6, 7, 9, 8] mkWk ((hAA _ _ _).1 hn22))
    have hn25 : AA 7 #[false, false, true, false, false, false, false, false] ⟨17, [(3, .immp [.int .i64 a_0, .ints .i64 a_1]), (4, .immp [.int .i64 b_0, .ints .i64 b_1]), (5, .immp [.func 170 [.abs pl0 0 0, .abs pl1 0 0]]), (12, .agg [.int .i64 b_0, .ints .i64 b_1])], [some (.gen 35 1 [[.own 2 q0.length]]), some (.gen 4 1 [[.bool q1]]), some (.ints 3 .i64 q0), some (.pin 0 pl0), some (.pin 1 pl1), none, none, none]⟩ := (hAA _ _ _).2 (by
      refine AWPB_three 0 4 5 _ _ _ (by kernel_rfl) rfl rfl rfl ?_ ?_ ?_
      · skip
        refine AWPL_rn tab_ok 1 [3, 4, 5, 6, 7, 10, 11, 12, 13] fun c st' hr => ?_
        simp only [go_sem, reduceIte, reduceCtorEq, Nat.reduceEqDiff, Nat.reduceLT, Nat.reduceLeDiff, Nat.reduceBEq, Nat.reduceAdd, Int.reduceLE, Int.reduceLT] at hr
        obtain ⟨rfl, rfl⟩ := hr
        refine ⟨vc, ?_⟩
        refine AWPL_nil ?_
        refine QB_normal ?_
        exact AWPB_wk [0, 1, 2, 3, 4, 5, 6, 7] mkWk ((hAA _ _ _).1 hn17)
      · skip
        refine AWPL_rn tab_ok 1 [3, 4, 5, 6, 7, 10, 11, 12, 13] fun c st' hr => ?_
        simp only [go_sem, reduceIte, reduceCtorEq, Nat.reduceEqDiff, Nat.reduceLT, Nat.reduceLeDiff, Nat.reduceBEq, Nat.reduceAdd, Int.reduceLE, Int.reduceLT] at hr
        obtain ⟨rfl, rfl⟩ := hr
        refine ⟨vc, ?_⟩
        refine AWPL_nil ?_
        refine QB_normal ?_
        exact AWPB_wk [0, 1, 2, 3, 4, 5, 6, 7, 8] mkWk ((hAA _ _ _).1 hn23)
      · skip
        refine AWPL_rn tab_ok 1 [3, 4, 5, 6, 7, 10, 11, 12, 13] fun c st' hr => ?_
        simp only [go_sem, reduceIte, reduceCtorEq, Nat.reduceEqDiff, Nat.reduceLT, Nat.reduceLeDiff, Nat.reduceBEq, Nat.reduceAdd, Int.reduceLE, Int.reduceLT] at hr
        obtain ⟨rfl, rfl⟩ := hr
        refine ⟨vc, ?_⟩
        refine AWPL_nil ?_
        refine QB_normal ?_
        exact AWPB_wk [0, 1, 2, 3, 4, 5, 6, 7, 8] mkWk ((hAA _ _ _).1 hn24))
    have hn26 : AA 6 #[false, false, false, false, true, true, false, false] ⟨17, [(3, .immp [.int .i64 a_0, .ints .i64 a_1]), (4, .immp [.int .i64 b_0, .ints .i64 b_1]), (5, .immp [.func 170 [.abs pl0 0 0, .abs pl1 0 0]]), (6, .ptr 8 0 0), (7, .ptr 9 0 0)], [some (.gen 35 1 [[.own 2 q0.length]]), some (.gen 4 1 [[.bool q1]]), some (.ints 3 .i64 q0), some (.pin 0 pl0), some (.pin 1 pl1), none, none, none, some (.gen 35 1 [[.nil]]), some (.gen 35 1 [[.nil]])]⟩ := (hAA _ _ _).2 (by
      refine AWPB_two 0 2 _ _ (by kernel_rfl) rfl rfl ?_ ?_
      · skip
        refine AWPL_rn tab_ok 1 [3, 4, 5, 6, 7, 10, 11, 12, 13] fun c st' hr => ?_
        simp only [go_sem, reduceIte, reduceCtorEq, Nat.reduceEqDiff, Nat.reduceLT, Nat.reduceLeDiff, Nat.reduceBEq, Nat.reduceAdd, Int.reduceLE, Int.reduceLT] at hr
        obtain ⟨rfl, rfl⟩ := hr
        refine ⟨vc, ?_⟩
        refine AWPL_nil ?_
        refine QB_normal ?_
        exact AWPB_wk [0, 1, 2, 3, 4, 5, 6, 7, 8, 9] mkWk ((hAA _ _ _).1 hn18)
      · skip
        refine AWPL_rn tab_ok 1 [3, 4, 5, 6, 7, 10, 11, 12, 13] fun c st' hr => ?_
        simp only [go_sem, reduceIte, reduceCtorEq, Nat.reduceEqDiff, Nat.reduceLT, Nat.reduceLeDiff, Nat.reduceBEq, Nat.reduceAdd, Int.reduceLE, Int.reduceLT] at hr
        obtain ⟨rfl, rfl⟩ := hr
        refine ⟨vc, ?_⟩
        refine AWPL_nil ?_
        refine QB_normal ?_
        exact AWPB_wk [0, 1, 2, 3, 4, 5, 6, 7, 8, 9] mkWk ((hAA _ _ _).1 hn22))
    have hn27 : AA 7 #[false, false, false, false, true, false, false, false] ⟨17, [(3, .immp [.int .i64 a_0, .ints .i64 a_1]), (4, .immp [.int .i64 b_0, .ints .i64 b_1]), (5, .immp [.func 170 [.abs pl0 0 0, .abs pl1 0 0]]), (6, .ptr 8 0 0)], [some (.gen 35 1 [[.own 2 q0.length]]), some (.gen 4 1 [[.bool q1]]), some (.ints 3 .i64 q0), some (.pin 0 pl0), some (.pin 1 pl1), none, none, none, some (.gen 35 1 [[.nil]])]⟩ := (hAA _ _ _).2 (by
      refine AWPB_three 0 2 5 _ _ _ (by kernel_rfl) rfl rfl rfl ?_ ?_ ?_
      · skip
        refine AWPL_rn tab_ok 1 [3, 4, 5, 6, 7, 10, 11, 12, 13] fun c st' hr => ?_
        simp only [go_sem, reduceIte, reduceCtorEq, Nat.reduceEqDiff, Nat.reduceLT, Nat.reduceLeDiff, Nat.reduceBEq, Nat.reduceAdd, Int.reduceLE, Int.reduceLT] at hr
        obtain ⟨rfl, rfl⟩ := hr
        refine ⟨vc, ?_⟩
        refine AWPL_nil ?_
        refine QB_normal ?_
        exact AWPB_wk [0, 1, 2, 3, 4, 5, 6, 7, 8] mkWk ((hAA _ _ _).1 hn19)
      · skip
        refine AWPL_rn tab_ok 1 [3, 4, 5, 6, 7, 10, 11, 12, 13] fun c st' hr => ?_
        simp only [go_sem, reduceIte, reduceCtorEq, Nat.reduceEqDiff, Nat.reduceLT, Nat.reduceLeDiff, Nat.reduceBEq, Nat.reduceAdd, Int.reduceLE, Int.reduceLT] at hr
        obtain ⟨rfl, rfl⟩ := hr
        refine ⟨vc, ?_⟩
        refine AWPL_nil ?_
        refine QB_normal ?_
        exact AWPB_wk [0, 1, 2, 3, 4, 5, 6, 7, 8] mkWk ((hAA _ _ _).1 hn23)
      · skip
        refine AWPL_rn tab_ok 1 [3, 4, 5, 6, 7, 10, 11, 12, 13] fun c st' hr => ?_
        simp only [go_sem, reduceIte, reduceCtorEq, Nat.reduceEqDiff, Nat.reduceLT, Nat.reduceLeDiff, Nat.reduceBEq, Nat.reduceAdd, Int.reduceLE, Int.reduceLT] at hr
        obtain ⟨rfl, rfl⟩ := hr
        refine ⟨vc, ?_⟩
        refine AWPL_nil ?_
        refine QB_normal ?_
        exact AWPB_wk [0, 1, 2, 3, 4, 5, 6, 7, 8, 9] mkWk ((hAA _ _ _).1 hn26))
    have hn28 : AA 7 #[false, false, false, false, false, true, false, false] ⟨17, [(3, .immp [.int .i64 a_0, .ints .i64 a_1]), (4, .immp [.int .i64 b_0, .ints .i64 b_1]), (5, .immp [.func 170 [.abs pl0 0 0, .abs pl1 0 0]]), (7, .ptr 8 0 0)], [some (.gen 35 1 [[.own 2 q0.length]]), some (.gen 4 1 [[.bool q1]]), some (.ints 3 .i64 q0), some (.pin 0 pl0), some (.pin 1 pl1), none, none, none, some (.gen 35 1 [[.nil]])]⟩ := (hAA _ _ _).2 (by
      refine AWPB_three 0 2 4 _ _ _ (by kernel_rfl) rfl rfl rfl ?_ ?_ ?_
      · skip
        refine AWPL_rn tab_ok 1 [3, 4, 5, 6, 7, 10, 11, 12, 13] fun c st' hr => ?_
        simp only [go_sem, reduceIte, reduceCtorEq, Nat.reduceEqDiff, Nat.reduceLT, Nat.reduceLeDiff, Nat.reduceBEq, Nat.reduceAdd, Int.reduceLE, Int.reduceLT] at hr
        obtain ⟨rfl, rfl⟩ := hr
        refine ⟨vc, ?_⟩
        refine AWPL_nil ?_
        refine QB_normal ?_
        exact AWPB_wk [0, 1, 2, 3, 4, 5, 6, 7, 8] mkWk ((hAA _ _ _).1 hn20)
      · skip
        refine AWPL_rn tab_ok 1 [3, 4, 5, 6, 7, 10, 11, 12, 13] fun c st' hr => ?_
        simp only [go_sem, reduceIte, reduceCtorEq, Nat.reduceEqDiff, Nat.reduceLT, Nat.reduceLeDiff, Nat.reduceBEq, Nat.reduceAdd, Int.reduceLE, Int.reduceLT] at hr
        obtain ⟨rfl, rfl⟩ := hr
        refine ⟨vc, ?_⟩
        refine AWPL_nil ?_
        refine QB_normal ?_
        exact AWPB_wk [0, 1, 2, 3, 4, 5, 6, 7, 8] mkWk ((hAA _ _ _).1 hn24)
      · skip
        refine AWPL_rn tab_ok 1 [3, 4, 5, 6, 7, 10, 11, 12, 13] fun c st' hr => ?_
        simp only [go_sem, reduceIte, reduceCtorEq, Nat.reduceEqDiff, Nat.reduceLT, Nat.reduceLeDiff, Nat.reduceBEq, Nat.reduceAdd, Int.reduceLE, Int.reduceLT] at hr
        obtain ⟨rfl, rfl⟩ := hr
        refine ⟨vc, ?_⟩
        refine AWPL_nil ?_
        refine QB_normal ?_
        exact AWPB_wk [0, 1, 2, 3, 4, 5, 6, 7, 9, 8] mkWk ((hAA _ _ _).1 hn26))
    have hn29 : AA 8 #[false, false, false, false, false, false, false, false] ⟨17, [(3, .immp [.int .i64 a_0, .ints .i64 a_1]), (4, .immp [.int .i64 b_0, .ints .i64 b_1]), (5, .immp [.func 170 [.abs pl0 0 0, .abs pl1 0 0]])], [some (.gen 35 1 [[.own 2 q0.length]]), some (.gen 4 1 [[.bool q1]]), some (.ints 3 .i64 q0), some (.pin 0 pl0), some (.pin 1 pl1), none, none, none]⟩ := (hAA _ _ _).2 (by
      refine AWPB_four 0 2 4 5 _ _ _ _ (by kernel_rfl) rfl rfl rfl rfl ?_ ?_ ?_ ?_
      · skip
        refine AWPL_rn tab_ok 1 [3, 4, 5, 6, 7, 10, 11, 12, 13] fun c st' hr => ?_
        simp only [go_sem, reduceIte, reduceCtorEq, Nat.reduceEqDiff, Nat.reduceLT, Nat.reduceLeDiff, Nat.reduceBEq, Nat.reduceAdd, Int.reduceLE, Int.reduceLT] at hr
        obtain ⟨rfl, rfl⟩ := hr
        refine ⟨vc, ?_⟩
        refine AWPL_nil ?_
        refine QB_normal ?_
        exact AWPB_wk [0, 1, 2, 3, 4, 5, 6, 7] mkWk ((hAA _ _ _).1 hn21)
      · skip
        refine AWPL_rn tab_ok 1 [3, 4, 5, 6, 7, 10, 11, 12, 13] fun c st' hr => ?_
        simp only [go_sem, reduceIte, reduceCtorEq, Nat.reduceEqDiff, Nat.reduceLT, Nat.reduceLeDiff, Nat.reduceBEq, Nat.reduceAdd, Int.reduceLE, Int.reduceLT] at hr
        obtain ⟨rfl, rfl⟩ := hr
        refine ⟨vc, ?_⟩
        refine AWPL_nil ?_
        refine QB_normal ?_
        exact AWPB_wk [0, 1, 2, 3, 4, 5, 6, 7] mkWk ((hAA _ _ _).1 hn25)
      · skip
        refine AWPL_rn tab_ok 1 [3, 4, 5, 6, 7, 10, 11, 12, 13] fun c st' hr => ?_
        simp only [go_sem, reduceIte, reduceCtorEq, Nat.reduceEqDiff, Nat.reduceLT, Nat.reduceLeDiff, Nat.reduceBEq, Nat.reduceAdd, Int.reduceLE, Int.reduceLT] at hr
        obtain ⟨rfl, rfl⟩ := hr
        refine ⟨vc, ?_⟩
        refine AWPL_nil ?_
        refine QB_normal ?_
        exact AWPB_wk [0, 1, 2, 3, 4, 5, 6, 7, 8] mkWk ((hAA _ _ _).1 hn27)
      · skip
        refine AWPL_rn tab_ok 1 [3, 4, 5, 6, 7, 10, 11, 12, 13] fun c st' hr => ?_
        simp only [go_sem, reduceIte, reduceCtorEq, Nat.reduceEqDiff, Nat.reduceLT, Nat.reduceLeDiff, Nat.reduceBEq, Nat.reduceAdd, Int.reduceLE, Int.reduceLT] at hr
        obtain ⟨rfl, rfl⟩ := hr
        refine ⟨vc, ?_⟩
        refine AWPL_nil ?_
        refine QB_normal ?_
        exact AWPB_wk [0, 1, 2, 3, 4, 5, 6, 7, 8] mkWk ((hAA _ _ _).1 hn28))
    exact (hAA _ _ _).2 (AWPB_wk [0, 1, 2, 3, 4, 5, 6, 7] mkWk ((hAA _ _ _).1 hn29))
  with_reducible refine thenC_normal ?_
  refine AWP_seq ?_
  refine AWP_freezeC 10 8 y rfl rfl (by simp) (by simp) fun st' hr => ?_
  simp only [go_sem, reduceIte, reduceCtorEq, Nat.reduceEqDiff, Nat.reduceLT, Nat.reduceLeDiff, Nat.reduceBEq, Nat.reduceAdd, Int.reduceLE, Int.reduceLT, List.set_cons_zero, List.set_cons_succ] at hr
  subst hr
  refine AWP_freezeC 11 9 y1 rfl rfl (by simp) (by simp) fun st' hr => ?_
  simp only [go_sem, reduceIte, reduceCtorEq, Nat.reduceEqDiff, Nat.reduceLT, Nat.reduceLeDiff, Nat.reduceBEq, Nat.reduceAdd, Int.reduceLE, Int.reduceLT, List.set_cons_zero, List.set_cons_succ] at hr
  subst hr
  refine AWP_rg tab_ok [3, 4, 5, 6, 7, 8] fun c st' hr => ?_
  simp only [go_sem, reduceIte, reduceCtorEq, Nat.reduceEqDiff, Nat.reduceLT, Nat.reduceLeDiff, Nat.reduceBEq, Nat.reduceAdd, Int.reduceLE, Int.reduceLT] at hr
  obtain ⟨rfl, rfl⟩ := hr
  refine ⟨vc, ?_⟩
  with_reducible refine thenC_normal ?_
  refine AWP_ownH 12 0 (.ints 3 .i64 []) rfl rfl rfl fun st' hr => ?_
  simp only [go_sem, reduceIte, reduceCtorEq, Nat.reduceEqDiff, Nat.reduceLT, Nat.reduceLeDiff, Nat.reduceBEq, Nat.reduceAdd, Int.reduceLE, Int.reduceLT] at hr
  subst hr
  refine AWP_seq ?_
  refine AWP_freeze 6 10 (y := .immp [.ints .i64 y]) rfl (.one (.ptrM _ _ _ _ _ _ _ rfl rfl rfl (ArgsOk.get (.cons (.atom _ rfl) .nil)).2)) fun st' hr => ?_
  simp only [go_sem, reduceIte, reduceCtorEq, Nat.reduceEqDiff, Nat.reduceLT, Nat.reduceLeDiff, Nat.reduceBEq, Nat.reduceAdd, Int.reduceLE, Int.reduceLT, List.set_cons_zero, List.set_cons_succ] at hr
  subst hr
  refine AWP_freeze 7 11 (y := .immp [.ints .i64 y1]) rfl (.one (.ptrM _ _ _ _ _ _ _ rfl rfl rfl (ArgsOk.get (.cons (.atom _ rfl) .nil)).2)) fun st' hr => ?_
  simp only [go_sem, reduceIte, reduceCtorEq, Nat.reduceEqDiff, Nat.reduceLT, Nat.reduceLeDiff, Nat.reduceBEq, Nat.reduceAdd, Int.reduceLE, Int.reduceLT, List.set_cons_zero, List.set_cons_succ] at hr
  subst hr
  refine AWP_rg tab_ok [3, 4, 5, 6, 7, 8, 9] fun c st' hr => ?_
  simp only [go_sem, reduceIte, reduceCtorEq, Nat.reduceEqDiff, Nat.reduceLT, Nat.reduceLeDiff, Nat.reduceBEq, Nat.reduceAdd, Int.reduceLE, Int.reduceLT] at hr
  obtain ⟨rfl, rfl⟩ := hr
  refine ⟨vc, ?_⟩
  with_reducible refine thenC_normal ?_
  refine AWP_seq ?_
  refine AWP_rg tab_ok [9] fun c st' hr => ?_
  simp only [go_sem, reduceIte, reduceCtorEq, Nat.reduceEqDiff, Nat.reduceLT, Nat.reduceLeDiff, Nat.reduceBEq, Nat.reduceAdd, Int.reduceLE, Int.reduceLT] at hr
  obtain ⟨rfl, rfl⟩ := hr
  refine ⟨vc, ?_⟩
  with_reducible refine thenC_normal ?_
  refine AWP_pin 12 rfl fun pl st' hr => ?_
  simp only [go_sem, reduceIte, reduceCtorEq, Nat.reduceEqDiff, Nat.reduceLT, Nat.reduceLeDiff, Nat.reduceBEq, Nat.reduceAdd, Int.reduceLE, Int.reduceLT, List.cons_append, List.nil_append] at hr
  subst hr
  refine AWP_freezeP 9 14 (y := .immp [.func 212 [.abs pl 0 0, .immp [.int .i64 a_0, .ints .i64 a_1], .immp [.func 170 [.abs pl0 0 0, .abs pl1 0 0]], .immp [.int .i64 b_0, .ints .i64 b_1], .immp [.ints .i64 y], .immp [.ints .i64 y1], cycA 212 [.abs pl 0 0, .immp [.int .i64 a_0, .ints .i64 a_1], .immp [.func 170 [.abs pl0 0 0, .abs pl1 0 0]], .immp [.int .i64 b_0, .ints .i64 b_1], .immp [.ints .i64 y], .immp [.ints .i64 y1]] 12]]) rfl (FrzP.cyc (src := [.ptr 12 0 0, .immp [.int .i64 a_0, .ints .i64 a_1], .immp [.func 170 [.abs pl0 0 0, .abs pl1 0 0]], .immp [.int .i64 b_0, .ints .i64 b_1], .immp [.ints .i64 y], .immp [.ints .i64 y1]]) rfl (.cons (.abs 15 _ _ _ _ rfl) (.cons (.ok rfl (.atom _ rfl)) (.cons (.ok rfl (.atom _ rfl)) (.cons (.ok rfl (.atom _ rfl)) (.cons (.ok rfl (.atom _ rfl)) (.cons (.ok rfl (.atom _ rfl)) .nil)))))) 13) fun st' hr => ?_
  simp only [go_sem, reduceIte, reduceCtorEq, Nat.reduceEqDiff, Nat.reduceLT, Nat.reduceLeDiff, Nat.reduceBEq, Nat.reduceAdd, Int.reduceLE, Int.reduceLT, List.set_cons_zero, List.set_cons_succ] at hr
  subst hr
  refine AWP_rl ?_
  refine AWPL_rn tab_ok 1 [15] fun c st' hr => ?_
  simp only [go_sem, reduceIte, reduceCtorEq, Nat.reduceEqDiff, Nat.reduceLT, Nat.reduceLeDiff, Nat.reduceBEq, Nat.reduceAdd, Int.reduceLE, Int.reduceLT] at hr
  obtain ⟨rfl, rfl⟩ := hr
  refine ⟨vc, ?_⟩
  replace hK := bind_s hK
  obtain ⟨y2, hy, hK⟩ := hK
  refine AWPL_gK [] [12, 0, 1, 13, 2] [pl, pl0, pl1] [some (.gen 35 1 [[.own 17 ((y2.2.2.1).length)]]), some (.gen 4 1 [[.bool y2.2.2.2]]), none, some (.pin 0 pl0), some (.pin 1 pl1), none, none, none, none, none, none, none, some (.gen 35 1 [[.own 16 ((y2.2.1).length)]]), none, none, some (.pin 12 pl), some (.ints 3 .i64 y2.2.1), some (.ints 3 .i64 y2.2.2.1)] (W_same_each_1 hy) rfl rfl pcT rfl Try.call212 (of_decide_eq_true rfl) ⟨(by first | rfl | simp [renB, ren0, renI]), (by first | rfl | simp [renB, ren0, renI]), (by first | rfl | simp [renB, ren0, renI]), (by first | rfl | simp [renB, ren0, renI]), (by first | rfl | simp [renB, ren0, renI]), trivial⟩ ⟨⟨15, rfl⟩, ⟨3, rfl⟩, ⟨4, rfl⟩, trivial⟩ rfl (.cons (.atom _ rfl) (.abs 0 15 rfl rfl (.cons (.atom _ rfl) (.cons (.atom _ rfl) (.cons (.atom _ rfl) (.cons (.atom _ rfl) (.cons (.atom _ rfl) (.cons (ArgOk.cycRefl _ _ _) .nil)))))))) (hscG trivial) (of_decide_eq_true rfl) rfl rfl (of_decide_eq_true rfl) rfl fun st' hr => ?_
  simp only [go_sem, reduceIte, reduceCtorEq, Nat.reduceEqDiff, Nat.reduceLT, Nat.reduceLeDiff, Nat.reduceBEq, Nat.reduceAdd, Int.reduceLE, Int.reduceLT] at hr
  subst hr
  clear hy
  refine AWPL_nil ?_
  cases hK
  refine EndsRW [0, 1, 17, 3, 4] (.inr rfl) (of_decide_eq_true rfl) (by simp) rfl (fun c x hr => ?_) endH
  simp only [go_sem, reduceIte, reduceCtorEq, Nat.reduceEqDiff, Nat.reduceLT, Nat.reduceLeDiff, Nat.reduceBEq, Nat.reduceAdd, Int.reduceLE, Int.reduceLT] at hr
  obtain ⟨rfl, rfl⟩ := hr
  exact ⟨rfl, endR⟩

set_option maxRecDepth 8000 in
set_option maxHeartbeats 4000000 in
theorem W_same_Isomorphic {a_0 : Int} {a_1 : List Int} {b_0 : Int} {b_1 : List Int} {r : List Int × Int} (hK : same_Isomorphic a_0 a_1 b_0 b_1 = some r) : Pure Try.prog 106 [.agg [.int .i64 a_0, .ints .i64 a_1], .agg [.int .i64 b_0, .ints .i64 b_1]] (.tup [.own 0 r.1.length, .int .i64 r.2]) [(.ints 3 .i64 r.1)] := by
  refine Pure_introF tab_ok (n := 43) (l := [.tmp 4, .tmp 5]) Try.func106 rfl rfl rfl (by simp) fun hfact w0 => ?_
  simp only [factL1, fact1, fact0, factL0, lo, hi, maxLen, and_true] at hfact
  unfold same_Isomorphic at hK
  refine AWP_seq ?_
  refine AWP_rg tab_ok [2, 3] fun c st' hr => ?_
  simp only [go_sem, reduceIte, reduceCtorEq, Nat.reduceEqDiff, Nat.reduceLT, Nat.reduceLeDiff, Nat.reduceBEq, Nat.reduceAdd, Int.reduceLE, Int.reduceLT] at hr
  obtain ⟨rfl, rfl⟩ := hr
  refine ⟨vc, ?_⟩
  with_reducible refine thenC_normal ?_
  refine AWP_seq ?_
  refine AWP_freeze 2 0 (y := .immp [.int .i64 a_0, .ints .i64 a_1]) rfl (.one (.ptrM _ _ _ _ _ _ _ rfl rfl rfl (ArgsOk.get (.cons (.atom _ rfl) (.cons (.atom _ rfl) .nil))).2)) fun st' hr => ?_
  simp only [go_sem, reduceIte, reduceCtorEq, Nat.reduceEqDiff, Nat.reduceLT, Nat.reduceLeDiff, Nat.reduceBEq, Nat.reduceAdd, Int.reduceLE, Int.reduceLT, List.set_cons_zero, List.set_cons_succ] at hr
  subst hr
  refine AWP_freeze 3 1 (y := .immp [.int .i64 b_0, .ints .i64 b_1]) rfl (.one (.ptrM _ _ _ _ _ _ _ rfl rfl rfl (ArgsOk.get (.cons (.atom _ rfl) (.cons (.atom _ rfl) .nil))).2)) fun st' hr => ?_
  simp only [go_sem, reduceIte, reduceCtorEq, Nat.reduceEqDiff, Nat.reduceLT, Nat.reduceLeDiff, Nat.reduceBEq, Nat.reduceAdd, Int.reduceLE, Int.reduceLT, List.set_cons_zero, List.set_cons_succ] at hr
  subst hr
  refine AWP_drawQ mixed (by kernel_rfl) ?_
  refine AWQL_rn tab_ok 1 [2, 3, 10] fun c st' hr => ?_
  simp only [go_sem, reduceIte, reduceCtorEq, Nat.reduceEqDiff, Nat.reduceLT, Nat.reduceLeDiff, Nat.reduceBEq, Nat.reduceAdd, Int.reduceLE, Int.reduceLT] at hr
  obtain ⟨rfl, rfl⟩ := hr
  refine ⟨vc, ?_⟩
  replace hK := bind_s hK
  obtain ⟨y, hy, hK⟩ := hK
  refine AWQL_callK [2, 3, 11] (W_axioms_Check hy) rfl rfl pcT rfl Try.call95 (.cons (.agg _ _ rfl (ArgsOk.get (.cons (.atom _ rfl) (.cons (.atom _ rfl) .nil))).2) .nil) (hscG trivial) (of_decide_eq_true rfl) rfl fun st' hr => ?_
  simp only [go_sem, reduceIte, reduceCtorEq, Nat.reduceEqDiff, Nat.reduceLT, Nat.reduceLeDiff, Nat.reduceBEq, Nat.reduceAdd, Int.reduceLE, Int.reduceLT] at hr
  subst hr
  clear hy
  refine AWQL_rn tab_ok 1 [2, 3, 11, 12] fun c st' hr => ?_
  simp only [go_sem, reduceIte, reduceCtorEq, Nat.reduceEqDiff, Nat.reduceLT, Nat.reduceLeDiff, Nat.reduceBEq, Nat.reduceAdd, Int.reduceLE, Int.reduceLT] at hr
  obtain ⟨rfl, rfl⟩ := hr
  refine ⟨vc, ?_⟩
  replace hK := bind_s hK
  obtain ⟨y1, hy, hK⟩ := hK
  refine AWQL_callK [2, 3, 11, 13] (W_axioms_Check hy) rfl rfl pcT rfl Try.call95 (.cons (.agg _ _ rfl (ArgsOk.get (.cons (.atom _ rfl) (.cons (.atom _ rfl) .nil))).2) .nil) (hscG trivial) (of_decide_eq_true rfl) rfl fun st' hr => ?_
  simp only [go_sem, reduceIte, reduceCtorEq, Nat.reduceEqDiff, Nat.reduceLT, Nat.reduceLeDiff, Nat.reduceBEq, Nat.reduceAdd, Int.reduceLE, Int.reduceLT] at hr
  subst hr
  clear hy
  refine AWQL_rn tab_ok 2 [2, 3, 6, 7] fun c st' hr => ?_
  simp only [go_sem, reduceIte, reduceCtorEq, Nat.reduceEqDiff, Nat.reduceLT, Nat.reduceLeDiff, Nat.reduceBEq, Nat.reduceAdd, Int.reduceLE, Int.reduceLT] at hr
  obtain ⟨rfl, rfl⟩ := hr
  refine ⟨vc, ?_⟩
  refine AWQL_nil ?_
  with_reducible refine thenC_normal ?_
  refine AWP_seq ?_
  refine AWP_block ?_
  refine AWP_seq ?_
  refine AWP_rg tab_ok [2, 3, 6, 7, 14] fun c st' hr => ?_
  simp only [go_sem, reduceIte, reduceCtorEq, Nat.reduceEqDiff, Nat.reduceLT, Nat.reduceLeDiff, Nat.reduceBEq, Nat.reduceAdd, Int.reduceLE, Int.reduceLT] at hr
  obtain ⟨rfl, rfl⟩ := hr
  refine ⟨vc, ?_⟩
  with_reducible refine thenC_normal ?_
  refine AWP_condP (y ≠ 0) rfl bd (fun hb => ?_) (fun hb => ?_)
  · replace hK := ite_t hK hb
    refine AWP_seq ?_
    refine AWP_rg tab_ok [4, 5] fun c st' hr => ?_
    simp only [go_sem, reduceIte, reduceCtorEq, Nat.reduceEqDiff, Nat.reduceLT, Nat.reduceLeDiff, Nat.reduceBEq, Nat.reduceAdd, Int.reduceLE, Int.reduceLT] at hr
    obtain ⟨rfl, rfl⟩ := hr
    refine ⟨vc, ?_⟩
    with_reducible refine thenC_normal ?_
    refine AWP_own 4 (.ints 3 .i64 []) rfl rfl fun st' hr => ?_
    simp only [go_sem, reduceIte, reduceCtorEq, Nat.reduceEqDiff, Nat.reduceLT, Nat.reduceLeDiff, Nat.reduceBEq, Nat.reduceAdd, Int.reduceLE, Int.reduceLT] at hr
    subst hr
    refine AWP_ret ?_
    with_reducible refine inBlockA_ret (thenC_ret ?_)
    cases hK
    refine EndsRW [2] (.inl rfl) (of_decide_eq_true rfl) (by simp) rfl (fun c x hr => ?_) endH
    simp only [go_sem, reduceIte, reduceCtorEq, Nat.reduceEqDiff, Nat.reduceLT, Nat.reduceLeDiff, Nat.reduceBEq, Nat.reduceAdd, Int.reduceLE, Int.reduceLT] at hr
    obtain ⟨rfl, rfl⟩ := hr
    exact ⟨rfl, endR⟩
  · replace hK := ite_f hK hb
    refine AWP_seq ?_
    refine AWP_rg tab_ok [2, 3, 7, 18] fun c st' hr => ?_
    simp only [go_sem, reduceIte, reduceCtorEq, Nat.reduceEqDiff, Nat.reduceLT, Nat.reduceLeDiff, Nat.reduceBEq, Nat.reduceAdd, Int.reduceLE, Int.reduceLT] at hr
    obtain ⟨rfl, rfl⟩ := hr
    refine ⟨vc, ?_⟩
    with_reducible refine thenC_normal ?_
    refine AWP_condP (y1 ≠ 0) rfl bd (fun hb1 => ?_) (fun hb1 => ?_)
    · replace hK := ite_t hK hb1
      refine AWP_seq ?_
      refine AWP_rg tab_ok [4, 5] fun c st' hr => ?_
      simp only [go_sem, reduceIte, reduceCtorEq, Nat.reduceEqDiff, Nat.reduceLT, Nat.reduceLeDiff, Nat.reduceBEq, Nat.reduceAdd, Int.reduceLE, Int.reduceLT] at hr
      obtain ⟨rfl, rfl⟩ := hr
      refine ⟨vc, ?_⟩
      with_reducible refine thenC_normal ?_
      refine AWP_own 4 (.ints 3 .i64 []) rfl rfl fun st' hr => ?_
      simp only [go_sem, reduceIte, reduceCtorEq, Nat.reduceEqDiff, Nat.reduceLT, Nat.reduceLeDiff, Nat.reduceBEq, Nat.reduceAdd, Int.reduceLE, Int.reduceLT] at hr
      subst hr
      refine AWP_ret ?_
      with_reducible refine inBlockA_ret (thenC_ret ?_)
      cases hK
      refine EndsRW [2] (.inl rfl) (of_decide_eq_true rfl) (by simp) rfl (fun c x hr => ?_) endH
      simp only [go_sem, reduceIte, reduceCtorEq, Nat.reduceEqDiff, Nat.reduceLT, Nat.reduceLeDiff, Nat.reduceBEq, Nat.reduceAdd, Int.reduceLE, Int.reduceLT] at hr
      obtain ⟨rfl, rfl⟩ := hr
      exact ⟨rfl, endR⟩
    · replace hK := ite_f hK hb1
      refine AWP_skip ?_
      with_reducible refine inBlockA_normal (thenC_normal ?_)
      refine AWP_seq ?_
      refine AWP_rg tab_ok [2, 3, 8] fun c st' hr => ?_
      simp only [go_sem, reduceIte, reduceCtorEq, Nat.reduceEqDiff, Nat.reduceLT, Nat.reduceLeDiff, Nat.reduceBEq, Nat.reduceAdd, Int.reduceLE, Int.reduceLT] at hr
      obtain ⟨rfl, rfl⟩ := hr
      refine ⟨vc, ?_⟩
      with_reducible refine thenC_normal ?_
      refine AWP_ownH 2 0 (.ints 3 .i64 []) rfl rfl rfl fun st' hr => ?_
      simp only [go_sem, reduceIte, reduceCtorEq, Nat.reduceEqDiff, Nat.reduceLT, Nat.reduceLeDiff, Nat.reduceBEq, Nat.reduceAdd, Int.reduceLE, Int.reduceLT] at hr
      subst hr
      refine AWP_seq ?_
      refine AWP_rg tab_ok [2, 3, 8, 9] fun c st' hr => ?_
      simp only [go_sem, reduceIte, reduceCtorEq, Nat.reduceEqDiff, Nat.reduceLT, Nat.reduceLeDiff, Nat.reduceBEq, Nat.reduceAdd, Int.reduceLE, Int.reduceLT] at hr
      obtain ⟨rfl, rfl⟩ := hr
      refine ⟨vc, ?_⟩
      with_reducible refine thenC_normal ?_
      refine AWP_seqJ (fun (out0, found) => ⟨43, [(8, .ptr 0 0 0), (9, .ptr 2 0 0)], [some (.gen 35 1 [[.own 1 out0.length]]), some (.ints 3 .i64 out0), some (.gen 4 1 [[.bool found]])]⟩) hK ?_ ?_
      · clear hK; intro j hK; try dsimp only at hK
        refine AWP_seq ?_
        refine AWP_rg tab_ok [2, 3, 8, 9, 35] fun c st' hr => ?_
        simp only [go_sem, reduceIte, reduceCtorEq, Nat.reduceEqDiff, Nat.reduceLT, Nat.reduceLeDiff, Nat.reduceBEq, Nat.reduceAdd, Int.reduceLE, Int.reduceLT] at hr
        obtain ⟨rfl, rfl⟩ := hr
        refine ⟨vc, ?_⟩
        with_reducible refine thenC_normal ?_
        refine AWP_condP ((a_0 = b_0 ∧ (a_1.length : Int) = (b_1.length : Int))) rfl bd (fun hb2 => ?_) (fun hb2 => ?_)
        · replace hK := ite_t hK hb2
          refine AWP_pin 2 rfl fun pl st' hr => ?_
          simp only [go_sem, reduceIte, reduceCtorEq, Nat.reduceEqDiff, Nat.reduceLT, Nat.reduceLeDiff, Nat.reduceBEq, Nat.reduceAdd, Int.reduceLE, Int.reduceLT, List.cons_append, List.nil_append] at hr
          subst hr
          refine AWP_pin 4 rfl fun pl1 st' hr => ?_
          simp only [go_sem, reduceIte, reduceCtorEq, Nat.reduceEqDiff, Nat.reduceLT, Nat.reduceLeDiff, Nat.reduceBEq, Nat.reduceAdd, Int.reduceLE, Int.reduceLT, List.cons_append, List.nil_append] at hr
          subst hr
          refine AWP_rl ?_
          refine AWPL_rn tab_ok 3 [8, 9, 36, 37, 38] fun c st' hr => ?_
          simp only [go_sem, reduceIte, reduceCtorEq, Nat.reduceEqDiff, Nat.reduceLT, Nat.reduceLeDiff, Nat.reduceBEq, Nat.reduceAdd, Int.reduceLE, Int.reduceLT] at hr
          obtain ⟨rfl, rfl⟩ := hr
          refine ⟨vc, ?_⟩
          refine AWPL_abs 38 (.func 170 [.abs pl 0 0, .abs pl1 0 0]) (AbsR.funcs (.cons (.abs 5 _ _ _ _ rfl) (.cons (.abs 6 _ _ _ _ rfl) .nil))) fun st' hr => ?_
          simp only [go_sem, reduceIte, reduceCtorEq, Nat.reduceEqDiff, Nat.reduceLT, Nat.reduceLeDiff, Nat.reduceBEq, Nat.reduceAdd, Int.reduceLE, Int.reduceLT] at hr
          subst hr
          replace hK := bind_s hK
          obtain ⟨y2, hy, hK⟩ := hK
          refine AWPL_gK [8, 9] [2, 4, 3] [pl, pl1] [none, none, some (.gen 35 1 [[.own 7 ((y2.1).length)]]), none, some (.gen 4 1 [[.bool y2.2]]), some (.pin 2 pl), some (.pin 4 pl1), some (.ints 3 .i64 y2.1)] (W_same_each hy) rfl rfl pcT rfl Try.call169 (of_decide_eq_true rfl) ⟨(by first | rfl | simp [renB, ren0, renI]), (by first | rfl | simp [renB, ren0, renI]), (by first | rfl | simp [renB, ren0, renI]), trivial⟩ ⟨⟨5, rfl⟩, ⟨6, rfl⟩, trivial⟩ rfl (.cons (.agg _ _ rfl (ArgsOk.get (.cons (.atom _ rfl) (.cons (.atom _ rfl) .nil))).2) (.cons (.agg _ _ rfl (ArgsOk.get (.cons (.atom _ rfl) (.cons (.atom _ rfl) .nil))).2) (.cons (ArgOk.funcOf (.cons (.atom _ rfl) (.cons (.atom _ rfl) .nil))) .nil))) (hscG trivial) (of_decide_eq_true rfl) rfl rfl (of_decide_eq_true rfl) rfl fun st' hr => ?_
          simp only [go_sem, reduceIte, reduceCtorEq, Nat.reduceEqDiff, Nat.reduceLT, Nat.reduceLeDiff, Nat.reduceBEq, Nat.reduceAdd, Int.reduceLE, Int.reduceLT] at hr
          subst hr
          clear hy
          refine AWPL_nil ?_
          refine join_n (y2.1, y2.2) [2, 7, 4] hK mkWk
        · replace hK := ite_f hK hb2
          refine AWP_skip ?_
          refine join_n ([], false) [2, 3, 4] hK mkWk
      · clear hK; intro q hK; obtain ⟨out0, found⟩ := q
        try dsimp only at hK
        change AWP _ _ _ _ ⟨43, [(8, .ptr 0 0 0), (9, .ptr 2 0 0)], [some (.gen 35 1 [[.own 1 out0.length]]), some (.ints 3 .i64 out0), some (.gen 4 1 [[.bool found]])]⟩
        refine AWP_seq ?_
        refine AWP_seq ?_
        refine AWP_rg tab_ok [8, 41] fun c st' hr => ?_
        simp only [go_sem, reduceIte, reduceCtorEq, Nat.reduceEqDiff, Nat.reduceLT, Nat.reduceLeDiff, Nat.reduceBEq, Nat.reduceAdd, Int.reduceLE, Int.reduceLT] at hr
        obtain ⟨rfl, rfl⟩ := hr
        refine ⟨vc, ?_⟩
        with_reducible refine thenC_normal ?_
        refine AWP_condP (¬ (found = true)) rfl bd (fun hb3 => ?_) (fun hb3 => ?_)
        · replace hK := ite_t hK hb3
          refine AWP_seq ?_
          refine AWP_rg tab_ok [4, 5] fun c st' hr => ?_
          simp only [go_sem, reduceIte, reduceCtorEq, Nat.reduceEqDiff, Nat.reduceLT, Nat.reduceLeDiff, Nat.reduceBEq, Nat.reduceAdd, Int.reduceLE, Int.reduceLT] at hr
          obtain ⟨rfl, rfl⟩ := hr
          refine ⟨vc, ?_⟩
          with_reducible refine thenC_normal ?_
          refine AWP_own 4 (.ints 3 .i64 []) rfl rfl fun st' hr => ?_
          simp only [go_sem, reduceIte, reduceCtorEq, Nat.reduceEqDiff, Nat.reduceLT, Nat.reduceLeDiff, Nat.reduceBEq, Nat.reduceAdd, Int.reduceLE, Int.reduceLT] at hr
          subst hr
          refine AWP_ret ?_
          with_reducible refine thenC_ret ?_
          cases hK
          refine EndsRW [3] (.inl rfl) (of_decide_eq_true rfl) (by simp) rfl (fun c x hr => ?_) endH
          simp only [go_sem, reduceIte, reduceCtorEq, Nat.reduceEqDiff, Nat.reduceLT, Nat.reduceLeDiff, Nat.reduceBEq, Nat.reduceAdd, Int.reduceLE, Int.reduceLT] at hr
          obtain ⟨rfl, rfl⟩ := hr
          exact ⟨rfl, endR⟩
        · replace hK := ite_f hK hb3
          refine AWP_skip ?_
          with_reducible refine thenC_normal ?_
          refine AWP_seq ?_
          refine AWP_rg tab_ok [4, 5] fun c st' hr => ?_
          simp only [go_sem, reduceIte, reduceCtorEq, Nat.reduceEqDiff, Nat.reduceLT, Nat.reduceLeDiff, Nat.reduceBEq, Nat.reduceAdd, Int.reduceLE, Int.reduceLT] at hr
          obtain ⟨rfl, rfl⟩ := hr
          refine ⟨vc, ?_⟩
          with_reducible refine thenC_normal ?_
          refine AWP_ret ?_
          cases hK
          refine EndsRW [1] (.inl rfl) (of_decide_eq_true rfl) (by simp) rfl (fun c x hr => ?_) endH
          simp only [go_sem, reduceIte, reduceCtorEq, Nat.reduceEqDiff, Nat.reduceLT, Nat.reduceLeDiff, Nat.reduceBEq, Nat.reduceAdd, Int.reduceLE, Int.reduceLT] at hr
          obtain ⟨rfl, rfl⟩ := hr
          exact ⟨rfl, endR⟩

set_option maxRecDepth 8000 in
set_option maxHeartbeats 4000000 in
theorem W_same_Minor {m_0 : Int} {m_1 : List Int} {a1_0 : Int} {a1_1 : List Int} {r : Int × Int × Int} (hK : same_Minor m_0 m_1 a1_0 a1_1 = some r) : Pure Try.prog 44 [.agg [.int .i64 m_0, .ints .i64 m_1], .agg [.int .i64 a1_0, .ints .i64 a1_1]] (.tup [.int .i64 r.1, .int .i64 r.2.1, .int .i64 r.2.2]) [] := by
  refine Pure_introF tab_ok (n := 110) (l := [.tmp 4, .tmp 5, .tmp 6]) Try.func44 rfl rfl rfl (by simp) fun hfact w0 => ?_
  simp only [factL1, fact1, fact0, factL0, lo, hi, maxLen, and_true] at hfact
  unfold same_Minor at hK
  refine AWP_seq ?_
  refine AWP_rg tab_ok [2, 3] fun c st' hr => ?_
  simp only [go_sem, reduceIte, reduceCtorEq, Nat.reduceEqDiff, Nat.reduceLT, Nat.reduceLeDiff, Nat.reduceBEq, Nat.reduceAdd, Int.reduceLE, Int.reduceLT] at hr
  obtain ⟨rfl, rfl⟩ := hr
  refine ⟨vc, ?_⟩
  with_reducible refine thenC_normal ?_
  refine AWP_seq ?_
  refine AWP_drawQ mixed (by kernel_rfl) ?_
  refine AWQL_rn tab_ok 1 [2, 3, 17] fun c st' hr => ?_
  simp only [go_sem, reduceIte, reduceCtorEq, Nat.reduceEqDiff, Nat.reduceLT, Nat.reduceLeDiff, Nat.reduceBEq, Nat.reduceAdd, Int.reduceLE, Int.reduceLT] at hr
  obtain ⟨rfl, rfl⟩ := hr
  refine ⟨vc, ?_⟩
  replace hK := bind_s hK
  obtain ⟨y, hy, hK⟩ := hK
  refine AWQL_callK [2, 3, 18] (W_axioms_Check hy) rfl rfl pcT rfl Try.call95 (.cons (.agg _ _ rfl (ArgsOk.get (.cons (.atom _ rfl) (.cons (.atom _ rfl) .nil))).2) .nil) (hscG trivial) (of_decide_eq_true rfl) rfl fun st' hr => ?_
  simp only [go_sem, reduceIte, reduceCtorEq, Nat.reduceEqDiff, Nat.reduceLT, Nat.reduceLeDiff, Nat.reduceBEq, Nat.reduceAdd, Int.reduceLE, Int.reduceLT] at hr
  subst hr
  clear hy
  refine AWQL_rn tab_ok 1 [2, 3, 18, 19] fun c st' hr => ?_
  simp only [go_sem, reduceIte, reduceCtorEq, Nat.reduceEqDiff, Nat.reduceLT, Nat.reduceLeDiff, Nat.reduceBEq, Nat.reduceAdd, Int.reduceLE, Int.reduceLT] at hr
  obtain ⟨rfl, rfl⟩ := hr
  refine ⟨vc, ?_⟩
  replace hK := bind_s hK
  obtain ⟨y1, hy, hK⟩ := hK
  refine AWQL_callK [2, 3, 18, 20] (W_axioms_Check hy) rfl rfl pcT rfl Try.call95 (.cons (.agg _ _ rfl (ArgsOk.get (.cons (.atom _ rfl) (.cons (.atom _ rfl) .nil))).2) .nil) (hscG trivial) (of_decide_eq_true rfl) rfl fun st' hr => ?_
  simp only [go_sem, reduceIte, reduceCtorEq, Nat.reduceEqDiff, Nat.reduceLT, Nat.reduceLeDiff, Nat.reduceBEq, Nat.reduceAdd, Int.reduceLE, Int.reduceLT] at hr
  subst hr
  clear hy
  refine AWQL_rn tab_ok 2 [2, 3, 7, 8] fun c st' hr => ?_
  simp only [go_sem, reduceIte, reduceCtorEq, Nat.reduceEqDiff, Nat.reduceLT, Nat.reduceLeDiff, Nat.reduceBEq, Nat.reduceAdd, Int.reduceLE, Int.reduceLT] at hr
  obtain ⟨rfl, rfl⟩ := hr
  refine ⟨vc, ?_⟩
  refine AWQL_nil ?_
  with_reducible refine thenC_normal ?_
  refine AWP_seq ?_
  refine AWP_block ?_
  refine AWP_seq ?_
  refine AWP_rg tab_ok [2, 3, 7, 8, 21] fun c st' hr => ?_
  simp only [go_sem, reduceIte, reduceCtorEq, Nat.reduceEqDiff, Nat.reduceLT, Nat.reduceLeDiff, Nat.reduceBEq, Nat.reduceAdd, Int.reduceLE, Int.reduceLT] at hr
  obtain ⟨rfl, rfl⟩ := hr
  refine ⟨vc, ?_⟩
  with_reducible refine thenC_normal ?_
  refine AWP_condP (y ≠ 0) rfl bd (fun hb => ?_) (fun hb => ?_)
  · replace hK := ite_t hK hb
    refine AWP_seq ?_
    refine AWP_rg tab_ok [4, 5, 6] fun c st' hr => ?_
    simp only [go_sem, reduceIte, reduceCtorEq, Nat.reduceEqDiff, Nat.reduceLT, Nat.reduceLeDiff, Nat.reduceBEq, Nat.reduceAdd, Int.reduceLE, Int.reduceLT] at hr
    obtain ⟨rfl, rfl⟩ := hr
    refine ⟨vc, ?_⟩
    with_reducible refine thenC_normal ?_
    refine AWP_ret ?_
    with_reducible refine inBlockA_ret (thenC_ret ?_)
    cases hK
    refine EndsRW [] (.inl rfl) (of_decide_eq_true rfl) (by simp) rfl (fun c x hr => ?_) trivial
    simp only [go_sem, reduceIte, reduceCtorEq, Nat.reduceEqDiff, Nat.reduceLT, Nat.reduceLeDiff, Nat.reduceBEq, Nat.reduceAdd, Int.reduceLE, Int.reduceLT] at hr
    obtain ⟨rfl, rfl⟩ := hr
    exact ⟨rfl, endR⟩
  · replace hK := ite_f hK hb
    refine AWP_seq ?_
    refine AWP_rg tab_ok [2, 3, 8, 25] fun c st' hr => ?_
    simp only [go_sem, reduceIte, reduceCtorEq, Nat.reduceEqDiff, Nat.reduceLT, Nat.reduceLeDiff, Nat.reduceBEq, Nat.reduceAdd, Int.reduceLE, Int.reduceLT] at hr
    obtain ⟨rfl, rfl⟩ := hr
    refine ⟨vc, ?_⟩
    with_reducible refine thenC_normal ?_
    refine AWP_condP (y1 ≠ 0) rfl bd (fun hb1 => ?_) (fun hb1 => ?_)
    · replace hK := ite_t hK hb1
      refine AWP_seq ?_
      refine AWP_rg tab_ok [4, 5, 6] fun c st' hr => ?_
      simp only [go_sem, reduceIte, reduceCtorEq, Nat.reduceEqDiff, Nat.reduceLT, Nat.reduceLeDiff, Nat.reduceBEq, Nat.reduceAdd, Int.reduceLE, Int.reduceLT] at hr
      obtain ⟨rfl, rfl⟩ := hr
      refine ⟨vc, ?_⟩
      with_reducible refine thenC_normal ?_
      refine AWP_ret ?_
      with_reducible refine inBlockA_ret (thenC_ret ?_)
      cases hK
      refine EndsRW [] (.inl rfl) (of_decide_eq_true rfl) (by simp) rfl (fun c x hr => ?_) trivial
      simp only [go_sem, reduceIte, reduceCtorEq, Nat.reduceEqDiff, Nat.reduceLT, Nat.reduceLeDiff, Nat.reduceBEq, Nat.reduceAdd, Int.reduceLE, Int.reduceLT] at hr
      obtain ⟨rfl, rfl⟩ := hr
      exact ⟨rfl, endR⟩
    · replace hK := ite_f hK hb1
      refine AWP_skip ?_
      with_reducible refine inBlockA_normal (thenC_normal ?_)
      refine AWP_seq ?_
      refine AWP_rl ?_
      refine AWPL_rn tab_ok 1 [2, 3, 29] fun c st' hr => ?_
      simp only [go_sem, reduceIte, reduceCtorEq, Nat.reduceEqDiff, Nat.reduceLT, Nat.reduceLeDiff, Nat.reduceBEq, Nat.reduceAdd, Int.reduceLE, Int.reduceLT] at hr
      obtain ⟨rfl, rfl⟩ := hr
      refine ⟨vc, ?_⟩
      replace hK := bind_s hK
      obtain ⟨y2, hy, hK⟩ := hK
      refine AWPL_callK [2, 3, 30] (W_same_ranks hy) rfl rfl pcT rfl Try.call103 (.cons (.agg _ _ rfl (ArgsOk.get (.cons (.atom _ rfl) (.cons (.atom _ rfl) .nil))).2) .nil) (hscG trivial) (of_decide_eq_true rfl) (by first | rfl | simp [nI, nI1, nI0]) (by first | rfl | simp [nIB, nI0]) fun st' hr => ?_
      simp only [go_sem, reduceIte, reduceCtorEq, Nat.reduceEqDiff, Nat.reduceLT, Nat.reduceLeDiff, Nat.reduceBEq, Nat.reduceAdd, Int.reduceLE, Int.reduceLT] at hr
      subst hr
      clear hy
      refine AWPL_rn tab_ok 1 [2, 3, 9] fun c st' hr => ?_
      simp only [go_sem, reduceIte, reduceCtorEq, Nat.reduceEqDiff, Nat.reduceLT, Nat.reduceLeDiff, Nat.reduceBEq, Nat.reduceAdd, Int.reduceLE, Int.reduceLT] at hr
      obtain ⟨rfl, rfl⟩ := hr
      refine ⟨vc, ?_⟩
      refine AWPL_nil ?_
      with_reducible refine thenC_normal ?_
      refine AWP_seq ?_
      replace hK := bind_s hK
      obtain ⟨y3, hy, hK⟩ := hK
      replace hK := chk_some hK
      obtain ⟨h, hK⟩ := hK
      replace hK := chk_some hK
      obtain ⟨h1, hK⟩ := hK
      replace hK := chk_some hK
      obtain ⟨h2, hK⟩ := hK
      refine AWP_drawJ ⟨110, [(2, .ptr 0 0 0), (3, .ptr 1 0 0), (9, .own 2 y2.length), (10, .int .i64 (y3.getD ((2 ^ a1_0.toNat : Int) - 1).toNat 0))], [some (.gen 46 2 [[.int .i64 m_0, .ints .i64 m_1]]), some (.gen 46 2 [[.int .i64 a1_0, .ints .i64 a1_1]]), some (.ints 3 .i64 y2), some (.ints 3 .i64 y3)]⟩ mixed ?_ ?_
      · refine AWPB_memo fun AA hAA => ?_
        have hn : AA 0 #[true, true, true, true, true, true, true, true, true] ⟨110, [(2, .ptr 0 0 0), (3, .ptr 1 0 0), (9, .own 2 y2.length), (10, .int .i64 (y3.getD ((2 ^ a1_0.toNat : Int) - 1).toNat 0))], [some (.gen 46 2 [[.int .i64 m_0, .ints .i64 m_1]]), some (.gen 46 2 [[.int .i64 a1_0, .ints .i64 a1_1]]), some (.ints 3 .i64 y2), some (.ints 3 .i64 y3)]⟩ := (hAA _ _ _).2 (by
          exact AWPB_end [0, 1, 2, 3] (by kernel_rfl) mkWk)
        have hn1 : AA 1 #[true, true, true, true, true, true, true, true, false] ⟨110, [(2, .ptr 0 0 0), (3, .ptr 1 0 0), (9, .own 2 y2.length), (38, .int .i64 (y3.getD ((2 ^ a1_0.toNat : Int) - 1).toNat 0))], [some (.gen 46 2 [[.int .i64 m_0, .ints .i64 m_1]]), some (.gen 46 2 [[.int .i64 a1_0, .ints .i64 a1_1]]), some (.ints 3 .i64 y2), some (.ints 3 .i64 y3)]⟩ := (hAA _ _ _).2 (by
          refine AWPB_take tab_ok [2, 3, 9, 10] 8 _ rfl rfl (by kernel_rfl) fun c st' hr => ?_
          simp only [go_sem, reduceIte, reduceCtorEq, Nat.reduceEqDiff, Nat.reduceLT, Nat.reduceLeDiff, Nat.reduceBEq, Nat.reduceAdd, Int.reduceLE, Int.reduceLT] at hr
          obtain ⟨rfl, rfl⟩ := hr
          refine ⟨vc, ?_⟩
          exact AWPB_wk [0, 1, 2, 3] mkWk ((hAA _ _ _).1 hn))
        have hn2 : AA 2 #[true, true, true, true, true, true, true, false, false] ⟨110, [(2, .ptr 0 0 0), (3, .ptr 1 0 0), (9, .own 2 y2.length), (37, .ptr 3 (((2 ^ a1_0.toNat : Int) - 1).toNat) 0)], [some (.gen 46 2 [[.int .i64 m_0, .ints .i64 m_1]]), some (.gen 46 2 [[.int .i64 a1_0, .ints .i64 a1_1]]), some (.ints 3 .i64 y2), some (.ints 3 .i64 y3)]⟩ := (hAA _ _ _).2 (by
          refine AWPB_one 7 _ (by kernel_rfl) rfl ?_
          refine AWPL_rn tab_ok 1 [2, 3, 9, 10, 38] fun c st' hr => ?_
          simp only [go_sem, reduceIte, reduceCtorEq, Nat.reduceEqDiff, Nat.reduceLT, Nat.reduceLeDiff, Nat.reduceBEq, Nat.reduceAdd, Int.reduceLE, Int.reduceLT] at hr
          obtain ⟨rfl, rfl⟩ := hr
          refine ⟨vc, ?_⟩
          refine AWPL_nil ?_
          refine QB_normal ?_
          exact AWPB_wk [0, 1, 2, 3] mkWk ((hAA _ _ _).1 hn1))
        have hn3 : AA 3 #[true, true, true, true, true, true, false, false, false] ⟨110, [(2, .ptr 0 0 0), (3, .ptr 1 0 0), (9, .own 2 y2.length), (32, .own 3 y3.length), (36, .int .i64 ((2 ^ a1_0.toNat : Int) - 1))], [some (.gen 46 2 [[.int .i64 m_0, .ints .i64 m_1]]), some (.gen 46 2 [[.int .i64 a1_0, .ints .i64 a1_1]]), some (.ints 3 .i64 y2), some (.ints 3 .i64 y3)]⟩ := (hAA _ _ _).2 (by
          refine AWPB_one 6 _ (by kernel_rfl) rfl ?_
          refine AWPL_rn tab_ok 1 [2, 3, 9, 10, 37, 38] fun c st' hr => ?_
          simp only [go_sem, reduceIte, reduceCtorEq, Nat.reduceEqDiff, Nat.reduceLT, Nat.reduceLeDiff, Nat.reduceBEq, Nat.reduceAdd, Int.reduceLE, Int.reduceLT] at hr
          obtain ⟨rfl, rfl⟩ := hr
          refine ⟨vc, ?_⟩
          refine AWPL_nil ?_
          refine QB_normal ?_
          exact AWPB_wk [0, 1, 2, 3] mkWk ((hAA _ _ _).1 hn2))
        have hn4 : AA 4 #[true, true, true, true, true, false, false, false, false] ⟨110, [(2, .ptr 0 0 0), (3, .ptr 1 0 0), (9, .own 2 y2.length), (32, .own 3 y3.length), (35, .int .i64 (2 ^ a1_0.toNat : Int))], [some (.gen 46 2 [[.int .i64 m_0, .ints .i64 m_1]]), some (.gen 46 2 [[.int .i64 a1_0, .ints .i64 a1_1]]), some (.ints 3 .i64 y2), some (.ints 3 .i64 y3)]⟩ := (hAA _ _ _).2 (by
          refine AWPB_one 5 _ (by kernel_rfl) rfl ?_
          refine AWPL_rn tab_ok 1 [2, 3, 9, 10, 32, 36, 37, 38] fun c st' hr => ?_
          simp only [go_sem, reduceIte, reduceCtorEq, Nat.reduceEqDiff, Nat.reduceLT, Nat.reduceLeDiff, Nat.reduceBEq, Nat.reduceAdd, Int.reduceLE, Int.reduceLT] at hr
          obtain ⟨rfl, rfl⟩ := hr
          refine ⟨vc, ?_⟩
          refine AWPL_nil ?_
          refine QB_normal ?_
          exact AWPB_wk [0, 1, 2, 3] mkWk ((hAA _ _ _).1 hn3))
        have hn5 : AA 5 #[true, true, true, true, false, false, false, false, false] ⟨110, [(2, .ptr 0 0 0), (3, .ptr 1 0 0), (9, .own 2 y2.length), (32, .own 3 y3.length), (34, .int .i64 a1_0)], [some (.gen 46 2 [[.int .i64 m_0, .ints .i64 m_1]]), some (.gen 46 2 [[.int .i64 a1_0, .ints .i64 a1_1]]), some (.ints 3 .i64 y2), some (.ints 3 .i64 y3)]⟩ := (hAA _ _ _).2 (by
          refine AWPB_one 4 _ (by kernel_rfl) rfl ?_
          refine AWPL_rn tab_ok 1 [2, 3, 9, 10, 32, 35, 36, 37, 38] fun c st' hr => ?_
          simp only [go_sem, reduceIte, reduceCtorEq, Nat.reduceEqDiff, Nat.reduceLT, Nat.reduceLeDiff, Nat.reduceBEq, Nat.reduceAdd, Int.reduceLE, Int.reduceLT] at hr
          obtain ⟨rfl, rfl⟩ := hr
          refine ⟨vc, ?_⟩
          refine AWPL_nil ?_
          refine QB_normal ?_
          exact AWPB_wk [0, 1, 2, 3] mkWk ((hAA _ _ _).1 hn4))
        have hn6 : AA 6 #[true, true, true, false, false, false, false, false, false] ⟨110, [(2, .ptr 0 0 0), (3, .ptr 1 0 0), (9, .own 2 y2.length), (32, .own 3 y3.length), (33, .ptr 1 0 0)], [some (.gen 46 2 [[.int .i64 m_0, .ints .i64 m_1]]), some (.gen 46 2 [[.int .i64 a1_0, .ints .i64 a1_1]]), some (.ints 3 .i64 y2), some (.ints 3 .i64 y3)]⟩ := (hAA _ _ _).2 (by
          refine AWPB_one 3 _ (by kernel_rfl) rfl ?_
          refine AWPL_rn tab_ok 1 [2, 3, 9, 10, 32, 34, 35, 36, 37, 38] fun c st' hr => ?_
          simp only [go_sem, reduceIte, reduceCtorEq, Nat.reduceEqDiff, Nat.reduceLT, Nat.reduceLeDiff, Nat.reduceBEq, Nat.reduceAdd, Int.reduceLE, Int.reduceLT] at hr
          obtain ⟨rfl, rfl⟩ := hr
          refine ⟨vc, ?_⟩
          refine AWPL_nil ?_
          refine QB_normal ?_
          exact AWPB_wk [0, 1, 2, 3] mkWk ((hAA _ _ _).1 hn5))
        have hn7 : AA 7 #[true, true, false, false, false, false, false, false, false] ⟨110, [(2, .ptr 0 0 0), (3, .ptr 1 0 0), (9, .own 2 y2.length), (32, .own 3 y3.length)], [some (.gen 46 2 [[.int .i64 m_0, .ints .i64 m_1]]), some (.gen 46 2 [[.int .i64 a1_0, .ints .i64 a1_1]]), some (.ints 3 .i64 y2), some (.ints 3 .i64 y3)]⟩ := (hAA _ _ _).2 (by
          refine AWPB_one 2 _ (by kernel_rfl) rfl ?_
          refine AWPL_rn tab_ok 1 [2, 3, 9, 10, 32, 33, 34, 35, 36, 37, 38] fun c st' hr => ?_
          simp only [go_sem, reduceIte, reduceCtorEq, Nat.reduceEqDiff, Nat.reduceLT, Nat.reduceLeDiff, Nat.reduceBEq, Nat.reduceAdd, Int.reduceLE, Int.reduceLT] at hr
          obtain ⟨rfl, rfl⟩ := hr
          refine ⟨vc, ?_⟩
          refine AWPL_nil ?_
          refine QB_normal ?_
          exact AWPB_wk [0, 1, 2, 3] mkWk ((hAA _ _ _).1 hn6))
        have hn8 : AA 4 #[true, false, true, true, true, true, false, false, false] ⟨110, [(2, .ptr 0 0 0), (3, .ptr 1 0 0), (9, .own 2 y2.length), (31, .agg [.int .i64 a1_0, .ints .i64 a1_1]), (36, .int .i64 ((2 ^ a1_0.toNat : Int) - 1))], [some (.gen 46 2 [[.int .i64 m_0, .ints .i64 m_1]]), some (.gen 46 2 [[.int .i64 a1_0, .ints .i64 a1_1]]), some (.ints 3 .i64 y2)]⟩ := (hAA _ _ _).2 (by
          refine AWPB_one 1 _ (by kernel_rfl) rfl ?_
          refine AWPL_callK [2, 3, 9, 10, 32, 36, 37, 38] (W_same_ranks hy) rfl rfl pcT rfl Try.call103 (.cons (.agg _ _ rfl (ArgsOk.get (.cons (.atom _ rfl) (.cons (.atom _ rfl) .nil))).2) .nil) (hscG trivial) (of_decide_eq_true rfl) (by first | rfl | simp [nI, nI1, nI0]) (by first | rfl | simp [nIB, nI0]) fun st' hr => ?_
          simp only [go_sem, reduceIte, reduceCtorEq, Nat.reduceEqDiff, Nat.reduceLT, Nat.reduceLeDiff, Nat.reduceBEq, Nat.reduceAdd, Int.reduceLE, Int.reduceLT] at hr
          subst hr
          refine AWPL_nil ?_
          refine QB_normal ?_
          exact AWPB_wk [0, 1, 2, 3] mkWk ((hAA _ _ _).1 hn3))
        have hn9 : AA 5 #[true, false, true, true, true, false, false, false, false] ⟨110, [(2, .ptr 0 0 0), (3, .ptr 1 0 0), (9, .own 2 y2.length), (31, .agg [.int .i64 a1_0, .ints .i64 a1_1]), (35, .int .i64 (2 ^ a1_0.toNat : Int))], [some (.gen 46 2 [[.int .i64 m_0, .ints .i64 m_1]]), some (.gen 46 2 [[.int .i64 a1_0, .ints .i64 a1_1]]), some (.ints 3 .i64 y2)]⟩ := (hAA _ _ _).2 (by
          refine AWPB_two 1 5 _ _ (by kernel_rfl) rfl rfl ?_ ?_
          · skip
            refine AWPL_callK [2, 3, 9, 10, 32, 35, 36, 37, 38] (W_same_ranks hy) rfl rfl pcT rfl Try.call103 (.cons (.agg _ _ rfl (ArgsOk.get (.cons (.atom _ rfl) (.cons (.atom _ rfl) .nil))).2) .nil) (hscG trivial) (of_decide_eq_true rfl) (by first | rfl | simp [nI, nI1, nI0]) (by first | rfl | simp [nIB, nI0]) fun st' hr => ?_
            simp only [go_sem, reduceIte, reduceCtorEq, Nat.reduceEqDiff, Nat.reduceLT, Nat.reduceLeDiff, Nat.reduceBEq, Nat.reduceAdd, Int.reduceLE, Int.reduceLT] at hr
            subst hr
            refine AWPL_nil ?_
            refine QB_normal ?_
            exact AWPB_wk [0, 1, 2, 3] mkWk ((hAA _ _ _).1 hn4)
          · skip
            refine AWPL_rn tab_ok 1 [2, 3, 9, 10, 31, 32, 36, 37, 38] fun c st' hr => ?_
            simp only [go_sem, reduceIte, reduceCtorEq, Nat.reduceEqDiff, Nat.reduceLT, Nat.reduceLeDiff, Nat.reduceBEq, Nat.reduceAdd, Int.reduceLE, Int.reduceLT] at hr
            obtain ⟨rfl, rfl⟩ := hr
            refine ⟨vc, ?_⟩
            refine AWPL_nil ?_
            refine QB_normal ?_
            exact AWPB_wk [0, 1, 2] mkWk ((hAA _ _ _).1 hn8))
        have hn10 : AA 6 #[true, false, true, true, false, false, false, false, false] ⟨110, [(2, .ptr 0 0 0), (3, .ptr 1 0 0), (9, .own 2 y2.length), (31, .agg [.int .i64 a1_0, .ints .i64 a1_1]), (34, .int .i64 a1_0)], [some (.gen 46 2 [[.int .i64 m_0, .ints .i64 m_1]]), some (.gen 46 2 [[.int .i64 a1_0, .ints .i64 a1_1]]), some (.ints 3 .i64 y2)]⟩ := (hAA _ _ _).2 (by
          refine AWPB_two 1 4 _ _ (by kernel_rfl) rfl rfl ?_ ?_
          · skip
            refine AWPL_callK [2, 3, 9, 10, 32, 34, 35, 36, 37, 38] (W_same_ranks hy) rfl rfl pcT rfl Try.call103 (.cons (.agg _ _ rfl (ArgsOk.get (.cons (.atom _ rfl) (.cons (.atom _ rfl) .nil))).2) .nil) (hscG trivial) (of_decide_eq_true rfl) (by first | rfl | simp [nI, nI1, nI0]) (by first | rfl | simp [nIB, nI0]) fun st' hr => ?_
            simp only [go_sem, reduceIte, reduceCtorEq, Nat.reduceEqDiff, Nat.reduceLT, Nat.reduceLeDiff, Nat.reduceBEq, Nat.reduceAdd, Int.reduceLE, Int.reduceLT] at hr
            subst hr
            refine AWPL_nil ?_
            refine QB_normal ?_
            exact AWPB_wk [0, 1, 2, 3] mkWk ((hAA _ _ _).1 hn5)
          · skip
            refine AWPL_rn tab_ok 1 [2, 3, 9, 10, 31, 32, 35, 36, 37, 38] fun c st' hr => ?_
            simp only [go_sem, reduceIte, reduceCtorEq, Nat.reduceEqDiff, Nat.reduceLT, Nat.reduceLeDiff, Nat.reduceBEq, Nat.reduceAdd, Int.reduceLE, Int.reduceLT] at hr
            obtain ⟨rfl, rfl⟩ := hr
            refine ⟨vc, ?_⟩
            refine AWPL_nil ?_
            refine QB_normal ?_
            exact AWPB_wk [0, 1, 2] mkWk ((hAA _ _ _).1 hn9))
        have hn11 : AA 7 #[true, false, true, false, false, false, false, false, false] ⟨110, [(2, .ptr 0 0 0), (3, .ptr 1 0 0), (9, .own 2 y2.length), (31, .agg [.int .i64 a1_0, .ints .i64 a1_1]), (33, .ptr 1 0 0)], [some (.gen 46 2 [[.int .i64 m_0, .ints .i64 m_1]]), some (.gen 46 2 [[.int .i64 a1_0, .ints .i64 a1_1]]), some (.ints 3 .i64 y2)]⟩ := (hAA _ _ _).2 (by
          refine AWPB_two 1 3 _ _ (by kernel_rfl) rfl rfl ?_ ?_
          · skip
            refine AWPL_callK [2, 3, 9, 10, 32, 33, 34, 35, 36, 37, 38] (W_same_ranks hy) rfl rfl pcT rfl Try.call103 (.cons (.agg _ _ rfl (ArgsOk.get (.cons (.atom _ rfl) (.cons (.atom _ rfl) .nil))).2) .nil) (hscG trivial) (of_decide_eq_true rfl) (by first | rfl | simp [nI, nI1, nI0]) (by first | rfl | simp [nIB, nI0]) fun st' hr => ?_
            simp only [go_sem, reduceIte, reduceCtorEq, Nat.reduceEqDiff, Nat.reduceLT, Nat.reduceLeDiff, Nat.reduceBEq, Nat.reduceAdd, Int.reduceLE, Int.reduceLT] at hr
            subst hr
            refine AWPL_nil ?_
            refine QB_normal ?_
            exact AWPB_wk [0, 1, 2, 3] mkWk ((hAA _ _ _).1 hn6)
          · skip
            refine AWPL_rn tab_ok 1 [2, 3, 9, 10, 31, 32, 34, 35, 36, 37, 38] fun c st' hr => ?_
            simp only [go_sem, reduceIte, reduceCtorEq, Nat.reduceEqDiff, Nat.reduceLT, Nat.reduceLeDiff, Nat.reduceBEq, Nat.reduceAdd, Int.reduceLE, Int.reduceLT] at hr
            obtain ⟨rfl, rfl⟩ := hr
            refine ⟨vc, ?_⟩
            refine AWPL_nil ?_
            refine QB_normal ?_
            exact AWPB_wk [0, 1, 2] mkWk ((hAA _ _ _).1 hn10))
        have hn12 : AA 8 #[true, false, false, false, false, false, false, false, false] ⟨110, [(2, .ptr 0 0 0), (3, .ptr 1 0 0), (9, .own 2 y2.length), (31, .agg [.int .i64 a1_0, .ints .i64 a1_1])], [some (.gen 46 2 [[.int .i64 m_0, .ints .i64 m_1]]), some (.gen 46 2 [[.int .i64 a1_0, .ints .i64 a1_1]]), some (.ints 3 .i64 y2)]⟩ := (hAA _ _ _).2 (by
          refine AWPB_two 1 2 _ _ (by kernel_rfl) rfl rfl ?_ ?_
          · skip
            refine AWPL_callK [2, 3, 9, 10, 32, 33, 34, 35, 36, 37, 38] (W_same_ranks hy) rfl rfl pcT rfl Try.call103 (.cons (.agg _ _ rfl (ArgsOk.get (.cons (.atom _ rfl) (.cons (.atom _ rfl) .nil))).2) .nil) (hscG trivial) (of_decide_eq_true rfl) (by first | rfl | simp [nI, nI1, nI0]) (by first | rfl | simp [nIB, nI0]) fun st' hr => ?_
            simp only [go_sem, reduceIte, reduceCtorEq, Nat.reduceEqDiff, Nat.reduceLT, Nat.reduceLeDiff, Nat.reduceBEq, Nat.reduceAdd, Int.reduceLE, Int.reduceLT] at hr
            subst hr
            refine AWPL_nil ?_
            refine QB_normal ?_
            exact AWPB_wk [0, 1, 2, 3] mkWk ((hAA _ _ _).1 hn7)
          · skip
            refine AWPL_rn tab_ok 1 [2, 3, 9, 10, 31, 32, 33, 34, 35, 36, 37, 38] fun c st' hr => ?_
            simp only [go_sem, reduceIte, reduceCtorEq, Nat.reduceEqDiff, Nat.reduceLT, Nat.reduceLeDiff, Nat.reduceBEq, Nat.reduceAdd, Int.reduceLE, Int.reduceLT] at hr
            obtain ⟨rfl, rfl⟩ := hr
            refine ⟨vc, ?_⟩
            refine AWPL_nil ?_
            refine QB_normal ?_
            exact AWPB_wk [0, 1, 2] mkWk ((hAA _ _ _).1 hn11))
        have hn13 : AA 5 #[false, false, true, true, true, true, false, false, false] ⟨110, [(2, .ptr 0 0 0), (3, .ptr 1 0 0), (9, .own 2 y2.length), (36, .int .i64 ((2 ^ a1_0.toNat : Int) - 1))], [some (.gen 46 2 [[.int .i64 m_0, .ints .i64 m_1]]), some (.gen 46 2 [[.int .i64 a1_0, .ints .i64 a1_1]]), some (.ints 3 .i64 y2)]⟩ := (hAA _ _ _).2 (by
          refine AWPB_one 0 _ (by kernel_rfl) rfl ?_
          refine AWPL_rn tab_ok 1 [2, 3, 9, 10, 31, 32, 36, 37, 38] fun c st' hr => ?_
          simp only [go_sem, reduceIte, reduceCtorEq, Nat.reduceEqDiff, Nat.reduceLT, Nat.reduceLeDiff, Nat.reduceBEq, Nat.reduceAdd, Int.reduceLE, Int.reduceLT] at hr
          obtain ⟨rfl, rfl⟩ := hr
          refine ⟨vc, ?_⟩
          refine AWPL_nil ?_
          refine QB_normal ?_
          exact AWPB_wk [0, 1, 2] mkWk ((hAA _ _ _).1 hn8))
        have hn14 : AA 6 #[false, false, true, true, true, false, false, false, false] ⟨110, [(2, .ptr 0 0 0), (3, .ptr 1 0 0), (9, .own 2 y2.length), (35, .int .i64 (2 ^ a1_0.toNat : Int))], [some (.gen 46 2 [[.int .i64 m_0, .ints .i64 m_1]]), some (.gen 46 2 [[.int .i64 a1_0, .ints .i64 a1_1]]), some (.ints 3 .i64 y2)]⟩ := (hAA _ _ _).2 (by
          refine AWPB_two 0 5 _ _ (by kernel_rfl) rfl rfl ?_ ?_
          · skip
            refine AWPL_rn tab_ok 1 [2, 3, 9, 10, 31, 32, 35, 36, 37, 38] fun c st' hr => ?_
            simp only [go_sem, reduceIte, reduceCtorEq, Nat.reduceEqDiff, Nat.reduceLT, Nat.reduceLeDiff, Nat.reduceBEq, Nat.reduceAdd, Int.reduceLE, Int.reduceLT] at hr
            obtain ⟨rfl, rfl⟩ := hr
            refine ⟨vc, ?_⟩
            refine AWPL_nil ?_
            refine QB_normal ?_
            exact AWPB_wk [0, 1, 2] mkWk ((hAA _ _ _).1 hn9)
          · skip
            refine AWPL_rn tab_ok 1 [2, 3, 9, 10, 31, 32, 36, 37, 38] fun c st' hr => ?_
            simp only [go_sem, reduceIte, reduceCtorEq, Nat.reduceEqDiff, Nat.reduceLT, Nat.reduceLeDiff, Nat.reduceBEq, Nat.reduceAdd, Int.reduceLE, Int.reduceLT] at hr
            obtain ⟨rfl, rfl⟩ := hr
            refine ⟨vc, ?_⟩
            refine AWPL_nil ?_
            refine QB_normal ?_
            exact AWPB_wk [0, 1, 2] mkWk ((hAA _ _ _).1 hn13))
        have hn15 : AA 7 #[false, false, true, true, false, false, false, false, false] ⟨110, [(2, .ptr 0 0 0), (3, .ptr 1 0 0), (9, .own 2 y2.length), (34, .int .i64 a1_0)], [some (.gen 46 2 [[.int .i64 m_0, .ints .i64 m_1]]), some (.gen 46 2 [[.int .i64 a1_0, .ints .i64 a1_1]]), some (.ints 3 .i64 y2)]⟩ := (hAA _ _ _).2 (by
          refine AWPB_two 0 4 _ _ (by kernel_rfl) rfl rfl ?_ ?_
          · skip
            refine AWPL_rn tab_ok 1 [2, 3, 9, 10, 31, 32, 34, 35, 36, 37, 38] fun c st' hr => ?_
            simp only [go_sem, reduceIte, reduceCtorEq, Nat.reduceEqDiff, Nat.reduceLT, Nat.reduceLeDiff, Nat.reduceBEq, Nat.reduceAdd, Int.reduceLE, Int.reduceLT] at hr
            obtain ⟨rfl, rfl⟩ := hr
            refine ⟨vc, ?_⟩
            refine AWPL_nil ?_
            refine QB_normal ?_
            exact AWPB_wk [0, 1, 2] mkWk ((hAA _ _ _).1 hn10)
          · skip
            refine AWPL_rn tab_ok 1 [2, 3, 9, 10, 31, 32, 35, 36, 37, 38] fun c st' hr => ?_
            simp only [go_sem, reduceIte, reduceCtorEq, Nat.reduceEqDiff, Nat.reduceLT, Nat.reduceLeDiff, Nat.reduceBEq, Nat.reduceAdd, Int.reduceLE, Int.reduceLT] at hr
            obtain ⟨rfl, rfl⟩ := hr
            refine ⟨vc, ?_⟩
            refine AWPL_nil ?_
            refine QB_normal ?_
            exact AWPB_wk [0, 1, 2] mkWk ((hAA _ _ _).1 hn14))
        have hn16 : AA 8 #[false, false, true, false, false, false, false, false, false] ⟨110, [(2, .ptr 0 0 0), (3, .ptr 1 0 0), (9, .own 2 y2.length), (33, .ptr 1 0 0)], [some (.gen 46 2 [[.int .i64 m_0, .ints .i64 m_1]]), some (.gen 46 2 [[.int .i64 a1_0, .ints .i64 a1_1]]), some (.ints 3 .i64 y2)]⟩ := (hAA _ _ _).2 (by
          refine AWPB_two 0 3 _ _ (by kernel_rfl) rfl rfl ?_ ?_
          · skip
            refine AWPL_rn tab_ok 1 [2, 3, 9, 10, 31, 32, 33, 34, 35, 36, 37, 38] fun c st' hr => ?_
            simp only [go_sem, reduceIte, reduceCtorEq, Nat.reduceEqDiff, Nat.reduceLT, Nat.reduceLeDiff, Nat.reduceBEq, Nat.reduceAdd, Int.reduceLE, Int.reduceLT] at hr
            obtain ⟨rfl, rfl⟩ := hr
            refine ⟨vc, ?_⟩
            refine AWPL_nil ?_
            refine QB_normal ?_
            exact AWPB_wk [0, 1, 2] mkWk ((hAA _ _ _).1 hn11)
          · skip
            refine AWPL_rn tab_ok 1 [2, 3, 9, 10, 31, 32, 34, 35, 36, 37, 38] fun c st' hr => ?_
            simp only [go_sem, reduceIte, reduceCtorEq, Nat.reduceEqDiff, Nat.reduceLT, Nat.reduceLeDiff, Nat.reduceBEq, Nat.reduceAdd, Int.reduceLE, Int.reduceLT] at hr
            obtain ⟨rfl, rfl⟩ := hr
            refine ⟨vc, ?_⟩
            refine AWPL_nil ?_
            refine QB_normal ?_
            exact AWPB_wk [0, 1, 2] mkWk ((hAA _ _ _).1 hn15))
        have hn17 : AA 9 #[false, false, false, false, false, false, false, false, false] ⟨110, [(2, .ptr 0 0 0), (3, .ptr 1 0 0), (9, .own 2 y2.length)], [some (.gen 46 2 [[.int .i64 m_0, .ints .i64 m_1]]), some (.gen 46 2 [[.int .i64 a1_0, .ints .i64 a1_1]]), some (.ints 3 .i64 y2)]⟩ := (hAA _ _ _).2 (by
          refine AWPB_two 0 2 _ _ (by kernel_rfl) rfl rfl ?_ ?_
          · skip
            refine AWPL_rn tab_ok 1 [2, 3, 9, 10, 31, 32, 33, 34, 35, 36, 37, 38] fun c st' hr => ?_
            simp only [go_sem, reduceIte, reduceCtorEq, Nat.reduceEqDiff, Nat.reduceLT, Nat.reduceLeDiff, Nat.reduceBEq, Nat.reduceAdd, Int.reduceLE, Int.reduceLT] at hr
            obtain ⟨rfl, rfl⟩ := hr
            refine ⟨vc, ?_⟩
            refine AWPL_nil ?_
            refine QB_normal ?_
            exact AWPB_wk [0, 1, 2] mkWk ((hAA _ _ _).1 hn12)
          · skip
            refine AWPL_rn tab_ok 1 [2, 3, 9, 10, 31, 32, 33, 34, 35, 36, 37, 38] fun c st' hr => ?_
            simp only [go_sem, reduceIte, reduceCtorEq, Nat.reduceEqDiff, Nat.reduceLT, Nat.reduceLeDiff, Nat.reduceBEq, Nat.reduceAdd, Int.reduceLE, Int.reduceLT] at hr
            obtain ⟨rfl, rfl⟩ := hr
            refine ⟨vc, ?_⟩
            refine AWPL_nil ?_
            refine QB_normal ?_
            exact AWPB_wk [0, 1, 2] mkWk ((hAA _ _ _).1 hn16))
        exact (hAA _ _ _).2 (AWPB_wk [0, 1, 2] mkWk ((hAA _ _ _).1 hn17))
      with_reducible refine thenC_normal ?_
      refine AWP_seq ?_
      refine AWP_seq ?_
      replace hK := chk_some hK
      obtain ⟨h3, hK⟩ := hK
      refine AWP_rg tab_ok [2, 3, 9, 10, 41, 42] fun c st' hr => ?_
      simp only [go_sem, reduceIte, reduceCtorEq, Nat.reduceEqDiff, Nat.reduceLT, Nat.reduceLeDiff, Nat.reduceBEq, Nat.reduceAdd, Int.reduceLE, Int.reduceLT] at hr
      obtain ⟨rfl, rfl⟩ := hr
      refine ⟨vc, ?_⟩
      with_reducible refine thenC_normal ?_
      refine AWP_block ?_
      refine AWP_loopX 1 (fun (v : Int) => ⟨110, [(2, .ptr 0 0 0), (3, .ptr 1 0 0), (9, .own 2 y2.length), (10, .int .i64 (y3.getD ((2 ^ a1_0.toNat : Int) - 1).toNat 0)), (41, .int .i64 (2 ^ m_0.toNat : Int)), (42, .int .i64 v)], [some (.gen 46 2 [[.int .i64 m_0, .ints .i64 m_1]]), some (.gen 46 2 [[.int .i64 a1_0, .ints .i64 a1_1]]), some (.ints 3 .i64 y2)]⟩) (fun (_ : Unit) => ⟨110, [], []⟩) Sum.inl 0 [0, 1, 2] hK mkWk ?_ ?_
      · clear hK; rintro v b hK hpost1
        try dsimp only at hK
        change AWP _ _ _ _ ⟨110, [(2, .ptr 0 0 0), (3, .ptr 1 0 0), (9, .own 2 y2.length), (10, .int .i64 (y3.getD ((2 ^ a1_0.toNat : Int) - 1).toNat 0)), (41, .int .i64 (2 ^ m_0.toNat : Int)), (42, .int .i64 v)], [some (.gen 46 2 [[.int .i64 m_0, .ints .i64 m_1]]), some (.gen 46 2 [[.int .i64 a1_0, .ints .i64 a1_1]]), some (.ints 3 .i64 y2)]⟩
        refine AWP_seq ?_
        refine AWP_rg tab_ok [2, 3, 9, 10, 41, 42, 43] fun c st' hr => ?_
        simp only [go_sem, reduceIte, reduceCtorEq, Nat.reduceEqDiff, Nat.reduceLT, Nat.reduceLeDiff, Nat.reduceBEq, Nat.reduceAdd, Int.reduceLE, Int.reduceLT] at hr
        obtain ⟨rfl, rfl⟩ := hr
        refine ⟨vc, ?_⟩
        with_reducible refine thenC_normal ?_
        refine AWP_seq ?_
        refine AWP_condP (v < (2 ^ m_0.toNat : Int)) rfl bd (fun hb2 => ?_) (fun hb2 => ?_)
        · replace hK := ite_t hK hb2
          refine AWP_skip ?_
          with_reducible refine thenC_normal ?_
          refine AWP_seq ?_
          refine AWP_block ?_
          refine AWP_seq ?_
          refine AWP_rg tab_ok [2, 3, 9, 10, 11, 41, 42] fun c st' hr => ?_
          simp only [go_sem, reduceIte, reduceCtorEq, Nat.reduceEqDiff, Nat.reduceLT, Nat.reduceLeDiff, Nat.reduceBEq, Nat.reduceAdd, Int.reduceLE, Int.reduceLT] at hr
          obtain ⟨rfl, rfl⟩ := hr
          refine ⟨vc, ?_⟩
          with_reducible refine thenC_normal ?_
          refine AWP_seq ?_
          replace hK := chk_some hK
          obtain ⟨h4, hK⟩ := hK
          refine AWP_rg tab_ok [2, 3, 9, 10, 11, 41, 42, 47, 48] fun c st' hr => ?_
          simp only [go_sem, reduceIte, reduceCtorEq, Nat.reduceEqDiff, Nat.reduceLT, Nat.reduceLeDiff, Nat.reduceBEq, Nat.reduceAdd, Int.reduceLE, Int.reduceLT] at hr
          obtain ⟨rfl, rfl⟩ := hr
          refine ⟨vc, ?_⟩
          with_reducible refine thenC_normal ?_
          refine AWP_block ?_
          refine AWP_loopX 3 (fun (v1 : Int) => ⟨110, [(2, .ptr 0 0 0), (3, .ptr 1 0 0), (9, .own 2 y2.length), (10, .int .i64 (y3.getD ((2 ^ a1_0.toNat : Int) - 1).toNat 0)), (11, .int .i64 v), (41, .int .i64 (2 ^ m_0.toNat : Int)), (42, .int .i64 v), (47, .int .i64 (2 ^ m_0.toNat : Int)), (48, .int .i64 v1)], [some (.gen 46 2 [[.int .i64 m_0, .ints .i64 m_1]]), some (.gen 46 2 [[.int .i64 a1_0, .ints .i64 a1_1]]), some (.ints 3 .i64 y2)]⟩) (fun (_ : Unit) => ⟨110, [(2, .ptr 0 0 0), (3, .ptr 1 0 0), (9, .own 2 y2.length), (10, .int .i64 (y3.getD ((2 ^ a1_0.toNat : Int) - 1).toNat 0)), (41, .int .i64 (2 ^ m_0.toNat : Int)), (42, .int .i64 v)], [some (.gen 46 2 [[.int .i64 m_0, .ints .i64 m_1]]), some (.gen 46 2 [[.int .i64 a1_0, .ints .i64 a1_1]]), some (.ints 3 .i64 y2)]⟩) Sum.inl 0 [0, 1, 2] hK mkWk ?_ ?_
          · clear hK; rintro v1 b1 hK hpost2
            try dsimp only at hK
            change AWP _ _ _ _ ⟨110, [(2, .ptr 0 0 0), (3, .ptr 1 0 0), (9, .own 2 y2.length), (10, .int .i64 (y3.getD ((2 ^ a1_0.toNat : Int) - 1).toNat 0)), (11, .int .i64 v), (41, .int .i64 (2 ^ m_0.toNat : Int)), (42, .int .i64 v), (47, .int .i64 (2 ^ m_0.toNat : Int)), (48, .int .i64 v1)], [some (.gen 46 2 [[.int .i64 m_0, .ints .i64 m_1]]), some (.gen 46 2 [[.int .i64 a1_0, .ints .i64 a1_1]]), some (.ints 3 .i64 y2)]⟩
            refine AWP_seq ?_
            refine AWP_rg tab_ok [2, 3, 9, 10, 11, 41, 42, 47, 48, 49] fun c st' hr => ?_
            simp only [go_sem, reduceIte, reduceCtorEq, Nat.reduceEqDiff, Nat.reduceLT, Nat.reduceLeDiff, Nat.reduceBEq, Nat.reduceAdd, Int.reduceLE, Int.reduceLT] at hr
            obtain ⟨rfl, rfl⟩ := hr
            refine ⟨vc, ?_⟩
            with_reducible refine thenC_normal ?_
            refine AWP_seq ?_
            refine AWP_condP (v1 < (2 ^ m_0.toNat : Int)) rfl bd (fun hb3 => ?_) (fun hb3 => ?_)
            · replace hK := ite_t hK hb3
              refine AWP_skip ?_
              with_reducible refine thenC_normal ?_
              refine AWP_seq ?_
              refine AWP_block ?_
              refine AWP_seq ?_
              refine AWP_rg tab_ok [2, 3, 9, 10, 11, 12, 41, 42, 47, 48] fun c st' hr => ?_
              simp only [go_sem, reduceIte, reduceCtorEq, Nat.reduceEqDiff, Nat.reduceLT, Nat.reduceLeDiff, Nat.reduceBEq, Nat.reduceAdd, Int.reduceLE, Int.reduceLT] at hr
              obtain ⟨rfl, rfl⟩ := hr
              refine ⟨vc, ?_⟩
              with_reducible refine thenC_normal ?_
              refine AWP_seq ?_
              replace hK := chk_some hK
              obtain ⟨h5, hK⟩ := hK
              refine AWP_rg tab_ok [2, 3, 9, 10, 11, 12, 13, 41, 42, 47, 48] fun c st' hr => ?_
              simp only [go_sem, reduceIte, reduceCtorEq, Nat.reduceEqDiff, Nat.reduceLT, Nat.reduceLeDiff, Nat.reduceBEq, Nat.reduceAdd, Int.reduceLE, Int.reduceLT] at hr
              obtain ⟨rfl, rfl⟩ := hr
              refine ⟨vc, ?_⟩
              with_reducible refine thenC_normal ?_
              refine AWP_seq ?_
              refine AWP_seq ?_
              refine AWP_drawQ mixed (by kernel_rfl) ?_
              refine AWQL_rn tab_ok 6 [2, 3, 9, 10, 11, 12, 13, 41, 42, 47, 48, 63, 64] fun c st' hr => ?_
              simp only [go_sem, reduceIte, reduceCtorEq, Nat.reduceEqDiff, Nat.reduceLT, Nat.reduceLeDiff, Nat.reduceBEq, Nat.reduceAdd, Int.reduceLE, Int.reduceLT] at hr
              obtain ⟨rfl, rfl⟩ := hr
              refine ⟨vc, ?_⟩
              replace hK := bind_s hK
              obtain ⟨y4, hy, hK⟩ := hK
              refine AWQL_callGP [2, 3, 9, 10, 11, 12, 13, 41, 42, 47, 48, 63, 65] (¬ (iand v1 v ≠ 0)) (fun hg => (W_same_ones (ite_t hy hg))) rfl rfl pcG rfl Try.call104 (.cons (.atom _ rfl) .nil) (fun hg => hscG hg) (of_decide_eq_true rfl) rfl fun st' hr => ?_
              simp only [go_sem, reduceIte, reduceCtorEq, Nat.reduceEqDiff, Nat.reduceLT, Nat.reduceLeDiff, Nat.reduceBEq, Nat.reduceAdd, Int.reduceLE, Int.reduceLT] at hr
              subst hr
              clear hy
              replace hK := chk_some hK
              obtain ⟨h6, hK⟩ := hK
              refine AWQL_rn tab_ok 19 [2, 3, 9, 10, 11, 12, 13, 41, 42, 47, 48, 84] fun c st' hr => ?_
              simp only [go_sem, reduceIte, reduceCtorEq, Nat.reduceEqDiff, Nat.reduceLT, Nat.reduceLeDiff, Nat.reduceBEq, Nat.reduceAdd, Int.reduceLE, Int.reduceLT] at hr
              obtain ⟨rfl, rfl⟩ := hr
              refine ⟨vc, ?_⟩
              refine AWQL_nil ?_
              with_reducible refine thenC_normal ?_
              refine AWP_condP (((iand v1 v ≠ 0 ∨ y4 ≠ a1_0) ∨ (y2.getD (ior (iandnot ((2 ^ m_0.toNat : Int) - 1) (ior v v1)) v1).toNat 0) - (y2.getD v1.toNat 0) ≠ y3.getD ((2 ^ a1_0.toNat : Int) - 1).toNat 0)) rfl bd (fun hb4 => ?_) (fun hb4 => ?_)
              · replace hK := ite_t hK hb4
                refine AWP_exit ?_
                with_reducible refine thenC_exit (inBlockA_exit (thenC_normal ?_))
                refine AWP_facts (by simp) fun hfx => ?_
                simp only [factS, factV, fact1, fact0, factL0, lo, hi, maxLen, and_true, true_and] at hfx
                refine AWP_rg tab_ok [2, 3, 9, 10, 11, 41, 42, 47, 48] fun c st' hr => ?_
                simp only [go_sem, reduceIte, reduceCtorEq, Nat.reduceEqDiff, Nat.reduceLT, Nat.reduceLeDiff, Nat.reduceBEq, Nat.reduceAdd, Int.reduceLE, Int.reduceLT] at hr
                obtain ⟨rfl, rfl⟩ := hr
                refine ⟨vc, ?_⟩
                clear hfx
                refine again_n (v1 + 1) [0, 1, 2] hK mkWk
              · replace hK := ite_f hK hb4
                refine AWP_skip ?_
                with_reducible refine thenC_normal ?_
                refine AWP_seq ?_
                refine AWP_rl ?_
                refine AWPL_rn tab_ok 5 [2, 3, 9, 10, 11, 12, 41, 42, 47, 48, 86, 87, 88, 89] fun c st' hr => ?_
                simp only [go_sem, reduceIte, reduceCtorEq, Nat.reduceEqDiff, Nat.reduceLT, Nat.reduceLeDiff, Nat.reduceBEq, Nat.reduceAdd, Int.reduceLE, Int.reduceLT] at hr
                obtain ⟨rfl, rfl⟩ := hr
                refine ⟨vc, ?_⟩
                replace hK := bind_s hK
                obtain ⟨y5, hy, hK⟩ := hK
                refine AWPL_callK [2, 3, 9, 10, 11, 12, 41, 42, 47, 48, 90] (W_same_restricted hy) rfl rfl pcT rfl Try.call105 (.cons (.atom _ rfl) (.cons (.ownI _ _ _ _ _ y2 rfl (by simp) (by first | simp | exact List.take_of_length_le (by simp))) (.cons (.atom _ rfl) (.cons (.atom _ rfl) .nil)))) (hscG trivial) (of_decide_eq_true rfl) (by first | rfl | simp [nI, nI1, nI0]) (by first | rfl | simp [nIB, nI0]) fun st' hr => ?_
                simp only [go_sem, reduceIte, reduceCtorEq, Nat.reduceEqDiff, Nat.reduceLT, Nat.reduceLeDiff, Nat.reduceBEq, Nat.reduceAdd, Int.reduceLE, Int.reduceLT] at hr
                subst hr
                clear hy
                refine AWPL_rn tab_ok 2 [2, 3, 9, 10, 11, 12, 14, 41, 42, 47, 48] fun c st' hr => ?_
                simp only [go_sem, reduceIte, reduceCtorEq, Nat.reduceEqDiff, Nat.reduceLT, Nat.reduceLeDiff, Nat.reduceBEq, Nat.reduceAdd, Int.reduceLE, Int.reduceLT] at hr
                obtain ⟨rfl, rfl⟩ := hr
                refine ⟨vc, ?_⟩
                refine AWPL_nil ?_
                with_reducible refine thenC_normal ?_
                refine AWP_seq ?_
                refine AWP_seq ?_
                refine AWP_rg tab_ok [2, 3, 9, 10, 11, 12, 14, 41, 42, 47, 48, 97] fun c st' hr => ?_
                simp only [go_sem, reduceIte, reduceCtorEq, Nat.reduceEqDiff, Nat.reduceLT, Nat.reduceLeDiff, Nat.reduceBEq, Nat.reduceAdd, Int.reduceLE, Int.reduceLT] at hr
                obtain ⟨rfl, rfl⟩ := hr
                refine ⟨vc, ?_⟩
                with_reducible refine thenC_normal ?_
                refine AWP_condP ((y5.2.length : Int) ≠ (a1_1.length : Int)) rfl bd (fun hb5 => ?_) (fun hb5 => ?_)
                · replace hK := ite_t hK hb5
                  refine AWP_exit ?_
                  with_reducible refine thenC_exit (inBlockA_exit (thenC_normal ?_))
                  refine AWP_facts (by simp) fun hfx => ?_
                  simp only [factS, factV, fact1, fact0, factL0, lo, hi, maxLen, and_true, true_and] at hfx
                  refine AWP_rg tab_ok [2, 3, 9, 10, 11, 41, 42, 47, 48] fun c st' hr => ?_
                  simp only [go_sem, reduceIte, reduceCtorEq, Nat.reduceEqDiff, Nat.reduceLT, Nat.reduceLeDiff, Nat.reduceBEq, Nat.reduceAdd, Int.reduceLE, Int.reduceLT] at hr
                  obtain ⟨rfl, rfl⟩ := hr
                  refine ⟨vc, ?_⟩
                  clear hfx
                  refine again_n (v1 + 1) [0, 1, 2] hK mkWk
                · replace hK := ite_f hK hb5
                  refine AWP_skip ?_
                  with_reducible refine thenC_normal ?_
                  refine AWP_seq ?_
                  refine AWP_rl ?_
                  refine AWPL_rn tab_ok 2 [2, 3, 9, 10, 11, 12, 41, 42, 47, 48, 99, 100] fun c st' hr => ?_
                  simp only [go_sem, reduceIte, reduceCtorEq, Nat.reduceEqDiff, Nat.reduceLT, Nat.reduceLeDiff, Nat.reduceBEq, Nat.reduceAdd, Int.reduceLE, Int.reduceLT] at hr
                  obtain ⟨rfl, rfl⟩ := hr
                  refine ⟨vc, ?_⟩
                  replace hK := bind_s hK
                  obtain ⟨y6, hy, hK⟩ := hK
                  refine AWPL_callK [2, 3, 9, 10, 11, 12, 41, 42, 47, 48, 101] (W_same_Isomorphic hy) rfl rfl pcT rfl Try.call106 (.cons (.agg _ _ rfl (ArgsOk.get (.cons (.atom _ rfl) (.cons (.ownI _ _ _ _ _ y5.2 rfl (by simp) (by first | simp | exact List.take_of_length_le (by simp))) .nil))).2) (.cons (.agg _ _ rfl (ArgsOk.get (.cons (.atom _ rfl) (.cons (.atom _ rfl) .nil))).2) .nil)) (hscG trivial) (of_decide_eq_true rfl) (by first | rfl | simp [nI, nI1, nI0]) (by first | rfl | simp [nIB, nI0]) fun st' hr => ?_
                  simp only [go_sem, reduceIte, reduceCtorEq, Nat.reduceEqDiff, Nat.reduceLT, Nat.reduceLeDiff, Nat.reduceBEq, Nat.reduceAdd, Int.reduceLE, Int.reduceLT] at hr
                  subst hr
                  clear hy
                  refine AWPL_rn tab_ok 5 [2, 3, 9, 10, 11, 12, 16, 41, 42, 47, 48] fun c st' hr => ?_
                  simp only [go_sem, reduceIte, reduceCtorEq, Nat.reduceEqDiff, Nat.reduceLT, Nat.reduceLeDiff, Nat.reduceBEq, Nat.reduceAdd, Int.reduceLE, Int.reduceLT] at hr
                  obtain ⟨rfl, rfl⟩ := hr
                  refine ⟨vc, ?_⟩
                  refine AWPL_nil ?_
                  with_reducible refine thenC_normal ?_
                  refine AWP_seq ?_
                  refine AWP_rg tab_ok [2, 3, 9, 10, 11, 12, 41, 42, 47, 48, 105] fun c st' hr => ?_
                  simp only [go_sem, reduceIte, reduceCtorEq, Nat.reduceEqDiff, Nat.reduceLT, Nat.reduceLeDiff, Nat.reduceBEq, Nat.reduceAdd, Int.reduceLE, Int.reduceLT] at hr
                  obtain ⟨rfl, rfl⟩ := hr
                  refine ⟨vc, ?_⟩
                  with_reducible refine thenC_normal ?_
                  refine AWP_condP (y6.2 = 0) rfl bd (fun hb6 => ?_) (fun hb6 => ?_)
                  · replace hK := ite_t hK hb6
                    refine AWP_seq ?_
                    refine AWP_rg tab_ok [4, 5, 6] fun c st' hr => ?_
                    simp only [go_sem, reduceIte, reduceCtorEq, Nat.reduceEqDiff, Nat.reduceLT, Nat.reduceLeDiff, Nat.reduceBEq, Nat.reduceAdd, Int.reduceLE, Int.reduceLT] at hr
                    obtain ⟨rfl, rfl⟩ := hr
                    refine ⟨vc, ?_⟩
                    with_reducible refine thenC_normal ?_
                    refine AWP_ret ?_
                    with_reducible refine inBlockA_ret (thenC_ret (again_r (cutX_r (inBlockA_ret (inBlockA_ret (thenC_ret (again_r (cutX_r (inBlockA_ret (thenC_ret ?_))))))))))
                    replace hK := hpost2 _ hK
                    try dsimp only at hK
                    replace hK := hpost1 _ hK
                    try dsimp only at hK
                    cases hK
                    refine EndsRW [] (.inl rfl) (of_decide_eq_true rfl) (by simp) rfl (fun c x hr => ?_) trivial
                    simp only [go_sem, reduceIte, reduceCtorEq, Nat.reduceEqDiff, Nat.reduceLT, Nat.reduceLeDiff, Nat.reduceBEq, Nat.reduceAdd, Int.reduceLE, Int.reduceLT] at hr
                    obtain ⟨rfl, rfl⟩ := hr
                    exact ⟨rfl, endR⟩
                  · replace hK := ite_f hK hb6
                    refine AWP_skip ?_
                    with_reducible refine inBlockA_normal (thenC_normal ?_)
                    refine AWP_facts (by simp) fun hfx => ?_
                    simp only [factS, factV, fact1, fact0, factL0, lo, hi, maxLen, and_true, true_and] at hfx
                    refine AWP_rg tab_ok [2, 3, 9, 10, 11, 41, 42, 47, 48] fun c st' hr => ?_
                    simp only [go_sem, reduceIte, reduceCtorEq, Nat.reduceEqDiff, Nat.reduceLT, Nat.reduceLeDiff, Nat.reduceBEq, Nat.reduceAdd, Int.reduceLE, Int.reduceLT] at hr
                    obtain ⟨rfl, rfl⟩ := hr
                    refine ⟨vc, ?_⟩
                    clear hfx
                    refine again_n (v1 + 1) [0, 1, 2] hK mkWk
            · replace hK := ite_f hK hb3
              refine AWP_exit ?_
              with_reducible refine thenC_exit (again_x ?_)
              refine cutX_here () [0, 1, 2] (by have hq := hpost2 _ hK; exact hq) mkWk
          · clear hK; rintro _ hK
            try dsimp only at hK
            refine exS ⟨110, [(2, .ptr 0 0 0), (3, .ptr 1 0 0), (9, .own 2 y2.length), (10, .int .i64 (y3.getD ((2 ^ a1_0.toNat : Int) - 1).toNat 0)), (41, .int .i64 (2 ^ m_0.toNat : Int)), (42, .int .i64 v)], [some (.gen 46 2 [[.int .i64 m_0, .ints .i64 m_1]]), some (.gen 46 2 [[.int .i64 a1_0, .ints .i64 a1_1]]), some (.ints 3 .i64 y2)]⟩ rfl ?_
            with_reducible refine inBlockA_exit (inBlockA_normal (thenC_normal ?_))
            refine AWP_facts (by simp) fun hfx => ?_
            simp only [factS, factV, fact1, fact0, factL0, lo, hi, maxLen, and_true, true_and] at hfx
            refine AWP_rg tab_ok [2, 3, 9, 10, 41, 42] fun c st' hr => ?_
            simp only [go_sem, reduceIte, reduceCtorEq, Nat.reduceEqDiff, Nat.reduceLT, Nat.reduceLeDiff, Nat.reduceBEq, Nat.reduceAdd, Int.reduceLE, Int.reduceLT] at hr
            obtain ⟨rfl, rfl⟩ := hr
            refine ⟨vc, ?_⟩
            clear hfx
            refine again_n (v + 1) [0, 1, 2] hK mkWk
        · replace hK := ite_f hK hb2
          refine AWP_exit ?_
          with_reducible refine thenC_exit (again_x ?_)
          refine cutX_here () [] (by have hq := hpost1 _ hK; exact hq) mkWk
      · clear hK; rintro _ hK
        try dsimp only at hK
        refine exS ⟨110, [], []⟩ rfl ?_
        with_reducible refine inBlockA_exit (thenC_normal ?_)
        refine AWP_seq ?_
        refine AWP_rg tab_ok [4, 5, 6] fun c st' hr => ?_
        simp only [go_sem, reduceIte, reduceCtorEq, Nat.reduceEqDiff, Nat.reduceLT, Nat.reduceLeDiff, Nat.reduceBEq, Nat.reduceAdd, Int.reduceLE, Int.reduceLT] at hr
        obtain ⟨rfl, rfl⟩ := hr
        refine ⟨vc, ?_⟩
        with_reducible refine thenC_normal ?_
        refine AWP_ret ?_
        cases hK
        refine EndsRW [] (.inl rfl) (of_decide_eq_true rfl) (by simp) rfl (fun c x hr => ?_) trivial
        simp only [go_sem, reduceIte, reduceCtorEq, Nat.reduceEqDiff, Nat.reduceLT, Nat.reduceLeDiff, Nat.reduceBEq, Nat.reduceAdd, Int.reduceLE, Int.reduceLT] at hr
        obtain ⟨rfl, rfl⟩ := hr
        exact ⟨rfl, endR⟩

end Go.SH
