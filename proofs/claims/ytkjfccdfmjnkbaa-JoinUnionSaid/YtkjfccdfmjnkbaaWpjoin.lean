/-
  That the code computes these functions: join_size, join_Union, join_ranks. By a program of mine (shal.py). Conditions: none.
-/
import Derived.Test.YtkjfccdfmjnkbaaAxT
import Derived.Test.YtkjfccdfmjnkbaaAxR
import Derived.Test.YtkjfccdfmjnkbaaAxJm
import Derived.Test.YtkjfccdfmjnkbaaAxW
import Derived.Test.YtkjfccdfmjnkbaaAxP
import Derived.Test.YtkjfccdfmjnkbaaShelf
import Derived.Test.YtkjfccdfmjnkbaaSpjoin
import Derived.Test.YtkjfccdfmjnkbaaWpaxioms
import Derived.Test.YtkjfccdfmjnkbaaWpbits
set_option linter.unusedVariables false
set_option linter.unusedSimpArgs false
namespace Go.SH
open Go Go.AX Go.AX.Try Go.Proofs

set_option maxRecDepth 8000 in
set_option maxHeartbeats 4000000 in
theorem W_join_size {s : Int} {r : Int} (hK : join_size s = some r) : Pure Try.prog 62 [.int .i64 s] (.int .i64 r) [] := by
  refine Pure_introF tab_ok (n := 6) (l := [.tmp 2]) Try.func62 rfl rfl rfl (by simp) fun hfact w0 => ?_
  simp only [factL1, fact1, fact0, factL0, lo, hi, maxLen, and_true] at hfact
  unfold join_size at hK
  refine AWP_seq ?_
  -- region 0
  refine AWP_rg tab_ok [0] fun c st' hr => ?_
  simp only [go_sem, reduceIte, reduceCtorEq, Nat.reduceEqDiff, Nat.reduceLT, Nat.reduceLeDiff, Nat.reduceBEq, Nat.reduceAdd, Nat.reduceMul, Nat.reduceSub, Nat.reducePow, Int.reduceLE, Int.reduceLT, Int.reduceNeg, Int.reduceToNat, Int.reduceAdd, Int.reduceSub] at hr
  obtain ⟨rfl, rfl⟩ := hr
  refine ⟨vc, ?_⟩
  with_reducible refine thenC_normal ?_
  refine AWP_seq ?_
  -- region 1
  refine AWP_rl ?_
  replace hK := chk_some hK
  obtain ⟨h, hK⟩ := hK
  refine AWPL_rn tab_ok 2 [4] fun c st' hr => ?_
  simp only [go_sem, reduceIte, reduceCtorEq, Nat.reduceEqDiff, Nat.reduceLT, Nat.reduceLeDiff, Nat.reduceBEq, Nat.reduceAdd, Nat.reduceMul, Nat.reduceSub, Nat.reducePow, Int.reduceLE, Int.reduceLT, Int.reduceNeg, Int.reduceToNat, Int.reduceAdd, Int.reduceSub] at hr
  obtain ⟨rfl, rfl⟩ := hr
  refine ⟨vc, ?_⟩
  replace hK := bind_s hK
  obtain ⟨y, hy, hK⟩ := hK
  refine AWPL_callK [5] (W_bits_OnesCount hy) rfl rfl pcT rfl Try.call89 (.cons (.atom _ rfl) .nil) (hscG trivial) (of_decide_eq_true rfl) (by first | rfl | simp [nI, nI1, nI0]) (by first | rfl | simp [nIB, nI0]) fun st' hr => ?_
  simp only [go_sem, reduceIte, reduceCtorEq, Nat.reduceEqDiff, Nat.reduceLT, Nat.reduceLeDiff, Nat.reduceBEq, Nat.reduceAdd, Nat.reduceMul, Nat.reduceSub, Nat.reducePow, Int.reduceLE, Int.reduceLT, Int.reduceNeg, Int.reduceToNat, Int.reduceAdd, Int.reduceSub] at hr
  subst hr
  clear hy
  refine AWPL_rn tab_ok 1 [2] fun c st' hr => ?_
  simp only [go_sem, reduceIte, reduceCtorEq, Nat.reduceEqDiff, Nat.reduceLT, Nat.reduceLeDiff, Nat.reduceBEq, Nat.reduceAdd, Nat.reduceMul, Nat.reduceSub, Nat.reducePow, Int.reduceLE, Int.reduceLT, Int.reduceNeg, Int.reduceToNat, Int.reduceAdd, Int.reduceSub] at hr
  obtain ⟨rfl, rfl⟩ := hr
  refine ⟨vc, ?_⟩
  refine AWPL_nil ?_
  with_reducible refine thenC_normal ?_
  refine AWP_ret ?_
  cases hK
  refine EndsRW [] (.inl rfl) (of_decide_eq_true rfl) (by simp) rfl (fun c x hr => ?_) trivial
  simp only [go_sem, reduceIte, reduceCtorEq, Nat.reduceEqDiff, Nat.reduceLT, Nat.reduceLeDiff, Nat.reduceBEq, Nat.reduceAdd, Nat.reduceMul, Nat.reduceSub, Nat.reducePow, Int.reduceLE, Int.reduceLT, Int.reduceNeg, Int.reduceToNat, Int.reduceAdd, Int.reduceSub] at hr
  obtain ⟨rfl, rfl⟩ := hr
  exact ⟨rfl, endR⟩

set_option maxRecDepth 8000 in
set_option maxHeartbeats 4000000 in
theorem W_join_Union {a_0 : Int} {a_1 : List Int} {a1_0 : Int} {a1_1 : List Int} {r : Int × List Int × Int} (hK : join_Union a_0 a_1 a1_0 a1_1 = some r) : Pure Try.prog 22 [.agg [.int .i64 a_0, .ints .i64 a_1], .agg [.int .i64 a1_0, .ints .i64 a1_1]] (.tup [.agg [.int .i64 r.1, .own 0 r.2.1.length], .int .i64 r.2.2]) [(.ints 3 .i64 r.2.1)] := by
  refine Pure_introF tab_ok (n := 80) (l := [.cell 4 24, .tmp 5]) Try.func22 rfl rfl rfl (by simp) fun hfact w0 => ?_
  simp only [factL1, fact1, fact0, factL0, lo, hi, maxLen, and_true] at hfact
  unfold join_Union at hK
  refine AWP_seq ?_
  -- region 0
  refine AWP_rg tab_ok [2, 3, 4] fun c st' hr => ?_
  simp only [go_sem, reduceIte, reduceCtorEq, Nat.reduceEqDiff, Nat.reduceLT, Nat.reduceLeDiff, Nat.reduceBEq, Nat.reduceAdd, Nat.reduceMul, Nat.reduceSub, Nat.reducePow, Int.reduceLE, Int.reduceLT, Int.reduceNeg, Int.reduceToNat, Int.reduceAdd, Int.reduceSub] at hr
  obtain ⟨rfl, rfl⟩ := hr
  refine ⟨vc, ?_⟩
  with_reducible refine thenC_normal ?_
  refine AWP_ownH 2 1 (.ints 3 .i64 []) rfl rfl rfl fun st' hr => ?_
  simp only [go_sem, reduceIte, reduceCtorEq, Nat.reduceEqDiff, Nat.reduceLT, Nat.reduceLeDiff, Nat.reduceBEq, Nat.reduceAdd, Nat.reduceMul, Nat.reduceSub, Nat.reducePow, Int.reduceLE, Int.reduceLT, Int.reduceNeg, Int.reduceToNat, Int.reduceAdd, Int.reduceSub] at hr
  subst hr
  refine AWP_seq ?_
  -- region 1
  refine AWP_drawQ mixed (by kernel_rfl) ?_
  refine AWQL_rn tab_ok 1 [2, 3, 4, 15] fun c st' hr => ?_
  simp only [go_sem, reduceIte, reduceCtorEq, Nat.reduceEqDiff, Nat.reduceLT, Nat.reduceLeDiff, Nat.reduceBEq, Nat.reduceAdd, Nat.reduceMul, Nat.reduceSub, Nat.reducePow, Int.reduceLE, Int.reduceLT, Int.reduceNeg, Int.reduceToNat, Int.reduceAdd, Int.reduceSub] at hr
  obtain ⟨rfl, rfl⟩ := hr
  refine ⟨vc, ?_⟩
  replace hK := bind_s hK
  obtain ⟨y, hy, hK⟩ := hK
  refine AWQL_callK [2, 3, 4, 16] (W_axioms_Check hy) rfl rfl pcT rfl Try.call31 (.cons (.agg _ _ rfl (ArgsOk.get (.cons (.atom _ rfl) (.cons (.atom _ rfl) .nil))).2) .nil) (hscG trivial) (of_decide_eq_true rfl) rfl fun st' hr => ?_
  simp only [go_sem, reduceIte, reduceCtorEq, Nat.reduceEqDiff, Nat.reduceLT, Nat.reduceLeDiff, Nat.reduceBEq, Nat.reduceAdd, Nat.reduceMul, Nat.reduceSub, Nat.reducePow, Int.reduceLE, Int.reduceLT, Int.reduceNeg, Int.reduceToNat, Int.reduceAdd, Int.reduceSub] at hr
  subst hr
  clear hy
  refine AWQL_rn tab_ok 1 [2, 3, 4, 16, 17] fun c st' hr => ?_
  simp only [go_sem, reduceIte, reduceCtorEq, Nat.reduceEqDiff, Nat.reduceLT, Nat.reduceLeDiff, Nat.reduceBEq, Nat.reduceAdd, Nat.reduceMul, Nat.reduceSub, Nat.reducePow, Int.reduceLE, Int.reduceLT, Int.reduceNeg, Int.reduceToNat, Int.reduceAdd, Int.reduceSub] at hr
  obtain ⟨rfl, rfl⟩ := hr
  refine ⟨vc, ?_⟩
  replace hK := bind_s hK
  obtain ⟨y1, hy, hK⟩ := hK
  refine AWQL_callK [2, 3, 4, 16, 18] (W_axioms_Check hy) rfl rfl pcT rfl Try.call31 (.cons (.agg _ _ rfl (ArgsOk.get (.cons (.atom _ rfl) (.cons (.atom _ rfl) .nil))).2) .nil) (hscG trivial) (of_decide_eq_true rfl) rfl fun st' hr => ?_
  simp only [go_sem, reduceIte, reduceCtorEq, Nat.reduceEqDiff, Nat.reduceLT, Nat.reduceLeDiff, Nat.reduceBEq, Nat.reduceAdd, Nat.reduceMul, Nat.reduceSub, Nat.reducePow, Int.reduceLE, Int.reduceLT, Int.reduceNeg, Int.reduceToNat, Int.reduceAdd, Int.reduceSub] at hr
  subst hr
  clear hy
  refine AWQL_rn tab_ok 2 [2, 3, 4, 6, 7] fun c st' hr => ?_
  simp only [go_sem, reduceIte, reduceCtorEq, Nat.reduceEqDiff, Nat.reduceLT, Nat.reduceLeDiff, Nat.reduceBEq, Nat.reduceAdd, Nat.reduceMul, Nat.reduceSub, Nat.reducePow, Int.reduceLE, Int.reduceLT, Int.reduceNeg, Int.reduceToNat, Int.reduceAdd, Int.reduceSub] at hr
  obtain ⟨rfl, rfl⟩ := hr
  refine ⟨vc, ?_⟩
  refine AWQL_nil ?_
  with_reducible refine thenC_normal ?_
  refine AWP_seq ?_
  refine AWP_block ?_
  refine AWP_seq ?_
  -- region 2
  refine AWP_rg tab_ok [2, 3, 4, 6, 7, 19] fun c st' hr => ?_
  simp only [go_sem, reduceIte, reduceCtorEq, Nat.reduceEqDiff, Nat.reduceLT, Nat.reduceLeDiff, Nat.reduceBEq, Nat.reduceAdd, Nat.reduceMul, Nat.reduceSub, Nat.reducePow, Int.reduceLE, Int.reduceLT, Int.reduceNeg, Int.reduceToNat, Int.reduceAdd, Int.reduceSub] at hr
  obtain ⟨rfl, rfl⟩ := hr
  refine ⟨vc, ?_⟩
  with_reducible refine thenC_normal ?_
  refine AWP_condP (y ≠ 0) rfl bd (fun hb => ?_) (fun hb => ?_)
  · replace hK := ite_t hK hb
    refine AWP_seq ?_
    -- region 3
    refine AWP_rg tab_ok [4, 5] fun c st' hr => ?_
    simp only [go_sem, reduceIte, reduceCtorEq, Nat.reduceEqDiff, Nat.reduceLT, Nat.reduceLeDiff, Nat.reduceBEq, Nat.reduceAdd, Nat.reduceMul, Nat.reduceSub, Nat.reducePow, Int.reduceLE, Int.reduceLT, Int.reduceNeg, Int.reduceToNat, Int.reduceAdd, Int.reduceSub] at hr
    obtain ⟨rfl, rfl⟩ := hr
    refine ⟨vc, ?_⟩
    with_reducible refine thenC_normal ?_
    refine AWP_ownH 2 1 (.ints 3 .i64 []) rfl rfl rfl fun st' hr => ?_
    simp only [go_sem, reduceIte, reduceCtorEq, Nat.reduceEqDiff, Nat.reduceLT, Nat.reduceLeDiff, Nat.reduceBEq, Nat.reduceAdd, Nat.reduceMul, Nat.reduceSub, Nat.reducePow, Int.reduceLE, Int.reduceLT, Int.reduceNeg, Int.reduceToNat, Int.reduceAdd, Int.reduceSub] at hr
    subst hr
    refine AWP_ret ?_
    with_reducible refine inBlockA_ret (thenC_ret ?_)
    cases hK
    refine EndsRW [4] (.inl rfl) (of_decide_eq_true rfl) (by simp) rfl (fun c x hr => ?_) endH
    simp only [go_sem, reduceIte, reduceCtorEq, Nat.reduceEqDiff, Nat.reduceLT, Nat.reduceLeDiff, Nat.reduceBEq, Nat.reduceAdd, Nat.reduceMul, Nat.reduceSub, Nat.reducePow, Int.reduceLE, Int.reduceLT, Int.reduceNeg, Int.reduceToNat, Int.reduceAdd, Int.reduceSub] at hr
    obtain ⟨rfl, rfl⟩ := hr
    exact ⟨rfl, endR⟩
  · replace hK := ite_f hK hb
    refine AWP_seq ?_
    -- region 4
    refine AWP_rg tab_ok [2, 3, 4, 7, 24] fun c st' hr => ?_
    simp only [go_sem, reduceIte, reduceCtorEq, Nat.reduceEqDiff, Nat.reduceLT, Nat.reduceLeDiff, Nat.reduceBEq, Nat.reduceAdd, Nat.reduceMul, Nat.reduceSub, Nat.reducePow, Int.reduceLE, Int.reduceLT, Int.reduceNeg, Int.reduceToNat, Int.reduceAdd, Int.reduceSub] at hr
    obtain ⟨rfl, rfl⟩ := hr
    refine ⟨vc, ?_⟩
    with_reducible refine thenC_normal ?_
    refine AWP_condP (y1 ≠ 0) rfl bd (fun hb1 => ?_) (fun hb1 => ?_)
    · replace hK := ite_t hK hb1
      refine AWP_seq ?_
      -- region 5
      refine AWP_rg tab_ok [4, 5] fun c st' hr => ?_
      simp only [go_sem, reduceIte, reduceCtorEq, Nat.reduceEqDiff, Nat.reduceLT, Nat.reduceLeDiff, Nat.reduceBEq, Nat.reduceAdd, Nat.reduceMul, Nat.reduceSub, Nat.reducePow, Int.reduceLE, Int.reduceLT, Int.reduceNeg, Int.reduceToNat, Int.reduceAdd, Int.reduceSub] at hr
      obtain ⟨rfl, rfl⟩ := hr
      refine ⟨vc, ?_⟩
      with_reducible refine thenC_normal ?_
      refine AWP_ownH 2 1 (.ints 3 .i64 []) rfl rfl rfl fun st' hr => ?_
      simp only [go_sem, reduceIte, reduceCtorEq, Nat.reduceEqDiff, Nat.reduceLT, Nat.reduceLeDiff, Nat.reduceBEq, Nat.reduceAdd, Nat.reduceMul, Nat.reduceSub, Nat.reducePow, Int.reduceLE, Int.reduceLT, Int.reduceNeg, Int.reduceToNat, Int.reduceAdd, Int.reduceSub] at hr
      subst hr
      refine AWP_ret ?_
      with_reducible refine inBlockA_ret (thenC_ret ?_)
      cases hK
      refine EndsRW [4] (.inl rfl) (of_decide_eq_true rfl) (by simp) rfl (fun c x hr => ?_) endH
      simp only [go_sem, reduceIte, reduceCtorEq, Nat.reduceEqDiff, Nat.reduceLT, Nat.reduceLeDiff, Nat.reduceBEq, Nat.reduceAdd, Nat.reduceMul, Nat.reduceSub, Nat.reducePow, Int.reduceLE, Int.reduceLT, Int.reduceNeg, Int.reduceToNat, Int.reduceAdd, Int.reduceSub] at hr
      obtain ⟨rfl, rfl⟩ := hr
      exact ⟨rfl, endR⟩
    · replace hK := ite_f hK hb1
      refine AWP_seq ?_
      -- region 6
      refine AWP_rg tab_ok [2, 3, 4, 29] fun c st' hr => ?_
      simp only [go_sem, reduceIte, reduceCtorEq, Nat.reduceEqDiff, Nat.reduceLT, Nat.reduceLeDiff, Nat.reduceBEq, Nat.reduceAdd, Nat.reduceMul, Nat.reduceSub, Nat.reducePow, Int.reduceLE, Int.reduceLT, Int.reduceNeg, Int.reduceToNat, Int.reduceAdd, Int.reduceSub] at hr
      obtain ⟨rfl, rfl⟩ := hr
      refine ⟨vc, ?_⟩
      with_reducible refine thenC_normal ?_
      refine AWP_condP (a_0 ≠ a1_0) rfl bd (fun hb2 => ?_) (fun hb2 => ?_)
      · replace hK := ite_t hK hb2
        refine AWP_seq ?_
        -- region 7
        refine AWP_rg tab_ok [4, 5] fun c st' hr => ?_
        simp only [go_sem, reduceIte, reduceCtorEq, Nat.reduceEqDiff, Nat.reduceLT, Nat.reduceLeDiff, Nat.reduceBEq, Nat.reduceAdd, Nat.reduceMul, Nat.reduceSub, Nat.reducePow, Int.reduceLE, Int.reduceLT, Int.reduceNeg, Int.reduceToNat, Int.reduceAdd, Int.reduceSub] at hr
        obtain ⟨rfl, rfl⟩ := hr
        refine ⟨vc, ?_⟩
        with_reducible refine thenC_normal ?_
        refine AWP_ownH 2 1 (.ints 3 .i64 []) rfl rfl rfl fun st' hr => ?_
        simp only [go_sem, reduceIte, reduceCtorEq, Nat.reduceEqDiff, Nat.reduceLT, Nat.reduceLeDiff, Nat.reduceBEq, Nat.reduceAdd, Nat.reduceMul, Nat.reduceSub, Nat.reducePow, Int.reduceLE, Int.reduceLT, Int.reduceNeg, Int.reduceToNat, Int.reduceAdd, Int.reduceSub] at hr
        subst hr
        refine AWP_ret ?_
        with_reducible refine inBlockA_ret (thenC_ret ?_)
        cases hK
        refine EndsRW [4] (.inl rfl) (of_decide_eq_true rfl) (by simp) rfl (fun c x hr => ?_) endH
        simp only [go_sem, reduceIte, reduceCtorEq, Nat.reduceEqDiff, Nat.reduceLT, Nat.reduceLeDiff, Nat.reduceBEq, Nat.reduceAdd, Nat.reduceMul, Nat.reduceSub, Nat.reducePow, Int.reduceLE, Int.reduceLT, Int.reduceNeg, Int.reduceToNat, Int.reduceAdd, Int.reduceSub] at hr
        obtain ⟨rfl, rfl⟩ := hr
        exact ⟨rfl, endR⟩
      · replace hK := ite_f hK hb2
        refine AWP_skip ?_
        with_reducible refine inBlockA_normal (thenC_normal ?_)
        refine AWP_seq ?_
        -- region 8
        refine AWP_rg tab_ok [2, 3, 4, 8] fun c st' hr => ?_
        simp only [go_sem, reduceIte, reduceCtorEq, Nat.reduceEqDiff, Nat.reduceLT, Nat.reduceLeDiff, Nat.reduceBEq, Nat.reduceAdd, Nat.reduceMul, Nat.reduceSub, Nat.reducePow, Int.reduceLE, Int.reduceLT, Int.reduceNeg, Int.reduceToNat, Int.reduceAdd, Int.reduceSub] at hr
        obtain ⟨rfl, rfl⟩ := hr
        refine ⟨vc, ?_⟩
        with_reducible refine thenC_normal ?_
        refine AWP_seq ?_
        -- region 9
        refine AWP_rg tab_ok [2, 3, 4, 8, 9] fun c st' hr => ?_
        simp only [go_sem, reduceIte, reduceCtorEq, Nat.reduceEqDiff, Nat.reduceLT, Nat.reduceLeDiff, Nat.reduceBEq, Nat.reduceAdd, Nat.reduceMul, Nat.reduceSub, Nat.reducePow, Int.reduceLE, Int.reduceLT, Int.reduceNeg, Int.reduceToNat, Int.reduceAdd, Int.reduceSub] at hr
        obtain ⟨rfl, rfl⟩ := hr
        refine ⟨vc, ?_⟩
        with_reducible refine thenC_normal ?_
        refine AWP_own 9 (.ints 3 .i64 []) rfl rfl fun st' hr => ?_
        simp only [go_sem, reduceIte, reduceCtorEq, Nat.reduceEqDiff, Nat.reduceLT, Nat.reduceLeDiff, Nat.reduceBEq, Nat.reduceAdd, Nat.reduceMul, Nat.reduceSub, Nat.reducePow, Int.reduceLE, Int.reduceLT, Int.reduceNeg, Int.reduceToNat, Int.reduceAdd, Int.reduceSub] at hr
        subst hr
        refine AWP_seq ?_
        refine AWP_seq ?_
        -- region 10
        refine AWP_rg tab_ok [2, 3, 4, 8, 9, 37, 38, 39] fun c st' hr => ?_
        simp only [go_sem, reduceIte, reduceCtorEq, Nat.reduceEqDiff, Nat.reduceLT, Nat.reduceLeDiff, Nat.reduceBEq, Nat.reduceAdd, Nat.reduceMul, Nat.reduceSub, Nat.reducePow, Int.reduceLE, Int.reduceLT, Int.reduceNeg, Int.reduceToNat, Int.reduceAdd, Int.reduceSub] at hr
        obtain ⟨rfl, rfl⟩ := hr
        refine ⟨vc, ?_⟩
        with_reducible refine thenC_normal ?_
        refine AWP_block ?_
        refine AWP_loopX 1 (fun ((v, v1, v2) : Int × List Int × Int) => ⟨80, [(2, .ptr 0 0 0), (3, .ptr 1 0 0), (4, .ptr 2 0 0), (8, .int .i64 v), (9, .own 4 v1.length), (37, .ints .i64 a_1), (38, .int .i64 (a_1.length : Int)), (39, .int .i64 v2)], [some (.gen 24 2 [[.int .i64 a_0, .ints .i64 a_1]]), some (.gen 24 2 [[.int .i64 a1_0, .ints .i64 a1_1]]), some (.gen 24 2 [[.int .i64 0, .own 3 0]]), some (.ints 3 .i64 []), some (.ints 3 .i64 v1)]⟩) (fun (v3 : List Int) => ⟨80, [(2, .ptr 0 0 0), (4, .ptr 1 0 0), (9, .own 3 v3.length)], [some (.gen 24 2 [[.int .i64 a_0, .ints .i64 a_1]]), some (.gen 24 2 [[.int .i64 0, .own 2 0]]), some (.ints 3 .i64 []), some (.ints 3 .i64 v3)]⟩) (fun v => v) (0, [], 0) [0, 1, 2, 3, 4] hK mkWk ?_ ?_
        · clear hK; rintro ⟨v, v1, v2⟩ b hK hpost1
          try dsimp only at hK
          change AWP _ _ _ _ ⟨80, [(2, .ptr 0 0 0), (3, .ptr 1 0 0), (4, .ptr 2 0 0), (8, .int .i64 v), (9, .own 4 v1.length), (37, .ints .i64 a_1), (38, .int .i64 (a_1.length : Int)), (39, .int .i64 v2)], [some (.gen 24 2 [[.int .i64 a_0, .ints .i64 a_1]]), some (.gen 24 2 [[.int .i64 a1_0, .ints .i64 a1_1]]), some (.gen 24 2 [[.int .i64 0, .own 3 0]]), some (.ints 3 .i64 []), some (.ints 3 .i64 v1)]⟩
          refine AWP_seq ?_
          -- region 11
          refine AWP_rg tab_ok [2, 3, 4, 8, 9, 37, 38, 39, 40] fun c st' hr => ?_
          simp only [go_sem, reduceIte, reduceCtorEq, Nat.reduceEqDiff, Nat.reduceLT, Nat.reduceLeDiff, Nat.reduceBEq, Nat.reduceAdd, Nat.reduceMul, Nat.reduceSub, Nat.reducePow, Int.reduceLE, Int.reduceLT, Int.reduceNeg, Int.reduceToNat, Int.reduceAdd, Int.reduceSub] at hr
          obtain ⟨rfl, rfl⟩ := hr
          refine ⟨vc, ?_⟩
          with_reducible refine thenC_normal ?_
          refine AWP_seq ?_
          refine AWP_condP (v2 < (a_1.length : Int)) rfl bd (fun hb3 => ?_) (fun hb3 => ?_)
          · replace hK := ite_t hK hb3
            refine AWP_skip ?_
            with_reducible refine thenC_normal ?_
            refine AWP_seq ?_
            refine AWP_block ?_
            refine AWP_seq ?_
            -- region 12
            replace hK := chk_some hK
            obtain ⟨h, hK⟩ := hK
            refine AWP_rg tab_ok [2, 3, 4, 8, 9, 11, 37, 38, 39] fun c st' hr => ?_
            simp only [go_sem, reduceIte, reduceCtorEq, Nat.reduceEqDiff, Nat.reduceLT, Nat.reduceLeDiff, Nat.reduceBEq, Nat.reduceAdd, Nat.reduceMul, Nat.reduceSub, Nat.reducePow, Int.reduceLE, Int.reduceLT, Int.reduceNeg, Int.reduceToNat, Int.reduceAdd, Int.reduceSub] at hr
            obtain ⟨rfl, rfl⟩ := hr
            refine ⟨vc, ?_⟩
            with_reducible refine thenC_normal ?_
            refine AWP_seq ?_
            -- region 13
            refine AWP_rg tab_ok [2, 3, 4, 8, 9, 11, 37, 38, 39, 44, 45, 46] fun c st' hr => ?_
            simp only [go_sem, reduceIte, reduceCtorEq, Nat.reduceEqDiff, Nat.reduceLT, Nat.reduceLeDiff, Nat.reduceBEq, Nat.reduceAdd, Nat.reduceMul, Nat.reduceSub, Nat.reducePow, Int.reduceLE, Int.reduceLT, Int.reduceNeg, Int.reduceToNat, Int.reduceAdd, Int.reduceSub] at hr
            obtain ⟨rfl, rfl⟩ := hr
            refine ⟨vc, ?_⟩
            with_reducible refine thenC_normal ?_
            refine AWP_block ?_
            refine AWP_loopX 3 (fun ((v4, v5, v6) : Int × List Int × Int) => ⟨80, [(2, .ptr 0 0 0), (3, .ptr 1 0 0), (4, .ptr 2 0 0), (8, .int .i64 v4), (9, .own 4 v5.length), (11, .int .i64 (a_1.getD v2.toNat 0)), (37, .ints .i64 a_1), (38, .int .i64 (a_1.length : Int)), (39, .int .i64 v2), (44, .ints .i64 a1_1), (45, .int .i64 (a1_1.length : Int)), (46, .int .i64 v6)], [some (.gen 24 2 [[.int .i64 a_0, .ints .i64 a_1]]), some (.gen 24 2 [[.int .i64 a1_0, .ints .i64 a1_1]]), some (.gen 24 2 [[.int .i64 0, .own 3 0]]), some (.ints 3 .i64 []), some (.ints 3 .i64 v5)]⟩) (fun ((v7, v8) : Int × List Int) => ⟨80, [(2, .ptr 0 0 0), (3, .ptr 1 0 0), (4, .ptr 2 0 0), (8, .int .i64 v7), (9, .own 4 v8.length), (37, .ints .i64 a_1), (38, .int .i64 (a_1.length : Int)), (39, .int .i64 v2)], [some (.gen 24 2 [[.int .i64 a_0, .ints .i64 a_1]]), some (.gen 24 2 [[.int .i64 a1_0, .ints .i64 a1_1]]), some (.gen 24 2 [[.int .i64 0, .own 3 0]]), some (.ints 3 .i64 []), some (.ints 3 .i64 v8)]⟩) (fun v => v) (v, v1, 0) [0, 1, 2, 3, 4] hK mkWk ?_ ?_
            · clear hK; rintro ⟨v4, v5, v6⟩ b1 hK hpost2
              try dsimp only at hK
              change AWP _ _ _ _ ⟨80, [(2, .ptr 0 0 0), (3, .ptr 1 0 0), (4, .ptr 2 0 0), (8, .int .i64 v4), (9, .own 4 v5.length), (11, .int .i64 (a_1.getD v2.toNat 0)), (37, .ints .i64 a_1), (38, .int .i64 (a_1.length : Int)), (39, .int .i64 v2), (44, .ints .i64 a1_1), (45, .int .i64 (a1_1.length : Int)), (46, .int .i64 v6)], [some (.gen 24 2 [[.int .i64 a_0, .ints .i64 a_1]]), some (.gen 24 2 [[.int .i64 a1_0, .ints .i64 a1_1]]), some (.gen 24 2 [[.int .i64 0, .own 3 0]]), some (.ints 3 .i64 []), some (.ints 3 .i64 v5)]⟩
              refine AWP_seq ?_
              -- region 14
              refine AWP_rg tab_ok [2, 3, 4, 8, 9, 11, 37, 38, 39, 44, 45, 46, 47] fun c st' hr => ?_
              simp only [go_sem, reduceIte, reduceCtorEq, Nat.reduceEqDiff, Nat.reduceLT, Nat.reduceLeDiff, Nat.reduceBEq, Nat.reduceAdd, Nat.reduceMul, Nat.reduceSub, Nat.reducePow, Int.reduceLE, Int.reduceLT, Int.reduceNeg, Int.reduceToNat, Int.reduceAdd, Int.reduceSub] at hr
              obtain ⟨rfl, rfl⟩ := hr
              refine ⟨vc, ?_⟩
              with_reducible refine thenC_normal ?_
              refine AWP_seq ?_
              refine AWP_condP (v6 < (a1_1.length : Int)) rfl bd (fun hb4 => ?_) (fun hb4 => ?_)
              · replace hK := ite_t hK hb4
                refine AWP_skip ?_
                with_reducible refine thenC_normal ?_
                refine AWP_seq ?_
                refine AWP_block ?_
                refine AWP_seq ?_
                -- region 15
                replace hK := chk_some hK
                obtain ⟨h1, hK⟩ := hK
                refine AWP_rg tab_ok [2, 3, 4, 8, 9, 11, 13, 37, 38, 39, 44, 45, 46] fun c st' hr => ?_
                simp only [go_sem, reduceIte, reduceCtorEq, Nat.reduceEqDiff, Nat.reduceLT, Nat.reduceLeDiff, Nat.reduceBEq, Nat.reduceAdd, Nat.reduceMul, Nat.reduceSub, Nat.reducePow, Int.reduceLE, Int.reduceLT, Int.reduceNeg, Int.reduceToNat, Int.reduceAdd, Int.reduceSub] at hr
                obtain ⟨rfl, rfl⟩ := hr
                refine ⟨vc, ?_⟩
                with_reducible refine thenC_normal ?_
                refine AWP_seqJ (fun (v9, v10) => ⟨80, [(2, .ptr 0 0 0), (3, .ptr 1 0 0), (4, .ptr 2 0 0), (8, .int .i64 v9), (9, .own 4 v10.length), (11, .int .i64 (a_1.getD v2.toNat 0)), (13, .int .i64 (a1_1.getD v6.toNat 0)), (37, .ints .i64 a_1), (38, .int .i64 (a_1.length : Int)), (39, .int .i64 v2), (44, .ints .i64 a1_1), (45, .int .i64 (a1_1.length : Int)), (46, .int .i64 v6)], [some (.gen 24 2 [[.int .i64 a_0, .ints .i64 a_1]]), some (.gen 24 2 [[.int .i64 a1_0, .ints .i64 a1_1]]), some (.gen 24 2 [[.int .i64 0, .own 3 0]]), some (.ints 3 .i64 []), some (.ints 3 .i64 v10)]⟩) hK ?_ ?_
                · clear hK; intro j hK; try dsimp only at hK
                  refine AWP_D ?_
                  refine AWP_seq ?_
                  -- region 16
                  refine AWP_rl ?_
                  refine AWPL_rn tab_ok 3 [2, 3, 4, 8, 9, 11, 13, 37, 38, 39, 44, 45, 46, 52] fun c st' hr => ?_
                  simp only [go_sem, reduceIte, reduceCtorEq, Nat.reduceEqDiff, Nat.reduceLT, Nat.reduceLeDiff, Nat.reduceBEq, Nat.reduceAdd, Nat.reduceMul, Nat.reduceSub, Nat.reducePow, Int.reduceLE, Int.reduceLT, Int.reduceNeg, Int.reduceToNat, Int.reduceAdd, Int.reduceSub] at hr
                  obtain ⟨rfl, rfl⟩ := hr
                  refine ⟨vc, ?_⟩
                  replace hK := bind_s hK
                  obtain ⟨y2, hy, hK⟩ := hK
                  refine AWPL_callK [2, 3, 4, 8, 9, 11, 13, 37, 38, 39, 44, 45, 46, 53] (W_join_size hy) rfl rfl pcT rfl Try.call62 (.cons (.atom _ rfl) .nil) (hscG trivial) (of_decide_eq_true rfl) (by first | rfl | simp [nI, nI1, nI0]) (by first | rfl | simp [nIB, nI0]) fun st' hr => ?_
                  simp only [go_sem, reduceIte, reduceCtorEq, Nat.reduceEqDiff, Nat.reduceLT, Nat.reduceLeDiff, Nat.reduceBEq, Nat.reduceAdd, Nat.reduceMul, Nat.reduceSub, Nat.reducePow, Int.reduceLE, Int.reduceLT, Int.reduceNeg, Int.reduceToNat, Int.reduceAdd, Int.reduceSub] at hr
                  subst hr
                  clear hy
                  refine AWPL_rn tab_ok 1 [2, 3, 4, 8, 9, 11, 13, 14, 37, 38, 39, 44, 45, 46] fun c st' hr => ?_
                  simp only [go_sem, reduceIte, reduceCtorEq, Nat.reduceEqDiff, Nat.reduceLT, Nat.reduceLeDiff, Nat.reduceBEq, Nat.reduceAdd, Nat.reduceMul, Nat.reduceSub, Nat.reducePow, Int.reduceLE, Int.reduceLT, Int.reduceNeg, Int.reduceToNat, Int.reduceAdd, Int.reduceSub] at hr
                  obtain ⟨rfl, rfl⟩ := hr
                  refine ⟨vc, ?_⟩
                  refine AWPL_nil ?_
                  with_reducible refine thenC_normal ?_
                  refine AWP_seq ?_
                  -- region 17
                  refine AWP_rg tab_ok [2, 3, 4, 8, 9, 11, 13, 14, 37, 38, 39, 44, 45, 46, 56] fun c st' hr => ?_
                  simp only [go_sem, reduceIte, reduceCtorEq, Nat.reduceEqDiff, Nat.reduceLT, Nat.reduceLeDiff, Nat.reduceBEq, Nat.reduceAdd, Nat.reduceMul, Nat.reduceSub, Nat.reducePow, Int.reduceLE, Int.reduceLT, Int.reduceNeg, Int.reduceToNat, Int.reduceAdd, Int.reduceSub] at hr
                  obtain ⟨rfl, rfl⟩ := hr
                  refine ⟨vc, ?_⟩
                  with_reducible refine thenC_normal ?_
                  refine AWP_condP (v4 < y2) rfl bd (fun hb5 => ?_) (fun hb5 => ?_)
                  · replace hK := ite_t hK hb5
                    -- region 18
                    refine AWP_rg tab_ok [2, 3, 4, 8, 9, 11, 13, 37, 38, 39, 44, 45, 46] fun c st' hr => ?_
                    simp only [go_sem, reduceIte, reduceCtorEq, Nat.reduceEqDiff, Nat.reduceLT, Nat.reduceLeDiff, Nat.reduceBEq, Nat.reduceAdd, Nat.reduceMul, Nat.reduceSub, Nat.reducePow, Int.reduceLE, Int.reduceLT, Int.reduceNeg, Int.reduceToNat, Int.reduceAdd, Int.reduceSub] at hr
                    obtain ⟨rfl, rfl⟩ := hr
                    refine ⟨vc, ?_⟩
                    refine dq_own 9 (.ints 3 .i64 []) rfl rfl fun st' hr => ?_
                    simp only [go_sem, reduceIte, reduceCtorEq, Nat.reduceEqDiff, Nat.reduceLT, Nat.reduceLeDiff, Nat.reduceBEq, Nat.reduceAdd, Nat.reduceMul, Nat.reduceSub, Nat.reducePow, Int.reduceLE, Int.reduceLT, Int.reduceNeg, Int.reduceToNat, Int.reduceAdd, Int.reduceSub] at hr
                    subst hr
                    with_reducible refine dq_done ?_
                    refine join_n (y2, []) [0, 1, 2, 3, 5] hK mkWk
                  · replace hK := ite_f hK hb5
                    refine AWP_skip ?_
                    with_reducible refine dq_done ?_
                    refine join_n (v4, v5) [0, 1, 2, 3, 4] hK mkWk
                · clear hK; intro q hK; obtain ⟨v9, v10⟩ := q
                  try dsimp only at hK
                  change AWP _ _ _ _ ⟨80, [(2, .ptr 0 0 0), (3, .ptr 1 0 0), (4, .ptr 2 0 0), (8, .int .i64 v9), (9, .own 4 v10.length), (11, .int .i64 (a_1.getD v2.toNat 0)), (13, .int .i64 (a1_1.getD v6.toNat 0)), (37, .ints .i64 a_1), (38, .int .i64 (a_1.length : Int)), (39, .int .i64 v2), (44, .ints .i64 a1_1), (45, .int .i64 (a1_1.length : Int)), (46, .int .i64 v6)], [some (.gen 24 2 [[.int .i64 a_0, .ints .i64 a_1]]), some (.gen 24 2 [[.int .i64 a1_0, .ints .i64 a1_1]]), some (.gen 24 2 [[.int .i64 0, .own 3 0]]), some (.ints 3 .i64 []), some (.ints 3 .i64 v10)]⟩
                  refine AWP_seq ?_
                  -- region 19
                  refine AWP_rl ?_
                  refine AWPL_rn tab_ok 3 [2, 3, 4, 8, 9, 11, 13, 37, 38, 39, 44, 45, 46, 60] fun c st' hr => ?_
                  simp only [go_sem, reduceIte, reduceCtorEq, Nat.reduceEqDiff, Nat.reduceLT, Nat.reduceLeDiff, Nat.reduceBEq, Nat.reduceAdd, Nat.reduceMul, Nat.reduceSub, Nat.reducePow, Int.reduceLE, Int.reduceLT, Int.reduceNeg, Int.reduceToNat, Int.reduceAdd, Int.reduceSub] at hr
                  obtain ⟨rfl, rfl⟩ := hr
                  refine ⟨vc, ?_⟩
                  replace hK := bind_s hK
                  obtain ⟨y3, hy, hK⟩ := hK
                  refine AWPL_callK [2, 3, 4, 8, 9, 11, 13, 37, 38, 39, 44, 45, 46, 61] (W_join_size hy) rfl rfl pcT rfl Try.call62 (.cons (.atom _ rfl) .nil) (hscG trivial) (of_decide_eq_true rfl) (by first | rfl | simp [nI, nI1, nI0]) (by first | rfl | simp [nIB, nI0]) fun st' hr => ?_
                  simp only [go_sem, reduceIte, reduceCtorEq, Nat.reduceEqDiff, Nat.reduceLT, Nat.reduceLeDiff, Nat.reduceBEq, Nat.reduceAdd, Nat.reduceMul, Nat.reduceSub, Nat.reducePow, Int.reduceLE, Int.reduceLT, Int.reduceNeg, Int.reduceToNat, Int.reduceAdd, Int.reduceSub] at hr
                  subst hr
                  clear hy
                  refine AWPL_rn tab_ok 2 [2, 3, 4, 8, 9, 11, 13, 37, 38, 39, 44, 45, 46, 63] fun c st' hr => ?_
                  simp only [go_sem, reduceIte, reduceCtorEq, Nat.reduceEqDiff, Nat.reduceLT, Nat.reduceLeDiff, Nat.reduceBEq, Nat.reduceAdd, Nat.reduceMul, Nat.reduceSub, Nat.reducePow, Int.reduceLE, Int.reduceLT, Int.reduceNeg, Int.reduceToNat, Int.reduceAdd, Int.reduceSub] at hr
                  obtain ⟨rfl, rfl⟩ := hr
                  refine ⟨vc, ?_⟩
                  refine AWPL_nil ?_
                  with_reducible refine thenC_normal ?_
                  refine AWP_condP (y3 = v9) rfl bd (fun hb6 => ?_) (fun hb6 => ?_)
                  · replace hK := ite_t hK hb6
                    -- region 20
                    replace hK := chk_some hK
                    obtain ⟨h2, hK⟩ := hK
                    refine AWP_rg tab_ok [2, 3, 4, 8, 9, 11, 37, 38, 39, 44, 45, 46] fun c st' hr => ?_
                    simp only [go_sem, reduceIte, reduceCtorEq, Nat.reduceEqDiff, Nat.reduceLT, Nat.reduceLeDiff, Nat.reduceBEq, Nat.reduceAdd, Nat.reduceMul, Nat.reduceSub, Nat.reducePow, Int.reduceLE, Int.reduceLT, Int.reduceNeg, Int.reduceToNat, Int.reduceAdd, Int.reduceSub] at hr
                    obtain ⟨rfl, rfl⟩ := hr
                    refine ⟨vc, ?_⟩
                    with_reducible refine inBlockA_normal (thenC_normal ?_)
                    -- region 21
                    refine AWP_facts (by simp) fun hfx => ?_
                    simp only [factS, factV, fact1, fact0, factL0, lo, hi, maxLen, and_true, true_and] at hfx
                    refine AWP_rg tab_ok [2, 3, 4, 8, 9, 11, 37, 38, 39, 44, 45, 46] fun c st' hr => ?_
                    simp only [go_sem, reduceIte, reduceCtorEq, Nat.reduceEqDiff, Nat.reduceLT, Nat.reduceLeDiff, Nat.reduceBEq, Nat.reduceAdd, Nat.reduceMul, Nat.reduceSub, Nat.reducePow, Int.reduceLE, Int.reduceLT, Int.reduceNeg, Int.reduceToNat, Int.reduceAdd, Int.reduceSub] at hr
                    obtain ⟨rfl, rfl⟩ := hr
                    refine ⟨vc, ?_⟩
                    clear hfx
                    refine again_n (v9, v10 ++ [ior (a_1.getD v2.toNat 0) (a1_1.getD v6.toNat 0)], v6 + 1) [0, 1, 2, 3, 6] hK mkWk
                  · replace hK := ite_f hK hb6
                    refine AWP_skip ?_
                    with_reducible refine inBlockA_normal (thenC_normal ?_)
                    -- region 21
                    refine AWP_facts (by simp) fun hfx => ?_
                    simp only [factS, factV, fact1, fact0, factL0, lo, hi, maxLen, and_true, true_and] at hfx
                    refine AWP_rg tab_ok [2, 3, 4, 8, 9, 11, 37, 38, 39, 44, 45, 46] fun c st' hr => ?_
                    simp only [go_sem, reduceIte, reduceCtorEq, Nat.reduceEqDiff, Nat.reduceLT, Nat.reduceLeDiff, Nat.reduceBEq, Nat.reduceAdd, Nat.reduceMul, Nat.reduceSub, Nat.reducePow, Int.reduceLE, Int.reduceLT, Int.reduceNeg, Int.reduceToNat, Int.reduceAdd, Int.reduceSub] at hr
                    obtain ⟨rfl, rfl⟩ := hr
                    refine ⟨vc, ?_⟩
                    clear hfx
                    refine again_n (v9, v10, v6 + 1) [0, 1, 2, 3, 4] hK mkWk
              · replace hK := ite_f hK hb4
                refine AWP_exit ?_
                with_reducible refine thenC_exit (again_x ?_)
                refine cutX_here (v4, v5) [0, 1, 2, 3, 4] (by have hq := hpost2 _ hK; exact hq) mkWk
            · clear hK; rintro ⟨v7, v8⟩ hK
              try dsimp only at hK
              refine exS ⟨80, [(2, .ptr 0 0 0), (3, .ptr 1 0 0), (4, .ptr 2 0 0), (8, .int .i64 v7), (9, .own 4 v8.length), (37, .ints .i64 a_1), (38, .int .i64 (a_1.length : Int)), (39, .int .i64 v2)], [some (.gen 24 2 [[.int .i64 a_0, .ints .i64 a_1]]), some (.gen 24 2 [[.int .i64 a1_0, .ints .i64 a1_1]]), some (.gen 24 2 [[.int .i64 0, .own 3 0]]), some (.ints 3 .i64 []), some (.ints 3 .i64 v8)]⟩ rfl ?_
              with_reducible refine inBlockA_exit (inBlockA_normal (thenC_normal ?_))
              -- region 22
              refine AWP_facts (by simp) fun hfx => ?_
              simp only [factS, factV, fact1, fact0, factL0, lo, hi, maxLen, and_true, true_and] at hfx
              refine AWP_rg tab_ok [2, 3, 4, 8, 9, 37, 38, 39] fun c st' hr => ?_
              simp only [go_sem, reduceIte, reduceCtorEq, Nat.reduceEqDiff, Nat.reduceLT, Nat.reduceLeDiff, Nat.reduceBEq, Nat.reduceAdd, Nat.reduceMul, Nat.reduceSub, Nat.reducePow, Int.reduceLE, Int.reduceLT, Int.reduceNeg, Int.reduceToNat, Int.reduceAdd, Int.reduceSub] at hr
              obtain ⟨rfl, rfl⟩ := hr
              refine ⟨vc, ?_⟩
              clear hfx
              refine again_n (v7, v8, v2 + 1) [0, 1, 2, 3, 4] hK mkWk
          · replace hK := ite_f hK hb3
            refine AWP_exit ?_
            with_reducible refine thenC_exit (again_x ?_)
            refine cutX_here v1 [0, 2, 3, 4] (by have hq := hpost1 _ hK; exact hq) mkWk
        · clear hK; rintro v3 hK
          try dsimp only at hK
          refine exS ⟨80, [(2, .ptr 0 0 0), (4, .ptr 1 0 0), (9, .own 3 v3.length)], [some (.gen 24 2 [[.int .i64 a_0, .ints .i64 a_1]]), some (.gen 24 2 [[.int .i64 0, .own 2 0]]), some (.ints 3 .i64 []), some (.ints 3 .i64 v3)]⟩ rfl ?_
          with_reducible refine inBlockA_exit (thenC_normal ?_)
          refine AWP_seq ?_
          -- region 23
          refine AWP_rl ?_
          refine AWPL_rn tab_ok 1 [2, 4, 9, 72] fun c st' hr => ?_
          simp only [go_sem, reduceIte, reduceCtorEq, Nat.reduceEqDiff, Nat.reduceLT, Nat.reduceLeDiff, Nat.reduceBEq, Nat.reduceAdd, Nat.reduceMul, Nat.reduceSub, Nat.reducePow, Int.reduceLE, Int.reduceLT, Int.reduceNeg, Int.reduceToNat, Int.reduceAdd, Int.reduceSub] at hr
          obtain ⟨rfl, rfl⟩ := hr
          refine ⟨vc, ?_⟩
          replace hK := chk_some hK
          obtain ⟨h3, hK⟩ := hK
          refine AWPL_sort [2, 4, 9] Try.lays189 rfl rfl pcT rfl Try.call63 (of_decide_eq_true rfl) rfl rfl h3 fun st' hr => ?_
          simp only [go_sem, reduceIte, reduceCtorEq, Nat.reduceEqDiff, Nat.reduceLT, Nat.reduceLeDiff, Nat.reduceBEq, Nat.reduceAdd, Nat.reduceMul, Nat.reduceSub, Nat.reducePow, Int.reduceLE, Int.reduceLT, Int.reduceNeg, Int.reduceToNat, Int.reduceAdd, Int.reduceSub] at hr
          subst hr
          refine AWPL_stP [(2, .ptr 0 0 0), (4, .ptr 1 0 0), (9, .own 3 ((sortL v3).length))] (by simp [SameS, AX.look, sortL_len]) ?_
          refine AWPL_nil ?_
          with_reducible refine thenC_normal ?_
          refine AWP_seq ?_
          -- region 24
          replace hK := chk_some hK
          obtain ⟨h5, hK⟩ := hK
          refine AWP_drawJ ⟨80, [(4, .ptr 1 0 0), (5, .int .i64 0)], [some (.gen 24 2 [[.int .i64 a_0, .ints .i64 a_1]]), some (.gen 24 2 [[.int .i64 a_0, .own 4 ((uniqL (sortL v3)).length)]]), some (.ints 3 .i64 []), some (.ints 3 .i64 (uniqL (sortL v3) ++ List.replicate ((sortL v3).length - (uniqL (sortL v3)).length) 0)), some (.ints 3 .i64 (uniqL (sortL v3)))]⟩ mixed ?_ ?_
          · refine AWPB_memo fun AA hAA => ?_
            have hn : AA 0 #[true, true, true, true, true, true, true, true] ⟨80, [(4, .ptr 1 0 0), (5, .int .i64 0)], [some (.gen 24 2 [[.int .i64 a_0, .ints .i64 a_1]]), some (.gen 24 2 [[.int .i64 a_0, .own 4 ((uniqL (sortL v3)).length)]]), some (.ints 3 .i64 []), some (.ints 3 .i64 (uniqL (sortL v3) ++ List.replicate ((sortL v3).length - (uniqL (sortL v3)).length) 0)), some (.ints 3 .i64 (uniqL (sortL v3)))]⟩ := (hAA _ _ _).2 (by
              exact AWPB_end [0, 1, 2, 3, 4] (by kernel_rfl) mkWk)
            have hn1 : AA 1 #[true, true, true, true, true, true, true, false] ⟨80, [(4, .ptr 1 0 0)], [some (.gen 24 2 [[.int .i64 a_0, .ints .i64 a_1]]), some (.gen 24 2 [[.int .i64 a_0, .own 4 ((uniqL (sortL v3)).length)]]), some (.ints 3 .i64 []), some (.ints 3 .i64 (uniqL (sortL v3) ++ List.replicate ((sortL v3).length - (uniqL (sortL v3)).length) 0)), some (.ints 3 .i64 (uniqL (sortL v3)))]⟩ := (hAA _ _ _).2 (by
              refine AWPB_take tab_ok [4, 5] 7 _ rfl rfl (by kernel_rfl) fun c st' hr => ?_
              simp only [go_sem, reduceIte, reduceCtorEq, Nat.reduceEqDiff, Nat.reduceLT, Nat.reduceLeDiff, Nat.reduceBEq, Nat.reduceAdd, Nat.reduceMul, Nat.reduceSub, Nat.reducePow, Int.reduceLE, Int.reduceLT, Int.reduceNeg, Int.reduceToNat, Int.reduceAdd, Int.reduceSub] at hr
              obtain ⟨rfl, rfl⟩ := hr
              refine ⟨vc, ?_⟩
              exact AWPB_wk [0, 1, 2, 3, 4] mkWk ((hAA _ _ _).1 hn))
            have hn2 : AA 2 #[true, true, true, true, true, true, false, false] ⟨80, [(4, .ptr 1 0 0), (79, .agg [.int .i64 a_0, .own 4 ((uniqL (sortL v3)).length)])], [some (.gen 24 2 [[.int .i64 a_0, .ints .i64 a_1]]), some (.gen 24 2 [[.int .i64 0, .own 2 0]]), some (.ints 3 .i64 []), some (.ints 3 .i64 (uniqL (sortL v3) ++ List.replicate ((sortL v3).length - (uniqL (sortL v3)).length) 0)), some (.ints 3 .i64 (uniqL (sortL v3)))]⟩ := (hAA _ _ _).2 (by
              refine AWPB_one 6 _ (by kernel_rfl) rfl ?_
              refine AWPL_rn tab_ok 1 [4, 5] fun c st' hr => ?_
              simp only [go_sem, reduceIte, reduceCtorEq, Nat.reduceEqDiff, Nat.reduceLT, Nat.reduceLeDiff, Nat.reduceBEq, Nat.reduceAdd, Nat.reduceMul, Nat.reduceSub, Nat.reducePow, Int.reduceLE, Int.reduceLT, Int.reduceNeg, Int.reduceToNat, Int.reduceAdd, Int.reduceSub] at hr
              obtain ⟨rfl, rfl⟩ := hr
              refine ⟨vc, ?_⟩
              refine AWPL_nil ?_
              refine QB_normal ?_
              exact AWPB_wk [0, 1, 2, 3, 4] mkWk ((hAA _ _ _).1 hn1))
            have hn3 : AA 3 #[true, true, true, true, true, false, false, false] ⟨80, [(4, .ptr 1 0 0), (75, .int .i64 a_0), (78, .own 4 ((uniqL (sortL v3)).length))], [some (.gen 24 2 [[.int .i64 a_0, .ints .i64 a_1]]), some (.gen 24 2 [[.int .i64 0, .own 2 0]]), some (.ints 3 .i64 []), some (.ints 3 .i64 (uniqL (sortL v3) ++ List.replicate ((sortL v3).length - (uniqL (sortL v3)).length) 0)), some (.ints 3 .i64 (uniqL (sortL v3)))]⟩ := (hAA _ _ _).2 (by
              refine AWPB_one 5 _ (by kernel_rfl) rfl ?_
              refine AWPL_rn tab_ok 1 [4, 5, 79] fun c st' hr => ?_
              simp only [go_sem, reduceIte, reduceCtorEq, Nat.reduceEqDiff, Nat.reduceLT, Nat.reduceLeDiff, Nat.reduceBEq, Nat.reduceAdd, Nat.reduceMul, Nat.reduceSub, Nat.reducePow, Int.reduceLE, Int.reduceLT, Int.reduceNeg, Int.reduceToNat, Int.reduceAdd, Int.reduceSub] at hr
              obtain ⟨rfl, rfl⟩ := hr
              refine ⟨vc, ?_⟩
              refine AWPL_nil ?_
              refine QB_normal ?_
              exact AWPB_wk [0, 1, 2, 3, 4] mkWk ((hAA _ _ _).1 hn2))
            have hn4 : AA 4 #[true, true, true, true, false, false, false, false] ⟨80, [(4, .ptr 1 0 0), (75, .int .i64 a_0), (77, .own 3 ((uniqL (sortL v3)).length))], [some (.gen 24 2 [[.int .i64 a_0, .ints .i64 a_1]]), some (.gen 24 2 [[.int .i64 0, .own 2 0]]), some (.ints 3 .i64 []), some (.ints 3 .i64 (uniqL (sortL v3) ++ List.replicate ((sortL v3).length - (uniqL (sortL v3)).length) 0))]⟩ := (hAA _ _ _).2 (by
              refine AWPB_one 4 _ (by kernel_rfl) rfl ?_
              refine AWPL_clone [4, 5, 75, 78, 79] (uniqL (sortL v3)) 3 Try.laysNm215 rfl rfl pcT rfl Try.call64 (of_decide_eq_true rfl) rfl rfl (by simp) h5 (by simp) rfl fun st' hr => ?_
              simp only [go_sem, reduceIte, reduceCtorEq, Nat.reduceEqDiff, Nat.reduceLT, Nat.reduceLeDiff, Nat.reduceBEq, Nat.reduceAdd, Nat.reduceMul, Nat.reduceSub, Nat.reducePow, Int.reduceLE, Int.reduceLT, Int.reduceNeg, Int.reduceToNat, Int.reduceAdd, Int.reduceSub] at hr
              subst hr
              refine AWPL_nil ?_
              refine QB_normal ?_
              exact AWPB_wk [0, 1, 2, 3, 4] mkWk ((hAA _ _ _).1 hn3))
            have hn5 : AA 5 #[true, true, true, false, false, false, false, false] ⟨80, [(4, .ptr 1 0 0), (75, .int .i64 a_0), (76, .own 3 ((sortL v3).length))], [some (.gen 24 2 [[.int .i64 a_0, .ints .i64 a_1]]), some (.gen 24 2 [[.int .i64 0, .own 2 0]]), some (.ints 3 .i64 []), some (.ints 3 .i64 (sortL v3))]⟩ := (hAA _ _ _).2 (by
              refine AWPB_one 3 _ (by kernel_rfl) rfl ?_
              refine AWPL_compact [4, 5, 75, 77, 78, 79] Try.laysNm220 rfl rfl pcT rfl Try.call65 (of_decide_eq_true rfl) rfl rfl fun st' hr => ?_
              simp only [go_sem, reduceIte, reduceCtorEq, Nat.reduceEqDiff, Nat.reduceLT, Nat.reduceLeDiff, Nat.reduceBEq, Nat.reduceAdd, Nat.reduceMul, Nat.reduceSub, Nat.reducePow, Int.reduceLE, Int.reduceLT, Int.reduceNeg, Int.reduceToNat, Int.reduceAdd, Int.reduceSub] at hr
              subst hr
              refine AWPL_nil ?_
              refine QB_normal ?_
              exact AWPB_wk [0, 1, 2, 3] mkWk ((hAA _ _ _).1 hn4))
            have hn6 : AA 4 #[true, false, true, true, true, false, false, false] ⟨80, [(4, .ptr 1 0 0), (74, .ptr 0 0 0), (78, .own 4 ((uniqL (sortL v3)).length))], [some (.gen 24 2 [[.int .i64 a_0, .ints .i64 a_1]]), some (.gen 24 2 [[.int .i64 0, .own 2 0]]), some (.ints 3 .i64 []), some (.ints 3 .i64 (uniqL (sortL v3) ++ List.replicate ((sortL v3).length - (uniqL (sortL v3)).length) 0)), some (.ints 3 .i64 (uniqL (sortL v3)))]⟩ := (hAA _ _ _).2 (by
              refine AWPB_one 1 _ (by kernel_rfl) rfl ?_
              refine AWPL_rn tab_ok 1 [4, 5, 75, 78, 79] fun c st' hr => ?_
              simp only [go_sem, reduceIte, reduceCtorEq, Nat.reduceEqDiff, Nat.reduceLT, Nat.reduceLeDiff, Nat.reduceBEq, Nat.reduceAdd, Nat.reduceMul, Nat.reduceSub, Nat.reducePow, Int.reduceLE, Int.reduceLT, Int.reduceNeg, Int.reduceToNat, Int.reduceAdd, Int.reduceSub] at hr
              obtain ⟨rfl, rfl⟩ := hr
              refine ⟨vc, ?_⟩
              refine AWPL_nil ?_
              refine QB_normal ?_
              exact AWPB_wk [0, 1, 2, 3, 4] mkWk ((hAA _ _ _).1 hn3))
            have hn7 : AA 5 #[true, false, true, true, false, false, false, false] ⟨80, [(4, .ptr 1 0 0), (74, .ptr 0 0 0), (77, .own 3 ((uniqL (sortL v3)).length))], [some (.gen 24 2 [[.int .i64 a_0, .ints .i64 a_1]]), some (.gen 24 2 [[.int .i64 0, .own 2 0]]), some (.ints 3 .i64 []), some (.ints 3 .i64 (uniqL (sortL v3) ++ List.replicate ((sortL v3).length - (uniqL (sortL v3)).length) 0))]⟩ := (hAA _ _ _).2 (by
              refine AWPB_two 1 4 _ _ (by kernel_rfl) rfl rfl ?_ ?_
              · skip
                refine AWPL_rn tab_ok 1 [4, 5, 75, 77, 78, 79] fun c st' hr => ?_
                simp only [go_sem, reduceIte, reduceCtorEq, Nat.reduceEqDiff, Nat.reduceLT, Nat.reduceLeDiff, Nat.reduceBEq, Nat.reduceAdd, Nat.reduceMul, Nat.reduceSub, Nat.reducePow, Int.reduceLE, Int.reduceLT, Int.reduceNeg, Int.reduceToNat, Int.reduceAdd, Int.reduceSub] at hr
                obtain ⟨rfl, rfl⟩ := hr
                refine ⟨vc, ?_⟩
                refine AWPL_nil ?_
                refine QB_normal ?_
                exact AWPB_wk [0, 1, 2, 3] mkWk ((hAA _ _ _).1 hn4)
              · skip
                refine AWPL_clone [4, 5, 74, 75, 78, 79] (uniqL (sortL v3)) 3 Try.laysNm215 rfl rfl pcT rfl Try.call64 (of_decide_eq_true rfl) rfl rfl (by simp) h5 (by simp) rfl fun st' hr => ?_
                simp only [go_sem, reduceIte, reduceCtorEq, Nat.reduceEqDiff, Nat.reduceLT, Nat.reduceLeDiff, Nat.reduceBEq, Nat.reduceAdd, Nat.reduceMul, Nat.reduceSub, Nat.reducePow, Int.reduceLE, Int.reduceLT, Int.reduceNeg, Int.reduceToNat, Int.reduceAdd, Int.reduceSub] at hr
                subst hr
                refine AWPL_nil ?_
                refine QB_normal ?_
                exact AWPB_wk [0, 1, 2, 3, 4] mkWk ((hAA _ _ _).1 hn6))
            have hn8 : AA 6 #[true, false, true, false, false, false, false, false] ⟨80, [(4, .ptr 1 0 0), (74, .ptr 0 0 0), (76, .own 3 ((sortL v3).length))], [some (.gen 24 2 [[.int .i64 a_0, .ints .i64 a_1]]), some (.gen 24 2 [[.int .i64 0, .own 2 0]]), some (.ints 3 .i64 []), some (.ints 3 .i64 (sortL v3))]⟩ := (hAA _ _ _).2 (by
              refine AWPB_two 1 3 _ _ (by kernel_rfl) rfl rfl ?_ ?_
              · skip
                refine AWPL_rn tab_ok 1 [4, 5, 75, 76, 77, 78, 79] fun c st' hr => ?_
                simp only [go_sem, reduceIte, reduceCtorEq, Nat.reduceEqDiff, Nat.reduceLT, Nat.reduceLeDiff, Nat.reduceBEq, Nat.reduceAdd, Nat.reduceMul, Nat.reduceSub, Nat.reducePow, Int.reduceLE, Int.reduceLT, Int.reduceNeg, Int.reduceToNat, Int.reduceAdd, Int.reduceSub] at hr
                obtain ⟨rfl, rfl⟩ := hr
                refine ⟨vc, ?_⟩
                refine AWPL_nil ?_
                refine QB_normal ?_
                exact AWPB_wk [0, 1, 2, 3] mkWk ((hAA _ _ _).1 hn5)
              · skip
                refine AWPL_compact [4, 5, 74, 75, 77, 78, 79] Try.laysNm220 rfl rfl pcT rfl Try.call65 (of_decide_eq_true rfl) rfl rfl fun st' hr => ?_
                simp only [go_sem, reduceIte, reduceCtorEq, Nat.reduceEqDiff, Nat.reduceLT, Nat.reduceLeDiff, Nat.reduceBEq, Nat.reduceAdd, Nat.reduceMul, Nat.reduceSub, Nat.reducePow, Int.reduceLE, Int.reduceLT, Int.reduceNeg, Int.reduceToNat, Int.reduceAdd, Int.reduceSub] at hr
                subst hr
                refine AWPL_nil ?_
                refine QB_normal ?_
                exact AWPB_wk [0, 1, 2, 3] mkWk ((hAA _ _ _).1 hn7))
            have hn9 : AA 5 #[false, false, true, true, true, false, false, false] ⟨80, [(2, .ptr 0 0 0), (4, .ptr 1 0 0), (78, .own 4 ((uniqL (sortL v3)).length))], [some (.gen 24 2 [[.int .i64 a_0, .ints .i64 a_1]]), some (.gen 24 2 [[.int .i64 0, .own 2 0]]), some (.ints 3 .i64 []), some (.ints 3 .i64 (uniqL (sortL v3) ++ List.replicate ((sortL v3).length - (uniqL (sortL v3)).length) 0)), some (.ints 3 .i64 (uniqL (sortL v3)))]⟩ := (hAA _ _ _).2 (by
              refine AWPB_one 0 _ (by kernel_rfl) rfl ?_
              refine AWPL_rn tab_ok 1 [4, 5, 74, 75, 78, 79] fun c st' hr => ?_
              simp only [go_sem, reduceIte, reduceCtorEq, Nat.reduceEqDiff, Nat.reduceLT, Nat.reduceLeDiff, Nat.reduceBEq, Nat.reduceAdd, Nat.reduceMul, Nat.reduceSub, Nat.reducePow, Int.reduceLE, Int.reduceLT, Int.reduceNeg, Int.reduceToNat, Int.reduceAdd, Int.reduceSub] at hr
              obtain ⟨rfl, rfl⟩ := hr
              refine ⟨vc, ?_⟩
              refine AWPL_nil ?_
              refine QB_normal ?_
              exact AWPB_wk [0, 1, 2, 3, 4] mkWk ((hAA _ _ _).1 hn6))
            have hn10 : AA 6 #[false, false, true, true, false, false, false, false] ⟨80, [(2, .ptr 0 0 0), (4, .ptr 1 0 0), (77, .own 3 ((uniqL (sortL v3)).length))], [some (.gen 24 2 [[.int .i64 a_0, .ints .i64 a_1]]), some (.gen 24 2 [[.int .i64 0, .own 2 0]]), some (.ints 3 .i64 []), some (.ints 3 .i64 (uniqL (sortL v3) ++ List.replicate ((sortL v3).length - (uniqL (sortL v3)).length) 0))]⟩ := (hAA _ _ _).2 (by
              refine AWPB_two 0 4 _ _ (by kernel_rfl) rfl rfl ?_ ?_
              · skip
                refine AWPL_rn tab_ok 1 [4, 5, 74, 75, 77, 78, 79] fun c st' hr => ?_
                simp only [go_sem, reduceIte, reduceCtorEq, Nat.reduceEqDiff, Nat.reduceLT, Nat.reduceLeDiff, Nat.reduceBEq, Nat.reduceAdd, Nat.reduceMul, Nat.reduceSub, Nat.reducePow, Int.reduceLE, Int.reduceLT, Int.reduceNeg, Int.reduceToNat, Int.reduceAdd, Int.reduceSub] at hr
                obtain ⟨rfl, rfl⟩ := hr
                refine ⟨vc, ?_⟩
                refine AWPL_nil ?_
                refine QB_normal ?_
                exact AWPB_wk [0, 1, 2, 3] mkWk ((hAA _ _ _).1 hn7)
              · skip
                refine AWPL_clone [2, 4, 5, 74, 75, 78, 79] (uniqL (sortL v3)) 3 Try.laysNm215 rfl rfl pcT rfl Try.call64 (of_decide_eq_true rfl) rfl rfl (by simp) h5 (by simp) rfl fun st' hr => ?_
                simp only [go_sem, reduceIte, reduceCtorEq, Nat.reduceEqDiff, Nat.reduceLT, Nat.reduceLeDiff, Nat.reduceBEq, Nat.reduceAdd, Nat.reduceMul, Nat.reduceSub, Nat.reducePow, Int.reduceLE, Int.reduceLT, Int.reduceNeg, Int.reduceToNat, Int.reduceAdd, Int.reduceSub] at hr
                subst hr
                refine AWPL_nil ?_
                refine QB_normal ?_
                exact AWPB_wk [0, 1, 2, 3, 4] mkWk ((hAA _ _ _).1 hn9))
            have hn11 : AA 7 #[false, false, true, false, false, false, false, false] ⟨80, [(2, .ptr 0 0 0), (4, .ptr 1 0 0), (76, .own 3 ((sortL v3).length))], [some (.gen 24 2 [[.int .i64 a_0, .ints .i64 a_1]]), some (.gen 24 2 [[.int .i64 0, .own 2 0]]), some (.ints 3 .i64 []), some (.ints 3 .i64 (sortL v3))]⟩ := (hAA _ _ _).2 (by
              refine AWPB_two 0 3 _ _ (by kernel_rfl) rfl rfl ?_ ?_
              · skip
                refine AWPL_rn tab_ok 1 [4, 5, 74, 75, 76, 77, 78, 79] fun c st' hr => ?_
                simp only [go_sem, reduceIte, reduceCtorEq, Nat.reduceEqDiff, Nat.reduceLT, Nat.reduceLeDiff, Nat.reduceBEq, Nat.reduceAdd, Nat.reduceMul, Nat.reduceSub, Nat.reducePow, Int.reduceLE, Int.reduceLT, Int.reduceNeg, Int.reduceToNat, Int.reduceAdd, Int.reduceSub] at hr
                obtain ⟨rfl, rfl⟩ := hr
                refine ⟨vc, ?_⟩
                refine AWPL_nil ?_
                refine QB_normal ?_
                exact AWPB_wk [0, 1, 2, 3] mkWk ((hAA _ _ _).1 hn8)
              · skip
                refine AWPL_compact [2, 4, 5, 74, 75, 77, 78, 79] Try.laysNm220 rfl rfl pcT rfl Try.call65 (of_decide_eq_true rfl) rfl rfl fun st' hr => ?_
                simp only [go_sem, reduceIte, reduceCtorEq, Nat.reduceEqDiff, Nat.reduceLT, Nat.reduceLeDiff, Nat.reduceBEq, Nat.reduceAdd, Nat.reduceMul, Nat.reduceSub, Nat.reducePow, Int.reduceLE, Int.reduceLT, Int.reduceNeg, Int.reduceToNat, Int.reduceAdd, Int.reduceSub] at hr
                subst hr
                refine AWPL_nil ?_
                refine QB_normal ?_
                exact AWPB_wk [0, 1, 2, 3] mkWk ((hAA _ _ _).1 hn10))
            have hn12 : AA 8 #[false, false, false, false, false, false, false, false] ⟨80, [(2, .ptr 0 0 0), (4, .ptr 1 0 0), (9, .own 3 ((sortL v3).length))], [some (.gen 24 2 [[.int .i64 a_0, .ints .i64 a_1]]), some (.gen 24 2 [[.int .i64 0, .own 2 0]]), some (.ints 3 .i64 []), some (.ints 3 .i64 (sortL v3))]⟩ := (hAA _ _ _).2 (by
              refine AWPB_take tab_ok [2, 4, 5, 74, 75, 76, 77, 78, 79] 2 _ rfl rfl (by kernel_rfl) fun c st' hr => ?_
              simp only [go_sem, reduceIte, reduceCtorEq, Nat.reduceEqDiff, Nat.reduceLT, Nat.reduceLeDiff, Nat.reduceBEq, Nat.reduceAdd, Nat.reduceMul, Nat.reduceSub, Nat.reducePow, Int.reduceLE, Int.reduceLT, Int.reduceNeg, Int.reduceToNat, Int.reduceAdd, Int.reduceSub] at hr
              obtain ⟨rfl, rfl⟩ := hr
              refine ⟨vc, ?_⟩
              exact AWPB_wk [0, 1, 2, 3] mkWk ((hAA _ _ _).1 hn11))
            exact (hAA _ _ _).2 (AWPB_wk [0, 1, 2, 3] mkWk ((hAA _ _ _).1 hn12))
          with_reducible refine thenC_normal ?_
          refine AWP_ret ?_
          cases hK
          refine EndsRW [4] (.inl rfl) (of_decide_eq_true rfl) (by simp) rfl (fun c x hr => ?_) endH
          simp only [go_sem, reduceIte, reduceCtorEq, Nat.reduceEqDiff, Nat.reduceLT, Nat.reduceLeDiff, Nat.reduceBEq, Nat.reduceAdd, Nat.reduceMul, Nat.reduceSub, Nat.reducePow, Int.reduceLE, Int.reduceLT, Int.reduceNeg, Int.reduceToNat, Int.reduceAdd, Int.reduceSub] at hr
          obtain ⟨rfl, rfl⟩ := hr
          exact ⟨rfl, endR⟩

set_option maxRecDepth 8000 in
set_option maxHeartbeats 4000000 in
theorem W_join_ranks {m_0 : Int} {m_1 : List Int} {r : List Int} (hK : join_ranks m_0 m_1 = some r) : Pure Try.prog 83 [.agg [.int .i64 m_0, .ints .i64 m_1]] (.own 0 r.length) [(.ints 3 .i64 r)] := by
  refine Pure_introF tab_ok (n := 11) (l := [.tmp 2]) Try.func83 rfl rfl rfl (by simp) fun hfact w0 => ?_
  simp only [factL1, fact1, fact0, factL0, lo, hi, maxLen, and_true] at hfact
  unfold join_ranks at hK
  refine AWP_seq ?_
  -- region 0
  refine AWP_rg tab_ok [1] fun c st' hr => ?_
  simp only [go_sem, reduceIte, reduceCtorEq, Nat.reduceEqDiff, Nat.reduceLT, Nat.reduceLeDiff, Nat.reduceBEq, Nat.reduceAdd, Nat.reduceMul, Nat.reduceSub, Nat.reducePow, Int.reduceLE, Int.reduceLT, Int.reduceNeg, Int.reduceToNat, Int.reduceAdd, Int.reduceSub] at hr
  obtain ⟨rfl, rfl⟩ := hr
  refine ⟨vc, ?_⟩
  with_reducible refine thenC_normal ?_
  refine AWP_seq ?_
  -- region 1
  refine AWP_rl ?_
  refine AWPL_rn tab_ok 1 [6] fun c st' hr => ?_
  simp only [go_sem, reduceIte, reduceCtorEq, Nat.reduceEqDiff, Nat.reduceLT, Nat.reduceLeDiff, Nat.reduceBEq, Nat.reduceAdd, Nat.reduceMul, Nat.reduceSub, Nat.reducePow, Int.reduceLE, Int.reduceLT, Int.reduceNeg, Int.reduceToNat, Int.reduceAdd, Int.reduceSub] at hr
  obtain ⟨rfl, rfl⟩ := hr
  refine ⟨vc, ?_⟩
  replace hK := bind_s hK
  obtain ⟨y, hy, hK⟩ := hK
  refine AWPL_callK [7] (W_axioms_Ranks hy) rfl rfl pcT rfl Try.call42 (.cons (.agg _ _ rfl (ArgsOk.get (.cons (.atom _ rfl) (.cons (.atom _ rfl) .nil))).2) .nil) (hscG trivial) (of_decide_eq_true rfl) (by first | rfl | simp [nI, nI1, nI0]) (by first | rfl | simp [nIB, nI0]) fun st' hr => ?_
  simp only [go_sem, reduceIte, reduceCtorEq, Nat.reduceEqDiff, Nat.reduceLT, Nat.reduceLeDiff, Nat.reduceBEq, Nat.reduceAdd, Nat.reduceMul, Nat.reduceSub, Nat.reducePow, Int.reduceLE, Int.reduceLT, Int.reduceNeg, Int.reduceToNat, Int.reduceAdd, Int.reduceSub] at hr
  subst hr
  clear hy
  refine AWPL_rn tab_ok 5 [3] fun c st' hr => ?_
  simp only [go_sem, reduceIte, reduceCtorEq, Nat.reduceEqDiff, Nat.reduceLT, Nat.reduceLeDiff, Nat.reduceBEq, Nat.reduceAdd, Nat.reduceMul, Nat.reduceSub, Nat.reducePow, Int.reduceLE, Int.reduceLT, Int.reduceNeg, Int.reduceToNat, Int.reduceAdd, Int.reduceSub] at hr
  obtain ⟨rfl, rfl⟩ := hr
  refine ⟨vc, ?_⟩
  refine AWPL_nil ?_
  with_reducible refine thenC_normal ?_
  refine AWP_seq ?_
  -- region 2
  refine AWP_rg tab_ok [2] fun c st' hr => ?_
  simp only [go_sem, reduceIte, reduceCtorEq, Nat.reduceEqDiff, Nat.reduceLT, Nat.reduceLeDiff, Nat.reduceBEq, Nat.reduceAdd, Nat.reduceMul, Nat.reduceSub, Nat.reducePow, Int.reduceLE, Int.reduceLT, Int.reduceNeg, Int.reduceToNat, Int.reduceAdd, Int.reduceSub] at hr
  obtain ⟨rfl, rfl⟩ := hr
  refine ⟨vc, ?_⟩
  with_reducible refine thenC_normal ?_
  refine AWP_ret ?_
  cases hK
  refine EndsRW [1] (.inl rfl) (of_decide_eq_true rfl) (by simp) rfl (fun c x hr => ?_) endH
  simp only [go_sem, reduceIte, reduceCtorEq, Nat.reduceEqDiff, Nat.reduceLT, Nat.reduceLeDiff, Nat.reduceBEq, Nat.reduceAdd, Nat.reduceMul, Nat.reduceSub, Nat.reducePow, Int.reduceLE, Int.reduceLT, Int.reduceNeg, Int.reduceToNat, Int.reduceAdd, Int.reduceSub] at hr
  obtain ⟨rfl, rfl⟩ := hr
  exact ⟨rfl, endR⟩

end Go.SH
