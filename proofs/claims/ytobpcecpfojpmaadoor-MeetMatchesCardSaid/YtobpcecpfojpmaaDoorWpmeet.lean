/-
  That the code computes these functions: meet_both, meet_ranks, meet_size, meet_grown_1, meet_grown, meet_Common. By a program of mine (shal.py). Conditions: none.
-/
import Derived.Test.YtobpcecpfojpmaaDoorAxT
import Derived.Test.YtobpcecpfojpmaaDoorAxR
import Derived.Test.YtobpcecpfojpmaaDoorAxJm
import Derived.Test.YtobpcecpfojpmaaDoorAxW
import Derived.Test.YtobpcecpfojpmaaDoorSpmeet
import Derived.Test.YtobpcecpfojpmaaDoorWpaxioms
import Derived.Test.YtobpcecpfojpmaaDoorWpbits
set_option linter.unusedVariables false
set_option linter.unusedSimpArgs false
namespace Go.SH
open Go Go.AX Go.AX.Tryd Go.Proofs

set_option maxRecDepth 8000 in
set_option maxHeartbeats 4000000 in
theorem W_meet_both {a_0 : Int} {a_1 : List Int} {b_0 : Int} {b_1 : List Int} {r : Int} (hK : meet_both a_0 a_1 b_0 b_1 = some r) : Pure Tryd.prog 63 [.agg [.int .i64 a_0, .ints .i64 a_1], .agg [.int .i64 b_0, .ints .i64 b_1]] (.int .i64 r) [] := by
  refine Pure_introF tab_ok (n := 25) (l := [.tmp 4]) Tryd.func63 rfl rfl rfl (by simp) fun hfact w0 => ?_
  simp only [factL1, fact1, fact0, factL0, lo, hi, maxLen, and_true] at hfact
  unfold meet_both at hK
  refine AWP_seq ?_
  -- region 0
  refine AWP_rg tab_ok [2, 3] fun c st' hr => ?_
  simp only [go_sem, reduceIte, reduceCtorEq, Nat.reduceEqDiff, Nat.reduceLT, Nat.reduceLeDiff, Nat.reduceBEq, Nat.reduceAdd, Nat.reduceMul, Nat.reduceSub, Nat.reducePow, Int.reduceLE, Int.reduceLT, Int.reduceNeg, Int.reduceToNat, Int.reduceAdd, Int.reduceSub] at hr
  obtain ⟨rfl, rfl⟩ := hr
  refine ⟨vc, ?_⟩
  with_reducible refine thenC_normal ?_
  refine AWP_seq ?_
  -- region 1
  refine AWP_drawQ mixed (by kernel_rfl) ?_
  refine AWQL_rn tab_ok 1 [2, 3, 7] fun c st' hr => ?_
  simp only [go_sem, reduceIte, reduceCtorEq, Nat.reduceEqDiff, Nat.reduceLT, Nat.reduceLeDiff, Nat.reduceBEq, Nat.reduceAdd, Nat.reduceMul, Nat.reduceSub, Nat.reducePow, Int.reduceLE, Int.reduceLT, Int.reduceNeg, Int.reduceToNat, Int.reduceAdd, Int.reduceSub] at hr
  obtain ⟨rfl, rfl⟩ := hr
  refine ⟨vc, ?_⟩
  replace hK := bind_s hK
  obtain ⟨y, hy, hK⟩ := hK
  refine AWQL_callK [2, 3, 8] (W_axioms_Check hy) rfl rfl pcT rfl Tryd.call70 (.cons (.agg _ _ rfl (ArgsOk.get (.cons (.atom _ rfl) (.cons (.atom _ rfl) .nil))).2) .nil) (hscG trivial) (of_decide_eq_true rfl) rfl fun st' hr => ?_
  simp only [go_sem, reduceIte, reduceCtorEq, Nat.reduceEqDiff, Nat.reduceLT, Nat.reduceLeDiff, Nat.reduceBEq, Nat.reduceAdd, Nat.reduceMul, Nat.reduceSub, Nat.reducePow, Int.reduceLE, Int.reduceLT, Int.reduceNeg, Int.reduceToNat, Int.reduceAdd, Int.reduceSub] at hr
  subst hr
  clear hy
  refine AWQL_rn tab_ok 1 [2, 3, 8, 9] fun c st' hr => ?_
  simp only [go_sem, reduceIte, reduceCtorEq, Nat.reduceEqDiff, Nat.reduceLT, Nat.reduceLeDiff, Nat.reduceBEq, Nat.reduceAdd, Nat.reduceMul, Nat.reduceSub, Nat.reducePow, Int.reduceLE, Int.reduceLT, Int.reduceNeg, Int.reduceToNat, Int.reduceAdd, Int.reduceSub] at hr
  obtain ⟨rfl, rfl⟩ := hr
  refine ⟨vc, ?_⟩
  replace hK := bind_s hK
  obtain ⟨y1, hy, hK⟩ := hK
  refine AWQL_callK [2, 3, 8, 10] (W_axioms_Check hy) rfl rfl pcT rfl Tryd.call70 (.cons (.agg _ _ rfl (ArgsOk.get (.cons (.atom _ rfl) (.cons (.atom _ rfl) .nil))).2) .nil) (hscG trivial) (of_decide_eq_true rfl) rfl fun st' hr => ?_
  simp only [go_sem, reduceIte, reduceCtorEq, Nat.reduceEqDiff, Nat.reduceLT, Nat.reduceLeDiff, Nat.reduceBEq, Nat.reduceAdd, Nat.reduceMul, Nat.reduceSub, Nat.reducePow, Int.reduceLE, Int.reduceLT, Int.reduceNeg, Int.reduceToNat, Int.reduceAdd, Int.reduceSub] at hr
  subst hr
  clear hy
  refine AWQL_rn tab_ok 2 [2, 3, 5, 6] fun c st' hr => ?_
  simp only [go_sem, reduceIte, reduceCtorEq, Nat.reduceEqDiff, Nat.reduceLT, Nat.reduceLeDiff, Nat.reduceBEq, Nat.reduceAdd, Nat.reduceMul, Nat.reduceSub, Nat.reducePow, Int.reduceLE, Int.reduceLT, Int.reduceNeg, Int.reduceToNat, Int.reduceAdd, Int.reduceSub] at hr
  obtain ⟨rfl, rfl⟩ := hr
  refine ⟨vc, ?_⟩
  refine AWQL_nil ?_
  with_reducible refine thenC_normal ?_
  refine AWP_seq ?_
  refine AWP_block ?_
  refine AWP_seq ?_
  -- region 2
  refine AWP_rg tab_ok [2, 3, 5, 6, 11] fun c st' hr => ?_
  simp only [go_sem, reduceIte, reduceCtorEq, Nat.reduceEqDiff, Nat.reduceLT, Nat.reduceLeDiff, Nat.reduceBEq, Nat.reduceAdd, Nat.reduceMul, Nat.reduceSub, Nat.reducePow, Int.reduceLE, Int.reduceLT, Int.reduceNeg, Int.reduceToNat, Int.reduceAdd, Int.reduceSub] at hr
  obtain ⟨rfl, rfl⟩ := hr
  refine ⟨vc, ?_⟩
  with_reducible refine thenC_normal ?_
  refine AWP_condP (y ≠ 0) rfl bd (fun hb => ?_) (fun hb => ?_)
  · replace hK := ite_t hK hb
    refine AWP_seq ?_
    -- region 3
    refine AWP_rg tab_ok [4] fun c st' hr => ?_
    simp only [go_sem, reduceIte, reduceCtorEq, Nat.reduceEqDiff, Nat.reduceLT, Nat.reduceLeDiff, Nat.reduceBEq, Nat.reduceAdd, Nat.reduceMul, Nat.reduceSub, Nat.reducePow, Int.reduceLE, Int.reduceLT, Int.reduceNeg, Int.reduceToNat, Int.reduceAdd, Int.reduceSub] at hr
    obtain ⟨rfl, rfl⟩ := hr
    refine ⟨vc, ?_⟩
    with_reducible refine thenC_normal ?_
    refine AWP_ret ?_
    with_reducible refine inBlockA_ret (thenC_ret ?_)
    cases hK
    refine EndsRW [] (.inl rfl) (of_decide_eq_true rfl) (by simp) rfl (fun c x hr => ?_) trivial
    simp only [go_sem, reduceIte, reduceCtorEq, Nat.reduceEqDiff, Nat.reduceLT, Nat.reduceLeDiff, Nat.reduceBEq, Nat.reduceAdd, Nat.reduceMul, Nat.reduceSub, Nat.reducePow, Int.reduceLE, Int.reduceLT, Int.reduceNeg, Int.reduceToNat, Int.reduceAdd, Int.reduceSub] at hr
    obtain ⟨rfl, rfl⟩ := hr
    exact ⟨rfl, endR⟩
  · replace hK := ite_f hK hb
    refine AWP_seq ?_
    -- region 4
    refine AWP_rg tab_ok [2, 3, 6, 15] fun c st' hr => ?_
    simp only [go_sem, reduceIte, reduceCtorEq, Nat.reduceEqDiff, Nat.reduceLT, Nat.reduceLeDiff, Nat.reduceBEq, Nat.reduceAdd, Nat.reduceMul, Nat.reduceSub, Nat.reducePow, Int.reduceLE, Int.reduceLT, Int.reduceNeg, Int.reduceToNat, Int.reduceAdd, Int.reduceSub] at hr
    obtain ⟨rfl, rfl⟩ := hr
    refine ⟨vc, ?_⟩
    with_reducible refine thenC_normal ?_
    refine AWP_condP (y1 ≠ 0) rfl bd (fun hb1 => ?_) (fun hb1 => ?_)
    · replace hK := ite_t hK hb1
      refine AWP_seq ?_
      -- region 5
      refine AWP_rg tab_ok [4] fun c st' hr => ?_
      simp only [go_sem, reduceIte, reduceCtorEq, Nat.reduceEqDiff, Nat.reduceLT, Nat.reduceLeDiff, Nat.reduceBEq, Nat.reduceAdd, Nat.reduceMul, Nat.reduceSub, Nat.reducePow, Int.reduceLE, Int.reduceLT, Int.reduceNeg, Int.reduceToNat, Int.reduceAdd, Int.reduceSub] at hr
      obtain ⟨rfl, rfl⟩ := hr
      refine ⟨vc, ?_⟩
      with_reducible refine thenC_normal ?_
      refine AWP_ret ?_
      with_reducible refine inBlockA_ret (thenC_ret ?_)
      cases hK
      refine EndsRW [] (.inl rfl) (of_decide_eq_true rfl) (by simp) rfl (fun c x hr => ?_) trivial
      simp only [go_sem, reduceIte, reduceCtorEq, Nat.reduceEqDiff, Nat.reduceLT, Nat.reduceLeDiff, Nat.reduceBEq, Nat.reduceAdd, Nat.reduceMul, Nat.reduceSub, Nat.reducePow, Int.reduceLE, Int.reduceLT, Int.reduceNeg, Int.reduceToNat, Int.reduceAdd, Int.reduceSub] at hr
      obtain ⟨rfl, rfl⟩ := hr
      exact ⟨rfl, endR⟩
    · replace hK := ite_f hK hb1
      refine AWP_seq ?_
      -- region 6
      refine AWP_rg tab_ok [19] fun c st' hr => ?_
      simp only [go_sem, reduceIte, reduceCtorEq, Nat.reduceEqDiff, Nat.reduceLT, Nat.reduceLeDiff, Nat.reduceBEq, Nat.reduceAdd, Nat.reduceMul, Nat.reduceSub, Nat.reducePow, Int.reduceLE, Int.reduceLT, Int.reduceNeg, Int.reduceToNat, Int.reduceAdd, Int.reduceSub] at hr
      obtain ⟨rfl, rfl⟩ := hr
      refine ⟨vc, ?_⟩
      with_reducible refine thenC_normal ?_
      refine AWP_condP (a_0 ≠ b_0) rfl bd (fun hb2 => ?_) (fun hb2 => ?_)
      · replace hK := ite_t hK hb2
        refine AWP_seq ?_
        -- region 7
        refine AWP_rg tab_ok [4] fun c st' hr => ?_
        simp only [go_sem, reduceIte, reduceCtorEq, Nat.reduceEqDiff, Nat.reduceLT, Nat.reduceLeDiff, Nat.reduceBEq, Nat.reduceAdd, Nat.reduceMul, Nat.reduceSub, Nat.reducePow, Int.reduceLE, Int.reduceLT, Int.reduceNeg, Int.reduceToNat, Int.reduceAdd, Int.reduceSub] at hr
        obtain ⟨rfl, rfl⟩ := hr
        refine ⟨vc, ?_⟩
        with_reducible refine thenC_normal ?_
        refine AWP_ret ?_
        with_reducible refine inBlockA_ret (thenC_ret ?_)
        cases hK
        refine EndsRW [] (.inl rfl) (of_decide_eq_true rfl) (by simp) rfl (fun c x hr => ?_) trivial
        simp only [go_sem, reduceIte, reduceCtorEq, Nat.reduceEqDiff, Nat.reduceLT, Nat.reduceLeDiff, Nat.reduceBEq, Nat.reduceAdd, Nat.reduceMul, Nat.reduceSub, Nat.reducePow, Int.reduceLE, Int.reduceLT, Int.reduceNeg, Int.reduceToNat, Int.reduceAdd, Int.reduceSub] at hr
        obtain ⟨rfl, rfl⟩ := hr
        exact ⟨rfl, endR⟩
      · replace hK := ite_f hK hb2
        refine AWP_skip ?_
        with_reducible refine inBlockA_normal (thenC_normal ?_)
        refine AWP_seq ?_
        -- region 8
        refine AWP_rg tab_ok [4] fun c st' hr => ?_
        simp only [go_sem, reduceIte, reduceCtorEq, Nat.reduceEqDiff, Nat.reduceLT, Nat.reduceLeDiff, Nat.reduceBEq, Nat.reduceAdd, Nat.reduceMul, Nat.reduceSub, Nat.reducePow, Int.reduceLE, Int.reduceLT, Int.reduceNeg, Int.reduceToNat, Int.reduceAdd, Int.reduceSub] at hr
        obtain ⟨rfl, rfl⟩ := hr
        refine ⟨vc, ?_⟩
        with_reducible refine thenC_normal ?_
        refine AWP_ret ?_
        cases hK
        refine EndsRW [] (.inl rfl) (of_decide_eq_true rfl) (by simp) rfl (fun c x hr => ?_) trivial
        simp only [go_sem, reduceIte, reduceCtorEq, Nat.reduceEqDiff, Nat.reduceLT, Nat.reduceLeDiff, Nat.reduceBEq, Nat.reduceAdd, Nat.reduceMul, Nat.reduceSub, Nat.reducePow, Int.reduceLE, Int.reduceLT, Int.reduceNeg, Int.reduceToNat, Int.reduceAdd, Int.reduceSub] at hr
        obtain ⟨rfl, rfl⟩ := hr
        exact ⟨rfl, endR⟩

set_option maxRecDepth 8000 in
set_option maxHeartbeats 4000000 in
theorem W_meet_ranks {m_0 : Int} {m_1 : List Int} {r : List Int} (hK : meet_ranks m_0 m_1 = some r) : Pure Tryd.prog 64 [.agg [.int .i64 m_0, .ints .i64 m_1]] (.own 0 r.length) [(.ints 3 .i64 r)] := by
  refine Pure_introF tab_ok (n := 11) (l := [.tmp 2]) Tryd.func64 rfl rfl rfl (by simp) fun hfact w0 => ?_
  simp only [factL1, fact1, fact0, factL0, lo, hi, maxLen, and_true] at hfact
  unfold meet_ranks at hK
  refine AWP_seq ?_
  -- region 0
  refine AWP_rg tab_ok [1] fun c st' hr => ?_
  simp only [go_sem, reduceIte, reduceCtorEq, Nat.reduceEqDiff, Nat.reduceLT, Nat.reduceLeDiff, Nat.reduceBEq, Nat.reduceAdd, Nat.reduceMul, Nat.reduceSub, Nat.reducePow, Int.reduceLE, Int.reduceLT, Int.reduceNeg, Int.reduceToNat, Int.reduceAdd, Int.reduceSub] at hr
  obtain ⟨rfl, rfl⟩ := hr
  refine ⟨vc, ?_⟩
  with_reducible refine thenC_normal ?_
  refine AWP_seq ?_
  -- region 1
  refine AWP_rl ?_
  refine AWPL_rn tab_ok 1 [6] fun c st' hr => ?_
  simp only [go_sem, reduceIte, reduceCtorEq, Nat.reduceEqDiff, Nat.reduceLT, Nat.reduceLeDiff, Nat.reduceBEq, Nat.reduceAdd, Nat.reduceMul, Nat.reduceSub, Nat.reducePow, Int.reduceLE, Int.reduceLT, Int.reduceNeg, Int.reduceToNat, Int.reduceAdd, Int.reduceSub] at hr
  obtain ⟨rfl, rfl⟩ := hr
  refine ⟨vc, ?_⟩
  replace hK := bind_s hK
  obtain ⟨y, hy, hK⟩ := hK
  refine AWPL_callK [7] (W_axioms_Ranks hy) rfl rfl pcT rfl Tryd.call43 (.cons (.agg _ _ rfl (ArgsOk.get (.cons (.atom _ rfl) (.cons (.atom _ rfl) .nil))).2) .nil) (hscG trivial) (of_decide_eq_true rfl) (by first | rfl | simp [nI, nI1, nI0]) (by first | rfl | simp [nIB, nI0]) fun st' hr => ?_
  simp only [go_sem, reduceIte, reduceCtorEq, Nat.reduceEqDiff, Nat.reduceLT, Nat.reduceLeDiff, Nat.reduceBEq, Nat.reduceAdd, Nat.reduceMul, Nat.reduceSub, Nat.reducePow, Int.reduceLE, Int.reduceLT, Int.reduceNeg, Int.reduceToNat, Int.reduceAdd, Int.reduceSub] at hr
  subst hr
  clear hy
  refine AWPL_rn tab_ok 5 [3] fun c st' hr => ?_
  simp only [go_sem, reduceIte, reduceCtorEq, Nat.reduceEqDiff, Nat.reduceLT, Nat.reduceLeDiff, Nat.reduceBEq, Nat.reduceAdd, Nat.reduceMul, Nat.reduceSub, Nat.reducePow, Int.reduceLE, Int.reduceLT, Int.reduceNeg, Int.reduceToNat, Int.reduceAdd, Int.reduceSub] at hr
  obtain ⟨rfl, rfl⟩ := hr
  refine ⟨vc, ?_⟩
  refine AWPL_nil ?_
  with_reducible refine thenC_normal ?_
  refine AWP_seq ?_
  -- region 2
  refine AWP_rg tab_ok [2] fun c st' hr => ?_
  simp only [go_sem, reduceIte, reduceCtorEq, Nat.reduceEqDiff, Nat.reduceLT, Nat.reduceLeDiff, Nat.reduceBEq, Nat.reduceAdd, Nat.reduceMul, Nat.reduceSub, Nat.reducePow, Int.reduceLE, Int.reduceLT, Int.reduceNeg, Int.reduceToNat, Int.reduceAdd, Int.reduceSub] at hr
  obtain ⟨rfl, rfl⟩ := hr
  refine ⟨vc, ?_⟩
  with_reducible refine thenC_normal ?_
  refine AWP_ret ?_
  cases hK
  refine EndsRW [1] (.inl rfl) (of_decide_eq_true rfl) (by simp) rfl (fun c x hr => ?_) endH
  simp only [go_sem, reduceIte, reduceCtorEq, Nat.reduceEqDiff, Nat.reduceLT, Nat.reduceLeDiff, Nat.reduceBEq, Nat.reduceAdd, Nat.reduceMul, Nat.reduceSub, Nat.reducePow, Int.reduceLE, Int.reduceLT, Int.reduceNeg, Int.reduceToNat, Int.reduceAdd, Int.reduceSub] at hr
  obtain ⟨rfl, rfl⟩ := hr
  exact ⟨rfl, endR⟩

set_option maxRecDepth 8000 in
set_option maxHeartbeats 4000000 in
theorem W_meet_size {s : Int} {r : Int} (hK : meet_size s = some r) : Pure Tryd.prog 66 [.int .i64 s] (.int .i64 r) [] := by
  refine Pure_introF tab_ok (n := 6) (l := [.tmp 2]) Tryd.func66 rfl rfl rfl (by simp) fun hfact w0 => ?_
  simp only [factL1, fact1, fact0, factL0, lo, hi, maxLen, and_true] at hfact
  unfold meet_size at hK
  refine AWP_seq ?_
  -- region 0
  refine AWP_rg tab_ok [0] fun c st' hr => ?_
  simp only [go_sem, reduceIte, reduceCtorEq, Nat.reduceEqDiff, Nat.reduceLT, Nat.reduceLeDiff, Nat.reduceBEq, Nat.reduceAdd, Nat.reduceMul, Nat.reduceSub, Nat.reducePow, Int.reduceLE, Int.reduceLT, Int.reduceNeg, Int.reduceToNat, Int.reduceAdd, Int.reduceSub] at hr
  obtain ⟨rfl, rfl⟩ := hr
  refine ⟨vc, ?_⟩
  with_reducible refine thenC_normal ?_
  refine AWP_seq ?_
  -- region 1
  refine AWP_rl ?_
  replace hK := chk_some hK
  obtain ⟨h, hK⟩ := hK
  refine AWPL_rn tab_ok 2 [4] fun c st' hr => ?_
  simp only [go_sem, reduceIte, reduceCtorEq, Nat.reduceEqDiff, Nat.reduceLT, Nat.reduceLeDiff, Nat.reduceBEq, Nat.reduceAdd, Nat.reduceMul, Nat.reduceSub, Nat.reducePow, Int.reduceLE, Int.reduceLT, Int.reduceNeg, Int.reduceToNat, Int.reduceAdd, Int.reduceSub] at hr
  obtain ⟨rfl, rfl⟩ := hr
  refine ⟨vc, ?_⟩
  replace hK := bind_s hK
  obtain ⟨y, hy, hK⟩ := hK
  refine AWPL_callK [5] (W_bits_OnesCount hy) rfl rfl pcT rfl Tryd.call50 (.cons (.atom _ rfl) .nil) (hscG trivial) (of_decide_eq_true rfl) (by first | rfl | simp [nI, nI1, nI0]) (by first | rfl | simp [nIB, nI0]) fun st' hr => ?_
  simp only [go_sem, reduceIte, reduceCtorEq, Nat.reduceEqDiff, Nat.reduceLT, Nat.reduceLeDiff, Nat.reduceBEq, Nat.reduceAdd, Nat.reduceMul, Nat.reduceSub, Nat.reducePow, Int.reduceLE, Int.reduceLT, Int.reduceNeg, Int.reduceToNat, Int.reduceAdd, Int.reduceSub] at hr
  subst hr
  clear hy
  refine AWPL_rn tab_ok 1 [2] fun c st' hr => ?_
  simp only [go_sem, reduceIte, reduceCtorEq, Nat.reduceEqDiff, Nat.reduceLT, Nat.reduceLeDiff, Nat.reduceBEq, Nat.reduceAdd, Nat.reduceMul, Nat.reduceSub, Nat.reducePow, Int.reduceLE, Int.reduceLT, Int.reduceNeg, Int.reduceToNat, Int.reduceAdd, Int.reduceSub] at hr
  obtain ⟨rfl, rfl⟩ := hr
  refine ⟨vc, ?_⟩
  refine AWPL_nil ?_
  with_reducible refine thenC_normal ?_
  refine AWP_ret ?_
  cases hK
  refine EndsRW [] (.inl rfl) (of_decide_eq_true rfl) (by simp) rfl (fun c x hr => ?_) trivial
  simp only [go_sem, reduceIte, reduceCtorEq, Nat.reduceEqDiff, Nat.reduceLT, Nat.reduceLeDiff, Nat.reduceBEq, Nat.reduceAdd, Nat.reduceMul, Nat.reduceSub, Nat.reducePow, Int.reduceLE, Int.reduceLT, Int.reduceNeg, Int.reduceToNat, Int.reduceAdd, Int.reduceSub] at hr
  obtain ⟨rfl, rfl⟩ := hr
  exact ⟨rfl, endR⟩

set_option maxRecDepth 8000 in
set_option maxHeartbeats 4000000 in
theorem W_meet_grown_1 {r1 : List Int} {t : Int} {r : Bool} (hK : meet_grown_1 r1 t = some r) : Pure Tryd.prog 85 [.ints .i64 r1, .int .i64 t] (.bool r) [] := by
  refine Pure_introF tab_ok (n := 12) (l := [.tmp 4]) Tryd.func85 rfl rfl rfl (by simp) fun hfact w0 => ?_
  simp only [factL1, fact1, fact0, factL0, lo, hi, maxLen, and_true] at hfact
  unfold meet_grown_1 at hK
  refine AWP_seq ?_
  -- region 0
  refine AWP_rg tab_ok [0, 1] fun c st' hr => ?_
  simp only [go_sem, reduceIte, reduceCtorEq, Nat.reduceEqDiff, Nat.reduceLT, Nat.reduceLeDiff, Nat.reduceBEq, Nat.reduceAdd, Nat.reduceMul, Nat.reduceSub, Nat.reducePow, Int.reduceLE, Int.reduceLT, Int.reduceNeg, Int.reduceToNat, Int.reduceAdd, Int.reduceSub] at hr
  obtain ⟨rfl, rfl⟩ := hr
  refine ⟨vc, ?_⟩
  with_reducible refine thenC_normal ?_
  refine AWP_seq ?_
  -- region 1
  refine AWP_drawQ mixed (by kernel_rfl) ?_
  replace hK := chk_some hK
  obtain ⟨h, hK⟩ := hK
  refine AWQL_rn tab_ok 5 [8, 9] fun c st' hr => ?_
  simp only [go_sem, reduceIte, reduceCtorEq, Nat.reduceEqDiff, Nat.reduceLT, Nat.reduceLeDiff, Nat.reduceBEq, Nat.reduceAdd, Nat.reduceMul, Nat.reduceSub, Nat.reducePow, Int.reduceLE, Int.reduceLT, Int.reduceNeg, Int.reduceToNat, Int.reduceAdd, Int.reduceSub] at hr
  obtain ⟨rfl, rfl⟩ := hr
  refine ⟨vc, ?_⟩
  replace hK := bind_s hK
  obtain ⟨y, hy, hK⟩ := hK
  refine AWQL_callK [8, 10] (W_meet_size hy) rfl rfl pcT rfl Tryd.call66 (.cons (.atom _ rfl) .nil) (hscG trivial) (of_decide_eq_true rfl) rfl fun st' hr => ?_
  simp only [go_sem, reduceIte, reduceCtorEq, Nat.reduceEqDiff, Nat.reduceLT, Nat.reduceLeDiff, Nat.reduceBEq, Nat.reduceAdd, Nat.reduceMul, Nat.reduceSub, Nat.reducePow, Int.reduceLE, Int.reduceLT, Int.reduceNeg, Int.reduceToNat, Int.reduceAdd, Int.reduceSub] at hr
  subst hr
  clear hy
  refine AWQL_rn tab_ok 2 [4] fun c st' hr => ?_
  simp only [go_sem, reduceIte, reduceCtorEq, Nat.reduceEqDiff, Nat.reduceLT, Nat.reduceLeDiff, Nat.reduceBEq, Nat.reduceAdd, Nat.reduceMul, Nat.reduceSub, Nat.reducePow, Int.reduceLE, Int.reduceLT, Int.reduceNeg, Int.reduceToNat, Int.reduceAdd, Int.reduceSub] at hr
  obtain ⟨rfl, rfl⟩ := hr
  refine ⟨vc, ?_⟩
  refine AWQL_nil ?_
  with_reducible refine thenC_normal ?_
  refine AWP_ret ?_
  cases hK
  refine EndsRW [] (.inl rfl) (of_decide_eq_true rfl) (by simp) rfl (fun c x hr => ?_) trivial
  simp only [go_sem, reduceIte, reduceCtorEq, Nat.reduceEqDiff, Nat.reduceLT, Nat.reduceLeDiff, Nat.reduceBEq, Nat.reduceAdd, Nat.reduceMul, Nat.reduceSub, Nat.reducePow, Int.reduceLE, Int.reduceLT, Int.reduceNeg, Int.reduceToNat, Int.reduceAdd, Int.reduceSub] at hr
  obtain ⟨rfl, rfl⟩ := hr
  exact ⟨rfl, endR⟩

set_option maxRecDepth 8000 in
set_option maxHeartbeats 4000000 in
theorem W_meet_grown {x : List Int} {a1 : List Int} {a2 : Int} {a3 : Int} {r : Int × Int × Bool} (hK : meet_grown x a1 a2 a3 = some r) : Pure Tryd.prog 65 [.ints .i64 x, .ints .i64 a1, .int .i64 a2, .int .i64 a3] (.tup [.int .i64 r.1, .int .i64 r.2.1, .bool r.2.2]) [] := by
  refine Pure_introF tab_ok (n := 169) (l := [.tmp 8, .tmp 9, .tmp 10]) Tryd.func65 rfl rfl rfl (by simp) fun hfact w0 => ?_
  simp only [factL1, fact1, fact0, factL0, lo, hi, maxLen, and_true] at hfact
  unfold meet_grown at hK
  refine AWP_seq ?_
  -- region 0
  refine AWP_rg tab_ok [0, 1, 2, 3] fun c st' hr => ?_
  simp only [go_sem, reduceIte, reduceCtorEq, Nat.reduceEqDiff, Nat.reduceLT, Nat.reduceLeDiff, Nat.reduceBEq, Nat.reduceAdd, Nat.reduceMul, Nat.reduceSub, Nat.reducePow, Int.reduceLE, Int.reduceLT, Int.reduceNeg, Int.reduceToNat, Int.reduceAdd, Int.reduceSub] at hr
  obtain ⟨rfl, rfl⟩ := hr
  refine ⟨vc, ?_⟩
  with_reducible refine thenC_normal ?_
  refine AWP_seq ?_
  -- region 1
  refine AWP_rg tab_ok [0, 1, 2, 3, 11] fun c st' hr => ?_
  simp only [go_sem, reduceIte, reduceCtorEq, Nat.reduceEqDiff, Nat.reduceLT, Nat.reduceLeDiff, Nat.reduceBEq, Nat.reduceAdd, Nat.reduceMul, Nat.reduceSub, Nat.reducePow, Int.reduceLE, Int.reduceLT, Int.reduceNeg, Int.reduceToNat, Int.reduceAdd, Int.reduceSub] at hr
  obtain ⟨rfl, rfl⟩ := hr
  refine ⟨vc, ?_⟩
  with_reducible refine thenC_normal ?_
  refine AWP_seq ?_
  -- region 2
  replace hK := chk_some hK
  obtain ⟨h, hK⟩ := hK
  refine AWP_rg tab_ok [0, 1, 2, 3, 11, 12] fun c st' hr => ?_
  simp only [go_sem, reduceIte, reduceCtorEq, Nat.reduceEqDiff, Nat.reduceLT, Nat.reduceLeDiff, Nat.reduceBEq, Nat.reduceAdd, Nat.reduceMul, Nat.reduceSub, Nat.reducePow, Int.reduceLE, Int.reduceLT, Int.reduceNeg, Int.reduceToNat, Int.reduceAdd, Int.reduceSub] at hr
  obtain ⟨rfl, rfl⟩ := hr
  refine ⟨vc, ?_⟩
  with_reducible refine thenC_normal ?_
  refine AWP_seq ?_
  refine AWP_seq ?_
  -- region 3
  refine AWP_rg tab_ok [0, 1, 2, 3, 11, 12, 26, 27] fun c st' hr => ?_
  simp only [go_sem, reduceIte, reduceCtorEq, Nat.reduceEqDiff, Nat.reduceLT, Nat.reduceLeDiff, Nat.reduceBEq, Nat.reduceAdd, Nat.reduceMul, Nat.reduceSub, Nat.reducePow, Int.reduceLE, Int.reduceLT, Int.reduceNeg, Int.reduceToNat, Int.reduceAdd, Int.reduceSub] at hr
  obtain ⟨rfl, rfl⟩ := hr
  refine ⟨vc, ?_⟩
  with_reducible refine thenC_normal ?_
  refine AWP_block ?_
  refine AWP_loopX 0 (fun ((v, v1) : List Int × Int) => ⟨169, [(0, .ints .i64 x), (1, .ints .i64 a1), (2, .int .i64 a2), (3, .int .i64 a3), (11, .func 85 []), (12, .own 0 v.length), (26, .int .i64 ((List.replicate a2.toNat 0).length : Int)), (27, .int .i64 v1)], [some (.ints 3 .i64 v)]⟩) (fun (v2 : List Int) => ⟨169, [(0, .ints .i64 x), (1, .ints .i64 a1), (2, .int .i64 a2), (3, .int .i64 a3), (11, .func 85 []), (12, .own 0 v2.length)], [some (.ints 3 .i64 v2)]⟩) (fun v => v) (List.replicate a2.toNat 0, 0) [0] hK mkWk ?_ ?_
  · clear hK; rintro ⟨v, v1⟩ b hK hpost1
    try dsimp only at hK
    change AWP _ _ _ _ ⟨169, [(0, .ints .i64 x), (1, .ints .i64 a1), (2, .int .i64 a2), (3, .int .i64 a3), (11, .func 85 []), (12, .own 0 v.length), (26, .int .i64 ((List.replicate a2.toNat 0).length : Int)), (27, .int .i64 v1)], [some (.ints 3 .i64 v)]⟩
    refine AWP_seq ?_
    -- region 4
    refine AWP_rg tab_ok [0, 1, 2, 3, 11, 12, 26, 27, 28] fun c st' hr => ?_
    simp only [go_sem, reduceIte, reduceCtorEq, Nat.reduceEqDiff, Nat.reduceLT, Nat.reduceLeDiff, Nat.reduceBEq, Nat.reduceAdd, Nat.reduceMul, Nat.reduceSub, Nat.reducePow, Int.reduceLE, Int.reduceLT, Int.reduceNeg, Int.reduceToNat, Int.reduceAdd, Int.reduceSub] at hr
    obtain ⟨rfl, rfl⟩ := hr
    refine ⟨vc, ?_⟩
    with_reducible refine thenC_normal ?_
    refine AWP_seq ?_
    refine AWP_condP (v1 < ((List.replicate a2.toNat 0).length : Int)) rfl bd (fun hb => ?_) (fun hb => ?_)
    · replace hK := ite_t hK hb
      refine AWP_skip ?_
      with_reducible refine thenC_normal ?_
      refine AWP_seq ?_
      refine AWP_block ?_
      refine AWP_seq ?_
      -- region 5
      refine AWP_rg tab_ok [0, 1, 2, 3, 11, 12, 13, 26, 27] fun c st' hr => ?_
      simp only [go_sem, reduceIte, reduceCtorEq, Nat.reduceEqDiff, Nat.reduceLT, Nat.reduceLeDiff, Nat.reduceBEq, Nat.reduceAdd, Nat.reduceMul, Nat.reduceSub, Nat.reducePow, Int.reduceLE, Int.reduceLT, Int.reduceNeg, Int.reduceToNat, Int.reduceAdd, Int.reduceSub] at hr
      obtain ⟨rfl, rfl⟩ := hr
      refine ⟨vc, ?_⟩
      with_reducible refine thenC_normal ?_
      -- region 6
      replace hK := chk_some hK
      obtain ⟨h1, hK⟩ := hK
      refine AWP_rg tab_ok [0, 1, 2, 3, 11, 12, 26, 27] fun c st' hr => ?_
      simp only [go_sem, reduceIte, reduceCtorEq, Nat.reduceEqDiff, Nat.reduceLT, Nat.reduceLeDiff, Nat.reduceBEq, Nat.reduceAdd, Nat.reduceMul, Nat.reduceSub, Nat.reducePow, Int.reduceLE, Int.reduceLT, Int.reduceNeg, Int.reduceToNat, Int.reduceAdd, Int.reduceSub] at hr
      obtain ⟨rfl, rfl⟩ := hr
      refine ⟨vc, ?_⟩
      with_reducible refine inBlockA_normal (thenC_normal ?_)
      -- region 7
      refine AWP_facts (by simp) fun hfx => ?_
      simp only [factS, factV, fact1, fact0, factL0, lo, hi, maxLen, and_true, true_and] at hfx
      refine AWP_rg tab_ok [0, 1, 2, 3, 11, 12, 26, 27] fun c st' hr => ?_
      simp only [go_sem, reduceIte, reduceCtorEq, Nat.reduceEqDiff, Nat.reduceLT, Nat.reduceLeDiff, Nat.reduceBEq, Nat.reduceAdd, Nat.reduceMul, Nat.reduceSub, Nat.reducePow, Int.reduceLE, Int.reduceLT, Int.reduceNeg, Int.reduceToNat, Int.reduceAdd, Int.reduceSub] at hr
      obtain ⟨rfl, rfl⟩ := hr
      refine ⟨vc, ?_⟩
      clear hfx
      refine again_n (v.set v1.toNat (-2), v1 + 1) [0] hK mkWk
    · replace hK := ite_f hK hb
      refine AWP_exit ?_
      with_reducible refine thenC_exit (again_x ?_)
      refine cutX_here v [0] (by have hq := hpost1 _ hK; exact hq) mkWk
  · clear hK; rintro v2 hK
    try dsimp only at hK
    refine exS ⟨169, [(0, .ints .i64 x), (1, .ints .i64 a1), (2, .int .i64 a2), (3, .int .i64 a3), (11, .func 85 []), (12, .own 0 v2.length)], [some (.ints 3 .i64 v2)]⟩ rfl ?_
    with_reducible refine inBlockA_exit (thenC_normal ?_)
    refine AWP_seq ?_
    -- region 8
    refine AWP_rg tab_ok [0, 1, 2, 3, 11, 12, 14] fun c st' hr => ?_
    simp only [go_sem, reduceIte, reduceCtorEq, Nat.reduceEqDiff, Nat.reduceLT, Nat.reduceLeDiff, Nat.reduceBEq, Nat.reduceAdd, Nat.reduceMul, Nat.reduceSub, Nat.reducePow, Int.reduceLE, Int.reduceLT, Int.reduceNeg, Int.reduceToNat, Int.reduceAdd, Int.reduceSub] at hr
    obtain ⟨rfl, rfl⟩ := hr
    refine ⟨vc, ?_⟩
    with_reducible refine thenC_normal ?_
    refine AWP_own 14 (.ints 3 .i64 []) rfl rfl fun st' hr => ?_
    simp only [go_sem, reduceIte, reduceCtorEq, Nat.reduceEqDiff, Nat.reduceLT, Nat.reduceLeDiff, Nat.reduceBEq, Nat.reduceAdd, Nat.reduceMul, Nat.reduceSub, Nat.reducePow, Int.reduceLE, Int.reduceLT, Int.reduceNeg, Int.reduceToNat, Int.reduceAdd, Int.reduceSub] at hr
    subst hr
    refine AWP_seq ?_
    refine AWP_seq ?_
    -- region 9
    refine AWP_rg tab_ok [0, 1, 2, 3, 11, 12, 14, 34, 35] fun c st' hr => ?_
    simp only [go_sem, reduceIte, reduceCtorEq, Nat.reduceEqDiff, Nat.reduceLT, Nat.reduceLeDiff, Nat.reduceBEq, Nat.reduceAdd, Nat.reduceMul, Nat.reduceSub, Nat.reducePow, Int.reduceLE, Int.reduceLT, Int.reduceNeg, Int.reduceToNat, Int.reduceAdd, Int.reduceSub] at hr
    obtain ⟨rfl, rfl⟩ := hr
    refine ⟨vc, ?_⟩
    with_reducible refine thenC_normal ?_
    refine AWP_block ?_
    refine AWP_loopX 2 (fun ((v3, v4, v5) : List Int × List Int × Int) => ⟨169, [(0, .ints .i64 x), (1, .ints .i64 a1), (2, .int .i64 a2), (3, .int .i64 a3), (11, .func 85 []), (12, .own 0 v3.length), (14, .own 1 v4.length), (34, .int .i64 a2), (35, .int .i64 v5)], [some (.ints 3 .i64 v3), some (.ints 3 .i64 v4)]⟩) (fun ((v6, v7) : List Int × List Int) => ⟨169, [(0, .ints .i64 x), (1, .ints .i64 a1), (2, .int .i64 a2), (3, .int .i64 a3), (11, .func 85 []), (12, .own 0 v6.length), (14, .own 1 v7.length)], [some (.ints 3 .i64 v6), some (.ints 3 .i64 v7)]⟩) (fun v => v) (v2, [], 0) [0, 1] hK mkWk ?_ ?_
    · clear hK; rintro ⟨v3, v4, v5⟩ b1 hK hpost2
      try dsimp only at hK
      change AWP _ _ _ _ ⟨169, [(0, .ints .i64 x), (1, .ints .i64 a1), (2, .int .i64 a2), (3, .int .i64 a3), (11, .func 85 []), (12, .own 0 v3.length), (14, .own 1 v4.length), (34, .int .i64 a2), (35, .int .i64 v5)], [some (.ints 3 .i64 v3), some (.ints 3 .i64 v4)]⟩
      refine AWP_seq ?_
      -- region 10
      refine AWP_rg tab_ok [0, 1, 2, 3, 11, 12, 14, 34, 35, 36] fun c st' hr => ?_
      simp only [go_sem, reduceIte, reduceCtorEq, Nat.reduceEqDiff, Nat.reduceLT, Nat.reduceLeDiff, Nat.reduceBEq, Nat.reduceAdd, Nat.reduceMul, Nat.reduceSub, Nat.reducePow, Int.reduceLE, Int.reduceLT, Int.reduceNeg, Int.reduceToNat, Int.reduceAdd, Int.reduceSub] at hr
      obtain ⟨rfl, rfl⟩ := hr
      refine ⟨vc, ?_⟩
      with_reducible refine thenC_normal ?_
      refine AWP_seq ?_
      refine AWP_condP (v5 < a2) rfl bd (fun hb1 => ?_) (fun hb1 => ?_)
      · replace hK := ite_t hK hb1
        refine AWP_skip ?_
        with_reducible refine thenC_normal ?_
        refine AWP_seq ?_
        refine AWP_block ?_
        refine AWP_seq ?_
        -- region 11
        refine AWP_rg tab_ok [0, 1, 2, 3, 11, 12, 14, 15, 34, 35] fun c st' hr => ?_
        simp only [go_sem, reduceIte, reduceCtorEq, Nat.reduceEqDiff, Nat.reduceLT, Nat.reduceLeDiff, Nat.reduceBEq, Nat.reduceAdd, Nat.reduceMul, Nat.reduceSub, Nat.reducePow, Int.reduceLE, Int.reduceLT, Int.reduceNeg, Int.reduceToNat, Int.reduceAdd, Int.reduceSub] at hr
        obtain ⟨rfl, rfl⟩ := hr
        refine ⟨vc, ?_⟩
        with_reducible refine thenC_normal ?_
        refine AWP_seq ?_
        -- region 12
        refine AWP_rl ?_
        replace hK := chk_some hK
        obtain ⟨h2, hK⟩ := hK
        refine AWPL_rn tab_ok 12 [0, 1, 2, 3, 11, 12, 14, 15, 34, 35, 43, 44, 45, 49] fun c st' hr => ?_
        simp only [go_sem, reduceIte, reduceCtorEq, Nat.reduceEqDiff, Nat.reduceLT, Nat.reduceLeDiff, Nat.reduceBEq, Nat.reduceAdd, Nat.reduceMul, Nat.reduceSub, Nat.reducePow, Int.reduceLE, Int.reduceLT, Int.reduceNeg, Int.reduceToNat, Int.reduceAdd, Int.reduceSub] at hr
        obtain ⟨rfl, rfl⟩ := hr
        refine ⟨vc, ?_⟩
        by_cases hg : iand (a3 / 2 ^ v5.toNat) 1 = 0
        · replace hK := ite_t hK hg
          refine AWPL_stP [(0, .ints .i64 x), (1, .ints .i64 a1), (2, .int .i64 a2), (3, .int .i64 a3), (11, .func 85 []), (12, .own 0 v3.length), (14, .own 1 v4.length), (15, .int .i64 v5), (34, .int .i64 a2), (35, .int .i64 v5), (43, .bool true), (44, .opt true (.func 85 [])), (45, .opt true (.ints .i64 x)), (49, .opt true (.int .i64 (ior a3 (2 ^ v5.toNat : Int))))] (by first | (simp [SameS, AX.look, hg]; done) | (simp at hg ⊢; simp [SameS, AX.look, hg]; done) | (simp_all [SameS, AX.look]; done)) ?_
          refine AWPL_unopt 44 (.func 85 []) rfl fun st' hr => ?_
          simp only [go_sem, reduceIte, reduceCtorEq, Nat.reduceEqDiff, Nat.reduceLT, Nat.reduceLeDiff, Nat.reduceBEq, Nat.reduceAdd, Nat.reduceMul, Nat.reduceSub, Nat.reducePow, Int.reduceLE, Int.reduceLT, Int.reduceNeg, Int.reduceToNat, Int.reduceAdd, Int.reduceSub] at hr
          subst hr
          replace hK := bind_s hK
          obtain ⟨y, hy, hK⟩ := hK
          refine AWPL_callK [0, 1, 2, 3, 11, 12, 14, 15, 34, 35, 43, 50] (W_meet_grown_1 hy) rfl rfl pcT rfl Tryd.call85 (.cons (.atom _ rfl) (.cons (.atom _ rfl) .nil)) (hscG trivial) (of_decide_eq_true rfl) (by first | rfl | simp [nI, nI1, nI0]) (by first | rfl | simp [nIB, nI0]) fun st' hr => ?_
          simp only [go_sem, reduceIte, reduceCtorEq, Nat.reduceEqDiff, Nat.reduceLT, Nat.reduceLeDiff, Nat.reduceBEq, Nat.reduceAdd, Nat.reduceMul, Nat.reduceSub, Nat.reducePow, Int.reduceLE, Int.reduceLT, Int.reduceNeg, Int.reduceToNat, Int.reduceAdd, Int.reduceSub] at hr
          subst hr
          clear hy
          refine AWPL_rn tab_ok 1 [0, 1, 2, 3, 11, 12, 14, 15, 34, 35, 51] fun c st' hr => ?_
          simp only [go_sem, reduceIte, reduceCtorEq, Nat.reduceEqDiff, Nat.reduceLT, Nat.reduceLeDiff, Nat.reduceBEq, Nat.reduceAdd, Nat.reduceMul, Nat.reduceSub, Nat.reducePow, Int.reduceLE, Int.reduceLT, Int.reduceNeg, Int.reduceToNat, Int.reduceAdd, Int.reduceSub] at hr
          obtain ⟨rfl, rfl⟩ := hr
          refine ⟨vc, ?_⟩
          refine AWPL_nil ?_
          with_reducible refine thenC_normal ?_
          refine AWP_condP (y = true) rfl bd (fun hb2 => ?_) (fun hb2 => ?_)
          · replace hK := ite_t hK hb2
            refine AWP_seq ?_
            -- region 13
            replace hK := chk_some hK
            obtain ⟨h3, hK⟩ := hK
            refine AWP_rg tab_ok [0, 1, 2, 3, 11, 12, 14, 15, 34, 35] fun c st' hr => ?_
            simp only [go_sem, reduceIte, reduceCtorEq, Nat.reduceEqDiff, Nat.reduceLT, Nat.reduceLeDiff, Nat.reduceBEq, Nat.reduceAdd, Nat.reduceMul, Nat.reduceSub, Nat.reducePow, Int.reduceLE, Int.reduceLT, Int.reduceNeg, Int.reduceToNat, Int.reduceAdd, Int.reduceSub] at hr
            obtain ⟨rfl, rfl⟩ := hr
            refine ⟨vc, ?_⟩
            with_reducible refine thenC_normal ?_
            -- region 14
            replace hK := chk_some hK
            obtain ⟨h4, hK⟩ := hK
            refine AWP_rg tab_ok [0, 1, 2, 3, 11, 12, 14, 34, 35] fun c st' hr => ?_
            simp only [go_sem, reduceIte, reduceCtorEq, Nat.reduceEqDiff, Nat.reduceLT, Nat.reduceLeDiff, Nat.reduceBEq, Nat.reduceAdd, Nat.reduceMul, Nat.reduceSub, Nat.reducePow, Int.reduceLE, Int.reduceLT, Int.reduceNeg, Int.reduceToNat, Int.reduceAdd, Int.reduceSub] at hr
            obtain ⟨rfl, rfl⟩ := hr
            refine ⟨vc, ?_⟩
            with_reducible refine inBlockA_normal (thenC_normal ?_)
            -- region 15
            refine AWP_facts (by simp) fun hfx => ?_
            simp only [factS, factV, fact1, fact0, factL0, lo, hi, maxLen, and_true, true_and] at hfx
            refine AWP_rg tab_ok [0, 1, 2, 3, 11, 12, 14, 34, 35] fun c st' hr => ?_
            simp only [go_sem, reduceIte, reduceCtorEq, Nat.reduceEqDiff, Nat.reduceLT, Nat.reduceLeDiff, Nat.reduceBEq, Nat.reduceAdd, Nat.reduceMul, Nat.reduceSub, Nat.reducePow, Int.reduceLE, Int.reduceLT, Int.reduceNeg, Int.reduceToNat, Int.reduceAdd, Int.reduceSub] at hr
            obtain ⟨rfl, rfl⟩ := hr
            refine ⟨vc, ?_⟩
            clear hfx
            refine again_n (v3.set v5.toNat (-1), v4 ++ [v5], v5 + 1) [0, 3] hK mkWk
          · replace hK := ite_f hK hb2
            refine AWP_skip ?_
            with_reducible refine inBlockA_normal (thenC_normal ?_)
            -- region 15
            refine AWP_facts (by simp) fun hfx => ?_
            simp only [factS, factV, fact1, fact0, factL0, lo, hi, maxLen, and_true, true_and] at hfx
            refine AWP_rg tab_ok [0, 1, 2, 3, 11, 12, 14, 34, 35] fun c st' hr => ?_
            simp only [go_sem, reduceIte, reduceCtorEq, Nat.reduceEqDiff, Nat.reduceLT, Nat.reduceLeDiff, Nat.reduceBEq, Nat.reduceAdd, Nat.reduceMul, Nat.reduceSub, Nat.reducePow, Int.reduceLE, Int.reduceLT, Int.reduceNeg, Int.reduceToNat, Int.reduceAdd, Int.reduceSub] at hr
            obtain ⟨rfl, rfl⟩ := hr
            refine ⟨vc, ?_⟩
            clear hfx
            refine again_n (v3, v4, v5 + 1) [0, 1] hK mkWk
        · replace hK := ite_f hK hg
          refine AWPL_stP [(0, .ints .i64 x), (1, .ints .i64 a1), (2, .int .i64 a2), (3, .int .i64 a3), (11, .func 85 []), (12, .own 0 v3.length), (14, .own 1 v4.length), (15, .int .i64 v5), (34, .int .i64 a2), (35, .int .i64 v5), (43, .bool false), (44, .opt false (.func 85 [])), (45, .opt false (.ints .i64 x)), (49, .opt false (.int .i64 (ior a3 (2 ^ v5.toNat : Int))))] (by first | (simp [SameS, AX.look, hg]; done) | (simp at hg ⊢; simp [SameS, AX.look, hg]; done) | (simp_all [SameS, AX.look]; done)) ?_
          refine AWPL_skipV [0, 1, 2, 3, 11, 12, 14, 15, 34, 35, 43, 50] (.bool false) rfl pcF (of_decide_eq_true rfl) fun st' hr => ?_
          simp only [go_sem, reduceIte, reduceCtorEq, Nat.reduceEqDiff, Nat.reduceLT, Nat.reduceLeDiff, Nat.reduceBEq, Nat.reduceAdd, Nat.reduceMul, Nat.reduceSub, Nat.reducePow, Int.reduceLE, Int.reduceLT, Int.reduceNeg, Int.reduceToNat, Int.reduceAdd, Int.reduceSub] at hr
          subst hr
          refine AWPL_rn tab_ok 1 [0, 1, 2, 3, 11, 12, 14, 15, 34, 35, 51] fun c st' hr => ?_
          simp only [go_sem, reduceIte, reduceCtorEq, Nat.reduceEqDiff, Nat.reduceLT, Nat.reduceLeDiff, Nat.reduceBEq, Nat.reduceAdd, Nat.reduceMul, Nat.reduceSub, Nat.reducePow, Int.reduceLE, Int.reduceLT, Int.reduceNeg, Int.reduceToNat, Int.reduceAdd, Int.reduceSub] at hr
          obtain ⟨rfl, rfl⟩ := hr
          refine ⟨vc, ?_⟩
          refine AWPL_nil ?_
          with_reducible refine thenC_normal ?_
          refine AWP_condP (False) rfl bd (fun hb3 => ?_) (fun hb3 => ?_)
          · exact hb3.elim
          clear hb3
          refine AWP_skip ?_
          with_reducible refine inBlockA_normal (thenC_normal ?_)
          -- region 15
          refine AWP_facts (by simp) fun hfx => ?_
          simp only [factS, factV, fact1, fact0, factL0, lo, hi, maxLen, and_true, true_and] at hfx
          refine AWP_rg tab_ok [0, 1, 2, 3, 11, 12, 14, 34, 35] fun c st' hr => ?_
          simp only [go_sem, reduceIte, reduceCtorEq, Nat.reduceEqDiff, Nat.reduceLT, Nat.reduceLeDiff, Nat.reduceBEq, Nat.reduceAdd, Nat.reduceMul, Nat.reduceSub, Nat.reducePow, Int.reduceLE, Int.reduceLT, Int.reduceNeg, Int.reduceToNat, Int.reduceAdd, Int.reduceSub] at hr
          obtain ⟨rfl, rfl⟩ := hr
          refine ⟨vc, ?_⟩
          clear hfx
          refine again_n (v3, v4, v5 + 1) [0, 1] hK mkWk
      · replace hK := ite_f hK hb1
        refine AWP_exit ?_
        with_reducible refine thenC_exit (again_x ?_)
        refine cutX_here (v3, v4) [0, 1] (by have hq := hpost2 _ hK; exact hq) mkWk
    · clear hK; rintro ⟨v6, v7⟩ hK
      try dsimp only at hK
      refine exS ⟨169, [(0, .ints .i64 x), (1, .ints .i64 a1), (2, .int .i64 a2), (3, .int .i64 a3), (11, .func 85 []), (12, .own 0 v6.length), (14, .own 1 v7.length)], [some (.ints 3 .i64 v6), some (.ints 3 .i64 v7)]⟩ rfl ?_
      with_reducible refine inBlockA_exit (thenC_normal ?_)
      refine AWP_seq ?_
      refine AWP_seq ?_
      -- region 16
      refine AWP_rg tab_ok [0, 1, 2, 3, 11, 12, 14, 16] fun c st' hr => ?_
      simp only [go_sem, reduceIte, reduceCtorEq, Nat.reduceEqDiff, Nat.reduceLT, Nat.reduceLeDiff, Nat.reduceBEq, Nat.reduceAdd, Nat.reduceMul, Nat.reduceSub, Nat.reducePow, Int.reduceLE, Int.reduceLT, Int.reduceNeg, Int.reduceToNat, Int.reduceAdd, Int.reduceSub] at hr
      obtain ⟨rfl, rfl⟩ := hr
      refine ⟨vc, ?_⟩
      with_reducible refine thenC_normal ?_
      refine AWP_block ?_
      refine AWP_loopX 4 (fun ((v8, v9, v10) : List Int × List Int × Int) => ⟨169, [(0, .ints .i64 x), (1, .ints .i64 a1), (2, .int .i64 a2), (3, .int .i64 a3), (11, .func 85 []), (12, .own 0 v8.length), (14, .own 1 v9.length), (16, .int .i64 v10)], [some (.ints 3 .i64 v8), some (.ints 3 .i64 v9)]⟩) (fun (v11 : List Int) => ⟨169, [(2, .int .i64 a2), (3, .int .i64 a3), (12, .own 0 v11.length)], [some (.ints 3 .i64 v11)]⟩) Sum.inl (v6, v7, 0) [0, 1] hK mkWk ?_ ?_
      · clear hK; rintro ⟨v8, v9, v10⟩ b2 hK hpost3
        try dsimp only at hK
        change AWP _ _ _ _ ⟨169, [(0, .ints .i64 x), (1, .ints .i64 a1), (2, .int .i64 a2), (3, .int .i64 a3), (11, .func 85 []), (12, .own 0 v8.length), (14, .own 1 v9.length), (16, .int .i64 v10)], [some (.ints 3 .i64 v8), some (.ints 3 .i64 v9)]⟩
        refine AWP_seq ?_
        refine AWP_seq ?_
        -- region 17
        refine AWP_rg tab_ok [0, 1, 2, 3, 11, 12, 14, 16, 63] fun c st' hr => ?_
        simp only [go_sem, reduceIte, reduceCtorEq, Nat.reduceEqDiff, Nat.reduceLT, Nat.reduceLeDiff, Nat.reduceBEq, Nat.reduceAdd, Nat.reduceMul, Nat.reduceSub, Nat.reducePow, Int.reduceLE, Int.reduceLT, Int.reduceNeg, Int.reduceToNat, Int.reduceAdd, Int.reduceSub] at hr
        obtain ⟨rfl, rfl⟩ := hr
        refine ⟨vc, ?_⟩
        with_reducible refine thenC_normal ?_
        refine AWP_condP (v10 < (v9.length : Int)) rfl bd (fun hb4 => ?_) (fun hb4 => ?_)
        · replace hK := ite_t hK hb4
          refine AWP_skip ?_
          with_reducible refine thenC_normal ?_
          refine AWP_seq ?_
          refine AWP_block ?_
          refine AWP_seq ?_
          -- region 19
          replace hK := chk_some hK
          obtain ⟨h5, hK⟩ := hK
          refine AWP_rg tab_ok [0, 1, 2, 3, 11, 12, 14, 16, 17] fun c st' hr => ?_
          simp only [go_sem, reduceIte, reduceCtorEq, Nat.reduceEqDiff, Nat.reduceLT, Nat.reduceLeDiff, Nat.reduceBEq, Nat.reduceAdd, Nat.reduceMul, Nat.reduceSub, Nat.reducePow, Int.reduceLE, Int.reduceLT, Int.reduceNeg, Int.reduceToNat, Int.reduceAdd, Int.reduceSub] at hr
          obtain ⟨rfl, rfl⟩ := hr
          refine ⟨vc, ?_⟩
          with_reducible refine thenC_normal ?_
          refine AWP_seq ?_
          -- region 20
          replace hK := chk_some hK
          obtain ⟨h6, hK⟩ := hK
          refine AWP_rg tab_ok [0, 1, 2, 3, 11, 12, 14, 16, 17, 18] fun c st' hr => ?_
          simp only [go_sem, reduceIte, reduceCtorEq, Nat.reduceEqDiff, Nat.reduceLT, Nat.reduceLeDiff, Nat.reduceBEq, Nat.reduceAdd, Nat.reduceMul, Nat.reduceSub, Nat.reducePow, Int.reduceLE, Int.reduceLT, Int.reduceNeg, Int.reduceToNat, Int.reduceAdd, Int.reduceSub] at hr
          obtain ⟨rfl, rfl⟩ := hr
          refine ⟨vc, ?_⟩
          with_reducible refine thenC_normal ?_
          refine AWP_seqJ (fun _ => ⟨169, [(0, .ints .i64 x), (1, .ints .i64 a1), (2, .int .i64 a2), (3, .int .i64 a3), (11, .func 85 []), (12, .own 0 v8.length), (14, .own 1 v9.length), (16, .int .i64 v10), (17, .int .i64 (v9.getD v10.toNat 0)), (18, .bool (decide (iand (a3 / 2 ^ (v9.getD v10.toNat 0).toNat) 1 = 0)))], [some (.ints 3 .i64 v8), some (.ints 3 .i64 v9)]⟩) hK ?_ ?_
          · clear hK; intro j hK; try dsimp only at hK
            refine AWP_seq ?_
            -- region 21
            refine AWP_rl ?_
            replace hK := chk_some hK
            obtain ⟨h7, hK⟩ := hK
            refine AWPL_rn tab_ok 8 [0, 1, 2, 3, 11, 12, 14, 16, 17, 18, 76, 77, 78, 82] fun c st' hr => ?_
            simp only [go_sem, reduceIte, reduceCtorEq, Nat.reduceEqDiff, Nat.reduceLT, Nat.reduceLeDiff, Nat.reduceBEq, Nat.reduceAdd, Nat.reduceMul, Nat.reduceSub, Nat.reducePow, Int.reduceLE, Int.reduceLT, Int.reduceNeg, Int.reduceToNat, Int.reduceAdd, Int.reduceSub] at hr
            obtain ⟨rfl, rfl⟩ := hr
            refine ⟨vc, ?_⟩
            by_cases hg1 : iand (a3 / 2 ^ (v9.getD v10.toNat 0).toNat) 1 = 0
            · replace hK := ite_t hK hg1
              refine AWPL_stP [(0, .ints .i64 x), (1, .ints .i64 a1), (2, .int .i64 a2), (3, .int .i64 a3), (11, .func 85 []), (12, .own 0 v8.length), (14, .own 1 v9.length), (16, .int .i64 v10), (17, .int .i64 (v9.getD v10.toNat 0)), (18, .bool (decide (iand (a3 / 2 ^ (v9.getD v10.toNat 0).toNat) 1 = 0))), (76, .bool true), (77, .opt true (.func 85 [])), (78, .opt true (.ints .i64 a1)), (82, .opt true (.int .i64 (ior a3 (2 ^ (v9.getD v10.toNat 0).toNat : Int))))] (by first | (simp [SameS, AX.look, hg1]; done) | (simp at hg1 ⊢; simp [SameS, AX.look, hg1]; done) | (simp_all [SameS, AX.look]; done)) ?_
              refine AWPL_unopt 77 (.func 85 []) rfl fun st' hr => ?_
              simp only [go_sem, reduceIte, reduceCtorEq, Nat.reduceEqDiff, Nat.reduceLT, Nat.reduceLeDiff, Nat.reduceBEq, Nat.reduceAdd, Nat.reduceMul, Nat.reduceSub, Nat.reducePow, Int.reduceLE, Int.reduceLT, Int.reduceNeg, Int.reduceToNat, Int.reduceAdd, Int.reduceSub] at hr
              subst hr
              replace hK := bind_s hK
              obtain ⟨y1, hy, hK⟩ := hK
              refine AWPL_callK [0, 1, 2, 3, 11, 12, 14, 16, 17, 18, 76, 83] (W_meet_grown_1 hy) rfl rfl pcT rfl Tryd.call85 (.cons (.atom _ rfl) (.cons (.atom _ rfl) .nil)) (hscG trivial) (of_decide_eq_true rfl) (by first | rfl | simp [nI, nI1, nI0]) (by first | rfl | simp [nIB, nI0]) fun st' hr => ?_
              simp only [go_sem, reduceIte, reduceCtorEq, Nat.reduceEqDiff, Nat.reduceLT, Nat.reduceLeDiff, Nat.reduceBEq, Nat.reduceAdd, Nat.reduceMul, Nat.reduceSub, Nat.reducePow, Int.reduceLE, Int.reduceLT, Int.reduceNeg, Int.reduceToNat, Int.reduceAdd, Int.reduceSub] at hr
              subst hr
              clear hy
              refine AWPL_rn tab_ok 1 [0, 1, 2, 3, 11, 12, 14, 16, 17, 18, 84] fun c st' hr => ?_
              simp only [go_sem, reduceIte, reduceCtorEq, Nat.reduceEqDiff, Nat.reduceLT, Nat.reduceLeDiff, Nat.reduceBEq, Nat.reduceAdd, Nat.reduceMul, Nat.reduceSub, Nat.reducePow, Int.reduceLE, Int.reduceLT, Int.reduceNeg, Int.reduceToNat, Int.reduceAdd, Int.reduceSub] at hr
              obtain ⟨rfl, rfl⟩ := hr
              refine ⟨vc, ?_⟩
              refine AWPL_nil ?_
              with_reducible refine thenC_normal ?_
              refine AWP_condP (y1 = true) rfl bd (fun hb5 => ?_) (fun hb5 => ?_)
              · replace hK := ite_t hK hb5
                refine AWP_seq ?_
                refine AWP_seq ?_
                -- region 22
                refine AWP_rg tab_ok [3, 12, 19] fun c st' hr => ?_
                simp only [go_sem, reduceIte, reduceCtorEq, Nat.reduceEqDiff, Nat.reduceLT, Nat.reduceLeDiff, Nat.reduceBEq, Nat.reduceAdd, Nat.reduceMul, Nat.reduceSub, Nat.reducePow, Int.reduceLE, Int.reduceLT, Int.reduceNeg, Int.reduceToNat, Int.reduceAdd, Int.reduceSub] at hr
                obtain ⟨rfl, rfl⟩ := hr
                refine ⟨vc, ?_⟩
                with_reducible refine thenC_normal ?_
                refine AWP_block ?_
                refine AWP_loopX 6 (fun ((v12, v13) : Int × Int) => ⟨169, [(3, .int .i64 v12), (12, .own 0 v8.length), (19, .int .i64 v13)], [some (.ints 3 .i64 v8)]⟩) (fun (v14 : Int) => ⟨169, [(3, .int .i64 v14)], []⟩) (fun v => v) (a3, v9.getD v10.toNat 0) [0] hK mkWk ?_ ?_
                · clear hK; rintro ⟨v12, v13⟩ b3 hK hpost4
                  try dsimp only at hK
                  change AWP _ _ _ _ ⟨169, [(3, .int .i64 v12), (12, .own 0 v8.length), (19, .int .i64 v13)], [some (.ints 3 .i64 v8)]⟩
                  refine AWP_seq ?_
                  refine AWP_seq ?_
                  -- region 23
                  refine AWP_rg tab_ok [3, 12, 19, 87] fun c st' hr => ?_
                  simp only [go_sem, reduceIte, reduceCtorEq, Nat.reduceEqDiff, Nat.reduceLT, Nat.reduceLeDiff, Nat.reduceBEq, Nat.reduceAdd, Nat.reduceMul, Nat.reduceSub, Nat.reducePow, Int.reduceLE, Int.reduceLT, Int.reduceNeg, Int.reduceToNat, Int.reduceAdd, Int.reduceSub] at hr
                  obtain ⟨rfl, rfl⟩ := hr
                  refine ⟨vc, ?_⟩
                  with_reducible refine thenC_normal ?_
                  refine AWP_condP (0 ≤ v13) rfl bd (fun hb6 => ?_) (fun hb6 => ?_)
                  · replace hK := ite_t hK hb6
                    refine AWP_skip ?_
                    with_reducible refine thenC_normal ?_
                    refine AWP_seq ?_
                    refine AWP_block ?_
                    -- region 25
                    replace hK := chk_some hK
                    obtain ⟨h8, hK⟩ := hK
                    refine AWP_rg tab_ok [3, 12, 19] fun c st' hr => ?_
                    simp only [go_sem, reduceIte, reduceCtorEq, Nat.reduceEqDiff, Nat.reduceLT, Nat.reduceLeDiff, Nat.reduceBEq, Nat.reduceAdd, Nat.reduceMul, Nat.reduceSub, Nat.reducePow, Int.reduceLE, Int.reduceLT, Int.reduceNeg, Int.reduceToNat, Int.reduceAdd, Int.reduceSub] at hr
                    obtain ⟨rfl, rfl⟩ := hr
                    refine ⟨vc, ?_⟩
                    with_reducible refine inBlockA_normal (thenC_normal ?_)
                    -- region 24
                    replace hK := chk_some hK
                    obtain ⟨h9, hK⟩ := hK
                    refine AWP_rg tab_ok [3, 12, 19] fun c st' hr => ?_
                    simp only [go_sem, reduceIte, reduceCtorEq, Nat.reduceEqDiff, Nat.reduceLT, Nat.reduceLeDiff, Nat.reduceBEq, Nat.reduceAdd, Nat.reduceMul, Nat.reduceSub, Nat.reducePow, Int.reduceLE, Int.reduceLT, Int.reduceNeg, Int.reduceToNat, Int.reduceAdd, Int.reduceSub] at hr
                    obtain ⟨rfl, rfl⟩ := hr
                    refine ⟨vc, ?_⟩
                    refine again_n (ixor v12 (2 ^ v13.toNat : Int), v8.getD v13.toNat 0) [0] hK mkWk
                  · replace hK := ite_f hK hb6
                    refine AWP_exit ?_
                    with_reducible refine thenC_exit (again_x ?_)
                    refine cutX_here v12 [] (by have hq := hpost4 _ hK; exact hq) mkWk
                · clear hK; rintro v14 hK
                  try dsimp only at hK
                  refine exS ⟨169, [(3, .int .i64 v14)], []⟩ rfl ?_
                  with_reducible refine inBlockA_exit (thenC_normal ?_)
                  refine AWP_seq ?_
                  -- region 26
                  refine AWP_rg tab_ok [8, 9, 10] fun c st' hr => ?_
                  simp only [go_sem, reduceIte, reduceCtorEq, Nat.reduceEqDiff, Nat.reduceLT, Nat.reduceLeDiff, Nat.reduceBEq, Nat.reduceAdd, Nat.reduceMul, Nat.reduceSub, Nat.reducePow, Int.reduceLE, Int.reduceLT, Int.reduceNeg, Int.reduceToNat, Int.reduceAdd, Int.reduceSub] at hr
                  obtain ⟨rfl, rfl⟩ := hr
                  refine ⟨vc, ?_⟩
                  with_reducible refine thenC_normal ?_
                  refine AWP_ret ?_
                  with_reducible refine join_r (inBlockA_ret (thenC_ret (again_r (cutX_r (inBlockA_ret (thenC_ret ?_))))))
                  replace hK := hpost3 _ hK
                  try dsimp only at hK
                  cases hK
                  refine EndsRW [] (.inl rfl) (of_decide_eq_true rfl) (by simp) rfl (fun c x hr => ?_) trivial
                  simp only [go_sem, reduceIte, reduceCtorEq, Nat.reduceEqDiff, Nat.reduceLT, Nat.reduceLeDiff, Nat.reduceBEq, Nat.reduceAdd, Nat.reduceMul, Nat.reduceSub, Nat.reducePow, Int.reduceLE, Int.reduceLT, Int.reduceNeg, Int.reduceToNat, Int.reduceAdd, Int.reduceSub] at hr
                  obtain ⟨rfl, rfl⟩ := hr
                  exact ⟨rfl, endR⟩
              · replace hK := ite_f hK hb5
                refine AWP_skip ?_
                refine join_n () [0, 1] hK mkWk
            · replace hK := ite_f hK hg1
              refine AWPL_stP [(0, .ints .i64 x), (1, .ints .i64 a1), (2, .int .i64 a2), (3, .int .i64 a3), (11, .func 85 []), (12, .own 0 v8.length), (14, .own 1 v9.length), (16, .int .i64 v10), (17, .int .i64 (v9.getD v10.toNat 0)), (18, .bool (decide (iand (a3 / 2 ^ (v9.getD v10.toNat 0).toNat) 1 = 0))), (76, .bool false), (77, .opt false (.func 85 [])), (78, .opt false (.ints .i64 a1)), (82, .opt false (.int .i64 (ior a3 (2 ^ (v9.getD v10.toNat 0).toNat : Int))))] (by first | (simp [SameS, AX.look, hg1]; done) | (simp at hg1 ⊢; simp [SameS, AX.look, hg1]; done) | (simp_all [SameS, AX.look]; done)) ?_
              refine AWPL_skipV [0, 1, 2, 3, 11, 12, 14, 16, 17, 18, 76, 83] (.bool false) rfl pcF (of_decide_eq_true rfl) fun st' hr => ?_
              simp only [go_sem, reduceIte, reduceCtorEq, Nat.reduceEqDiff, Nat.reduceLT, Nat.reduceLeDiff, Nat.reduceBEq, Nat.reduceAdd, Nat.reduceMul, Nat.reduceSub, Nat.reducePow, Int.reduceLE, Int.reduceLT, Int.reduceNeg, Int.reduceToNat, Int.reduceAdd, Int.reduceSub] at hr
              subst hr
              refine AWPL_rn tab_ok 1 [0, 1, 2, 3, 11, 12, 14, 16, 17, 18, 84] fun c st' hr => ?_
              simp only [go_sem, reduceIte, reduceCtorEq, Nat.reduceEqDiff, Nat.reduceLT, Nat.reduceLeDiff, Nat.reduceBEq, Nat.reduceAdd, Nat.reduceMul, Nat.reduceSub, Nat.reducePow, Int.reduceLE, Int.reduceLT, Int.reduceNeg, Int.reduceToNat, Int.reduceAdd, Int.reduceSub] at hr
              obtain ⟨rfl, rfl⟩ := hr
              refine ⟨vc, ?_⟩
              refine AWPL_nil ?_
              with_reducible refine thenC_normal ?_
              refine AWP_condP (False) rfl bd (fun hb7 => ?_) (fun hb7 => ?_)
              · exact hb7.elim
              clear hb7
              refine AWP_skip ?_
              refine join_n () [0, 1] hK mkWk
          · clear hK; intro q hK
            try dsimp only at hK
            change AWP _ _ _ _ ⟨169, [(0, .ints .i64 x), (1, .ints .i64 a1), (2, .int .i64 a2), (3, .int .i64 a3), (11, .func 85 []), (12, .own 0 v8.length), (14, .own 1 v9.length), (16, .int .i64 v10), (17, .int .i64 (v9.getD v10.toNat 0)), (18, .bool (decide (iand (a3 / 2 ^ (v9.getD v10.toNat 0).toNat) 1 = 0)))], [some (.ints 3 .i64 v8), some (.ints 3 .i64 v9)]⟩
            refine AWP_seq ?_
            -- region 27
            refine AWP_rg tab_ok [0, 1, 2, 3, 11, 12, 14, 16, 17, 18, 97, 98] fun c st' hr => ?_
            simp only [go_sem, reduceIte, reduceCtorEq, Nat.reduceEqDiff, Nat.reduceLT, Nat.reduceLeDiff, Nat.reduceBEq, Nat.reduceAdd, Nat.reduceMul, Nat.reduceSub, Nat.reducePow, Int.reduceLE, Int.reduceLT, Int.reduceNeg, Int.reduceToNat, Int.reduceAdd, Int.reduceSub] at hr
            obtain ⟨rfl, rfl⟩ := hr
            refine ⟨vc, ?_⟩
            with_reducible refine thenC_normal ?_
            refine AWP_block ?_
            refine AWP_loopX 8 (fun ((v15, v16, v17) : List Int × List Int × Int) => ⟨169, [(0, .ints .i64 x), (1, .ints .i64 a1), (2, .int .i64 a2), (3, .int .i64 a3), (11, .func 85 []), (12, .own 0 v15.length), (14, .own 1 v16.length), (16, .int .i64 v10), (17, .int .i64 (v9.getD v10.toNat 0)), (18, .bool (decide (iand (a3 / 2 ^ (v9.getD v10.toNat 0).toNat) 1 = 0))), (97, .int .i64 a2), (98, .int .i64 v17)], [some (.ints 3 .i64 v15), some (.ints 3 .i64 v16)]⟩) (fun ((v18, v19) : List Int × List Int) => ⟨169, [(0, .ints .i64 x), (1, .ints .i64 a1), (2, .int .i64 a2), (3, .int .i64 a3), (11, .func 85 []), (12, .own 0 v18.length), (14, .own 1 v19.length), (16, .int .i64 v10)], [some (.ints 3 .i64 v18), some (.ints 3 .i64 v19)]⟩) (fun v => v) (v8, v9, 0) [0, 1] hK mkWk ?_ ?_
            · clear hK; rintro ⟨v15, v16, v17⟩ b4 hK hpost4
              try dsimp only at hK
              change AWP _ _ _ _ ⟨169, [(0, .ints .i64 x), (1, .ints .i64 a1), (2, .int .i64 a2), (3, .int .i64 a3), (11, .func 85 []), (12, .own 0 v15.length), (14, .own 1 v16.length), (16, .int .i64 v10), (17, .int .i64 (v9.getD v10.toNat 0)), (18, .bool (decide (iand (a3 / 2 ^ (v9.getD v10.toNat 0).toNat) 1 = 0))), (97, .int .i64 a2), (98, .int .i64 v17)], [some (.ints 3 .i64 v15), some (.ints 3 .i64 v16)]⟩
              refine AWP_seq ?_
              -- region 28
              refine AWP_rg tab_ok [0, 1, 2, 3, 11, 12, 14, 16, 17, 18, 97, 98, 99] fun c st' hr => ?_
              simp only [go_sem, reduceIte, reduceCtorEq, Nat.reduceEqDiff, Nat.reduceLT, Nat.reduceLeDiff, Nat.reduceBEq, Nat.reduceAdd, Nat.reduceMul, Nat.reduceSub, Nat.reducePow, Int.reduceLE, Int.reduceLT, Int.reduceNeg, Int.reduceToNat, Int.reduceAdd, Int.reduceSub] at hr
              obtain ⟨rfl, rfl⟩ := hr
              refine ⟨vc, ?_⟩
              with_reducible refine thenC_normal ?_
              refine AWP_seq ?_
              refine AWP_condP (v17 < a2) rfl bd (fun hb8 => ?_) (fun hb8 => ?_)
              · replace hK := ite_t hK hb8
                refine AWP_skip ?_
                with_reducible refine thenC_normal ?_
                refine AWP_seq ?_
                refine AWP_block ?_
                refine AWP_seq ?_
                -- region 29
                refine AWP_rg tab_ok [0, 1, 2, 3, 11, 12, 14, 16, 17, 18, 20, 97, 98] fun c st' hr => ?_
                simp only [go_sem, reduceIte, reduceCtorEq, Nat.reduceEqDiff, Nat.reduceLT, Nat.reduceLeDiff, Nat.reduceBEq, Nat.reduceAdd, Nat.reduceMul, Nat.reduceSub, Nat.reducePow, Int.reduceLE, Int.reduceLT, Int.reduceNeg, Int.reduceToNat, Int.reduceAdd, Int.reduceSub] at hr
                obtain ⟨rfl, rfl⟩ := hr
                refine ⟨vc, ?_⟩
                with_reducible refine thenC_normal ?_
                refine AWP_seq ?_
                refine AWP_seq ?_
                -- region 30
                replace hK := chk_some hK
                obtain ⟨h10, hK⟩ := hK
                refine AWP_rg tab_ok [0, 1, 2, 3, 11, 12, 14, 16, 17, 18, 20, 97, 98, 114] fun c st' hr => ?_
                simp only [go_sem, reduceIte, reduceCtorEq, Nat.reduceEqDiff, Nat.reduceLT, Nat.reduceLeDiff, Nat.reduceBEq, Nat.reduceAdd, Nat.reduceMul, Nat.reduceSub, Nat.reducePow, Int.reduceLE, Int.reduceLT, Int.reduceNeg, Int.reduceToNat, Int.reduceAdd, Int.reduceSub] at hr
                obtain ⟨rfl, rfl⟩ := hr
                refine ⟨vc, ?_⟩
                with_reducible refine thenC_normal ?_
                refine AWP_condP ((v15.getD v17.toNat 0 ≠ (-2) ∨ ¬ (iand (a3 / 2 ^ v17.toNat) 1 = 1 ↔ iand (a3 / 2 ^ (v9.getD v10.toNat 0).toNat) 1 = 0))) rfl bd (fun hb9 => ?_) (fun hb9 => ?_)
                · replace hK := ite_t hK hb9
                  refine AWP_exit ?_
                  with_reducible refine thenC_exit (inBlockA_exit (thenC_normal ?_))
                  -- region 34
                  refine AWP_facts (by simp) fun hfx => ?_
                  simp only [factS, factV, fact1, fact0, factL0, lo, hi, maxLen, and_true, true_and] at hfx
                  refine AWP_rg tab_ok [0, 1, 2, 3, 11, 12, 14, 16, 17, 18, 97, 98] fun c st' hr => ?_
                  simp only [go_sem, reduceIte, reduceCtorEq, Nat.reduceEqDiff, Nat.reduceLT, Nat.reduceLeDiff, Nat.reduceBEq, Nat.reduceAdd, Nat.reduceMul, Nat.reduceSub, Nat.reducePow, Int.reduceLE, Int.reduceLT, Int.reduceNeg, Int.reduceToNat, Int.reduceAdd, Int.reduceSub] at hr
                  obtain ⟨rfl, rfl⟩ := hr
                  refine ⟨vc, ?_⟩
                  clear hfx
                  refine again_n (v15, v16, v17 + 1) [0, 1] hK mkWk
                · replace hK := ite_f hK hb9
                  refine AWP_skip ?_
                  with_reducible refine thenC_normal ?_
                  refine AWP_seq ?_
                  -- region 31
                  refine AWP_drawQ mixed (by kernel_rfl) ?_
                  replace hK := chk_some hK
                  obtain ⟨h11, hK⟩ := hK
                  refine AWQL_rn tab_ok 11 [0, 1, 2, 3, 11, 12, 14, 16, 17, 18, 20, 97, 98, 116, 117, 118, 125] fun c st' hr => ?_
                  simp only [go_sem, reduceIte, reduceCtorEq, Nat.reduceEqDiff, Nat.reduceLT, Nat.reduceLeDiff, Nat.reduceBEq, Nat.reduceAdd, Nat.reduceMul, Nat.reduceSub, Nat.reducePow, Int.reduceLE, Int.reduceLT, Int.reduceNeg, Int.reduceToNat, Int.reduceAdd, Int.reduceSub] at hr
                  obtain ⟨rfl, rfl⟩ := hr
                  refine ⟨vc, ?_⟩
                  by_cases hg2 : iand (a3 / 2 ^ (v9.getD v10.toNat 0).toNat) 1 = 0
                  · replace hK := ite_t hK hg2
                    refine AWQL_stP [(0, .ints .i64 x), (1, .ints .i64 a1), (2, .int .i64 a2), (3, .int .i64 a3), (11, .func 85 []), (12, .own 0 v15.length), (14, .own 1 v16.length), (16, .int .i64 v10), (17, .int .i64 (v9.getD v10.toNat 0)), (18, .bool (decide (iand (a3 / 2 ^ (v9.getD v10.toNat 0).toNat) 1 = 0))), (20, .int .i64 v17), (97, .int .i64 a2), (98, .int .i64 v17), (116, .bool true), (117, .opt true (.func 85 [])), (118, .opt true (.ints .i64 a1)), (125, .opt true (.int .i64 (ior (iandnot a3 (2 ^ v17.toNat : Int)) (2 ^ (v9.getD v10.toNat 0).toNat : Int))))] (by first | (simp [SameS, AX.look, hg2]; done) | (simp at hg2 ⊢; simp [SameS, AX.look, hg2]; done) | (simp_all [SameS, AX.look]; done)) ?_
                    refine AWQL_unopt 117 (.func 85 []) rfl fun st' hr => ?_
                    simp only [go_sem, reduceIte, reduceCtorEq, Nat.reduceEqDiff, Nat.reduceLT, Nat.reduceLeDiff, Nat.reduceBEq, Nat.reduceAdd, Nat.reduceMul, Nat.reduceSub, Nat.reducePow, Int.reduceLE, Int.reduceLT, Int.reduceNeg, Int.reduceToNat, Int.reduceAdd, Int.reduceSub] at hr
                    subst hr
                    replace hK := bind_s hK
                    obtain ⟨y2, hy, hK⟩ := hK
                    refine AWQL_callK [0, 1, 2, 3, 11, 12, 14, 16, 17, 18, 20, 97, 98, 116, 126] (W_meet_grown_1 hy) rfl rfl pcT rfl Tryd.call85 (.cons (.atom _ rfl) (.cons (.atom _ rfl) .nil)) (hscG trivial) (of_decide_eq_true rfl) rfl fun st' hr => ?_
                    simp only [go_sem, reduceIte, reduceCtorEq, Nat.reduceEqDiff, Nat.reduceLT, Nat.reduceLeDiff, Nat.reduceBEq, Nat.reduceAdd, Nat.reduceMul, Nat.reduceSub, Nat.reducePow, Int.reduceLE, Int.reduceLT, Int.reduceNeg, Int.reduceToNat, Int.reduceAdd, Int.reduceSub] at hr
                    subst hr
                    clear hy
                    replace hK := chk_some hK
                    obtain ⟨h12, hK⟩ := hK
                    refine AWQL_rn tab_ok 14 [0, 1, 2, 3, 11, 12, 14, 16, 17, 18, 20, 97, 98, 128, 131, 132, 133, 140] fun c st' hr => ?_
                    simp only [go_sem, reduceIte, reduceCtorEq, Nat.reduceEqDiff, Nat.reduceLT, Nat.reduceLeDiff, Nat.reduceBEq, Nat.reduceAdd, Nat.reduceMul, Nat.reduceSub, Nat.reducePow, Int.reduceLE, Int.reduceLT, Int.reduceNeg, Int.reduceToNat, Int.reduceAdd, Int.reduceSub] at hr
                    obtain ⟨rfl, rfl⟩ := hr
                    refine ⟨vc, ?_⟩
                    by_cases hg3 : (¬ (y2 = true))
                    · replace hK := ite_t hK hg3
                      refine AWQL_stP [(0, .ints .i64 x), (1, .ints .i64 a1), (2, .int .i64 a2), (3, .int .i64 a3), (11, .func 85 []), (12, .own 0 v15.length), (14, .own 1 v16.length), (16, .int .i64 v10), (17, .int .i64 (v9.getD v10.toNat 0)), (18, .bool (decide (iand (a3 / 2 ^ (v9.getD v10.toNat 0).toNat) 1 = 0))), (20, .int .i64 v17), (97, .int .i64 a2), (98, .int .i64 v17), (128, .bool y2), (131, .opt true (.bool (decide (¬ (iand (a3 / 2 ^ (v9.getD v10.toNat 0).toNat) 1 = 0))))), (132, .opt (decide (¬ (iand (a3 / 2 ^ (v9.getD v10.toNat 0).toNat) 1 = 0))) (.func 85 [])), (133, .opt (decide (¬ (iand (a3 / 2 ^ (v9.getD v10.toNat 0).toNat) 1 = 0))) (.ints .i64 x)), (140, .opt (decide (¬ (iand (a3 / 2 ^ (v9.getD v10.toNat 0).toNat) 1 = 0))) (.int .i64 (ior (iandnot a3 (2 ^ (v9.getD v10.toNat 0).toNat : Int)) (2 ^ v17.toNat : Int))))] (by first | (simp [SameS, AX.look, hg3]; done) | (simp at hg3 ⊢; simp [SameS, AX.look, hg3]; done) | (simp_all [SameS, AX.look]; done)) ?_
                      by_cases hg4 : ¬ (iand (a3 / 2 ^ (v9.getD v10.toNat 0).toNat) 1 = 0)
                      · replace hK := ite_t hK hg4
                        refine AWQL_stP [(0, .ints .i64 x), (1, .ints .i64 a1), (2, .int .i64 a2), (3, .int .i64 a3), (11, .func 85 []), (12, .own 0 v15.length), (14, .own 1 v16.length), (16, .int .i64 v10), (17, .int .i64 (v9.getD v10.toNat 0)), (18, .bool (decide (iand (a3 / 2 ^ (v9.getD v10.toNat 0).toNat) 1 = 0))), (20, .int .i64 v17), (97, .int .i64 a2), (98, .int .i64 v17), (128, .bool y2), (131, .opt true (.bool true)), (132, .opt true (.func 85 [])), (133, .opt true (.ints .i64 x)), (140, .opt true (.int .i64 (ior (iandnot a3 (2 ^ (v9.getD v10.toNat 0).toNat : Int)) (2 ^ v17.toNat : Int))))] (by first | (simp [SameS, AX.look, hg4]; done) | (simp at hg4 ⊢; simp [SameS, AX.look, hg4]; done) | (simp_all [SameS, AX.look]; done)) ?_
                        refine AWQL_unopt 132 (.func 85 []) rfl fun st' hr => ?_
                        simp only [go_sem, reduceIte, reduceCtorEq, Nat.reduceEqDiff, Nat.reduceLT, Nat.reduceLeDiff, Nat.reduceBEq, Nat.reduceAdd, Nat.reduceMul, Nat.reduceSub, Nat.reducePow, Int.reduceLE, Int.reduceLT, Int.reduceNeg, Int.reduceToNat, Int.reduceAdd, Int.reduceSub] at hr
                        subst hr
                        replace hK := bind_s hK
                        obtain ⟨y3, hy, hK⟩ := hK
                        refine AWQL_callK [0, 1, 2, 3, 11, 12, 14, 16, 17, 18, 20, 97, 98, 128, 131, 141] (W_meet_grown_1 hy) rfl rfl pcT rfl Tryd.call85 (.cons (.atom _ rfl) (.cons (.atom _ rfl) .nil)) (hscG trivial) (of_decide_eq_true rfl) rfl fun st' hr => ?_
                        simp only [go_sem, reduceIte, reduceCtorEq, Nat.reduceEqDiff, Nat.reduceLT, Nat.reduceLeDiff, Nat.reduceBEq, Nat.reduceAdd, Nat.reduceMul, Nat.reduceSub, Nat.reducePow, Int.reduceLE, Int.reduceLT, Int.reduceNeg, Int.reduceToNat, Int.reduceAdd, Int.reduceSub] at hr
                        subst hr
                        clear hy
                        refine AWQL_rn tab_ok 2 [0, 1, 2, 3, 11, 12, 14, 16, 17, 18, 20, 97, 98, 143] fun c st' hr => ?_
                        simp only [go_sem, reduceIte, reduceCtorEq, Nat.reduceEqDiff, Nat.reduceLT, Nat.reduceLeDiff, Nat.reduceBEq, Nat.reduceAdd, Nat.reduceMul, Nat.reduceSub, Nat.reducePow, Int.reduceLE, Int.reduceLT, Int.reduceNeg, Int.reduceToNat, Int.reduceAdd, Int.reduceSub] at hr
                        obtain ⟨rfl, rfl⟩ := hr
                        refine ⟨vc, ?_⟩
                        refine AWQL_nil ?_
                        with_reducible refine thenC_normal ?_
                        refine AWP_condP ((y2 = true ∨ y3 = true)) rfl bd (fun hb10 => ?_) (fun hb10 => ?_)
                        · replace hK := ite_t hK hb10
                          refine AWP_seq ?_
                          -- region 32
                          replace hK := chk_some hK
                          obtain ⟨h13, hK⟩ := hK
                          refine AWP_rg tab_ok [0, 1, 2, 3, 11, 12, 14, 16, 17, 18, 20, 97, 98] fun c st' hr => ?_
                          simp only [go_sem, reduceIte, reduceCtorEq, Nat.reduceEqDiff, Nat.reduceLT, Nat.reduceLeDiff, Nat.reduceBEq, Nat.reduceAdd, Nat.reduceMul, Nat.reduceSub, Nat.reducePow, Int.reduceLE, Int.reduceLT, Int.reduceNeg, Int.reduceToNat, Int.reduceAdd, Int.reduceSub] at hr
                          obtain ⟨rfl, rfl⟩ := hr
                          refine ⟨vc, ?_⟩
                          with_reducible refine thenC_normal ?_
                          -- region 33
                          replace hK := chk_some hK
                          obtain ⟨h14, hK⟩ := hK
                          refine AWP_rg tab_ok [0, 1, 2, 3, 11, 12, 14, 16, 17, 18, 97, 98] fun c st' hr => ?_
                          simp only [go_sem, reduceIte, reduceCtorEq, Nat.reduceEqDiff, Nat.reduceLT, Nat.reduceLeDiff, Nat.reduceBEq, Nat.reduceAdd, Nat.reduceMul, Nat.reduceSub, Nat.reducePow, Int.reduceLE, Int.reduceLT, Int.reduceNeg, Int.reduceToNat, Int.reduceAdd, Int.reduceSub] at hr
                          obtain ⟨rfl, rfl⟩ := hr
                          refine ⟨vc, ?_⟩
                          with_reducible refine inBlockA_normal (thenC_normal ?_)
                          -- region 34
                          refine AWP_facts (by simp) fun hfx => ?_
                          simp only [factS, factV, fact1, fact0, factL0, lo, hi, maxLen, and_true, true_and] at hfx
                          refine AWP_rg tab_ok [0, 1, 2, 3, 11, 12, 14, 16, 17, 18, 97, 98] fun c st' hr => ?_
                          simp only [go_sem, reduceIte, reduceCtorEq, Nat.reduceEqDiff, Nat.reduceLT, Nat.reduceLeDiff, Nat.reduceBEq, Nat.reduceAdd, Nat.reduceMul, Nat.reduceSub, Nat.reducePow, Int.reduceLE, Int.reduceLT, Int.reduceNeg, Int.reduceToNat, Int.reduceAdd, Int.reduceSub] at hr
                          obtain ⟨rfl, rfl⟩ := hr
                          refine ⟨vc, ?_⟩
                          clear hfx
                          refine again_n (v15.set v17.toNat (v9.getD v10.toNat 0), v16 ++ [v17], v17 + 1) [0, 3] hK mkWk
                        · replace hK := ite_f hK hb10
                          refine AWP_skip ?_
                          with_reducible refine inBlockA_normal (thenC_normal ?_)
                          -- region 34
                          refine AWP_facts (by simp) fun hfx => ?_
                          simp only [factS, factV, fact1, fact0, factL0, lo, hi, maxLen, and_true, true_and] at hfx
                          refine AWP_rg tab_ok [0, 1, 2, 3, 11, 12, 14, 16, 17, 18, 97, 98] fun c st' hr => ?_
                          simp only [go_sem, reduceIte, reduceCtorEq, Nat.reduceEqDiff, Nat.reduceLT, Nat.reduceLeDiff, Nat.reduceBEq, Nat.reduceAdd, Nat.reduceMul, Nat.reduceSub, Nat.reducePow, Int.reduceLE, Int.reduceLT, Int.reduceNeg, Int.reduceToNat, Int.reduceAdd, Int.reduceSub] at hr
                          obtain ⟨rfl, rfl⟩ := hr
                          refine ⟨vc, ?_⟩
                          clear hfx
                          refine again_n (v15, v16, v17 + 1) [0, 1] hK mkWk
                      · replace hK := ite_f hK hg4
                        refine AWQL_stP [(0, .ints .i64 x), (1, .ints .i64 a1), (2, .int .i64 a2), (3, .int .i64 a3), (11, .func 85 []), (12, .own 0 v15.length), (14, .own 1 v16.length), (16, .int .i64 v10), (17, .int .i64 (v9.getD v10.toNat 0)), (18, .bool (decide (iand (a3 / 2 ^ (v9.getD v10.toNat 0).toNat) 1 = 0))), (20, .int .i64 v17), (97, .int .i64 a2), (98, .int .i64 v17), (128, .bool y2), (131, .opt true (.bool false)), (132, .opt false (.func 85 [])), (133, .opt false (.ints .i64 x)), (140, .opt false (.int .i64 (ior (iandnot a3 (2 ^ (v9.getD v10.toNat 0).toNat : Int)) (2 ^ v17.toNat : Int))))] (by first | (simp [SameS, AX.look, hg4]; done) | (simp at hg4 ⊢; simp [SameS, AX.look, hg4]; done) | (simp_all [SameS, AX.look]; done)) ?_
                        refine AWQL_skipV [0, 1, 2, 3, 11, 12, 14, 16, 17, 18, 20, 97, 98, 128, 131, 141] (.bool false) rfl pcF (of_decide_eq_true rfl) fun st' hr => ?_
                        simp only [go_sem, reduceIte, reduceCtorEq, Nat.reduceEqDiff, Nat.reduceLT, Nat.reduceLeDiff, Nat.reduceBEq, Nat.reduceAdd, Nat.reduceMul, Nat.reduceSub, Nat.reducePow, Int.reduceLE, Int.reduceLT, Int.reduceNeg, Int.reduceToNat, Int.reduceAdd, Int.reduceSub] at hr
                        subst hr
                        refine AWQL_rn tab_ok 2 [0, 1, 2, 3, 11, 12, 14, 16, 17, 18, 20, 97, 98, 143] fun c st' hr => ?_
                        simp only [go_sem, reduceIte, reduceCtorEq, Nat.reduceEqDiff, Nat.reduceLT, Nat.reduceLeDiff, Nat.reduceBEq, Nat.reduceAdd, Nat.reduceMul, Nat.reduceSub, Nat.reducePow, Int.reduceLE, Int.reduceLT, Int.reduceNeg, Int.reduceToNat, Int.reduceAdd, Int.reduceSub] at hr
                        obtain ⟨rfl, rfl⟩ := hr
                        refine ⟨vc, ?_⟩
                        refine AWQL_nil ?_
                        with_reducible refine thenC_normal ?_
                        refine AWP_condP ((y2 = true ∨ False)) rfl bd (fun hb11 => ?_) (fun hb11 => ?_)
                        · replace hK := ite_t hK hb11
                          refine AWP_seq ?_
                          -- region 32
                          replace hK := chk_some hK
                          obtain ⟨h15, hK⟩ := hK
                          refine AWP_rg tab_ok [0, 1, 2, 3, 11, 12, 14, 16, 17, 18, 20, 97, 98] fun c st' hr => ?_
                          simp only [go_sem, reduceIte, reduceCtorEq, Nat.reduceEqDiff, Nat.reduceLT, Nat.reduceLeDiff, Nat.reduceBEq, Nat.reduceAdd, Nat.reduceMul, Nat.reduceSub, Nat.reducePow, Int.reduceLE, Int.reduceLT, Int.reduceNeg, Int.reduceToNat, Int.reduceAdd, Int.reduceSub] at hr
                          obtain ⟨rfl, rfl⟩ := hr
                          refine ⟨vc, ?_⟩
                          with_reducible refine thenC_normal ?_
                          -- region 33
                          replace hK := chk_some hK
                          obtain ⟨h16, hK⟩ := hK
                          refine AWP_rg tab_ok [0, 1, 2, 3, 11, 12, 14, 16, 17, 18, 97, 98] fun c st' hr => ?_
                          simp only [go_sem, reduceIte, reduceCtorEq, Nat.reduceEqDiff, Nat.reduceLT, Nat.reduceLeDiff, Nat.reduceBEq, Nat.reduceAdd, Nat.reduceMul, Nat.reduceSub, Nat.reducePow, Int.reduceLE, Int.reduceLT, Int.reduceNeg, Int.reduceToNat, Int.reduceAdd, Int.reduceSub] at hr
                          obtain ⟨rfl, rfl⟩ := hr
                          refine ⟨vc, ?_⟩
                          with_reducible refine inBlockA_normal (thenC_normal ?_)
                          -- region 34
                          refine AWP_facts (by simp) fun hfx => ?_
                          simp only [factS, factV, fact1, fact0, factL0, lo, hi, maxLen, and_true, true_and] at hfx
                          refine AWP_rg tab_ok [0, 1, 2, 3, 11, 12, 14, 16, 17, 18, 97, 98] fun c st' hr => ?_
                          simp only [go_sem, reduceIte, reduceCtorEq, Nat.reduceEqDiff, Nat.reduceLT, Nat.reduceLeDiff, Nat.reduceBEq, Nat.reduceAdd, Nat.reduceMul, Nat.reduceSub, Nat.reducePow, Int.reduceLE, Int.reduceLT, Int.reduceNeg, Int.reduceToNat, Int.reduceAdd, Int.reduceSub] at hr
                          obtain ⟨rfl, rfl⟩ := hr
                          refine ⟨vc, ?_⟩
                          clear hfx
                          refine again_n (v15.set v17.toNat (v9.getD v10.toNat 0), v16 ++ [v17], v17 + 1) [0, 3] hK mkWk
                        · replace hK := ite_f hK hb11
                          refine AWP_skip ?_
                          with_reducible refine inBlockA_normal (thenC_normal ?_)
                          -- region 34
                          refine AWP_facts (by simp) fun hfx => ?_
                          simp only [factS, factV, fact1, fact0, factL0, lo, hi, maxLen, and_true, true_and] at hfx
                          refine AWP_rg tab_ok [0, 1, 2, 3, 11, 12, 14, 16, 17, 18, 97, 98] fun c st' hr => ?_
                          simp only [go_sem, reduceIte, reduceCtorEq, Nat.reduceEqDiff, Nat.reduceLT, Nat.reduceLeDiff, Nat.reduceBEq, Nat.reduceAdd, Nat.reduceMul, Nat.reduceSub, Nat.reducePow, Int.reduceLE, Int.reduceLT, Int.reduceNeg, Int.reduceToNat, Int.reduceAdd, Int.reduceSub] at hr
                          obtain ⟨rfl, rfl⟩ := hr
                          refine ⟨vc, ?_⟩
                          clear hfx
                          refine again_n (v15, v16, v17 + 1) [0, 1] hK mkWk
                    · replace hK := ite_f hK hg3
                      refine AWQL_stP [(0, .ints .i64 x), (1, .ints .i64 a1), (2, .int .i64 a2), (3, .int .i64 a3), (11, .func 85 []), (12, .own 0 v15.length), (14, .own 1 v16.length), (16, .int .i64 v10), (17, .int .i64 (v9.getD v10.toNat 0)), (18, .bool (decide (iand (a3 / 2 ^ (v9.getD v10.toNat 0).toNat) 1 = 0))), (20, .int .i64 v17), (97, .int .i64 a2), (98, .int .i64 v17), (128, .bool y2), (131, .opt false (.bool (decide (¬ (iand (a3 / 2 ^ (v9.getD v10.toNat 0).toNat) 1 = 0))))), (132, .opt false (.func 85 [])), (133, .opt false (.ints .i64 x)), (140, .opt false (.int .i64 (ior (iandnot a3 (2 ^ (v9.getD v10.toNat 0).toNat : Int)) (2 ^ v17.toNat : Int))))] (by first | (simp [SameS, AX.look, hg3]; done) | (simp at hg3 ⊢; simp [SameS, AX.look, hg3]; done) | (simp_all [SameS, AX.look]; done)) ?_
                      refine AWQL_skipV [0, 1, 2, 3, 11, 12, 14, 16, 17, 18, 20, 97, 98, 128, 131, 141] (.bool false) rfl pcF (of_decide_eq_true rfl) fun st' hr => ?_
                      simp only [go_sem, reduceIte, reduceCtorEq, Nat.reduceEqDiff, Nat.reduceLT, Nat.reduceLeDiff, Nat.reduceBEq, Nat.reduceAdd, Nat.reduceMul, Nat.reduceSub, Nat.reducePow, Int.reduceLE, Int.reduceLT, Int.reduceNeg, Int.reduceToNat, Int.reduceAdd, Int.reduceSub] at hr
                      subst hr
                      refine AWQL_rn tab_ok 2 [0, 1, 2, 3, 11, 12, 14, 16, 17, 18, 20, 97, 98, 143] fun c st' hr => ?_
                      simp only [go_sem, reduceIte, reduceCtorEq, Nat.reduceEqDiff, Nat.reduceLT, Nat.reduceLeDiff, Nat.reduceBEq, Nat.reduceAdd, Nat.reduceMul, Nat.reduceSub, Nat.reducePow, Int.reduceLE, Int.reduceLT, Int.reduceNeg, Int.reduceToNat, Int.reduceAdd, Int.reduceSub] at hr
                      obtain ⟨rfl, rfl⟩ := hr
                      refine ⟨vc, ?_⟩
                      refine AWQL_nil ?_
                      with_reducible refine thenC_normal ?_
                      refine AWP_condP ((y2 = true ∨ (¬ (iand (a3 / 2 ^ (v9.getD v10.toNat 0).toNat) 1 = 0) ∧ False))) rfl bd (fun hb12 => ?_) (fun hb12 => ?_)
                      · replace hK := ite_t hK hb12
                        refine AWP_seq ?_
                        -- region 32
                        replace hK := chk_some hK
                        obtain ⟨h17, hK⟩ := hK
                        refine AWP_rg tab_ok [0, 1, 2, 3, 11, 12, 14, 16, 17, 18, 20, 97, 98] fun c st' hr => ?_
                        simp only [go_sem, reduceIte, reduceCtorEq, Nat.reduceEqDiff, Nat.reduceLT, Nat.reduceLeDiff, Nat.reduceBEq, Nat.reduceAdd, Nat.reduceMul, Nat.reduceSub, Nat.reducePow, Int.reduceLE, Int.reduceLT, Int.reduceNeg, Int.reduceToNat, Int.reduceAdd, Int.reduceSub] at hr
                        obtain ⟨rfl, rfl⟩ := hr
                        refine ⟨vc, ?_⟩
                        with_reducible refine thenC_normal ?_
                        -- region 33
                        replace hK := chk_some hK
                        obtain ⟨h18, hK⟩ := hK
                        refine AWP_rg tab_ok [0, 1, 2, 3, 11, 12, 14, 16, 17, 18, 97, 98] fun c st' hr => ?_
                        simp only [go_sem, reduceIte, reduceCtorEq, Nat.reduceEqDiff, Nat.reduceLT, Nat.reduceLeDiff, Nat.reduceBEq, Nat.reduceAdd, Nat.reduceMul, Nat.reduceSub, Nat.reducePow, Int.reduceLE, Int.reduceLT, Int.reduceNeg, Int.reduceToNat, Int.reduceAdd, Int.reduceSub] at hr
                        obtain ⟨rfl, rfl⟩ := hr
                        refine ⟨vc, ?_⟩
                        with_reducible refine inBlockA_normal (thenC_normal ?_)
                        -- region 34
                        refine AWP_facts (by simp) fun hfx => ?_
                        simp only [factS, factV, fact1, fact0, factL0, lo, hi, maxLen, and_true, true_and] at hfx
                        refine AWP_rg tab_ok [0, 1, 2, 3, 11, 12, 14, 16, 17, 18, 97, 98] fun c st' hr => ?_
                        simp only [go_sem, reduceIte, reduceCtorEq, Nat.reduceEqDiff, Nat.reduceLT, Nat.reduceLeDiff, Nat.reduceBEq, Nat.reduceAdd, Nat.reduceMul, Nat.reduceSub, Nat.reducePow, Int.reduceLE, Int.reduceLT, Int.reduceNeg, Int.reduceToNat, Int.reduceAdd, Int.reduceSub] at hr
                        obtain ⟨rfl, rfl⟩ := hr
                        refine ⟨vc, ?_⟩
                        clear hfx
                        refine again_n (v15.set v17.toNat (v9.getD v10.toNat 0), v16 ++ [v17], v17 + 1) [0, 3] hK mkWk
                      · replace hK := ite_f hK hb12
                        refine AWP_skip ?_
                        with_reducible refine inBlockA_normal (thenC_normal ?_)
                        -- region 34
                        refine AWP_facts (by simp) fun hfx => ?_
                        simp only [factS, factV, fact1, fact0, factL0, lo, hi, maxLen, and_true, true_and] at hfx
                        refine AWP_rg tab_ok [0, 1, 2, 3, 11, 12, 14, 16, 17, 18, 97, 98] fun c st' hr => ?_
                        simp only [go_sem, reduceIte, reduceCtorEq, Nat.reduceEqDiff, Nat.reduceLT, Nat.reduceLeDiff, Nat.reduceBEq, Nat.reduceAdd, Nat.reduceMul, Nat.reduceSub, Nat.reducePow, Int.reduceLE, Int.reduceLT, Int.reduceNeg, Int.reduceToNat, Int.reduceAdd, Int.reduceSub] at hr
                        obtain ⟨rfl, rfl⟩ := hr
                        refine ⟨vc, ?_⟩
                        clear hfx
                        refine again_n (v15, v16, v17 + 1) [0, 1] hK mkWk
                  · replace hK := ite_f hK hg2
                    refine AWQL_stP [(0, .ints .i64 x), (1, .ints .i64 a1), (2, .int .i64 a2), (3, .int .i64 a3), (11, .func 85 []), (12, .own 0 v15.length), (14, .own 1 v16.length), (16, .int .i64 v10), (17, .int .i64 (v9.getD v10.toNat 0)), (18, .bool (decide (iand (a3 / 2 ^ (v9.getD v10.toNat 0).toNat) 1 = 0))), (20, .int .i64 v17), (97, .int .i64 a2), (98, .int .i64 v17), (116, .bool false), (117, .opt false (.func 85 [])), (118, .opt false (.ints .i64 a1)), (125, .opt false (.int .i64 (ior (iandnot a3 (2 ^ v17.toNat : Int)) (2 ^ (v9.getD v10.toNat 0).toNat : Int))))] (by first | (simp [SameS, AX.look, hg2]; done) | (simp at hg2 ⊢; simp [SameS, AX.look, hg2]; done) | (simp_all [SameS, AX.look]; done)) ?_
                    refine AWQL_skipV [0, 1, 2, 3, 11, 12, 14, 16, 17, 18, 20, 97, 98, 116, 126] (.bool false) rfl pcF (of_decide_eq_true rfl) fun st' hr => ?_
                    simp only [go_sem, reduceIte, reduceCtorEq, Nat.reduceEqDiff, Nat.reduceLT, Nat.reduceLeDiff, Nat.reduceBEq, Nat.reduceAdd, Nat.reduceMul, Nat.reduceSub, Nat.reducePow, Int.reduceLE, Int.reduceLT, Int.reduceNeg, Int.reduceToNat, Int.reduceAdd, Int.reduceSub] at hr
                    subst hr
                    replace hK := chk_some hK
                    obtain ⟨h19, hK⟩ := hK
                    refine AWQL_rn tab_ok 14 [0, 1, 2, 3, 11, 12, 14, 16, 17, 18, 20, 97, 98, 128, 131, 132, 133, 140] fun c st' hr => ?_
                    simp only [go_sem, reduceIte, reduceCtorEq, Nat.reduceEqDiff, Nat.reduceLT, Nat.reduceLeDiff, Nat.reduceBEq, Nat.reduceAdd, Nat.reduceMul, Nat.reduceSub, Nat.reducePow, Int.reduceLE, Int.reduceLT, Int.reduceNeg, Int.reduceToNat, Int.reduceAdd, Int.reduceSub] at hr
                    obtain ⟨rfl, rfl⟩ := hr
                    refine ⟨vc, ?_⟩
                    by_cases hg5 : ¬ (iand (a3 / 2 ^ (v9.getD v10.toNat 0).toNat) 1 = 0)
                    · replace hK := ite_t hK hg5
                      refine AWQL_stP [(0, .ints .i64 x), (1, .ints .i64 a1), (2, .int .i64 a2), (3, .int .i64 a3), (11, .func 85 []), (12, .own 0 v15.length), (14, .own 1 v16.length), (16, .int .i64 v10), (17, .int .i64 (v9.getD v10.toNat 0)), (18, .bool (decide (iand (a3 / 2 ^ (v9.getD v10.toNat 0).toNat) 1 = 0))), (20, .int .i64 v17), (97, .int .i64 a2), (98, .int .i64 v17), (128, .bool false), (131, .opt true (.bool true)), (132, .opt true (.func 85 [])), (133, .opt true (.ints .i64 x)), (140, .opt true (.int .i64 (ior (iandnot a3 (2 ^ (v9.getD v10.toNat 0).toNat : Int)) (2 ^ v17.toNat : Int))))] (by first | (simp [SameS, AX.look, hg5]; done) | (simp at hg5 ⊢; simp [SameS, AX.look, hg5]; done) | (simp_all [SameS, AX.look]; done)) ?_
                      refine AWQL_unopt 132 (.func 85 []) rfl fun st' hr => ?_
                      simp only [go_sem, reduceIte, reduceCtorEq, Nat.reduceEqDiff, Nat.reduceLT, Nat.reduceLeDiff, Nat.reduceBEq, Nat.reduceAdd, Nat.reduceMul, Nat.reduceSub, Nat.reducePow, Int.reduceLE, Int.reduceLT, Int.reduceNeg, Int.reduceToNat, Int.reduceAdd, Int.reduceSub] at hr
                      subst hr
                      replace hK := bind_s hK
                      obtain ⟨y4, hy, hK⟩ := hK
                      refine AWQL_callK [0, 1, 2, 3, 11, 12, 14, 16, 17, 18, 20, 97, 98, 128, 131, 141] (W_meet_grown_1 hy) rfl rfl pcT rfl Tryd.call85 (.cons (.atom _ rfl) (.cons (.atom _ rfl) .nil)) (hscG trivial) (of_decide_eq_true rfl) rfl fun st' hr => ?_
                      simp only [go_sem, reduceIte, reduceCtorEq, Nat.reduceEqDiff, Nat.reduceLT, Nat.reduceLeDiff, Nat.reduceBEq, Nat.reduceAdd, Nat.reduceMul, Nat.reduceSub, Nat.reducePow, Int.reduceLE, Int.reduceLT, Int.reduceNeg, Int.reduceToNat, Int.reduceAdd, Int.reduceSub] at hr
                      subst hr
                      clear hy
                      refine AWQL_rn tab_ok 2 [0, 1, 2, 3, 11, 12, 14, 16, 17, 18, 20, 97, 98, 143] fun c st' hr => ?_
                      simp only [go_sem, reduceIte, reduceCtorEq, Nat.reduceEqDiff, Nat.reduceLT, Nat.reduceLeDiff, Nat.reduceBEq, Nat.reduceAdd, Nat.reduceMul, Nat.reduceSub, Nat.reducePow, Int.reduceLE, Int.reduceLT, Int.reduceNeg, Int.reduceToNat, Int.reduceAdd, Int.reduceSub] at hr
                      obtain ⟨rfl, rfl⟩ := hr
                      refine ⟨vc, ?_⟩
                      refine AWQL_nil ?_
                      with_reducible refine thenC_normal ?_
                      refine AWP_condP (y4 = true) rfl bd (fun hb13 => ?_) (fun hb13 => ?_)
                      · replace hK := ite_t hK hb13
                        refine AWP_seq ?_
                        -- region 32
                        replace hK := chk_some hK
                        obtain ⟨h20, hK⟩ := hK
                        refine AWP_rg tab_ok [0, 1, 2, 3, 11, 12, 14, 16, 17, 18, 20, 97, 98] fun c st' hr => ?_
                        simp only [go_sem, reduceIte, reduceCtorEq, Nat.reduceEqDiff, Nat.reduceLT, Nat.reduceLeDiff, Nat.reduceBEq, Nat.reduceAdd, Nat.reduceMul, Nat.reduceSub, Nat.reducePow, Int.reduceLE, Int.reduceLT, Int.reduceNeg, Int.reduceToNat, Int.reduceAdd, Int.reduceSub] at hr
                        obtain ⟨rfl, rfl⟩ := hr
                        refine ⟨vc, ?_⟩
                        with_reducible refine thenC_normal ?_
                        -- region 33
                        replace hK := chk_some hK
                        obtain ⟨h21, hK⟩ := hK
                        refine AWP_rg tab_ok [0, 1, 2, 3, 11, 12, 14, 16, 17, 18, 97, 98] fun c st' hr => ?_
                        simp only [go_sem, reduceIte, reduceCtorEq, Nat.reduceEqDiff, Nat.reduceLT, Nat.reduceLeDiff, Nat.reduceBEq, Nat.reduceAdd, Nat.reduceMul, Nat.reduceSub, Nat.reducePow, Int.reduceLE, Int.reduceLT, Int.reduceNeg, Int.reduceToNat, Int.reduceAdd, Int.reduceSub] at hr
                        obtain ⟨rfl, rfl⟩ := hr
                        refine ⟨vc, ?_⟩
                        with_reducible refine inBlockA_normal (thenC_normal ?_)
                        -- region 34
                        refine AWP_facts (by simp) fun hfx => ?_
                        simp only [factS, factV, fact1, fact0, factL0, lo, hi, maxLen, and_true, true_and] at hfx
                        refine AWP_rg tab_ok [0, 1, 2, 3, 11, 12, 14, 16, 17, 18, 97, 98] fun c st' hr => ?_
                        simp only [go_sem, reduceIte, reduceCtorEq, Nat.reduceEqDiff, Nat.reduceLT, Nat.reduceLeDiff, Nat.reduceBEq, Nat.reduceAdd, Nat.reduceMul, Nat.reduceSub, Nat.reducePow, Int.reduceLE, Int.reduceLT, Int.reduceNeg, Int.reduceToNat, Int.reduceAdd, Int.reduceSub] at hr
                        obtain ⟨rfl, rfl⟩ := hr
                        refine ⟨vc, ?_⟩
                        clear hfx
                        refine again_n (v15.set v17.toNat (v9.getD v10.toNat 0), v16 ++ [v17], v17 + 1) [0, 3] hK mkWk
                      · replace hK := ite_f hK hb13
                        refine AWP_skip ?_
                        with_reducible refine inBlockA_normal (thenC_normal ?_)
                        -- region 34
                        refine AWP_facts (by simp) fun hfx => ?_
                        simp only [factS, factV, fact1, fact0, factL0, lo, hi, maxLen, and_true, true_and] at hfx
                        refine AWP_rg tab_ok [0, 1, 2, 3, 11, 12, 14, 16, 17, 18, 97, 98] fun c st' hr => ?_
                        simp only [go_sem, reduceIte, reduceCtorEq, Nat.reduceEqDiff, Nat.reduceLT, Nat.reduceLeDiff, Nat.reduceBEq, Nat.reduceAdd, Nat.reduceMul, Nat.reduceSub, Nat.reducePow, Int.reduceLE, Int.reduceLT, Int.reduceNeg, Int.reduceToNat, Int.reduceAdd, Int.reduceSub] at hr
                        obtain ⟨rfl, rfl⟩ := hr
                        refine ⟨vc, ?_⟩
                        clear hfx
                        refine again_n (v15, v16, v17 + 1) [0, 1] hK mkWk
                    · replace hK := ite_f hK hg5
                      refine AWQL_stP [(0, .ints .i64 x), (1, .ints .i64 a1), (2, .int .i64 a2), (3, .int .i64 a3), (11, .func 85 []), (12, .own 0 v15.length), (14, .own 1 v16.length), (16, .int .i64 v10), (17, .int .i64 (v9.getD v10.toNat 0)), (18, .bool (decide (iand (a3 / 2 ^ (v9.getD v10.toNat 0).toNat) 1 = 0))), (20, .int .i64 v17), (97, .int .i64 a2), (98, .int .i64 v17), (128, .bool false), (131, .opt true (.bool false)), (132, .opt false (.func 85 [])), (133, .opt false (.ints .i64 x)), (140, .opt false (.int .i64 (ior (iandnot a3 (2 ^ (v9.getD v10.toNat 0).toNat : Int)) (2 ^ v17.toNat : Int))))] (by first | (simp [SameS, AX.look, hg5]; done) | (simp at hg5 ⊢; simp [SameS, AX.look, hg5]; done) | (simp_all [SameS, AX.look]; done)) ?_
                      refine AWQL_skipV [0, 1, 2, 3, 11, 12, 14, 16, 17, 18, 20, 97, 98, 128, 131, 141] (.bool false) rfl pcF (of_decide_eq_true rfl) fun st' hr => ?_
                      simp only [go_sem, reduceIte, reduceCtorEq, Nat.reduceEqDiff, Nat.reduceLT, Nat.reduceLeDiff, Nat.reduceBEq, Nat.reduceAdd, Nat.reduceMul, Nat.reduceSub, Nat.reducePow, Int.reduceLE, Int.reduceLT, Int.reduceNeg, Int.reduceToNat, Int.reduceAdd, Int.reduceSub] at hr
                      subst hr
                      refine AWQL_rn tab_ok 2 [0, 1, 2, 3, 11, 12, 14, 16, 17, 18, 20, 97, 98, 143] fun c st' hr => ?_
                      simp only [go_sem, reduceIte, reduceCtorEq, Nat.reduceEqDiff, Nat.reduceLT, Nat.reduceLeDiff, Nat.reduceBEq, Nat.reduceAdd, Nat.reduceMul, Nat.reduceSub, Nat.reducePow, Int.reduceLE, Int.reduceLT, Int.reduceNeg, Int.reduceToNat, Int.reduceAdd, Int.reduceSub] at hr
                      obtain ⟨rfl, rfl⟩ := hr
                      refine ⟨vc, ?_⟩
                      refine AWQL_nil ?_
                      with_reducible refine thenC_normal ?_
                      refine AWP_condP (False) rfl bd (fun hb14 => ?_) (fun hb14 => ?_)
                      · exact hb14.elim
                      clear hb14
                      refine AWP_skip ?_
                      with_reducible refine inBlockA_normal (thenC_normal ?_)
                      -- region 34
                      refine AWP_facts (by simp) fun hfx => ?_
                      simp only [factS, factV, fact1, fact0, factL0, lo, hi, maxLen, and_true, true_and] at hfx
                      refine AWP_rg tab_ok [0, 1, 2, 3, 11, 12, 14, 16, 17, 18, 97, 98] fun c st' hr => ?_
                      simp only [go_sem, reduceIte, reduceCtorEq, Nat.reduceEqDiff, Nat.reduceLT, Nat.reduceLeDiff, Nat.reduceBEq, Nat.reduceAdd, Nat.reduceMul, Nat.reduceSub, Nat.reducePow, Int.reduceLE, Int.reduceLT, Int.reduceNeg, Int.reduceToNat, Int.reduceAdd, Int.reduceSub] at hr
                      obtain ⟨rfl, rfl⟩ := hr
                      refine ⟨vc, ?_⟩
                      clear hfx
                      refine again_n (v15, v16, v17 + 1) [0, 1] hK mkWk
              · replace hK := ite_f hK hb8
                refine AWP_exit ?_
                with_reducible refine thenC_exit (again_x ?_)
                refine cutX_here (v15, v16) [0, 1] (by have hq := hpost4 _ hK; exact hq) mkWk
            · clear hK; rintro ⟨v18, v19⟩ hK
              try dsimp only at hK
              refine exS ⟨169, [(0, .ints .i64 x), (1, .ints .i64 a1), (2, .int .i64 a2), (3, .int .i64 a3), (11, .func 85 []), (12, .own 0 v18.length), (14, .own 1 v19.length), (16, .int .i64 v10)], [some (.ints 3 .i64 v18), some (.ints 3 .i64 v19)]⟩ rfl ?_
              with_reducible refine inBlockA_exit (inBlockA_normal (thenC_normal ?_))
              -- region 18
              replace hK := chk_some hK
              obtain ⟨h22, hK⟩ := hK
              refine AWP_rg tab_ok [0, 1, 2, 3, 11, 12, 14, 16] fun c st' hr => ?_
              simp only [go_sem, reduceIte, reduceCtorEq, Nat.reduceEqDiff, Nat.reduceLT, Nat.reduceLeDiff, Nat.reduceBEq, Nat.reduceAdd, Nat.reduceMul, Nat.reduceSub, Nat.reducePow, Int.reduceLE, Int.reduceLT, Int.reduceNeg, Int.reduceToNat, Int.reduceAdd, Int.reduceSub] at hr
              obtain ⟨rfl, rfl⟩ := hr
              refine ⟨vc, ?_⟩
              refine again_n (v18, v19, v10 + 1) [0, 1] hK mkWk
        · replace hK := ite_f hK hb4
          refine AWP_exit ?_
          with_reducible refine thenC_exit (again_x ?_)
          refine cutX_here v8 [0] (by have hq := hpost3 _ hK; exact hq) mkWk
      · clear hK; rintro v11 hK
        try dsimp only at hK
        refine exS ⟨169, [(2, .int .i64 a2), (3, .int .i64 a3), (12, .own 0 v11.length)], [some (.ints 3 .i64 v11)]⟩ rfl ?_
        with_reducible refine inBlockA_exit (thenC_normal ?_)
        refine AWP_seq ?_
        -- region 35
        refine AWP_rg tab_ok [2, 3, 12, 21] fun c st' hr => ?_
        simp only [go_sem, reduceIte, reduceCtorEq, Nat.reduceEqDiff, Nat.reduceLT, Nat.reduceLeDiff, Nat.reduceBEq, Nat.reduceAdd, Nat.reduceMul, Nat.reduceSub, Nat.reducePow, Int.reduceLE, Int.reduceLT, Int.reduceNeg, Int.reduceToNat, Int.reduceAdd, Int.reduceSub] at hr
        obtain ⟨rfl, rfl⟩ := hr
        refine ⟨vc, ?_⟩
        with_reducible refine thenC_normal ?_
        refine AWP_seq ?_
        refine AWP_seq ?_
        -- region 36
        refine AWP_rg tab_ok [3, 12, 21, 153, 154] fun c st' hr => ?_
        simp only [go_sem, reduceIte, reduceCtorEq, Nat.reduceEqDiff, Nat.reduceLT, Nat.reduceLeDiff, Nat.reduceBEq, Nat.reduceAdd, Nat.reduceMul, Nat.reduceSub, Nat.reducePow, Int.reduceLE, Int.reduceLT, Int.reduceNeg, Int.reduceToNat, Int.reduceAdd, Int.reduceSub] at hr
        obtain ⟨rfl, rfl⟩ := hr
        refine ⟨vc, ?_⟩
        with_reducible refine thenC_normal ?_
        refine AWP_block ?_
        refine AWP_loopX 10 (fun ((v20, v21) : Int × Int) => ⟨169, [(3, .int .i64 a3), (12, .own 0 v11.length), (21, .int .i64 v20), (153, .int .i64 a2), (154, .int .i64 v21)], [some (.ints 3 .i64 v11)]⟩) (fun (v22 : Int) => ⟨169, [(3, .int .i64 a3), (21, .int .i64 v22)], []⟩) (fun v => v) (0, 0) [0] hK mkWk ?_ ?_
        · clear hK; rintro ⟨v20, v21⟩ b5 hK hpost4
          try dsimp only at hK
          change AWP _ _ _ _ ⟨169, [(3, .int .i64 a3), (12, .own 0 v11.length), (21, .int .i64 v20), (153, .int .i64 a2), (154, .int .i64 v21)], [some (.ints 3 .i64 v11)]⟩
          refine AWP_seq ?_
          -- region 37
          refine AWP_rg tab_ok [3, 12, 21, 153, 154, 155] fun c st' hr => ?_
          simp only [go_sem, reduceIte, reduceCtorEq, Nat.reduceEqDiff, Nat.reduceLT, Nat.reduceLeDiff, Nat.reduceBEq, Nat.reduceAdd, Nat.reduceMul, Nat.reduceSub, Nat.reducePow, Int.reduceLE, Int.reduceLT, Int.reduceNeg, Int.reduceToNat, Int.reduceAdd, Int.reduceSub] at hr
          obtain ⟨rfl, rfl⟩ := hr
          refine ⟨vc, ?_⟩
          with_reducible refine thenC_normal ?_
          refine AWP_seq ?_
          refine AWP_condP (v21 < a2) rfl bd (fun hb15 => ?_) (fun hb15 => ?_)
          · replace hK := ite_t hK hb15
            refine AWP_skip ?_
            with_reducible refine thenC_normal ?_
            refine AWP_seq ?_
            refine AWP_block ?_
            refine AWP_seq ?_
            -- region 38
            refine AWP_rg tab_ok [3, 12, 21, 22, 153, 154] fun c st' hr => ?_
            simp only [go_sem, reduceIte, reduceCtorEq, Nat.reduceEqDiff, Nat.reduceLT, Nat.reduceLeDiff, Nat.reduceBEq, Nat.reduceAdd, Nat.reduceMul, Nat.reduceSub, Nat.reducePow, Int.reduceLE, Int.reduceLT, Int.reduceNeg, Int.reduceToNat, Int.reduceAdd, Int.reduceSub] at hr
            obtain ⟨rfl, rfl⟩ := hr
            refine ⟨vc, ?_⟩
            with_reducible refine thenC_normal ?_
            refine AWP_seq ?_
            -- region 39
            replace hK := chk_some hK
            obtain ⟨h23, hK⟩ := hK
            refine AWP_rg tab_ok [3, 12, 21, 22, 153, 154, 161] fun c st' hr => ?_
            simp only [go_sem, reduceIte, reduceCtorEq, Nat.reduceEqDiff, Nat.reduceLT, Nat.reduceLeDiff, Nat.reduceBEq, Nat.reduceAdd, Nat.reduceMul, Nat.reduceSub, Nat.reducePow, Int.reduceLE, Int.reduceLT, Int.reduceNeg, Int.reduceToNat, Int.reduceAdd, Int.reduceSub] at hr
            obtain ⟨rfl, rfl⟩ := hr
            refine ⟨vc, ?_⟩
            with_reducible refine thenC_normal ?_
            refine AWP_condP (v11.getD v21.toNat 0 = (-2)) rfl bd (fun hb16 => ?_) (fun hb16 => ?_)
            · replace hK := ite_t hK hb16
              -- region 40
              replace hK := chk_some hK
              obtain ⟨h24, hK⟩ := hK
              refine AWP_rg tab_ok [3, 12, 21, 153, 154] fun c st' hr => ?_
              simp only [go_sem, reduceIte, reduceCtorEq, Nat.reduceEqDiff, Nat.reduceLT, Nat.reduceLeDiff, Nat.reduceBEq, Nat.reduceAdd, Nat.reduceMul, Nat.reduceSub, Nat.reducePow, Int.reduceLE, Int.reduceLT, Int.reduceNeg, Int.reduceToNat, Int.reduceAdd, Int.reduceSub] at hr
              obtain ⟨rfl, rfl⟩ := hr
              refine ⟨vc, ?_⟩
              with_reducible refine inBlockA_normal (thenC_normal ?_)
              -- region 41
              refine AWP_facts (by simp) fun hfx => ?_
              simp only [factS, factV, fact1, fact0, factL0, lo, hi, maxLen, and_true, true_and] at hfx
              refine AWP_rg tab_ok [3, 12, 21, 153, 154] fun c st' hr => ?_
              simp only [go_sem, reduceIte, reduceCtorEq, Nat.reduceEqDiff, Nat.reduceLT, Nat.reduceLeDiff, Nat.reduceBEq, Nat.reduceAdd, Nat.reduceMul, Nat.reduceSub, Nat.reducePow, Int.reduceLE, Int.reduceLT, Int.reduceNeg, Int.reduceToNat, Int.reduceAdd, Int.reduceSub] at hr
              obtain ⟨rfl, rfl⟩ := hr
              refine ⟨vc, ?_⟩
              clear hfx
              refine again_n (ior v20 (2 ^ v21.toNat : Int), v21 + 1) [0] hK mkWk
            · replace hK := ite_f hK hb16
              refine AWP_skip ?_
              with_reducible refine inBlockA_normal (thenC_normal ?_)
              -- region 41
              refine AWP_facts (by simp) fun hfx => ?_
              simp only [factS, factV, fact1, fact0, factL0, lo, hi, maxLen, and_true, true_and] at hfx
              refine AWP_rg tab_ok [3, 12, 21, 153, 154] fun c st' hr => ?_
              simp only [go_sem, reduceIte, reduceCtorEq, Nat.reduceEqDiff, Nat.reduceLT, Nat.reduceLeDiff, Nat.reduceBEq, Nat.reduceAdd, Nat.reduceMul, Nat.reduceSub, Nat.reducePow, Int.reduceLE, Int.reduceLT, Int.reduceNeg, Int.reduceToNat, Int.reduceAdd, Int.reduceSub] at hr
              obtain ⟨rfl, rfl⟩ := hr
              refine ⟨vc, ?_⟩
              clear hfx
              refine again_n (v20, v21 + 1) [0] hK mkWk
          · replace hK := ite_f hK hb15
            refine AWP_exit ?_
            with_reducible refine thenC_exit (again_x ?_)
            refine cutX_here v20 [] (by have hq := hpost4 _ hK; exact hq) mkWk
        · clear hK; rintro v22 hK
          try dsimp only at hK
          refine exS ⟨169, [(3, .int .i64 a3), (21, .int .i64 v22)], []⟩ rfl ?_
          with_reducible refine inBlockA_exit (thenC_normal ?_)
          refine AWP_seq ?_
          -- region 42
          refine AWP_rg tab_ok [8, 9, 10] fun c st' hr => ?_
          simp only [go_sem, reduceIte, reduceCtorEq, Nat.reduceEqDiff, Nat.reduceLT, Nat.reduceLeDiff, Nat.reduceBEq, Nat.reduceAdd, Nat.reduceMul, Nat.reduceSub, Nat.reducePow, Int.reduceLE, Int.reduceLT, Int.reduceNeg, Int.reduceToNat, Int.reduceAdd, Int.reduceSub] at hr
          obtain ⟨rfl, rfl⟩ := hr
          refine ⟨vc, ?_⟩
          with_reducible refine thenC_normal ?_
          refine AWP_ret ?_
          cases hK
          refine EndsRW [] (.inl rfl) (of_decide_eq_true rfl) (by simp) rfl (fun c x hr => ?_) trivial
          simp only [go_sem, reduceIte, reduceCtorEq, Nat.reduceEqDiff, Nat.reduceLT, Nat.reduceLeDiff, Nat.reduceBEq, Nat.reduceAdd, Nat.reduceMul, Nat.reduceSub, Nat.reducePow, Int.reduceLE, Int.reduceLT, Int.reduceNeg, Int.reduceToNat, Int.reduceAdd, Int.reduceSub] at hr
          obtain ⟨rfl, rfl⟩ := hr
          exact ⟨rfl, endR⟩

set_option maxRecDepth 8000 in
set_option maxHeartbeats 4000000 in
theorem W_meet_Common {a_0 : Int} {a_1 : List Int} {a1_0 : Int} {a1_1 : List Int} {r : Int × Int × Int} (hK : meet_Common a_0 a_1 a1_0 a1_1 = some r) : Pure Tryd.prog 33 [.agg [.int .i64 a_0, .ints .i64 a_1], .agg [.int .i64 a1_0, .ints .i64 a1_1]] (.tup [.int .i64 r.1, .int .i64 r.2.1, .int .i64 r.2.2]) [] := by
  refine Pure_introF tab_ok (n := 89) (l := [.tmp 4, .tmp 5, .tmp 6]) Tryd.func33 rfl rfl rfl (by simp) fun hfact w0 => ?_
  simp only [factL1, fact1, fact0, factL0, lo, hi, maxLen, and_true] at hfact
  unfold meet_Common at hK
  refine AWP_seq ?_
  -- region 0
  refine AWP_rg tab_ok [2, 3, 4, 5] fun c st' hr => ?_
  simp only [go_sem, reduceIte, reduceCtorEq, Nat.reduceEqDiff, Nat.reduceLT, Nat.reduceLeDiff, Nat.reduceBEq, Nat.reduceAdd, Nat.reduceMul, Nat.reduceSub, Nat.reducePow, Int.reduceLE, Int.reduceLT, Int.reduceNeg, Int.reduceToNat, Int.reduceAdd, Int.reduceSub] at hr
  obtain ⟨rfl, rfl⟩ := hr
  refine ⟨vc, ?_⟩
  with_reducible refine thenC_normal ?_
  refine AWP_seq ?_
  refine AWP_seq ?_
  -- region 1
  refine AWP_rl ?_
  refine AWPL_rn tab_ok 2 [2, 3, 4, 5, 15, 16] fun c st' hr => ?_
  simp only [go_sem, reduceIte, reduceCtorEq, Nat.reduceEqDiff, Nat.reduceLT, Nat.reduceLeDiff, Nat.reduceBEq, Nat.reduceAdd, Nat.reduceMul, Nat.reduceSub, Nat.reducePow, Int.reduceLE, Int.reduceLT, Int.reduceNeg, Int.reduceToNat, Int.reduceAdd, Int.reduceSub] at hr
  obtain ⟨rfl, rfl⟩ := hr
  refine ⟨vc, ?_⟩
  replace hK := bind_s hK
  obtain ⟨y, hy, hK⟩ := hK
  refine AWPL_callK [2, 3, 4, 5, 17] (W_meet_both hy) rfl rfl pcT rfl Tryd.call63 (.cons (.agg _ _ rfl (ArgsOk.get (.cons (.atom _ rfl) (.cons (.atom _ rfl) .nil))).2) (.cons (.agg _ _ rfl (ArgsOk.get (.cons (.atom _ rfl) (.cons (.atom _ rfl) .nil))).2) .nil)) (hscG trivial) (of_decide_eq_true rfl) (by first | rfl | simp [nI, nI1, nI0]) (by first | rfl | simp [nIB, nI0]) fun st' hr => ?_
  simp only [go_sem, reduceIte, reduceCtorEq, Nat.reduceEqDiff, Nat.reduceLT, Nat.reduceLeDiff, Nat.reduceBEq, Nat.reduceAdd, Nat.reduceMul, Nat.reduceSub, Nat.reducePow, Int.reduceLE, Int.reduceLT, Int.reduceNeg, Int.reduceToNat, Int.reduceAdd, Int.reduceSub] at hr
  subst hr
  clear hy
  refine AWPL_rn tab_ok 1 [2, 3, 4, 5, 7] fun c st' hr => ?_
  simp only [go_sem, reduceIte, reduceCtorEq, Nat.reduceEqDiff, Nat.reduceLT, Nat.reduceLeDiff, Nat.reduceBEq, Nat.reduceAdd, Nat.reduceMul, Nat.reduceSub, Nat.reducePow, Int.reduceLE, Int.reduceLT, Int.reduceNeg, Int.reduceToNat, Int.reduceAdd, Int.reduceSub] at hr
  obtain ⟨rfl, rfl⟩ := hr
  refine ⟨vc, ?_⟩
  refine AWPL_nil ?_
  with_reducible refine thenC_normal ?_
  refine AWP_seq ?_
  -- region 2
  refine AWP_rg tab_ok [2, 3, 4, 5, 7, 19] fun c st' hr => ?_
  simp only [go_sem, reduceIte, reduceCtorEq, Nat.reduceEqDiff, Nat.reduceLT, Nat.reduceLeDiff, Nat.reduceBEq, Nat.reduceAdd, Nat.reduceMul, Nat.reduceSub, Nat.reducePow, Int.reduceLE, Int.reduceLT, Int.reduceNeg, Int.reduceToNat, Int.reduceAdd, Int.reduceSub] at hr
  obtain ⟨rfl, rfl⟩ := hr
  refine ⟨vc, ?_⟩
  with_reducible refine thenC_normal ?_
  refine AWP_condP (y ≠ 0) rfl bd (fun hb => ?_) (fun hb => ?_)
  · replace hK := ite_t hK hb
    refine AWP_seq ?_
    -- region 3
    refine AWP_rg tab_ok [4, 5, 6] fun c st' hr => ?_
    simp only [go_sem, reduceIte, reduceCtorEq, Nat.reduceEqDiff, Nat.reduceLT, Nat.reduceLeDiff, Nat.reduceBEq, Nat.reduceAdd, Nat.reduceMul, Nat.reduceSub, Nat.reducePow, Int.reduceLE, Int.reduceLT, Int.reduceNeg, Int.reduceToNat, Int.reduceAdd, Int.reduceSub] at hr
    obtain ⟨rfl, rfl⟩ := hr
    refine ⟨vc, ?_⟩
    with_reducible refine thenC_normal ?_
    refine AWP_ret ?_
    with_reducible refine thenC_ret ?_
    cases hK
    refine EndsRW [] (.inl rfl) (of_decide_eq_true rfl) (by simp) rfl (fun c x hr => ?_) trivial
    simp only [go_sem, reduceIte, reduceCtorEq, Nat.reduceEqDiff, Nat.reduceLT, Nat.reduceLeDiff, Nat.reduceBEq, Nat.reduceAdd, Nat.reduceMul, Nat.reduceSub, Nat.reducePow, Int.reduceLE, Int.reduceLT, Int.reduceNeg, Int.reduceToNat, Int.reduceAdd, Int.reduceSub] at hr
    obtain ⟨rfl, rfl⟩ := hr
    exact ⟨rfl, endR⟩
  · replace hK := ite_f hK hb
    refine AWP_skip ?_
    with_reducible refine thenC_normal ?_
    refine AWP_seq ?_
    -- region 4
    replace hK := bind_s hK
    obtain ⟨y1, hy, hK⟩ := hK
    replace hK := bind_s hK
    obtain ⟨y2, hy1, hK⟩ := hK
    refine AWP_drawJ ⟨89, [(2, .ptr 0 0 0), (4, .int .i64 0), (5, .int .i64 0), (8, .own 2 y1.length), (9, .own 3 y2.length)], [some (.gen 51 2 [[.int .i64 a_0, .ints .i64 a_1]]), some (.gen 51 2 [[.int .i64 a1_0, .ints .i64 a1_1]]), some (.ints 3 .i64 y1), some (.ints 3 .i64 y2)]⟩ mixed ?_ ?_
    · refine AWPB_memo fun AA hAA => ?_
      have hn : AA 0 #[true, true, true, true, true, true] ⟨89, [(2, .ptr 0 0 0), (4, .int .i64 0), (5, .int .i64 0), (8, .own 2 y1.length), (9, .own 3 y2.length)], [some (.gen 51 2 [[.int .i64 a_0, .ints .i64 a_1]]), some (.gen 51 2 [[.int .i64 a1_0, .ints .i64 a1_1]]), some (.ints 3 .i64 y1), some (.ints 3 .i64 y2)]⟩ := (hAA _ _ _).2 (by
        exact AWPB_end [0, 1, 2, 3] (by kernel_rfl) mkWk)
      have hn1 : AA 1 #[true, true, true, true, true, false] ⟨89, [(2, .ptr 0 0 0), (4, .int .i64 0), (5, .int .i64 0), (8, .own 2 y1.length), (24, .own 3 y2.length)], [some (.gen 51 2 [[.int .i64 a_0, .ints .i64 a_1]]), some (.gen 51 2 [[.int .i64 a1_0, .ints .i64 a1_1]]), some (.ints 3 .i64 y1), some (.ints 3 .i64 y2)]⟩ := (hAA _ _ _).2 (by
        refine AWPB_take tab_ok [2, 4, 5, 8, 9] 5 _ rfl rfl (by kernel_rfl) fun c st' hr => ?_
        simp only [go_sem, reduceIte, reduceCtorEq, Nat.reduceEqDiff, Nat.reduceLT, Nat.reduceLeDiff, Nat.reduceBEq, Nat.reduceAdd, Nat.reduceMul, Nat.reduceSub, Nat.reducePow, Int.reduceLE, Int.reduceLT, Int.reduceNeg, Int.reduceToNat, Int.reduceAdd, Int.reduceSub] at hr
        obtain ⟨rfl, rfl⟩ := hr
        refine ⟨vc, ?_⟩
        exact AWPB_wk [0, 1, 2, 3] mkWk ((hAA _ _ _).1 hn))
      have hn2 : AA 2 #[true, true, true, true, false, false] ⟨89, [(2, .ptr 0 0 0), (4, .int .i64 0), (5, .int .i64 0), (22, .own 2 y1.length), (24, .own 3 y2.length)], [some (.gen 51 2 [[.int .i64 a_0, .ints .i64 a_1]]), some (.gen 51 2 [[.int .i64 a1_0, .ints .i64 a1_1]]), some (.ints 3 .i64 y1), some (.ints 3 .i64 y2)]⟩ := (hAA _ _ _).2 (by
        refine AWPB_take tab_ok [2, 4, 5, 8, 9, 24] 4 _ rfl rfl (by kernel_rfl) fun c st' hr => ?_
        simp only [go_sem, reduceIte, reduceCtorEq, Nat.reduceEqDiff, Nat.reduceLT, Nat.reduceLeDiff, Nat.reduceBEq, Nat.reduceAdd, Nat.reduceMul, Nat.reduceSub, Nat.reducePow, Int.reduceLE, Int.reduceLT, Int.reduceNeg, Int.reduceToNat, Int.reduceAdd, Int.reduceSub] at hr
        obtain ⟨rfl, rfl⟩ := hr
        refine ⟨vc, ?_⟩
        exact AWPB_wk [0, 1, 2, 3] mkWk ((hAA _ _ _).1 hn1))
      have hn3 : AA 3 #[true, true, true, false, false, false] ⟨89, [(2, .ptr 0 0 0), (4, .int .i64 0), (5, .int .i64 0), (22, .own 2 y1.length), (23, .agg [.int .i64 a1_0, .ints .i64 a1_1])], [some (.gen 51 2 [[.int .i64 a_0, .ints .i64 a_1]]), some (.gen 51 2 [[.int .i64 a1_0, .ints .i64 a1_1]]), some (.ints 3 .i64 y1)]⟩ := (hAA _ _ _).2 (by
        refine AWPB_one 3 _ (by kernel_rfl) rfl ?_
        refine AWPL_callK [2, 4, 5, 8, 9, 22, 24] (W_meet_ranks hy1) rfl rfl pcT rfl Tryd.call64 (.cons (.agg _ _ rfl (ArgsOk.get (.cons (.atom _ rfl) (.cons (.atom _ rfl) .nil))).2) .nil) (hscG trivial) (of_decide_eq_true rfl) (by first | rfl | simp [nI, nI1, nI0]) (by first | rfl | simp [nIB, nI0]) fun st' hr => ?_
        simp only [go_sem, reduceIte, reduceCtorEq, Nat.reduceEqDiff, Nat.reduceLT, Nat.reduceLeDiff, Nat.reduceBEq, Nat.reduceAdd, Nat.reduceMul, Nat.reduceSub, Nat.reducePow, Int.reduceLE, Int.reduceLT, Int.reduceNeg, Int.reduceToNat, Int.reduceAdd, Int.reduceSub] at hr
        subst hr
        refine AWPL_nil ?_
        refine QB_normal ?_
        exact AWPB_wk [0, 1, 2, 3] mkWk ((hAA _ _ _).1 hn2))
      have hn4 : AA 4 #[true, true, false, false, false, false] ⟨89, [(2, .ptr 0 0 0), (3, .ptr 1 0 0), (4, .int .i64 0), (5, .int .i64 0), (22, .own 2 y1.length)], [some (.gen 51 2 [[.int .i64 a_0, .ints .i64 a_1]]), some (.gen 51 2 [[.int .i64 a1_0, .ints .i64 a1_1]]), some (.ints 3 .i64 y1)]⟩ := (hAA _ _ _).2 (by
        refine AWPB_one 2 _ (by kernel_rfl) rfl ?_
        refine AWPL_rn tab_ok 1 [2, 4, 5, 8, 9, 22, 23, 24] fun c st' hr => ?_
        simp only [go_sem, reduceIte, reduceCtorEq, Nat.reduceEqDiff, Nat.reduceLT, Nat.reduceLeDiff, Nat.reduceBEq, Nat.reduceAdd, Nat.reduceMul, Nat.reduceSub, Nat.reducePow, Int.reduceLE, Int.reduceLT, Int.reduceNeg, Int.reduceToNat, Int.reduceAdd, Int.reduceSub] at hr
        obtain ⟨rfl, rfl⟩ := hr
        refine ⟨vc, ?_⟩
        refine AWPL_nil ?_
        refine QB_normal ?_
        exact AWPB_wk [0, 1, 2] mkWk ((hAA _ _ _).1 hn3))
      have hn5 : AA 4 #[true, false, true, false, false, false] ⟨89, [(2, .ptr 0 0 0), (4, .int .i64 0), (5, .int .i64 0), (21, .agg [.int .i64 a_0, .ints .i64 a_1]), (23, .agg [.int .i64 a1_0, .ints .i64 a1_1])], [some (.gen 51 2 [[.int .i64 a_0, .ints .i64 a_1]]), some (.gen 51 2 [[.int .i64 a1_0, .ints .i64 a1_1]])]⟩ := (hAA _ _ _).2 (by
        refine AWPB_one 1 _ (by kernel_rfl) rfl ?_
        refine AWPL_callK [2, 4, 5, 8, 9, 22, 23, 24] (W_meet_ranks hy) rfl rfl pcT rfl Tryd.call64 (.cons (.agg _ _ rfl (ArgsOk.get (.cons (.atom _ rfl) (.cons (.atom _ rfl) .nil))).2) .nil) (hscG trivial) (of_decide_eq_true rfl) (by first | rfl | simp [nI, nI1, nI0]) (by first | rfl | simp [nIB, nI0]) fun st' hr => ?_
        simp only [go_sem, reduceIte, reduceCtorEq, Nat.reduceEqDiff, Nat.reduceLT, Nat.reduceLeDiff, Nat.reduceBEq, Nat.reduceAdd, Nat.reduceMul, Nat.reduceSub, Nat.reducePow, Int.reduceLE, Int.reduceLT, Int.reduceNeg, Int.reduceToNat, Int.reduceAdd, Int.reduceSub] at hr
        subst hr
        refine AWPL_nil ?_
        refine QB_normal ?_
        exact AWPB_wk [0, 1, 2] mkWk ((hAA _ _ _).1 hn3))
      have hn6 : AA 5 #[true, false, false, false, false, false] ⟨89, [(2, .ptr 0 0 0), (3, .ptr 1 0 0), (4, .int .i64 0), (5, .int .i64 0), (21, .agg [.int .i64 a_0, .ints .i64 a_1])], [some (.gen 51 2 [[.int .i64 a_0, .ints .i64 a_1]]), some (.gen 51 2 [[.int .i64 a1_0, .ints .i64 a1_1]])]⟩ := (hAA _ _ _).2 (by
        refine AWPB_two 1 2 _ _ (by kernel_rfl) rfl rfl ?_ ?_
        · skip
          refine AWPL_callK [2, 3, 4, 5, 8, 9, 22, 23, 24] (W_meet_ranks hy) rfl rfl pcT rfl Tryd.call64 (.cons (.agg _ _ rfl (ArgsOk.get (.cons (.atom _ rfl) (.cons (.atom _ rfl) .nil))).2) .nil) (hscG trivial) (of_decide_eq_true rfl) (by first | rfl | simp [nI, nI1, nI0]) (by first | rfl | simp [nIB, nI0]) fun st' hr => ?_
          simp only [go_sem, reduceIte, reduceCtorEq, Nat.reduceEqDiff, Nat.reduceLT, Nat.reduceLeDiff, Nat.reduceBEq, Nat.reduceAdd, Nat.reduceMul, Nat.reduceSub, Nat.reducePow, Int.reduceLE, Int.reduceLT, Int.reduceNeg, Int.reduceToNat, Int.reduceAdd, Int.reduceSub] at hr
          subst hr
          refine AWPL_nil ?_
          refine QB_normal ?_
          exact AWPB_wk [0, 1, 2] mkWk ((hAA _ _ _).1 hn4)
        · skip
          refine AWPL_rn tab_ok 1 [2, 4, 5, 8, 9, 21, 22, 23, 24] fun c st' hr => ?_
          simp only [go_sem, reduceIte, reduceCtorEq, Nat.reduceEqDiff, Nat.reduceLT, Nat.reduceLeDiff, Nat.reduceBEq, Nat.reduceAdd, Nat.reduceMul, Nat.reduceSub, Nat.reducePow, Int.reduceLE, Int.reduceLT, Int.reduceNeg, Int.reduceToNat, Int.reduceAdd, Int.reduceSub] at hr
          obtain ⟨rfl, rfl⟩ := hr
          refine ⟨vc, ?_⟩
          refine AWPL_nil ?_
          refine QB_normal ?_
          exact AWPB_wk [0, 1] mkWk ((hAA _ _ _).1 hn5))
      have hn7 : AA 5 #[false, false, true, false, false, false] ⟨89, [(2, .ptr 0 0 0), (4, .int .i64 0), (5, .int .i64 0), (23, .agg [.int .i64 a1_0, .ints .i64 a1_1])], [some (.gen 51 2 [[.int .i64 a_0, .ints .i64 a_1]]), some (.gen 51 2 [[.int .i64 a1_0, .ints .i64 a1_1]])]⟩ := (hAA _ _ _).2 (by
        refine AWPB_one 0 _ (by kernel_rfl) rfl ?_
        refine AWPL_rn tab_ok 1 [2, 4, 5, 8, 9, 21, 22, 23, 24] fun c st' hr => ?_
        simp only [go_sem, reduceIte, reduceCtorEq, Nat.reduceEqDiff, Nat.reduceLT, Nat.reduceLeDiff, Nat.reduceBEq, Nat.reduceAdd, Nat.reduceMul, Nat.reduceSub, Nat.reducePow, Int.reduceLE, Int.reduceLT, Int.reduceNeg, Int.reduceToNat, Int.reduceAdd, Int.reduceSub] at hr
        obtain ⟨rfl, rfl⟩ := hr
        refine ⟨vc, ?_⟩
        refine AWPL_nil ?_
        refine QB_normal ?_
        exact AWPB_wk [0, 1] mkWk ((hAA _ _ _).1 hn5))
      have hn8 : AA 6 #[false, false, false, false, false, false] ⟨89, [(2, .ptr 0 0 0), (3, .ptr 1 0 0), (4, .int .i64 0), (5, .int .i64 0)], [some (.gen 51 2 [[.int .i64 a_0, .ints .i64 a_1]]), some (.gen 51 2 [[.int .i64 a1_0, .ints .i64 a1_1]])]⟩ := (hAA _ _ _).2 (by
        refine AWPB_two 0 2 _ _ (by kernel_rfl) rfl rfl ?_ ?_
        · skip
          refine AWPL_rn tab_ok 1 [2, 3, 4, 5, 8, 9, 21, 22, 23, 24] fun c st' hr => ?_
          simp only [go_sem, reduceIte, reduceCtorEq, Nat.reduceEqDiff, Nat.reduceLT, Nat.reduceLeDiff, Nat.reduceBEq, Nat.reduceAdd, Nat.reduceMul, Nat.reduceSub, Nat.reducePow, Int.reduceLE, Int.reduceLT, Int.reduceNeg, Int.reduceToNat, Int.reduceAdd, Int.reduceSub] at hr
          obtain ⟨rfl, rfl⟩ := hr
          refine ⟨vc, ?_⟩
          refine AWPL_nil ?_
          refine QB_normal ?_
          exact AWPB_wk [0, 1] mkWk ((hAA _ _ _).1 hn6)
        · skip
          refine AWPL_rn tab_ok 1 [2, 4, 5, 8, 9, 21, 22, 23, 24] fun c st' hr => ?_
          simp only [go_sem, reduceIte, reduceCtorEq, Nat.reduceEqDiff, Nat.reduceLT, Nat.reduceLeDiff, Nat.reduceBEq, Nat.reduceAdd, Nat.reduceMul, Nat.reduceSub, Nat.reducePow, Int.reduceLE, Int.reduceLT, Int.reduceNeg, Int.reduceToNat, Int.reduceAdd, Int.reduceSub] at hr
          obtain ⟨rfl, rfl⟩ := hr
          refine ⟨vc, ?_⟩
          refine AWPL_nil ?_
          refine QB_normal ?_
          exact AWPB_wk [0, 1] mkWk ((hAA _ _ _).1 hn7))
      exact (hAA _ _ _).2 (AWPB_wk [0, 1] mkWk ((hAA _ _ _).1 hn8))
    with_reducible refine thenC_normal ?_
    refine AWP_seq ?_
    -- region 5
    refine AWP_rg tab_ok [2, 4, 5, 8, 9, 10] fun c st' hr => ?_
    simp only [go_sem, reduceIte, reduceCtorEq, Nat.reduceEqDiff, Nat.reduceLT, Nat.reduceLeDiff, Nat.reduceBEq, Nat.reduceAdd, Nat.reduceMul, Nat.reduceSub, Nat.reducePow, Int.reduceLE, Int.reduceLT, Int.reduceNeg, Int.reduceToNat, Int.reduceAdd, Int.reduceSub] at hr
    obtain ⟨rfl, rfl⟩ := hr
    refine ⟨vc, ?_⟩
    with_reducible refine thenC_normal ?_
    refine AWP_seq ?_
    refine AWP_seq ?_
    -- region 6
    refine AWP_rg tab_ok [2, 4, 5, 8, 9, 10, 11] fun c st' hr => ?_
    simp only [go_sem, reduceIte, reduceCtorEq, Nat.reduceEqDiff, Nat.reduceLT, Nat.reduceLeDiff, Nat.reduceBEq, Nat.reduceAdd, Nat.reduceMul, Nat.reduceSub, Nat.reducePow, Int.reduceLE, Int.reduceLT, Int.reduceNeg, Int.reduceToNat, Int.reduceAdd, Int.reduceSub] at hr
    obtain ⟨rfl, rfl⟩ := hr
    refine ⟨vc, ?_⟩
    with_reducible refine thenC_normal ?_
    refine AWP_block ?_
    refine AWP_loopX 0 (fun ((v, v1) : Int × Bool) => ⟨89, [(2, .ptr 0 0 0), (4, .int .i64 0), (5, .int .i64 0), (8, .own 1 y1.length), (9, .own 2 y2.length), (10, .int .i64 v), (11, .bool v1)], [some (.gen 51 2 [[.int .i64 a_0, .ints .i64 a_1]]), some (.ints 3 .i64 y1), some (.ints 3 .i64 y2)]⟩) (fun (v2 : Int) => ⟨89, [(4, .int .i64 0), (5, .int .i64 0), (8, .own 0 y1.length), (9, .own 1 y2.length), (10, .int .i64 v2)], [some (.ints 3 .i64 y1), some (.ints 3 .i64 y2)]⟩) (fun v => v) (0, true) [0, 2, 3] hK mkWk ?_ ?_
    · clear hK; rintro ⟨v, v1⟩ b hK hpost1
      try dsimp only at hK
      change AWP _ _ _ _ ⟨89, [(2, .ptr 0 0 0), (4, .int .i64 0), (5, .int .i64 0), (8, .own 1 y1.length), (9, .own 2 y2.length), (10, .int .i64 v), (11, .bool v1)], [some (.gen 51 2 [[.int .i64 a_0, .ints .i64 a_1]]), some (.ints 3 .i64 y1), some (.ints 3 .i64 y2)]⟩
      refine AWP_seq ?_
      refine AWP_seq ?_
      -- region 7
      refine AWP_rg tab_ok [2, 4, 5, 8, 9, 10, 25] fun c st' hr => ?_
      simp only [go_sem, reduceIte, reduceCtorEq, Nat.reduceEqDiff, Nat.reduceLT, Nat.reduceLeDiff, Nat.reduceBEq, Nat.reduceAdd, Nat.reduceMul, Nat.reduceSub, Nat.reducePow, Int.reduceLE, Int.reduceLT, Int.reduceNeg, Int.reduceToNat, Int.reduceAdd, Int.reduceSub] at hr
      obtain ⟨rfl, rfl⟩ := hr
      refine ⟨vc, ?_⟩
      with_reducible refine thenC_normal ?_
      refine AWP_condP (v1 = true) rfl bd (fun hb1 => ?_) (fun hb1 => ?_)
      · replace hK := ite_t hK hb1
        refine AWP_skip ?_
        with_reducible refine thenC_normal ?_
        refine AWP_block ?_
        -- region 8
        refine AWP_rl ?_
        refine AWPL_rn tab_ok 5 [2, 4, 5, 8, 9, 27, 28, 30, 31] fun c st' hr => ?_
        simp only [go_sem, reduceIte, reduceCtorEq, Nat.reduceEqDiff, Nat.reduceLT, Nat.reduceLeDiff, Nat.reduceBEq, Nat.reduceAdd, Nat.reduceMul, Nat.reduceSub, Nat.reducePow, Int.reduceLE, Int.reduceLT, Int.reduceNeg, Int.reduceToNat, Int.reduceAdd, Int.reduceSub] at hr
        obtain ⟨rfl, rfl⟩ := hr
        refine ⟨vc, ?_⟩
        replace hK := bind_s hK
        obtain ⟨y3, hy, hK⟩ := hK
        refine AWPL_callK [2, 4, 5, 8, 9, 32] (W_meet_grown hy) rfl rfl pcT rfl Tryd.call65 (.cons (.ownI _ _ _ _ _ y1 rfl (by simp) (by simp)) (.cons (.ownI _ _ _ _ _ y2 rfl (by simp) (by simp)) (.cons (.atom _ rfl) (.cons (.atom _ rfl) .nil)))) (hscG trivial) (of_decide_eq_true rfl) (by first | rfl | simp [nI, nI1, nI0]) (by first | rfl | simp [nIB, nI0]) fun st' hr => ?_
        simp only [go_sem, reduceIte, reduceCtorEq, Nat.reduceEqDiff, Nat.reduceLT, Nat.reduceLeDiff, Nat.reduceBEq, Nat.reduceAdd, Nat.reduceMul, Nat.reduceSub, Nat.reducePow, Int.reduceLE, Int.reduceLT, Int.reduceNeg, Int.reduceToNat, Int.reduceAdd, Int.reduceSub] at hr
        subst hr
        clear hy
        refine AWPL_rn tab_ok 6 [2, 4, 5, 8, 9, 10, 11] fun c st' hr => ?_
        simp only [go_sem, reduceIte, reduceCtorEq, Nat.reduceEqDiff, Nat.reduceLT, Nat.reduceLeDiff, Nat.reduceBEq, Nat.reduceAdd, Nat.reduceMul, Nat.reduceSub, Nat.reducePow, Int.reduceLE, Int.reduceLT, Int.reduceNeg, Int.reduceToNat, Int.reduceAdd, Int.reduceSub] at hr
        obtain ⟨rfl, rfl⟩ := hr
        refine ⟨vc, ?_⟩
        refine AWPL_nil ?_
        with_reducible refine inBlockA_normal ?_
        refine again_n (y3.1, y3.2.2) [0, 1, 2] hK mkWk
      · replace hK := ite_f hK hb1
        refine AWP_exit ?_
        with_reducible refine thenC_exit (again_x ?_)
        refine cutX_here v [1, 2] (by have hq := hpost1 _ hK; exact hq) mkWk
    · clear hK; rintro v2 hK
      try dsimp only at hK
      refine exS ⟨89, [(4, .int .i64 0), (5, .int .i64 0), (8, .own 0 y1.length), (9, .own 1 y2.length), (10, .int .i64 v2)], [some (.ints 3 .i64 y1), some (.ints 3 .i64 y2)]⟩ rfl ?_
      with_reducible refine inBlockA_exit (thenC_normal ?_)
      refine AWP_seq ?_
      -- region 9
      refine AWP_rl ?_
      refine AWPL_rn tab_ok 1 [4, 5, 8, 9, 36] fun c st' hr => ?_
      simp only [go_sem, reduceIte, reduceCtorEq, Nat.reduceEqDiff, Nat.reduceLT, Nat.reduceLeDiff, Nat.reduceBEq, Nat.reduceAdd, Nat.reduceMul, Nat.reduceSub, Nat.reducePow, Int.reduceLE, Int.reduceLT, Int.reduceNeg, Int.reduceToNat, Int.reduceAdd, Int.reduceSub] at hr
      obtain ⟨rfl, rfl⟩ := hr
      refine ⟨vc, ?_⟩
      replace hK := bind_s hK
      obtain ⟨y4, hy, hK⟩ := hK
      refine AWPL_callK [4, 5, 8, 9, 37] (W_meet_size hy) rfl rfl pcT rfl Tryd.call66 (.cons (.atom _ rfl) .nil) (hscG trivial) (of_decide_eq_true rfl) (by first | rfl | simp [nI, nI1, nI0]) (by first | rfl | simp [nIB, nI0]) fun st' hr => ?_
      simp only [go_sem, reduceIte, reduceCtorEq, Nat.reduceEqDiff, Nat.reduceLT, Nat.reduceLeDiff, Nat.reduceBEq, Nat.reduceAdd, Nat.reduceMul, Nat.reduceSub, Nat.reducePow, Int.reduceLE, Int.reduceLT, Int.reduceNeg, Int.reduceToNat, Int.reduceAdd, Int.reduceSub] at hr
      subst hr
      clear hy
      refine AWPL_rn tab_ok 1 [4, 5, 8, 9, 12] fun c st' hr => ?_
      simp only [go_sem, reduceIte, reduceCtorEq, Nat.reduceEqDiff, Nat.reduceLT, Nat.reduceLeDiff, Nat.reduceBEq, Nat.reduceAdd, Nat.reduceMul, Nat.reduceSub, Nat.reducePow, Int.reduceLE, Int.reduceLT, Int.reduceNeg, Int.reduceToNat, Int.reduceAdd, Int.reduceSub] at hr
      obtain ⟨rfl, rfl⟩ := hr
      refine ⟨vc, ?_⟩
      refine AWPL_nil ?_
      with_reducible refine thenC_normal ?_
      refine AWP_seq ?_
      refine AWP_seq ?_
      -- region 10
      refine AWP_rg tab_ok [4, 5, 8, 9, 12, 39, 40] fun c st' hr => ?_
      simp only [go_sem, reduceIte, reduceCtorEq, Nat.reduceEqDiff, Nat.reduceLT, Nat.reduceLeDiff, Nat.reduceBEq, Nat.reduceAdd, Nat.reduceMul, Nat.reduceSub, Nat.reducePow, Int.reduceLE, Int.reduceLT, Int.reduceNeg, Int.reduceToNat, Int.reduceAdd, Int.reduceSub] at hr
      obtain ⟨rfl, rfl⟩ := hr
      refine ⟨vc, ?_⟩
      with_reducible refine thenC_normal ?_
      refine AWP_block ?_
      refine AWP_loopX 2 (fun (v3 : Int) => ⟨89, [(4, .int .i64 0), (5, .int .i64 0), (8, .own 0 y1.length), (9, .own 1 y2.length), (12, .int .i64 y4), (39, .int .i64 (y1.length : Int)), (40, .int .i64 v3)], [some (.ints 3 .i64 y1), some (.ints 3 .i64 y2)]⟩) (fun (v4 : Int) => ⟨89, [(4, .int .i64 v4), (5, .int .i64 0), (8, .own 0 y1.length), (9, .own 1 y2.length), (12, .int .i64 y4)], [some (.ints 3 .i64 y1), some (.ints 3 .i64 y2)]⟩) (fun v => v) 0 [0, 1] hK mkWk ?_ ?_
      · clear hK; rintro v3 b1 hK hpost2
        try dsimp only at hK
        change AWP _ _ _ _ ⟨89, [(4, .int .i64 0), (5, .int .i64 0), (8, .own 0 y1.length), (9, .own 1 y2.length), (12, .int .i64 y4), (39, .int .i64 (y1.length : Int)), (40, .int .i64 v3)], [some (.ints 3 .i64 y1), some (.ints 3 .i64 y2)]⟩
        refine AWP_seq ?_
        -- region 11
        refine AWP_rg tab_ok [4, 5, 8, 9, 12, 39, 40, 41] fun c st' hr => ?_
        simp only [go_sem, reduceIte, reduceCtorEq, Nat.reduceEqDiff, Nat.reduceLT, Nat.reduceLeDiff, Nat.reduceBEq, Nat.reduceAdd, Nat.reduceMul, Nat.reduceSub, Nat.reducePow, Int.reduceLE, Int.reduceLT, Int.reduceNeg, Int.reduceToNat, Int.reduceAdd, Int.reduceSub] at hr
        obtain ⟨rfl, rfl⟩ := hr
        refine ⟨vc, ?_⟩
        with_reducible refine thenC_normal ?_
        refine AWP_seq ?_
        refine AWP_condP (v3 < (y1.length : Int)) rfl bd (fun hb2 => ?_) (fun hb2 => ?_)
        · replace hK := ite_t hK hb2
          refine AWP_skip ?_
          with_reducible refine thenC_normal ?_
          refine AWP_seq ?_
          refine AWP_block ?_
          refine AWP_seq ?_
          -- region 12
          refine AWP_rg tab_ok [4, 5, 8, 9, 12, 13, 39, 40] fun c st' hr => ?_
          simp only [go_sem, reduceIte, reduceCtorEq, Nat.reduceEqDiff, Nat.reduceLT, Nat.reduceLeDiff, Nat.reduceBEq, Nat.reduceAdd, Nat.reduceMul, Nat.reduceSub, Nat.reducePow, Int.reduceLE, Int.reduceLT, Int.reduceNeg, Int.reduceToNat, Int.reduceAdd, Int.reduceSub] at hr
          obtain ⟨rfl, rfl⟩ := hr
          refine ⟨vc, ?_⟩
          with_reducible refine thenC_normal ?_
          refine AWP_seq ?_
          -- region 13
          refine AWP_rl ?_
          refine AWPL_rn tab_ok 1 [4, 5, 8, 9, 12, 13, 39, 40, 43] fun c st' hr => ?_
          simp only [go_sem, reduceIte, reduceCtorEq, Nat.reduceEqDiff, Nat.reduceLT, Nat.reduceLeDiff, Nat.reduceBEq, Nat.reduceAdd, Nat.reduceMul, Nat.reduceSub, Nat.reducePow, Int.reduceLE, Int.reduceLT, Int.reduceNeg, Int.reduceToNat, Int.reduceAdd, Int.reduceSub] at hr
          obtain ⟨rfl, rfl⟩ := hr
          refine ⟨vc, ?_⟩
          replace hK := bind_s hK
          obtain ⟨y5, hy, hK⟩ := hK
          refine AWPL_callK [4, 5, 8, 9, 12, 13, 39, 40, 44] (W_meet_size hy) rfl rfl pcT rfl Tryd.call66 (.cons (.atom _ rfl) .nil) (hscG trivial) (of_decide_eq_true rfl) (by first | rfl | simp [nI, nI1, nI0]) (by first | rfl | simp [nIB, nI0]) fun st' hr => ?_
          simp only [go_sem, reduceIte, reduceCtorEq, Nat.reduceEqDiff, Nat.reduceLT, Nat.reduceLeDiff, Nat.reduceBEq, Nat.reduceAdd, Nat.reduceMul, Nat.reduceSub, Nat.reducePow, Int.reduceLE, Int.reduceLT, Int.reduceNeg, Int.reduceToNat, Int.reduceAdd, Int.reduceSub] at hr
          subst hr
          clear hy
          replace hK := chk_some hK
          obtain ⟨h, hK⟩ := hK
          refine AWPL_rn tab_ok 18 [4, 5, 8, 9, 12, 13, 39, 40, 62] fun c st' hr => ?_
          simp only [go_sem, reduceIte, reduceCtorEq, Nat.reduceEqDiff, Nat.reduceLT, Nat.reduceLeDiff, Nat.reduceBEq, Nat.reduceAdd, Nat.reduceMul, Nat.reduceSub, Nat.reducePow, Int.reduceLE, Int.reduceLT, Int.reduceNeg, Int.reduceToNat, Int.reduceAdd, Int.reduceSub] at hr
          obtain ⟨rfl, rfl⟩ := hr
          refine ⟨vc, ?_⟩
          refine AWPL_nil ?_
          with_reducible refine thenC_normal ?_
          refine AWP_condP (((y5 = y4 ∧ y1.getD v3.toNat 0 = y4) ∧ y2.getD v3.toNat 0 = y4)) rfl bd (fun hb3 => ?_) (fun hb3 => ?_)
          · replace hK := ite_t hK hb3
            refine AWP_seq ?_
            -- region 14
            refine AWP_rg tab_ok [4, 5, 8, 9, 12] fun c st' hr => ?_
            simp only [go_sem, reduceIte, reduceCtorEq, Nat.reduceEqDiff, Nat.reduceLT, Nat.reduceLeDiff, Nat.reduceBEq, Nat.reduceAdd, Nat.reduceMul, Nat.reduceSub, Nat.reducePow, Int.reduceLE, Int.reduceLT, Int.reduceNeg, Int.reduceToNat, Int.reduceAdd, Int.reduceSub] at hr
            obtain ⟨rfl, rfl⟩ := hr
            refine ⟨vc, ?_⟩
            with_reducible refine thenC_normal ?_
            refine AWP_exit ?_
            with_reducible refine inBlockA_ne (of_decide_eq_true rfl) (thenC_exit (again_x ?_))
            refine cutX_here v3 [0, 1] (by have hq := hpost2 _ hK; exact hq) mkWk
          · replace hK := ite_f hK hb3
            refine AWP_skip ?_
            with_reducible refine inBlockA_normal (thenC_normal ?_)
            -- region 15
            refine AWP_facts (by simp) fun hfx => ?_
            simp only [factS, factV, fact1, fact0, factL0, lo, hi, maxLen, and_true, true_and] at hfx
            refine AWP_rg tab_ok [4, 5, 8, 9, 12, 39, 40] fun c st' hr => ?_
            simp only [go_sem, reduceIte, reduceCtorEq, Nat.reduceEqDiff, Nat.reduceLT, Nat.reduceLeDiff, Nat.reduceBEq, Nat.reduceAdd, Nat.reduceMul, Nat.reduceSub, Nat.reducePow, Int.reduceLE, Int.reduceLT, Int.reduceNeg, Int.reduceToNat, Int.reduceAdd, Int.reduceSub] at hr
            obtain ⟨rfl, rfl⟩ := hr
            refine ⟨vc, ?_⟩
            clear hfx
            refine again_n (v3 + 1) [0, 1] hK mkWk
        · replace hK := ite_f hK hb2
          refine AWP_exit ?_
          with_reducible refine thenC_exit (again_x ?_)
          refine cutX_here 0 [0, 1] (by have hq := hpost2 _ hK; exact hq) mkWk
      · clear hK; rintro v4 hK
        try dsimp only at hK
        refine exS ⟨89, [(4, .int .i64 v4), (5, .int .i64 0), (8, .own 0 y1.length), (9, .own 1 y2.length), (12, .int .i64 y4)], [some (.ints 3 .i64 y1), some (.ints 3 .i64 y2)]⟩ rfl ?_
        with_reducible refine inBlockA_exit (thenC_normal ?_)
        refine AWP_seq ?_
        refine AWP_seq ?_
        -- region 16
        refine AWP_rg tab_ok [4, 5, 8, 9, 12, 66, 67] fun c st' hr => ?_
        simp only [go_sem, reduceIte, reduceCtorEq, Nat.reduceEqDiff, Nat.reduceLT, Nat.reduceLeDiff, Nat.reduceBEq, Nat.reduceAdd, Nat.reduceMul, Nat.reduceSub, Nat.reducePow, Int.reduceLE, Int.reduceLT, Int.reduceNeg, Int.reduceToNat, Int.reduceAdd, Int.reduceSub] at hr
        obtain ⟨rfl, rfl⟩ := hr
        refine ⟨vc, ?_⟩
        with_reducible refine thenC_normal ?_
        refine AWP_block ?_
        refine AWP_loopX 4 (fun (v5 : Int) => ⟨89, [(4, .int .i64 v4), (5, .int .i64 0), (8, .own 0 y1.length), (9, .own 1 y2.length), (12, .int .i64 y4), (66, .int .i64 (y1.length : Int)), (67, .int .i64 v5)], [some (.ints 3 .i64 y1), some (.ints 3 .i64 y2)]⟩) (fun (v6 : Int) => ⟨89, [(4, .int .i64 v4), (5, .int .i64 v6)], []⟩) (fun v => v) 0 [0, 1] hK mkWk ?_ ?_
        · clear hK; rintro v5 b2 hK hpost3
          try dsimp only at hK
          change AWP _ _ _ _ ⟨89, [(4, .int .i64 v4), (5, .int .i64 0), (8, .own 0 y1.length), (9, .own 1 y2.length), (12, .int .i64 y4), (66, .int .i64 (y1.length : Int)), (67, .int .i64 v5)], [some (.ints 3 .i64 y1), some (.ints 3 .i64 y2)]⟩
          refine AWP_seq ?_
          -- region 17
          refine AWP_rg tab_ok [4, 5, 8, 9, 12, 66, 67, 68] fun c st' hr => ?_
          simp only [go_sem, reduceIte, reduceCtorEq, Nat.reduceEqDiff, Nat.reduceLT, Nat.reduceLeDiff, Nat.reduceBEq, Nat.reduceAdd, Nat.reduceMul, Nat.reduceSub, Nat.reducePow, Int.reduceLE, Int.reduceLT, Int.reduceNeg, Int.reduceToNat, Int.reduceAdd, Int.reduceSub] at hr
          obtain ⟨rfl, rfl⟩ := hr
          refine ⟨vc, ?_⟩
          with_reducible refine thenC_normal ?_
          refine AWP_seq ?_
          refine AWP_condP (v5 < (y1.length : Int)) rfl bd (fun hb4 => ?_) (fun hb4 => ?_)
          · replace hK := ite_t hK hb4
            refine AWP_skip ?_
            with_reducible refine thenC_normal ?_
            refine AWP_seq ?_
            refine AWP_block ?_
            refine AWP_seq ?_
            -- region 18
            refine AWP_rg tab_ok [4, 5, 8, 9, 12, 14, 66, 67] fun c st' hr => ?_
            simp only [go_sem, reduceIte, reduceCtorEq, Nat.reduceEqDiff, Nat.reduceLT, Nat.reduceLeDiff, Nat.reduceBEq, Nat.reduceAdd, Nat.reduceMul, Nat.reduceSub, Nat.reducePow, Int.reduceLE, Int.reduceLT, Int.reduceNeg, Int.reduceToNat, Int.reduceAdd, Int.reduceSub] at hr
            obtain ⟨rfl, rfl⟩ := hr
            refine ⟨vc, ?_⟩
            with_reducible refine thenC_normal ?_
            refine AWP_seq ?_
            -- region 19
            replace hK := chk_some hK
            obtain ⟨h1, hK⟩ := hK
            refine AWP_dr tab_ok [4, 5, 8, 9, 12, 14, 66, 67, 84] mixed (by kernel_rfl) fun c st' hr => ?_
            simp only [go_sem, reduceIte, reduceCtorEq, Nat.reduceEqDiff, Nat.reduceLT, Nat.reduceLeDiff, Nat.reduceBEq, Nat.reduceAdd, Nat.reduceMul, Nat.reduceSub, Nat.reducePow, Int.reduceLE, Int.reduceLT, Int.reduceNeg, Int.reduceToNat, Int.reduceAdd, Int.reduceSub] at hr
            obtain ⟨rfl, rfl⟩ := hr
            refine ⟨vc, ?_⟩
            with_reducible refine thenC_normal ?_
            refine AWP_condP ((y1.getD v5.toNat 0) + (y2.getD (iandnot ((y2.length : Int) - 1) v5).toNat 0) = y4) rfl bd (fun hb5 => ?_) (fun hb5 => ?_)
            · replace hK := ite_t hK hb5
              refine AWP_seq ?_
              -- region 20
              refine AWP_rg tab_ok [4, 5] fun c st' hr => ?_
              simp only [go_sem, reduceIte, reduceCtorEq, Nat.reduceEqDiff, Nat.reduceLT, Nat.reduceLeDiff, Nat.reduceBEq, Nat.reduceAdd, Nat.reduceMul, Nat.reduceSub, Nat.reducePow, Int.reduceLE, Int.reduceLT, Int.reduceNeg, Int.reduceToNat, Int.reduceAdd, Int.reduceSub] at hr
              obtain ⟨rfl, rfl⟩ := hr
              refine ⟨vc, ?_⟩
              with_reducible refine thenC_normal ?_
              refine AWP_exit ?_
              with_reducible refine inBlockA_ne (of_decide_eq_true rfl) (thenC_exit (again_x ?_))
              refine cutX_here v5 [] (by have hq := hpost3 _ hK; exact hq) mkWk
            · replace hK := ite_f hK hb5
              refine AWP_skip ?_
              with_reducible refine inBlockA_normal (thenC_normal ?_)
              -- region 21
              refine AWP_facts (by simp) fun hfx => ?_
              simp only [factS, factV, fact1, fact0, factL0, lo, hi, maxLen, and_true, true_and] at hfx
              refine AWP_rg tab_ok [4, 5, 8, 9, 12, 66, 67] fun c st' hr => ?_
              simp only [go_sem, reduceIte, reduceCtorEq, Nat.reduceEqDiff, Nat.reduceLT, Nat.reduceLeDiff, Nat.reduceBEq, Nat.reduceAdd, Nat.reduceMul, Nat.reduceSub, Nat.reducePow, Int.reduceLE, Int.reduceLT, Int.reduceNeg, Int.reduceToNat, Int.reduceAdd, Int.reduceSub] at hr
              obtain ⟨rfl, rfl⟩ := hr
              refine ⟨vc, ?_⟩
              clear hfx
              refine again_n (v5 + 1) [0, 1] hK mkWk
          · replace hK := ite_f hK hb4
            refine AWP_exit ?_
            with_reducible refine thenC_exit (again_x ?_)
            refine cutX_here 0 [] (by have hq := hpost3 _ hK; exact hq) mkWk
        · clear hK; rintro v6 hK
          try dsimp only at hK
          refine exS ⟨89, [(4, .int .i64 v4), (5, .int .i64 v6)], []⟩ rfl ?_
          with_reducible refine inBlockA_exit (thenC_normal ?_)
          refine AWP_seq ?_
          -- region 22
          refine AWP_rg tab_ok [4, 5, 6] fun c st' hr => ?_
          simp only [go_sem, reduceIte, reduceCtorEq, Nat.reduceEqDiff, Nat.reduceLT, Nat.reduceLeDiff, Nat.reduceBEq, Nat.reduceAdd, Nat.reduceMul, Nat.reduceSub, Nat.reducePow, Int.reduceLE, Int.reduceLT, Int.reduceNeg, Int.reduceToNat, Int.reduceAdd, Int.reduceSub] at hr
          obtain ⟨rfl, rfl⟩ := hr
          refine ⟨vc, ?_⟩
          with_reducible refine thenC_normal ?_
          refine AWP_ret ?_
          cases hK
          refine EndsRW [] (.inl rfl) (of_decide_eq_true rfl) (by simp) rfl (fun c x hr => ?_) trivial
          simp only [go_sem, reduceIte, reduceCtorEq, Nat.reduceEqDiff, Nat.reduceLT, Nat.reduceLeDiff, Nat.reduceBEq, Nat.reduceAdd, Nat.reduceMul, Nat.reduceSub, Nat.reducePow, Int.reduceLE, Int.reduceLT, Int.reduceNeg, Int.reduceToNat, Int.reduceAdd, Int.reduceSub] at hr
          obtain ⟨rfl, rfl⟩ := hr
          exact ⟨rfl, endR⟩

end Go.SH
