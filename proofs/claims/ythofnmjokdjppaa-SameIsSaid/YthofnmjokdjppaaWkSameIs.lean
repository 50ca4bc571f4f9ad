/-
  That the code computes these functions: rotakeep_SameIs. By a program of mine (shal.py). Conditions: none.
-/
import Derived.Test.YthofnmjokdjppaaAxT
import Derived.Test.YthofnmjokdjppaaAxR
import Derived.Test.YthofnmjokdjppaaSkSameIs
import Derived.Test.YthofnmjokdjppaaWpaxioms
import Derived.Test.YthofnmjokdjppaaWprotakeep
import Derived.Test.YthofnmjokdjppaaWprotalaw
import Derived.Test.YthofnmjokdjppaaWprotaref
import Derived.Test.YthofnmjokdjppaaWpsame
import Derived.Test.YthofnmjokdjppaaWpsamec
import Derived.Test.YthofnmjokdjppaaWpsameg
import Derived.Test.YthofnmjokdjppaaWpsameo
import Derived.Test.YthofnmjokdjppaaWpsamer
set_option linter.unusedVariables false
set_option linter.unusedSimpArgs false
namespace Go.SH
open Go Go.AX Go.AX.Try Go.Proofs

set_option maxRecDepth 8000 in
set_option maxHeartbeats 4000000 in
theorem W_rotakeep_SameIs {m_0 : Int} {m_1 : List Int} {a1 : List Int} {r : Bool} (hK : rotakeep_SameIs m_0 m_1 a1 = some r) : Pure Try.prog 5 [.agg [.int .i64 m_0, .ints .i64 m_1], .ints .i64 a1] (.bool r) [] := by
  refine Pure_introF tab_ok (n := 176) (l := [.tmp 4]) Try.func5 rfl rfl rfl (by simp) fun hfact w0 => ?_
  simp only [factL1, fact1, fact0, factL0, lo, hi, maxLen, and_true] at hfact
  unfold rotakeep_SameIs at hK
  refine AWP_seq ?_
  -- region 0
  refine AWP_rg tab_ok [1, 2] fun c st' hr => ?_
  simp only [go_sem, reduceIte, reduceCtorEq, Nat.reduceEqDiff, Nat.reduceLT, Nat.reduceLeDiff, Nat.reduceBEq, Nat.reduceAdd, Nat.reduceMul, Nat.reduceSub, Nat.reducePow, Int.reduceLE, Int.reduceLT, Int.reduceNeg, Int.reduceToNat, Int.reduceAdd, Int.reduceSub] at hr
  obtain ⟨rfl, rfl⟩ := hr
  refine ⟨vc, ?_⟩
  with_reducible refine thenC_normal ?_
  refine AWP_seq ?_
  refine AWP_seq ?_
  -- region 1
  refine AWP_rl ?_
  replace hK := bind_s hK
  obtain ⟨y, hy, hK⟩ := hK
  refine AWPL_callK [1, 2, 26] (W_rotakeep_two hy) rfl rfl pcT rfl Try.call10 .nil (hscG trivial) (of_decide_eq_true rfl) (by first | rfl | simp [nI, nI1, nI0]) (by first | rfl | simp [nIB, nI0]) fun st' hr => ?_
  simp only [go_sem, reduceIte, reduceCtorEq, Nat.reduceEqDiff, Nat.reduceLT, Nat.reduceLeDiff, Nat.reduceBEq, Nat.reduceAdd, Nat.reduceMul, Nat.reduceSub, Nat.reducePow, Int.reduceLE, Int.reduceLT, Int.reduceNeg, Int.reduceToNat, Int.reduceAdd, Int.reduceSub] at hr
  subst hr
  clear hy
  replace hK := bind_s hK
  obtain ⟨y1, hy, hK⟩ := hK
  refine AWPL_callK [1, 2, 27] (W_same_Group hy) rfl rfl pcT rfl Try.call18 (.cons (.agg _ _ rfl (ArgsOk.get (.cons (.atom _ rfl) (.cons (.ownI _ _ _ _ _ y.2 rfl (by simp) (by first | simp | exact List.take_of_length_le (by simp))) .nil))).2) .nil) (hscG trivial) (of_decide_eq_true rfl) (by first | rfl | simp [nI, nI1, nI0]) (by first | rfl | simp [nIB, nI0]) fun st' hr => ?_
  simp only [go_sem, reduceIte, reduceCtorEq, Nat.reduceEqDiff, Nat.reduceLT, Nat.reduceLeDiff, Nat.reduceBEq, Nat.reduceAdd, Nat.reduceMul, Nat.reduceSub, Nat.reducePow, Int.reduceLE, Int.reduceLT, Int.reduceNeg, Int.reduceToNat, Int.reduceAdd, Int.reduceSub] at hr
  subst hr
  clear hy
  refine AWPL_rn tab_ok 5 [1, 2, 5, 6] fun c st' hr => ?_
  simp only [go_sem, reduceIte, reduceCtorEq, Nat.reduceEqDiff, Nat.reduceLT, Nat.reduceLeDiff, Nat.reduceBEq, Nat.reduceAdd, Nat.reduceMul, Nat.reduceSub, Nat.reducePow, Int.reduceLE, Int.reduceLT, Int.reduceNeg, Int.reduceToNat, Int.reduceAdd, Int.reduceSub] at hr
  obtain ⟨rfl, rfl⟩ := hr
  refine ⟨vc, ?_⟩
  refine AWPL_nil ?_
  with_reducible refine thenC_normal ?_
  refine AWP_seq ?_
  -- region 2
  refine AWP_rg tab_ok [1, 2, 35] fun c st' hr => ?_
  simp only [go_sem, reduceIte, reduceCtorEq, Nat.reduceEqDiff, Nat.reduceLT, Nat.reduceLeDiff, Nat.reduceBEq, Nat.reduceAdd, Nat.reduceMul, Nat.reduceSub, Nat.reducePow, Int.reduceLE, Int.reduceLT, Int.reduceNeg, Int.reduceToNat, Int.reduceAdd, Int.reduceSub] at hr
  obtain ⟨rfl, rfl⟩ := hr
  refine ⟨vc, ?_⟩
  with_reducible refine thenC_normal ?_
  refine AWP_condP ((y1.2 ≠ 0 ∨ y1.1 ≠ 24)) rfl bd (fun hb => ?_) (fun hb => ?_)
  · replace hK := ite_t hK hb
    refine AWP_seq ?_
    -- region 3
    refine AWP_rg tab_ok [4] fun c st' hr => ?_
    simp only [go_sem, reduceIte, reduceCtorEq, Nat.reduceEqDiff, Nat.reduceLT, Nat.reduceLeDiff, Nat.reduceBEq, Nat.reduceAdd, Nat.reduceMul, Nat.reduceSub, Nat.reducePow, Int.reduceLE, Int.reduceLT, Int.reduceNeg, Int.reduceToNat, Int.reduceAdd, Int.reduceSub] at hr
    obtain ⟨rfl, rfl⟩ := hr
    refine ⟨vc, ?_⟩
    with_reducible refine thenC_normal ?_
    refine AWP_ret ?_
    with_reducible refine thenC_ret ?_
    cases hK
    refine EndsRW [] (.inl rfl) (of_decide_eq_true rfl) (by simp) rfl (fun c x hr => ?_) trivial
    simp only [go_sem, reduceIte, reduceCtorEq, Nat.reduceEqDiff, Nat.reduceLT, Nat.reduceLeDiff, Nat.reduceBEq, Nat.reduceAdd, Nat.reduceMul, Nat.reduceSub, Nat.reducePow, Int.reduceLE, Int.reduceLT, Int.reduceNeg, Int.reduceToNat, Int.reduceAdd, Int.reduceSub] at hr
    obtain ⟨rfl, rfl⟩ := hr
    exact ⟨rfl, endR⟩
  · replace hK := ite_f hK hb
    refine AWP_skip ?_
    with_reducible refine thenC_normal ?_
    refine AWP_seq ?_
    refine AWP_seq ?_
    -- region 4
    refine AWP_rl ?_
    refine AWPL_rn tab_ok 1 [1, 2, 36] fun c st' hr => ?_
    simp only [go_sem, reduceIte, reduceCtorEq, Nat.reduceEqDiff, Nat.reduceLT, Nat.reduceLeDiff, Nat.reduceBEq, Nat.reduceAdd, Nat.reduceMul, Nat.reduceSub, Nat.reducePow, Int.reduceLE, Int.reduceLT, Int.reduceNeg, Int.reduceToNat, Int.reduceAdd, Int.reduceSub] at hr
    obtain ⟨rfl, rfl⟩ := hr
    refine ⟨vc, ?_⟩
    replace hK := bind_s hK
    obtain ⟨y2, hy, hK⟩ := hK
    refine AWPL_callK [1, 2, 37] (W_axioms_Check hy) rfl rfl pcT rfl Try.call15 (.cons (.agg _ _ rfl (ArgsOk.get (.cons (.atom _ rfl) (.cons (.atom _ rfl) .nil))).2) .nil) (hscG trivial) (of_decide_eq_true rfl) (by first | rfl | simp [nI, nI1, nI0]) (by first | rfl | simp [nIB, nI0]) fun st' hr => ?_
    simp only [go_sem, reduceIte, reduceCtorEq, Nat.reduceEqDiff, Nat.reduceLT, Nat.reduceLeDiff, Nat.reduceBEq, Nat.reduceAdd, Nat.reduceMul, Nat.reduceSub, Nat.reducePow, Int.reduceLE, Int.reduceLT, Int.reduceNeg, Int.reduceToNat, Int.reduceAdd, Int.reduceSub] at hr
    subst hr
    clear hy
    refine AWPL_rn tab_ok 1 [1, 2, 38] fun c st' hr => ?_
    simp only [go_sem, reduceIte, reduceCtorEq, Nat.reduceEqDiff, Nat.reduceLT, Nat.reduceLeDiff, Nat.reduceBEq, Nat.reduceAdd, Nat.reduceMul, Nat.reduceSub, Nat.reducePow, Int.reduceLE, Int.reduceLT, Int.reduceNeg, Int.reduceToNat, Int.reduceAdd, Int.reduceSub] at hr
    obtain ⟨rfl, rfl⟩ := hr
    refine ⟨vc, ?_⟩
    refine AWPL_nil ?_
    with_reducible refine thenC_normal ?_
    refine AWP_condP (y2 ≠ 0) rfl bd (fun hb1 => ?_) (fun hb1 => ?_)
    · replace hK := ite_t hK hb1
      refine AWP_seq ?_
      -- region 5
      refine AWP_rg tab_ok [4] fun c st' hr => ?_
      simp only [go_sem, reduceIte, reduceCtorEq, Nat.reduceEqDiff, Nat.reduceLT, Nat.reduceLeDiff, Nat.reduceBEq, Nat.reduceAdd, Nat.reduceMul, Nat.reduceSub, Nat.reducePow, Int.reduceLE, Int.reduceLT, Int.reduceNeg, Int.reduceToNat, Int.reduceAdd, Int.reduceSub] at hr
      obtain ⟨rfl, rfl⟩ := hr
      refine ⟨vc, ?_⟩
      with_reducible refine thenC_normal ?_
      refine AWP_ret ?_
      with_reducible refine thenC_ret ?_
      cases hK
      refine EndsRW [] (.inl rfl) (of_decide_eq_true rfl) (by simp) rfl (fun c x hr => ?_) trivial
      simp only [go_sem, reduceIte, reduceCtorEq, Nat.reduceEqDiff, Nat.reduceLT, Nat.reduceLeDiff, Nat.reduceBEq, Nat.reduceAdd, Nat.reduceMul, Nat.reduceSub, Nat.reducePow, Int.reduceLE, Int.reduceLT, Int.reduceNeg, Int.reduceToNat, Int.reduceAdd, Int.reduceSub] at hr
      obtain ⟨rfl, rfl⟩ := hr
      exact ⟨rfl, endR⟩
    · replace hK := ite_f hK hb1
      refine AWP_skip ?_
      with_reducible refine thenC_normal ?_
      refine AWP_seq ?_
      -- region 6
      refine AWP_rl ?_
      refine AWPL_rn tab_ok 1 [1, 2, 40] fun c st' hr => ?_
      simp only [go_sem, reduceIte, reduceCtorEq, Nat.reduceEqDiff, Nat.reduceLT, Nat.reduceLeDiff, Nat.reduceBEq, Nat.reduceAdd, Nat.reduceMul, Nat.reduceSub, Nat.reducePow, Int.reduceLE, Int.reduceLT, Int.reduceNeg, Int.reduceToNat, Int.reduceAdd, Int.reduceSub] at hr
      obtain ⟨rfl, rfl⟩ := hr
      refine ⟨vc, ?_⟩
      replace hK := bind_s hK
      obtain ⟨y3, hy, hK⟩ := hK
      refine AWPL_callK [1, 2, 41] (W_same_Canon hy) rfl rfl pcT rfl Try.call19 (.cons (.agg _ _ rfl (ArgsOk.get (.cons (.atom _ rfl) (.cons (.atom _ rfl) .nil))).2) .nil) (hscG trivial) (of_decide_eq_true rfl) (by first | rfl | simp [nI, nI1, nI0]) (by first | rfl | simp [nIB, nI0]) fun st' hr => ?_
      simp only [go_sem, reduceIte, reduceCtorEq, Nat.reduceEqDiff, Nat.reduceLT, Nat.reduceLeDiff, Nat.reduceBEq, Nat.reduceAdd, Nat.reduceMul, Nat.reduceSub, Nat.reducePow, Int.reduceLE, Int.reduceLT, Int.reduceNeg, Int.reduceToNat, Int.reduceAdd, Int.reduceSub] at hr
      subst hr
      clear hy
      refine AWPL_rn tab_ok 6 [1, 2, 7, 8] fun c st' hr => ?_
      simp only [go_sem, reduceIte, reduceCtorEq, Nat.reduceEqDiff, Nat.reduceLT, Nat.reduceLeDiff, Nat.reduceBEq, Nat.reduceAdd, Nat.reduceMul, Nat.reduceSub, Nat.reducePow, Int.reduceLE, Int.reduceLT, Int.reduceNeg, Int.reduceToNat, Int.reduceAdd, Int.reduceSub] at hr
      obtain ⟨rfl, rfl⟩ := hr
      refine ⟨vc, ?_⟩
      refine AWPL_nil ?_
      with_reducible refine thenC_normal ?_
      refine AWP_seq ?_
      -- region 7
      refine AWP_rl ?_
      refine AWPL_rn tab_ok 1 [1, 2, 7, 8, 45] fun c st' hr => ?_
      simp only [go_sem, reduceIte, reduceCtorEq, Nat.reduceEqDiff, Nat.reduceLT, Nat.reduceLeDiff, Nat.reduceBEq, Nat.reduceAdd, Nat.reduceMul, Nat.reduceSub, Nat.reducePow, Int.reduceLE, Int.reduceLT, Int.reduceNeg, Int.reduceToNat, Int.reduceAdd, Int.reduceSub] at hr
      obtain ⟨rfl, rfl⟩ := hr
      refine ⟨vc, ?_⟩
      replace hK := bind_s hK
      obtain ⟨y4, hy, hK⟩ := hK
      refine AWPL_callK [1, 2, 7, 8, 46] (W_same_Group hy) rfl rfl pcT rfl Try.call18 (.cons (.agg _ _ rfl (ArgsOk.get (.cons (.atom _ rfl) (.cons (.atom _ rfl) .nil))).2) .nil) (hscG trivial) (of_decide_eq_true rfl) (by first | rfl | simp [nI, nI1, nI0]) (by first | rfl | simp [nIB, nI0]) fun st' hr => ?_
      simp only [go_sem, reduceIte, reduceCtorEq, Nat.reduceEqDiff, Nat.reduceLT, Nat.reduceLeDiff, Nat.reduceBEq, Nat.reduceAdd, Nat.reduceMul, Nat.reduceSub, Nat.reducePow, Int.reduceLE, Int.reduceLT, Int.reduceNeg, Int.reduceToNat, Int.reduceAdd, Int.reduceSub] at hr
      subst hr
      clear hy
      refine AWPL_rn tab_ok 5 [1, 2, 7, 8, 9, 10] fun c st' hr => ?_
      simp only [go_sem, reduceIte, reduceCtorEq, Nat.reduceEqDiff, Nat.reduceLT, Nat.reduceLeDiff, Nat.reduceBEq, Nat.reduceAdd, Nat.reduceMul, Nat.reduceSub, Nat.reducePow, Int.reduceLE, Int.reduceLT, Int.reduceNeg, Int.reduceToNat, Int.reduceAdd, Int.reduceSub] at hr
      obtain ⟨rfl, rfl⟩ := hr
      refine ⟨vc, ?_⟩
      refine AWPL_nil ?_
      with_reducible refine thenC_normal ?_
      refine AWP_seq ?_
      -- region 8
      refine AWP_rl ?_
      refine AWPL_rn tab_ok 1 [1, 2, 7, 8, 9, 10, 50] fun c st' hr => ?_
      simp only [go_sem, reduceIte, reduceCtorEq, Nat.reduceEqDiff, Nat.reduceLT, Nat.reduceLeDiff, Nat.reduceBEq, Nat.reduceAdd, Nat.reduceMul, Nat.reduceSub, Nat.reducePow, Int.reduceLE, Int.reduceLT, Int.reduceNeg, Int.reduceToNat, Int.reduceAdd, Int.reduceSub] at hr
      obtain ⟨rfl, rfl⟩ := hr
      refine ⟨vc, ?_⟩
      replace hK := bind_s hK
      obtain ⟨y5, hy, hK⟩ := hK
      refine AWPL_callK [1, 2, 7, 8, 9, 10, 51] (W_same_Orbits hy) rfl rfl pcT rfl Try.call20 (.cons (.agg _ _ rfl (ArgsOk.get (.cons (.atom _ rfl) (.cons (.atom _ rfl) .nil))).2) .nil) (hscG trivial) (of_decide_eq_true rfl) (by first | rfl | simp [nI, nI1, nI0]) (by first | rfl | simp [nIB, nI0]) fun st' hr => ?_
      simp only [go_sem, reduceIte, reduceCtorEq, Nat.reduceEqDiff, Nat.reduceLT, Nat.reduceLeDiff, Nat.reduceBEq, Nat.reduceAdd, Nat.reduceMul, Nat.reduceSub, Nat.reducePow, Int.reduceLE, Int.reduceLT, Int.reduceNeg, Int.reduceToNat, Int.reduceAdd, Int.reduceSub] at hr
      subst hr
      clear hy
      refine AWPL_rn tab_ok 5 [1, 2, 7, 8, 9, 10, 11, 12] fun c st' hr => ?_
      simp only [go_sem, reduceIte, reduceCtorEq, Nat.reduceEqDiff, Nat.reduceLT, Nat.reduceLeDiff, Nat.reduceBEq, Nat.reduceAdd, Nat.reduceMul, Nat.reduceSub, Nat.reducePow, Int.reduceLE, Int.reduceLT, Int.reduceNeg, Int.reduceToNat, Int.reduceAdd, Int.reduceSub] at hr
      obtain ⟨rfl, rfl⟩ := hr
      refine ⟨vc, ?_⟩
      refine AWPL_nil ?_
      with_reducible refine thenC_normal ?_
      refine AWP_seq ?_
      -- region 9
      refine AWP_rl ?_
      refine AWPL_rn tab_ok 2 [1, 2, 7, 8, 9, 10, 11, 12, 55, 56] fun c st' hr => ?_
      simp only [go_sem, reduceIte, reduceCtorEq, Nat.reduceEqDiff, Nat.reduceLT, Nat.reduceLeDiff, Nat.reduceBEq, Nat.reduceAdd, Nat.reduceMul, Nat.reduceSub, Nat.reducePow, Int.reduceLE, Int.reduceLT, Int.reduceNeg, Int.reduceToNat, Int.reduceAdd, Int.reduceSub] at hr
      obtain ⟨rfl, rfl⟩ := hr
      refine ⟨vc, ?_⟩
      replace hK := bind_s hK
      obtain ⟨y6, hy, hK⟩ := hK
      refine AWPL_callK [1, 2, 7, 8, 9, 10, 11, 12, 57] (W_same_Isomorphic hy) rfl rfl pcT rfl Try.call14 (.cons (.agg _ _ rfl (ArgsOk.get (.cons (.atom _ rfl) (.cons (.atom _ rfl) .nil))).2) (.cons (.agg _ _ rfl (ArgsOk.get (.cons (.atom _ rfl) (.cons (.ownI _ _ _ _ _ y3.2.1 rfl (by simp) (by first | simp | exact List.take_of_length_le (by simp))) .nil))).2) .nil)) (hscG trivial) (of_decide_eq_true rfl) (by first | rfl | simp [nI, nI1, nI0]) (by first | rfl | simp [nIB, nI0]) fun st' hr => ?_
      simp only [go_sem, reduceIte, reduceCtorEq, Nat.reduceEqDiff, Nat.reduceLT, Nat.reduceLeDiff, Nat.reduceBEq, Nat.reduceAdd, Nat.reduceMul, Nat.reduceSub, Nat.reducePow, Int.reduceLE, Int.reduceLT, Int.reduceNeg, Int.reduceToNat, Int.reduceAdd, Int.reduceSub] at hr
      subst hr
      clear hy
      refine AWPL_rn tab_ok 5 [1, 2, 7, 8, 9, 10, 11, 12, 13, 14] fun c st' hr => ?_
      simp only [go_sem, reduceIte, reduceCtorEq, Nat.reduceEqDiff, Nat.reduceLT, Nat.reduceLeDiff, Nat.reduceBEq, Nat.reduceAdd, Nat.reduceMul, Nat.reduceSub, Nat.reducePow, Int.reduceLE, Int.reduceLT, Int.reduceNeg, Int.reduceToNat, Int.reduceAdd, Int.reduceSub] at hr
      obtain ⟨rfl, rfl⟩ := hr
      refine ⟨vc, ?_⟩
      refine AWPL_nil ?_
      with_reducible refine thenC_normal ?_
      refine AWP_seq ?_
      refine AWP_seq ?_
      -- region 10
      refine AWP_rg tab_ok [1, 2, 7, 9, 11, 13, 73] fun c st' hr => ?_
      simp only [go_sem, reduceIte, reduceCtorEq, Nat.reduceEqDiff, Nat.reduceLT, Nat.reduceLeDiff, Nat.reduceBEq, Nat.reduceAdd, Nat.reduceMul, Nat.reduceSub, Nat.reducePow, Int.reduceLE, Int.reduceLT, Int.reduceNeg, Int.reduceToNat, Int.reduceAdd, Int.reduceSub] at hr
      obtain ⟨rfl, rfl⟩ := hr
      refine ⟨vc, ?_⟩
      with_reducible refine thenC_normal ?_
      refine AWP_condP ((((y3.2.2 ≠ 0 ∨ y4.2 ≠ 0) ∨ y5.2 ≠ 0) ∨ y6.2 ≠ 0)) rfl bd (fun hb2 => ?_) (fun hb2 => ?_)
      · replace hK := ite_t hK hb2
        refine AWP_seq ?_
        -- region 11
        refine AWP_rg tab_ok [4] fun c st' hr => ?_
        simp only [go_sem, reduceIte, reduceCtorEq, Nat.reduceEqDiff, Nat.reduceLT, Nat.reduceLeDiff, Nat.reduceBEq, Nat.reduceAdd, Nat.reduceMul, Nat.reduceSub, Nat.reducePow, Int.reduceLE, Int.reduceLT, Int.reduceNeg, Int.reduceToNat, Int.reduceAdd, Int.reduceSub] at hr
        obtain ⟨rfl, rfl⟩ := hr
        refine ⟨vc, ?_⟩
        with_reducible refine thenC_normal ?_
        refine AWP_ret ?_
        with_reducible refine thenC_ret ?_
        cases hK
        refine EndsRW [] (.inl rfl) (of_decide_eq_true rfl) (by simp) rfl (fun c x hr => ?_) trivial
        simp only [go_sem, reduceIte, reduceCtorEq, Nat.reduceEqDiff, Nat.reduceLT, Nat.reduceLeDiff, Nat.reduceBEq, Nat.reduceAdd, Nat.reduceMul, Nat.reduceSub, Nat.reducePow, Int.reduceLE, Int.reduceLT, Int.reduceNeg, Int.reduceToNat, Int.reduceAdd, Int.reduceSub] at hr
        obtain ⟨rfl, rfl⟩ := hr
        exact ⟨rfl, endR⟩
      · replace hK := ite_f hK hb2
        refine AWP_skip ?_
        with_reducible refine thenC_normal ?_
        refine AWP_seq ?_
        -- region 12
        refine AWP_rl ?_
        refine AWPL_rn tab_ok 2 [1, 2, 7, 9, 11, 75, 76] fun c st' hr => ?_
        simp only [go_sem, reduceIte, reduceCtorEq, Nat.reduceEqDiff, Nat.reduceLT, Nat.reduceLeDiff, Nat.reduceBEq, Nat.reduceAdd, Nat.reduceMul, Nat.reduceSub, Nat.reducePow, Int.reduceLE, Int.reduceLT, Int.reduceNeg, Int.reduceToNat, Int.reduceAdd, Int.reduceSub] at hr
        obtain ⟨rfl, rfl⟩ := hr
        refine ⟨vc, ?_⟩
        replace hK := bind_s hK
        obtain ⟨y7, hy, hK⟩ := hK
        refine AWPL_callK [1, 2, 7, 9, 11, 77] (W_same_Rename hy) rfl rfl pcT rfl Try.call21 (.cons (.agg _ _ rfl (ArgsOk.get (.cons (.atom _ rfl) (.cons (.atom _ rfl) .nil))).2) (.cons (.ownI _ _ _ _ _ y6.1 rfl (by simp) (by first | simp | exact List.take_of_length_le (by simp))) .nil)) (hscG trivial) (of_decide_eq_true rfl) (by first | rfl | simp [nI, nI1, nI0]) (by first | rfl | simp [nIB, nI0]) fun st' hr => ?_
        simp only [go_sem, reduceIte, reduceCtorEq, Nat.reduceEqDiff, Nat.reduceLT, Nat.reduceLeDiff, Nat.reduceBEq, Nat.reduceAdd, Nat.reduceMul, Nat.reduceSub, Nat.reducePow, Int.reduceLE, Int.reduceLT, Int.reduceNeg, Int.reduceToNat, Int.reduceAdd, Int.reduceSub] at hr
        subst hr
        clear hy
        refine AWPL_rn tab_ok 6 [1, 2, 7, 9, 11, 15, 16] fun c st' hr => ?_
        simp only [go_sem, reduceIte, reduceCtorEq, Nat.reduceEqDiff, Nat.reduceLT, Nat.reduceLeDiff, Nat.reduceBEq, Nat.reduceAdd, Nat.reduceMul, Nat.reduceSub, Nat.reducePow, Int.reduceLE, Int.reduceLT, Int.reduceNeg, Int.reduceToNat, Int.reduceAdd, Int.reduceSub] at hr
        obtain ⟨rfl, rfl⟩ := hr
        refine ⟨vc, ?_⟩
        refine AWPL_nil ?_
        with_reducible refine thenC_normal ?_
        refine AWP_seq ?_
        refine AWP_seq ?_
        -- region 13
        refine AWP_rl ?_
        refine AWPL_rn tab_ok 5 [1, 2, 7, 9, 11, 82, 83, 84] fun c st' hr => ?_
        simp only [go_sem, reduceIte, reduceCtorEq, Nat.reduceEqDiff, Nat.reduceLT, Nat.reduceLeDiff, Nat.reduceBEq, Nat.reduceAdd, Nat.reduceMul, Nat.reduceSub, Nat.reducePow, Int.reduceLE, Int.reduceLT, Int.reduceNeg, Int.reduceToNat, Int.reduceAdd, Int.reduceSub] at hr
        obtain ⟨rfl, rfl⟩ := hr
        refine ⟨vc, ?_⟩
        replace hK := bind_s hK
        obtain ⟨y8, hy, hK⟩ := hK
        refine AWPL_callGP [1, 2, 7, 9, 11, 82, 85] (¬ (y7.2.2 ≠ 0)) (fun hg => (W_rotalaw_SameMatroid (ite_t hy hg))) rfl rfl pcG rfl Try.call22 (.cons (.agg _ _ rfl (ArgsOk.get (.cons (.atom _ rfl) (.cons (.ownI _ _ _ _ _ y7.2.1 rfl (by simp) (by first | simp | exact List.take_of_length_le (by simp))) .nil))).2) (.cons (.agg _ _ rfl (ArgsOk.get (.cons (.atom _ rfl) (.cons (.ownI _ _ _ _ _ y3.2.1 rfl (by simp) (by first | simp | exact List.take_of_length_le (by simp))) .nil))).2) .nil)) (fun hg => hscG hg) (of_decide_eq_true rfl) (by first | rfl | simp [nI, nI1, nI0]) (by first | rfl | simp [sh, sh1, sh0]) fun st' hr => ?_
        simp only [go_sem, reduceIte, reduceCtorEq, Nat.reduceEqDiff, Nat.reduceLT, Nat.reduceLeDiff, Nat.reduceBEq, Nat.reduceAdd, Nat.reduceMul, Nat.reduceSub, Nat.reducePow, Int.reduceLE, Int.reduceLT, Int.reduceNeg, Int.reduceToNat, Int.reduceAdd, Int.reduceSub] at hr
        subst hr
        clear hy
        refine AWPL_rn tab_ok 2 [1, 2, 7, 9, 11, 87] fun c st' hr => ?_
        simp only [go_sem, reduceIte, reduceCtorEq, Nat.reduceEqDiff, Nat.reduceLT, Nat.reduceLeDiff, Nat.reduceBEq, Nat.reduceAdd, Nat.reduceMul, Nat.reduceSub, Nat.reducePow, Int.reduceLE, Int.reduceLT, Int.reduceNeg, Int.reduceToNat, Int.reduceAdd, Int.reduceSub] at hr
        obtain ⟨rfl, rfl⟩ := hr
        refine ⟨vc, ?_⟩
        refine AWPL_nil ?_
        with_reducible refine thenC_normal ?_
        refine AWP_condP ((y7.2.2 ≠ 0 ∨ ¬ (y8 = true))) rfl bd (fun hb3 => ?_) (fun hb3 => ?_)
        · replace hK := ite_t hK hb3
          refine AWP_seq ?_
          -- region 14
          refine AWP_rg tab_ok [4] fun c st' hr => ?_
          simp only [go_sem, reduceIte, reduceCtorEq, Nat.reduceEqDiff, Nat.reduceLT, Nat.reduceLeDiff, Nat.reduceBEq, Nat.reduceAdd, Nat.reduceMul, Nat.reduceSub, Nat.reducePow, Int.reduceLE, Int.reduceLT, Int.reduceNeg, Int.reduceToNat, Int.reduceAdd, Int.reduceSub] at hr
          obtain ⟨rfl, rfl⟩ := hr
          refine ⟨vc, ?_⟩
          with_reducible refine thenC_normal ?_
          refine AWP_ret ?_
          with_reducible refine thenC_ret ?_
          cases hK
          refine EndsRW [] (.inl rfl) (of_decide_eq_true rfl) (by simp) rfl (fun c x hr => ?_) trivial
          simp only [go_sem, reduceIte, reduceCtorEq, Nat.reduceEqDiff, Nat.reduceLT, Nat.reduceLeDiff, Nat.reduceBEq, Nat.reduceAdd, Nat.reduceMul, Nat.reduceSub, Nat.reducePow, Int.reduceLE, Int.reduceLT, Int.reduceNeg, Int.reduceToNat, Int.reduceAdd, Int.reduceSub] at hr
          obtain ⟨rfl, rfl⟩ := hr
          exact ⟨rfl, endR⟩
        · replace hK := ite_f hK hb3
          refine AWP_skip ?_
          with_reducible refine thenC_normal ?_
          refine AWP_seq ?_
          -- region 15
          refine AWP_rg tab_ok [1, 2, 7, 9, 11, 17, 18] fun c st' hr => ?_
          simp only [go_sem, reduceIte, reduceCtorEq, Nat.reduceEqDiff, Nat.reduceLT, Nat.reduceLeDiff, Nat.reduceBEq, Nat.reduceAdd, Nat.reduceMul, Nat.reduceSub, Nat.reducePow, Int.reduceLE, Int.reduceLT, Int.reduceNeg, Int.reduceToNat, Int.reduceAdd, Int.reduceSub] at hr
          obtain ⟨rfl, rfl⟩ := hr
          refine ⟨vc, ?_⟩
          with_reducible refine thenC_normal ?_
          refine AWP_seq ?_
          refine AWP_seq ?_
          -- region 16
          refine AWP_rg tab_ok [1, 2, 7, 9, 11, 17, 18, 19] fun c st' hr => ?_
          simp only [go_sem, reduceIte, reduceCtorEq, Nat.reduceEqDiff, Nat.reduceLT, Nat.reduceLeDiff, Nat.reduceBEq, Nat.reduceAdd, Nat.reduceMul, Nat.reduceSub, Nat.reducePow, Int.reduceLE, Int.reduceLT, Int.reduceNeg, Int.reduceToNat, Int.reduceAdd, Int.reduceSub] at hr
          obtain ⟨rfl, rfl⟩ := hr
          refine ⟨vc, ?_⟩
          with_reducible refine thenC_normal ?_
          refine AWP_block ?_
          refine AWP_loopX 0 (fun ((v, v1) : Int × Int) => ⟨176, [(1, .ints .i64 a1), (2, .ptr 0 0 0), (7, .ptr 1 0 0), (9, .int .i64 y4.1), (11, .own 3 y5.1.length), (17, .int .i64 v), (18, .int .i64 0), (19, .int .i64 v1)], [some (.gen 24 2 [[.int .i64 m_0, .ints .i64 m_1]]), some (.gen 24 2 [[.int .i64 y3.1, .own 2 y3.2.1.length]]), some (.ints 3 .i64 y3.2.1), some (.ints 3 .i64 y5.1)]⟩) (fun (v2 : Int) => ⟨176, [(1, .ints .i64 a1), (2, .ptr 0 0 0), (7, .ptr 1 0 0), (9, .int .i64 y4.1), (11, .own 3 y5.1.length), (17, .int .i64 v2), (18, .int .i64 0)], [some (.gen 24 2 [[.int .i64 m_0, .ints .i64 m_1]]), some (.gen 24 2 [[.int .i64 y3.1, .own 2 y3.2.1.length]]), some (.ints 3 .i64 y3.2.1), some (.ints 3 .i64 y5.1)]⟩) (fun v => v) (1, 2) [0, 3, 2, 4] hK mkWk ?_ ?_
          · clear hK; rintro ⟨v, v1⟩ b hK hpost1
            try dsimp only at hK
            change AWP _ _ _ _ ⟨176, [(1, .ints .i64 a1), (2, .ptr 0 0 0), (7, .ptr 1 0 0), (9, .int .i64 y4.1), (11, .own 3 y5.1.length), (17, .int .i64 v), (18, .int .i64 0), (19, .int .i64 v1)], [some (.gen 24 2 [[.int .i64 m_0, .ints .i64 m_1]]), some (.gen 24 2 [[.int .i64 y3.1, .own 2 y3.2.1.length]]), some (.ints 3 .i64 y3.2.1), some (.ints 3 .i64 y5.1)]⟩
            refine AWP_seq ?_
            refine AWP_seq ?_
            -- region 17
            refine AWP_rg tab_ok [1, 2, 7, 9, 11, 17, 18, 19, 91] fun c st' hr => ?_
            simp only [go_sem, reduceIte, reduceCtorEq, Nat.reduceEqDiff, Nat.reduceLT, Nat.reduceLeDiff, Nat.reduceBEq, Nat.reduceAdd, Nat.reduceMul, Nat.reduceSub, Nat.reducePow, Int.reduceLE, Int.reduceLT, Int.reduceNeg, Int.reduceToNat, Int.reduceAdd, Int.reduceSub] at hr
            obtain ⟨rfl, rfl⟩ := hr
            refine ⟨vc, ?_⟩
            with_reducible refine thenC_normal ?_
            refine AWP_condP (v1 ≤ m_0) rfl bd (fun hb4 => ?_) (fun hb4 => ?_)
            · replace hK := ite_t hK hb4
              refine AWP_skip ?_
              with_reducible refine thenC_normal ?_
              refine AWP_seq ?_
              refine AWP_block ?_
              -- region 19
              replace hK := chk_some hK
              obtain ⟨h, hK⟩ := hK
              refine AWP_rg tab_ok [1, 2, 7, 9, 11, 17, 18, 19] fun c st' hr => ?_
              simp only [go_sem, reduceIte, reduceCtorEq, Nat.reduceEqDiff, Nat.reduceLT, Nat.reduceLeDiff, Nat.reduceBEq, Nat.reduceAdd, Nat.reduceMul, Nat.reduceSub, Nat.reducePow, Int.reduceLE, Int.reduceLT, Int.reduceNeg, Int.reduceToNat, Int.reduceAdd, Int.reduceSub] at hr
              obtain ⟨rfl, rfl⟩ := hr
              refine ⟨vc, ?_⟩
              with_reducible refine inBlockA_normal (thenC_normal ?_)
              -- region 18
              replace hK := chk_some hK
              obtain ⟨h1, hK⟩ := hK
              refine AWP_rg tab_ok [1, 2, 7, 9, 11, 17, 18, 19] fun c st' hr => ?_
              simp only [go_sem, reduceIte, reduceCtorEq, Nat.reduceEqDiff, Nat.reduceLT, Nat.reduceLeDiff, Nat.reduceBEq, Nat.reduceAdd, Nat.reduceMul, Nat.reduceSub, Nat.reducePow, Int.reduceLE, Int.reduceLT, Int.reduceNeg, Int.reduceToNat, Int.reduceAdd, Int.reduceSub] at hr
              obtain ⟨rfl, rfl⟩ := hr
              refine ⟨vc, ?_⟩
              refine again_n (v * v1, v1 + 1) [0, 1, 2, 3] hK mkWk
            · replace hK := ite_f hK hb4
              refine AWP_exit ?_
              with_reducible refine thenC_exit (again_x ?_)
              refine cutX_here v [0, 1, 2, 3] (by have hq := hpost1 _ hK; exact hq) mkWk
          · clear hK; rintro v2 hK
            try dsimp only at hK
            refine exS ⟨176, [(1, .ints .i64 a1), (2, .ptr 0 0 0), (7, .ptr 1 0 0), (9, .int .i64 y4.1), (11, .own 3 y5.1.length), (17, .int .i64 v2), (18, .int .i64 0)], [some (.gen 24 2 [[.int .i64 m_0, .ints .i64 m_1]]), some (.gen 24 2 [[.int .i64 y3.1, .own 2 y3.2.1.length]]), some (.ints 3 .i64 y3.2.1), some (.ints 3 .i64 y5.1)]⟩ rfl ?_
            with_reducible refine inBlockA_exit (thenC_normal ?_)
            refine AWP_seq ?_
            refine AWP_seq ?_
            -- region 20
            refine AWP_rg tab_ok [1, 2, 7, 9, 17, 18, 97, 98, 99] fun c st' hr => ?_
            simp only [go_sem, reduceIte, reduceCtorEq, Nat.reduceEqDiff, Nat.reduceLT, Nat.reduceLeDiff, Nat.reduceBEq, Nat.reduceAdd, Nat.reduceMul, Nat.reduceSub, Nat.reducePow, Int.reduceLE, Int.reduceLT, Int.reduceNeg, Int.reduceToNat, Int.reduceAdd, Int.reduceSub] at hr
            obtain ⟨rfl, rfl⟩ := hr
            refine ⟨vc, ?_⟩
            with_reducible refine thenC_normal ?_
            refine AWP_block ?_
            refine AWP_loopX 2 (fun ((v3, v4) : Int × Int) => ⟨176, [(1, .ints .i64 a1), (2, .ptr 0 0 0), (7, .ptr 1 0 0), (9, .int .i64 y4.1), (17, .int .i64 v2), (18, .int .i64 v3), (97, .own 3 y5.1.length), (98, .int .i64 (y5.1.length : Int)), (99, .int .i64 v4)], [some (.gen 24 2 [[.int .i64 m_0, .ints .i64 m_1]]), some (.gen 24 2 [[.int .i64 y3.1, .own 2 y3.2.1.length]]), some (.ints 3 .i64 y3.2.1), some (.ints 3 .i64 y5.1)]⟩) (fun (v5 : Int) => ⟨176, [(1, .ints .i64 a1), (2, .ptr 0 0 0), (7, .ptr 1 0 0), (9, .int .i64 y4.1), (17, .int .i64 v2), (18, .int .i64 v5)], [some (.gen 24 2 [[.int .i64 m_0, .ints .i64 m_1]]), some (.gen 24 2 [[.int .i64 y3.1, .own 2 y3.2.1.length]]), some (.ints 3 .i64 y3.2.1)]⟩) Sum.inl (0, 0) [0, 1, 2, 3] hK mkWk ?_ ?_
            · clear hK; rintro ⟨v3, v4⟩ b1 hK hpost2
              try dsimp only at hK
              change AWP _ _ _ _ ⟨176, [(1, .ints .i64 a1), (2, .ptr 0 0 0), (7, .ptr 1 0 0), (9, .int .i64 y4.1), (17, .int .i64 v2), (18, .int .i64 v3), (97, .own 3 y5.1.length), (98, .int .i64 (y5.1.length : Int)), (99, .int .i64 v4)], [some (.gen 24 2 [[.int .i64 m_0, .ints .i64 m_1]]), some (.gen 24 2 [[.int .i64 y3.1, .own 2 y3.2.1.length]]), some (.ints 3 .i64 y3.2.1), some (.ints 3 .i64 y5.1)]⟩
              refine AWP_seq ?_
              -- region 21
              refine AWP_rg tab_ok [1, 2, 7, 9, 17, 18, 97, 98, 99, 100] fun c st' hr => ?_
              simp only [go_sem, reduceIte, reduceCtorEq, Nat.reduceEqDiff, Nat.reduceLT, Nat.reduceLeDiff, Nat.reduceBEq, Nat.reduceAdd, Nat.reduceMul, Nat.reduceSub, Nat.reducePow, Int.reduceLE, Int.reduceLT, Int.reduceNeg, Int.reduceToNat, Int.reduceAdd, Int.reduceSub] at hr
              obtain ⟨rfl, rfl⟩ := hr
              refine ⟨vc, ?_⟩
              with_reducible refine thenC_normal ?_
              refine AWP_seq ?_
              refine AWP_condP (v4 < (y5.1.length : Int)) rfl bd (fun hb5 => ?_) (fun hb5 => ?_)
              · replace hK := ite_t hK hb5
                refine AWP_skip ?_
                with_reducible refine thenC_normal ?_
                refine AWP_seq ?_
                refine AWP_block ?_
                refine AWP_seq ?_
                -- region 22
                replace hK := chk_some hK
                obtain ⟨h2, hK⟩ := hK
                refine AWP_rg tab_ok [1, 2, 7, 9, 17, 18, 21, 97, 98, 99] fun c st' hr => ?_
                simp only [go_sem, reduceIte, reduceCtorEq, Nat.reduceEqDiff, Nat.reduceLT, Nat.reduceLeDiff, Nat.reduceBEq, Nat.reduceAdd, Nat.reduceMul, Nat.reduceSub, Nat.reducePow, Int.reduceLE, Int.reduceLT, Int.reduceNeg, Int.reduceToNat, Int.reduceAdd, Int.reduceSub] at hr
                obtain ⟨rfl, rfl⟩ := hr
                refine ⟨vc, ?_⟩
                with_reducible refine thenC_normal ?_
                refine AWP_seq ?_
                refine AWP_seq ?_
                -- region 23
                refine AWP_rl ?_
                refine AWPL_rn tab_ok 7 [1, 2, 7, 9, 17, 18, 21, 97, 98, 99, 107, 108, 109] fun c st' hr => ?_
                simp only [go_sem, reduceIte, reduceCtorEq, Nat.reduceEqDiff, Nat.reduceLT, Nat.reduceLeDiff, Nat.reduceBEq, Nat.reduceAdd, Nat.reduceMul, Nat.reduceSub, Nat.reducePow, Int.reduceLE, Int.reduceLT, Int.reduceNeg, Int.reduceToNat, Int.reduceAdd, Int.reduceSub] at hr
                obtain ⟨rfl, rfl⟩ := hr
                refine ⟨vc, ?_⟩
                replace hK := bind_s hK
                obtain ⟨y9, hy, hK⟩ := hK
                refine AWPL_callGP [1, 2, 7, 9, 17, 18, 21, 97, 98, 99, 107, 108, 110] (¬ (iand v3 (y5.1.getD v4.toNat 0) ≠ 0)) (fun hg => (W_rotaref_Size (ite_t hy hg))) rfl rfl pcG rfl Try.call23 (.cons (.atom _ rfl) .nil) (fun hg => hscG hg) (of_decide_eq_true rfl) (by first | rfl | simp [nI, nI1, nI0]) (by first | rfl | simp [sh, sh1, sh0]) fun st' hr => ?_
                simp only [go_sem, reduceIte, reduceCtorEq, Nat.reduceEqDiff, Nat.reduceLT, Nat.reduceLeDiff, Nat.reduceBEq, Nat.reduceAdd, Nat.reduceMul, Nat.reduceSub, Nat.reducePow, Int.reduceLE, Int.reduceLT, Int.reduceNeg, Int.reduceToNat, Int.reduceAdd, Int.reduceSub] at hr
                subst hr
                clear hy
                replace hK := chk_some hK
                obtain ⟨h3, hK⟩ := hK
                refine AWPL_rn tab_ok 3 [1, 2, 7, 9, 17, 18, 21, 97, 98, 99, 113] fun c st' hr => ?_
                simp only [go_sem, reduceIte, reduceCtorEq, Nat.reduceEqDiff, Nat.reduceLT, Nat.reduceLeDiff, Nat.reduceBEq, Nat.reduceAdd, Nat.reduceMul, Nat.reduceSub, Nat.reducePow, Int.reduceLE, Int.reduceLT, Int.reduceNeg, Int.reduceToNat, Int.reduceAdd, Int.reduceSub] at hr
                obtain ⟨rfl, rfl⟩ := hr
                refine ⟨vc, ?_⟩
                refine AWPL_nil ?_
                with_reducible refine thenC_normal ?_
                refine AWP_condP ((iand v3 (y5.1.getD v4.toNat 0) ≠ 0 ∨ Int.tmod y4.1 y9 ≠ 0)) rfl bd (fun hb6 => ?_) (fun hb6 => ?_)
                · replace hK := ite_t hK hb6
                  refine AWP_seq ?_
                  -- region 24
                  refine AWP_rg tab_ok [4] fun c st' hr => ?_
                  simp only [go_sem, reduceIte, reduceCtorEq, Nat.reduceEqDiff, Nat.reduceLT, Nat.reduceLeDiff, Nat.reduceBEq, Nat.reduceAdd, Nat.reduceMul, Nat.reduceSub, Nat.reducePow, Int.reduceLE, Int.reduceLT, Int.reduceNeg, Int.reduceToNat, Int.reduceAdd, Int.reduceSub] at hr
                  obtain ⟨rfl, rfl⟩ := hr
                  refine ⟨vc, ?_⟩
                  with_reducible refine thenC_normal ?_
                  refine AWP_ret ?_
                  with_reducible refine thenC_ret (inBlockA_ret (thenC_ret (again_r (cutX_r (inBlockA_ret (thenC_ret ?_))))))
                  replace hK := hpost2 _ hK
                  try dsimp only at hK
                  cases hK
                  refine EndsRW [] (.inl rfl) (of_decide_eq_true rfl) (by simp) rfl (fun c x hr => ?_) trivial
                  simp only [go_sem, reduceIte, reduceCtorEq, Nat.reduceEqDiff, Nat.reduceLT, Nat.reduceLeDiff, Nat.reduceBEq, Nat.reduceAdd, Nat.reduceMul, Nat.reduceSub, Nat.reducePow, Int.reduceLE, Int.reduceLT, Int.reduceNeg, Int.reduceToNat, Int.reduceAdd, Int.reduceSub] at hr
                  obtain ⟨rfl, rfl⟩ := hr
                  exact ⟨rfl, endR⟩
                · replace hK := ite_f hK hb6
                  refine AWP_skip ?_
                  with_reducible refine thenC_normal ?_
                  -- region 25
                  refine AWP_rg tab_ok [1, 2, 7, 9, 17, 18, 97, 98, 99] fun c st' hr => ?_
                  simp only [go_sem, reduceIte, reduceCtorEq, Nat.reduceEqDiff, Nat.reduceLT, Nat.reduceLeDiff, Nat.reduceBEq, Nat.reduceAdd, Nat.reduceMul, Nat.reduceSub, Nat.reducePow, Int.reduceLE, Int.reduceLT, Int.reduceNeg, Int.reduceToNat, Int.reduceAdd, Int.reduceSub] at hr
                  obtain ⟨rfl, rfl⟩ := hr
                  refine ⟨vc, ?_⟩
                  with_reducible refine inBlockA_normal (thenC_normal ?_)
                  -- region 26
                  refine AWP_facts (by simp) fun hfx => ?_
                  simp only [factS, factV, fact1, fact0, factL0, lo, hi, maxLen, and_true, true_and] at hfx
                  refine AWP_rg tab_ok [1, 2, 7, 9, 17, 18, 97, 98, 99] fun c st' hr => ?_
                  simp only [go_sem, reduceIte, reduceCtorEq, Nat.reduceEqDiff, Nat.reduceLT, Nat.reduceLeDiff, Nat.reduceBEq, Nat.reduceAdd, Nat.reduceMul, Nat.reduceSub, Nat.reducePow, Int.reduceLE, Int.reduceLT, Int.reduceNeg, Int.reduceToNat, Int.reduceAdd, Int.reduceSub] at hr
                  obtain ⟨rfl, rfl⟩ := hr
                  refine ⟨vc, ?_⟩
                  clear hfx
                  refine again_n (ior v3 (y5.1.getD v4.toNat 0), v4 + 1) [0, 1, 2, 3] hK mkWk
              · replace hK := ite_f hK hb5
                refine AWP_exit ?_
                with_reducible refine thenC_exit (again_x ?_)
                refine cutX_here v3 [0, 1, 2] (by have hq := hpost2 _ hK; exact hq) mkWk
            · clear hK; rintro v5 hK
              try dsimp only at hK
              refine exS ⟨176, [(1, .ints .i64 a1), (2, .ptr 0 0 0), (7, .ptr 1 0 0), (9, .int .i64 y4.1), (17, .int .i64 v2), (18, .int .i64 v5)], [some (.gen 24 2 [[.int .i64 m_0, .ints .i64 m_1]]), some (.gen 24 2 [[.int .i64 y3.1, .own 2 y3.2.1.length]]), some (.ints 3 .i64 y3.2.1)]⟩ rfl ?_
              with_reducible refine inBlockA_exit (thenC_normal ?_)
              refine AWP_seq ?_
              refine AWP_seq ?_
              -- region 27
              refine AWP_rl ?_
              replace hK := chk_some hK
              obtain ⟨h4, hK⟩ := hK
              refine AWPL_rn tab_ok 8 [1, 2, 7, 9, 122, 123, 125] fun c st' hr => ?_
              simp only [go_sem, reduceIte, reduceCtorEq, Nat.reduceEqDiff, Nat.reduceLT, Nat.reduceLeDiff, Nat.reduceBEq, Nat.reduceAdd, Nat.reduceMul, Nat.reduceSub, Nat.reducePow, Int.reduceLE, Int.reduceLT, Int.reduceNeg, Int.reduceToNat, Int.reduceAdd, Int.reduceSub] at hr
              obtain ⟨rfl, rfl⟩ := hr
              refine ⟨vc, ?_⟩
              replace hK := bind_s hK
              obtain ⟨y10, hy, hK⟩ := hK
              refine AWPL_callGP [1, 2, 7, 9, 122, 123, 126] (¬ (Int.tmod v2 y4.1 ≠ 0)) (fun hg => (W_rotaref_All (ite_t hy hg))) rfl rfl pcG rfl Try.call24 (.cons (.atom _ rfl) .nil) (fun hg => hscG hg) (of_decide_eq_true rfl) (by first | rfl | simp [nI, nI1, nI0]) (by first | rfl | simp [sh, sh1, sh0]) fun st' hr => ?_
              simp only [go_sem, reduceIte, reduceCtorEq, Nat.reduceEqDiff, Nat.reduceLT, Nat.reduceLeDiff, Nat.reduceBEq, Nat.reduceAdd, Nat.reduceMul, Nat.reduceSub, Nat.reducePow, Int.reduceLE, Int.reduceLT, Int.reduceNeg, Int.reduceToNat, Int.reduceAdd, Int.reduceSub] at hr
              subst hr
              clear hy
              refine AWPL_rn tab_ok 2 [1, 2, 7, 9, 128] fun c st' hr => ?_
              simp only [go_sem, reduceIte, reduceCtorEq, Nat.reduceEqDiff, Nat.reduceLT, Nat.reduceLeDiff, Nat.reduceBEq, Nat.reduceAdd, Nat.reduceMul, Nat.reduceSub, Nat.reducePow, Int.reduceLE, Int.reduceLT, Int.reduceNeg, Int.reduceToNat, Int.reduceAdd, Int.reduceSub] at hr
              obtain ⟨rfl, rfl⟩ := hr
              refine ⟨vc, ?_⟩
              refine AWPL_nil ?_
              with_reducible refine thenC_normal ?_
              refine AWP_condP ((Int.tmod v2 y4.1 ≠ 0 ∨ v5 ≠ y10)) rfl bd (fun hb7 => ?_) (fun hb7 => ?_)
              · replace hK := ite_t hK hb7
                refine AWP_seq ?_
                -- region 28
                refine AWP_rg tab_ok [4] fun c st' hr => ?_
                simp only [go_sem, reduceIte, reduceCtorEq, Nat.reduceEqDiff, Nat.reduceLT, Nat.reduceLeDiff, Nat.reduceBEq, Nat.reduceAdd, Nat.reduceMul, Nat.reduceSub, Nat.reducePow, Int.reduceLE, Int.reduceLT, Int.reduceNeg, Int.reduceToNat, Int.reduceAdd, Int.reduceSub] at hr
                obtain ⟨rfl, rfl⟩ := hr
                refine ⟨vc, ?_⟩
                with_reducible refine thenC_normal ?_
                refine AWP_ret ?_
                with_reducible refine thenC_ret ?_
                cases hK
                refine EndsRW [] (.inl rfl) (of_decide_eq_true rfl) (by simp) rfl (fun c x hr => ?_) trivial
                simp only [go_sem, reduceIte, reduceCtorEq, Nat.reduceEqDiff, Nat.reduceLT, Nat.reduceLeDiff, Nat.reduceBEq, Nat.reduceAdd, Nat.reduceMul, Nat.reduceSub, Nat.reducePow, Int.reduceLE, Int.reduceLT, Int.reduceNeg, Int.reduceToNat, Int.reduceAdd, Int.reduceSub] at hr
                obtain ⟨rfl, rfl⟩ := hr
                exact ⟨rfl, endR⟩
              · replace hK := ite_f hK hb7
                refine AWP_skip ?_
                with_reducible refine thenC_normal ?_
                refine AWP_seq ?_
                -- region 29
                refine AWP_rl ?_
                refine AWPL_rn tab_ok 2 [2, 7, 9, 130, 131] fun c st' hr => ?_
                simp only [go_sem, reduceIte, reduceCtorEq, Nat.reduceEqDiff, Nat.reduceLT, Nat.reduceLeDiff, Nat.reduceBEq, Nat.reduceAdd, Nat.reduceMul, Nat.reduceSub, Nat.reducePow, Int.reduceLE, Int.reduceLT, Int.reduceNeg, Int.reduceToNat, Int.reduceAdd, Int.reduceSub] at hr
                obtain ⟨rfl, rfl⟩ := hr
                refine ⟨vc, ?_⟩
                replace hK := bind_s hK
                obtain ⟨y11, hy, hK⟩ := hK
                refine AWPL_callK [2, 7, 9, 132] (W_same_Rename hy) rfl rfl pcT rfl Try.call21 (.cons (.agg _ _ rfl (ArgsOk.get (.cons (.atom _ rfl) (.cons (.atom _ rfl) .nil))).2) (.cons (.atom _ rfl) .nil)) (hscG trivial) (of_decide_eq_true rfl) (by first | rfl | simp [nI, nI1, nI0]) (by first | rfl | simp [nIB, nI0]) fun st' hr => ?_
                simp only [go_sem, reduceIte, reduceCtorEq, Nat.reduceEqDiff, Nat.reduceLT, Nat.reduceLeDiff, Nat.reduceBEq, Nat.reduceAdd, Nat.reduceMul, Nat.reduceSub, Nat.reducePow, Int.reduceLE, Int.reduceLT, Int.reduceNeg, Int.reduceToNat, Int.reduceAdd, Int.reduceSub] at hr
                subst hr
                clear hy
                refine AWPL_rn tab_ok 6 [2, 7, 8, 9, 22] fun c st' hr => ?_
                simp only [go_sem, reduceIte, reduceCtorEq, Nat.reduceEqDiff, Nat.reduceLT, Nat.reduceLeDiff, Nat.reduceBEq, Nat.reduceAdd, Nat.reduceMul, Nat.reduceSub, Nat.reducePow, Int.reduceLE, Int.reduceLT, Int.reduceNeg, Int.reduceToNat, Int.reduceAdd, Int.reduceSub] at hr
                obtain ⟨rfl, rfl⟩ := hr
                refine ⟨vc, ?_⟩
                refine AWPL_nil ?_
                with_reducible refine thenC_normal ?_
                refine AWP_seq ?_
                refine AWP_seq ?_
                -- region 30
                refine AWP_rg tab_ok [2, 7, 9, 22, 136] fun c st' hr => ?_
                simp only [go_sem, reduceIte, reduceCtorEq, Nat.reduceEqDiff, Nat.reduceLT, Nat.reduceLeDiff, Nat.reduceBEq, Nat.reduceAdd, Nat.reduceMul, Nat.reduceSub, Nat.reducePow, Int.reduceLE, Int.reduceLT, Int.reduceNeg, Int.reduceToNat, Int.reduceAdd, Int.reduceSub] at hr
                obtain ⟨rfl, rfl⟩ := hr
                refine ⟨vc, ?_⟩
                with_reducible refine thenC_normal ?_
                refine AWP_condP (y11.2.2 ≠ 0) rfl bd (fun hb8 => ?_) (fun hb8 => ?_)
                · replace hK := ite_t hK hb8
                  refine AWP_seq ?_
                  -- region 31
                  refine AWP_rg tab_ok [4] fun c st' hr => ?_
                  simp only [go_sem, reduceIte, reduceCtorEq, Nat.reduceEqDiff, Nat.reduceLT, Nat.reduceLeDiff, Nat.reduceBEq, Nat.reduceAdd, Nat.reduceMul, Nat.reduceSub, Nat.reducePow, Int.reduceLE, Int.reduceLT, Int.reduceNeg, Int.reduceToNat, Int.reduceAdd, Int.reduceSub] at hr
                  obtain ⟨rfl, rfl⟩ := hr
                  refine ⟨vc, ?_⟩
                  with_reducible refine thenC_normal ?_
                  refine AWP_ret ?_
                  with_reducible refine thenC_ret ?_
                  cases hK
                  refine EndsRW [] (.inl rfl) (of_decide_eq_true rfl) (by simp) rfl (fun c x hr => ?_) trivial
                  simp only [go_sem, reduceIte, reduceCtorEq, Nat.reduceEqDiff, Nat.reduceLT, Nat.reduceLeDiff, Nat.reduceBEq, Nat.reduceAdd, Nat.reduceMul, Nat.reduceSub, Nat.reducePow, Int.reduceLE, Int.reduceLT, Int.reduceNeg, Int.reduceToNat, Int.reduceAdd, Int.reduceSub] at hr
                  obtain ⟨rfl, rfl⟩ := hr
                  exact ⟨rfl, endR⟩
                · replace hK := ite_f hK hb8
                  refine AWP_skip ?_
                  with_reducible refine thenC_normal ?_
                  refine AWP_seq ?_
                  -- region 32
                  refine AWP_rl ?_
                  refine AWPL_rn tab_ok 1 [2, 7, 9, 22, 141] fun c st' hr => ?_
                  simp only [go_sem, reduceIte, reduceCtorEq, Nat.reduceEqDiff, Nat.reduceLT, Nat.reduceLeDiff, Nat.reduceBEq, Nat.reduceAdd, Nat.reduceMul, Nat.reduceSub, Nat.reducePow, Int.reduceLE, Int.reduceLT, Int.reduceNeg, Int.reduceToNat, Int.reduceAdd, Int.reduceSub] at hr
                  obtain ⟨rfl, rfl⟩ := hr
                  refine ⟨vc, ?_⟩
                  replace hK := bind_s hK
                  obtain ⟨y12, hy, hK⟩ := hK
                  refine AWPL_callK [2, 7, 9, 22, 142] (W_same_Canon hy) rfl rfl pcT rfl Try.call19 (.cons (.agg _ _ rfl (ArgsOk.get (.cons (.atom _ rfl) (.cons (.ownI _ _ _ _ _ y11.2.1 rfl (by simp) (by first | simp | exact List.take_of_length_le (by simp))) .nil))).2) .nil) (hscG trivial) (of_decide_eq_true rfl) (by first | rfl | simp [nI, nI1, nI0]) (by first | rfl | simp [nIB, nI0]) fun st' hr => ?_
                  simp only [go_sem, reduceIte, reduceCtorEq, Nat.reduceEqDiff, Nat.reduceLT, Nat.reduceLeDiff, Nat.reduceBEq, Nat.reduceAdd, Nat.reduceMul, Nat.reduceSub, Nat.reducePow, Int.reduceLE, Int.reduceLT, Int.reduceNeg, Int.reduceToNat, Int.reduceAdd, Int.reduceSub] at hr
                  subst hr
                  clear hy
                  refine AWPL_rn tab_ok 6 [2, 7, 9, 10, 22, 23] fun c st' hr => ?_
                  simp only [go_sem, reduceIte, reduceCtorEq, Nat.reduceEqDiff, Nat.reduceLT, Nat.reduceLeDiff, Nat.reduceBEq, Nat.reduceAdd, Nat.reduceMul, Nat.reduceSub, Nat.reducePow, Int.reduceLE, Int.reduceLT, Int.reduceNeg, Int.reduceToNat, Int.reduceAdd, Int.reduceSub] at hr
                  obtain ⟨rfl, rfl⟩ := hr
                  refine ⟨vc, ?_⟩
                  refine AWPL_nil ?_
                  with_reducible refine thenC_normal ?_
                  refine AWP_seq ?_
                  -- region 33
                  refine AWP_rl ?_
                  refine AWPL_rn tab_ok 1 [2, 7, 9, 10, 22, 23, 146] fun c st' hr => ?_
                  simp only [go_sem, reduceIte, reduceCtorEq, Nat.reduceEqDiff, Nat.reduceLT, Nat.reduceLeDiff, Nat.reduceBEq, Nat.reduceAdd, Nat.reduceMul, Nat.reduceSub, Nat.reducePow, Int.reduceLE, Int.reduceLT, Int.reduceNeg, Int.reduceToNat, Int.reduceAdd, Int.reduceSub] at hr
                  obtain ⟨rfl, rfl⟩ := hr
                  refine ⟨vc, ?_⟩
                  replace hK := bind_s hK
                  obtain ⟨y13, hy, hK⟩ := hK
                  refine AWPL_callK [2, 7, 9, 10, 22, 23, 147] (W_same_Group hy) rfl rfl pcT rfl Try.call18 (.cons (.agg _ _ rfl (ArgsOk.get (.cons (.atom _ rfl) (.cons (.ownI _ _ _ _ _ y11.2.1 rfl (by simp) (by first | simp | exact List.take_of_length_le (by simp))) .nil))).2) .nil) (hscG trivial) (of_decide_eq_true rfl) (by first | rfl | simp [nI, nI1, nI0]) (by first | rfl | simp [nIB, nI0]) fun st' hr => ?_
                  simp only [go_sem, reduceIte, reduceCtorEq, Nat.reduceEqDiff, Nat.reduceLT, Nat.reduceLeDiff, Nat.reduceBEq, Nat.reduceAdd, Nat.reduceMul, Nat.reduceSub, Nat.reducePow, Int.reduceLE, Int.reduceLT, Int.reduceNeg, Int.reduceToNat, Int.reduceAdd, Int.reduceSub] at hr
                  subst hr
                  clear hy
                  refine AWPL_rn tab_ok 5 [2, 7, 9, 10, 12, 22, 23, 24] fun c st' hr => ?_
                  simp only [go_sem, reduceIte, reduceCtorEq, Nat.reduceEqDiff, Nat.reduceLT, Nat.reduceLeDiff, Nat.reduceBEq, Nat.reduceAdd, Nat.reduceMul, Nat.reduceSub, Nat.reducePow, Int.reduceLE, Int.reduceLT, Int.reduceNeg, Int.reduceToNat, Int.reduceAdd, Int.reduceSub] at hr
                  obtain ⟨rfl, rfl⟩ := hr
                  refine ⟨vc, ?_⟩
                  refine AWPL_nil ?_
                  with_reducible refine thenC_normal ?_
                  refine AWP_seq ?_
                  -- region 34
                  refine AWP_rl ?_
                  refine AWPL_rn tab_ok 2 [7, 9, 10, 12, 23, 24, 151, 152] fun c st' hr => ?_
                  simp only [go_sem, reduceIte, reduceCtorEq, Nat.reduceEqDiff, Nat.reduceLT, Nat.reduceLeDiff, Nat.reduceBEq, Nat.reduceAdd, Nat.reduceMul, Nat.reduceSub, Nat.reducePow, Int.reduceLE, Int.reduceLT, Int.reduceNeg, Int.reduceToNat, Int.reduceAdd, Int.reduceSub] at hr
                  obtain ⟨rfl, rfl⟩ := hr
                  refine ⟨vc, ?_⟩
                  replace hK := bind_s hK
                  obtain ⟨y14, hy, hK⟩ := hK
                  refine AWPL_callK [7, 9, 10, 12, 23, 24, 153] (W_same_Isomorphic hy) rfl rfl pcT rfl Try.call14 (.cons (.agg _ _ rfl (ArgsOk.get (.cons (.atom _ rfl) (.cons (.ownI _ _ _ _ _ y11.2.1 rfl (by simp) (by first | simp | exact List.take_of_length_le (by simp))) .nil))).2) (.cons (.agg _ _ rfl (ArgsOk.get (.cons (.atom _ rfl) (.cons (.atom _ rfl) .nil))).2) .nil)) (hscG trivial) (of_decide_eq_true rfl) (by first | rfl | simp [nI, nI1, nI0]) (by first | rfl | simp [nIB, nI0]) fun st' hr => ?_
                  simp only [go_sem, reduceIte, reduceCtorEq, Nat.reduceEqDiff, Nat.reduceLT, Nat.reduceLeDiff, Nat.reduceBEq, Nat.reduceAdd, Nat.reduceMul, Nat.reduceSub, Nat.reducePow, Int.reduceLE, Int.reduceLT, Int.reduceNeg, Int.reduceToNat, Int.reduceAdd, Int.reduceSub] at hr
                  subst hr
                  clear hy
                  refine AWPL_rn tab_ok 4 [7, 9, 10, 12, 14, 23, 24] fun c st' hr => ?_
                  simp only [go_sem, reduceIte, reduceCtorEq, Nat.reduceEqDiff, Nat.reduceLT, Nat.reduceLeDiff, Nat.reduceBEq, Nat.reduceAdd, Nat.reduceMul, Nat.reduceSub, Nat.reducePow, Int.reduceLE, Int.reduceLT, Int.reduceNeg, Int.reduceToNat, Int.reduceAdd, Int.reduceSub] at hr
                  obtain ⟨rfl, rfl⟩ := hr
                  refine ⟨vc, ?_⟩
                  refine AWPL_nil ?_
                  with_reducible refine thenC_normal ?_
                  refine AWP_seq ?_
                  -- region 35
                  refine AWP_rl ?_
                  refine AWPL_rn tab_ok 13 [9, 24, 166, 167, 168] fun c st' hr => ?_
                  simp only [go_sem, reduceIte, reduceCtorEq, Nat.reduceEqDiff, Nat.reduceLT, Nat.reduceLeDiff, Nat.reduceBEq, Nat.reduceAdd, Nat.reduceMul, Nat.reduceSub, Nat.reducePow, Int.reduceLE, Int.reduceLT, Int.reduceNeg, Int.reduceToNat, Int.reduceAdd, Int.reduceSub] at hr
                  obtain ⟨rfl, rfl⟩ := hr
                  refine ⟨vc, ?_⟩
                  replace hK := bind_s hK
                  obtain ⟨y15, hy, hK⟩ := hK
                  refine AWPL_callGP [9, 24, 166, 169] (((y12.2.2 = 0 ∧ y13.2 = 0) ∧ y14.2 = 0)) (fun hg => (W_rotalaw_SameMatroid (ite_t hy hg))) rfl rfl pcG rfl Try.call22 (.cons (.agg _ _ rfl (ArgsOk.get (.cons (.atom _ rfl) (.cons (.ownI _ _ _ _ _ y12.2.1 rfl (by simp) (by first | simp | exact List.take_of_length_le (by simp))) .nil))).2) (.cons (.agg _ _ rfl (ArgsOk.get (.cons (.atom _ rfl) (.cons (.ownI _ _ _ _ _ y3.2.1 rfl (by simp) (by first | simp | exact List.take_of_length_le (by simp))) .nil))).2) .nil)) (fun hg => hscG hg) (of_decide_eq_true rfl) (by first | rfl | simp [nI, nI1, nI0]) (by first | rfl | simp [sh, sh1, sh0]) fun st' hr => ?_
                  simp only [go_sem, reduceIte, reduceCtorEq, Nat.reduceEqDiff, Nat.reduceLT, Nat.reduceLeDiff, Nat.reduceBEq, Nat.reduceAdd, Nat.reduceMul, Nat.reduceSub, Nat.reducePow, Int.reduceLE, Int.reduceLT, Int.reduceNeg, Int.reduceToNat, Int.reduceAdd, Int.reduceSub] at hr
                  subst hr
                  clear hy
                  refine AWPL_rn tab_ok 7 [4] fun c st' hr => ?_
                  simp only [go_sem, reduceIte, reduceCtorEq, Nat.reduceEqDiff, Nat.reduceLT, Nat.reduceLeDiff, Nat.reduceBEq, Nat.reduceAdd, Nat.reduceMul, Nat.reduceSub, Nat.reducePow, Int.reduceLE, Int.reduceLT, Int.reduceNeg, Int.reduceToNat, Int.reduceAdd, Int.reduceSub] at hr
                  obtain ⟨rfl, rfl⟩ := hr
                  refine ⟨vc, ?_⟩
                  refine AWPL_nil ?_
                  with_reducible refine thenC_normal ?_
                  refine AWP_ret ?_
                  cases hK
                  refine EndsRW [] (.inl rfl) (of_decide_eq_true rfl) (by simp) rfl (fun c x hr => ?_) trivial
                  simp only [go_sem, reduceIte, reduceCtorEq, Nat.reduceEqDiff, Nat.reduceLT, Nat.reduceLeDiff, Nat.reduceBEq, Nat.reduceAdd, Nat.reduceMul, Nat.reduceSub, Nat.reducePow, Int.reduceLE, Int.reduceLT, Int.reduceNeg, Int.reduceToNat, Int.reduceAdd, Int.reduceSub] at hr
                  obtain ⟨rfl, rfl⟩ := hr
                  exact ⟨rfl, endR⟩

end Go.SH
