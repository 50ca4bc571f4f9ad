/-
  That the code computes these functions: rotakeep_ComplexBjoerner. By a program of mine (shal.py). Conditions: none.
-/
import Derived.Test.YtabhcjpjoknihaaAxT
import Derived.Test.YtabhcjpjoknihaaAxR
import Derived.Test.YtabhcjpjoknihaaAxRx
import Derived.Test.YtabhcjpjoknihaaSkComplexBjoerner
import Derived.Test.YtabhcjpjoknihaaWpcomplex
import Derived.Test.YtabhcjpjoknihaaWprotakeep
import Derived.Test.YtabhcjpjoknihaaWprotalaw
import Derived.Test.YtabhcjpjoknihaaWprotaref
import Derived.Test.YtabhcjpjoknihaaWptutte
set_option linter.unusedVariables false
set_option linter.unusedSimpArgs false
namespace Go.SH
open Go Go.AX Go.AX.Try Go.Proofs

set_option maxRecDepth 8000 in
set_option maxHeartbeats 4000000 in
theorem W_rotakeep_ComplexBjoerner {m_0 : Int} {m_1 : List Int} {r : Bool} (hK : rotakeep_ComplexBjoerner m_0 m_1 = some r) : Pure Try.prog 13 [.agg [.int .i64 m_0, .ints .i64 m_1]] (.bool r) [] := by
  refine Pure_introF tab_ok (n := 184) (l := [.tmp 2]) Try.func13 rfl rfl rfl (by simp) fun hfact w0 => ?_
  simp only [factL1, fact1, fact0, factL0, lo, hi, maxLen, and_true] at hfact
  unfold rotakeep_ComplexBjoerner at hK
  refine AWP_seq ?_
  -- region 0
  refine AWP_rg tab_ok [1] fun c st' hr => ?_
  simp only [go_sem, reduceIte, reduceCtorEq, Nat.reduceEqDiff, Nat.reduceLT, Nat.reduceLeDiff, Nat.reduceBEq, Nat.reduceAdd, Nat.reduceMul, Nat.reduceSub, Nat.reducePow, Int.reduceLE, Int.reduceLT, Int.reduceNeg, Int.reduceToNat, Int.reduceAdd, Int.reduceSub] at hr
  obtain ⟨rfl, rfl⟩ := hr
  refine ⟨vc, ?_⟩
  with_reducible refine thenC_normal ?_
  refine AWP_seq ?_
  refine AWP_seq ?_
  -- region 1
  refine AWP_rl ?_
  replace hK := bind_s hK
  obtain ⟨y, hy, hK⟩ := hK
  refine AWPL_callK [1, 26] (W_rotakeep_two hy) rfl rfl pcT rfl Try.call36 .nil (hscG trivial) (of_decide_eq_true rfl) (by first | rfl | simp [nI, nI1, nI0]) (by first | rfl | simp [nIB, nI0]) fun st' hr => ?_
  simp only [go_sem, reduceIte, reduceCtorEq, Nat.reduceEqDiff, Nat.reduceLT, Nat.reduceLeDiff, Nat.reduceBEq, Nat.reduceAdd, Nat.reduceMul, Nat.reduceSub, Nat.reducePow, Int.reduceLE, Int.reduceLT, Int.reduceNeg, Int.reduceToNat, Int.reduceAdd, Int.reduceSub] at hr
  subst hr
  clear hy
  replace hK := bind_s hK
  obtain ⟨y1, hy, hK⟩ := hK
  refine AWPL_callK [1, 27] (W_complex_Lexical hy) rfl rfl pcT rfl Try.call64 (.cons (.agg _ _ rfl (ArgsOk.get (.cons (.atom _ rfl) (.cons (.ownI _ _ _ _ _ y.2 rfl (by simp) (by first | simp | exact List.take_of_length_le (by simp))) .nil))).2) .nil) (hscG trivial) (of_decide_eq_true rfl) (by first | rfl | simp [nI, nI1, nI0]) (by first | rfl | simp [nIB, nI0]) fun st' hr => ?_
  simp only [go_sem, reduceIte, reduceCtorEq, Nat.reduceEqDiff, Nat.reduceLT, Nat.reduceLeDiff, Nat.reduceBEq, Nat.reduceAdd, Nat.reduceMul, Nat.reduceSub, Nat.reducePow, Int.reduceLE, Int.reduceLT, Int.reduceNeg, Int.reduceToNat, Int.reduceAdd, Int.reduceSub] at hr
  subst hr
  clear hy
  refine AWPL_rn tab_ok 5 [1, 3, 4] fun c st' hr => ?_
  simp only [go_sem, reduceIte, reduceCtorEq, Nat.reduceEqDiff, Nat.reduceLT, Nat.reduceLeDiff, Nat.reduceBEq, Nat.reduceAdd, Nat.reduceMul, Nat.reduceSub, Nat.reducePow, Int.reduceLE, Int.reduceLT, Int.reduceNeg, Int.reduceToNat, Int.reduceAdd, Int.reduceSub] at hr
  obtain ⟨rfl, rfl⟩ := hr
  refine ⟨vc, ?_⟩
  refine AWPL_nil ?_
  with_reducible refine thenC_normal ?_
  refine AWP_seq ?_
  -- region 2
  refine AWP_rl ?_
  refine AWPL_rn tab_ok 4 [1, 32, 33] fun c st' hr => ?_
  simp only [go_sem, reduceIte, reduceCtorEq, Nat.reduceEqDiff, Nat.reduceLT, Nat.reduceLeDiff, Nat.reduceBEq, Nat.reduceAdd, Nat.reduceMul, Nat.reduceSub, Nat.reducePow, Int.reduceLE, Int.reduceLT, Int.reduceNeg, Int.reduceToNat, Int.reduceAdd, Int.reduceSub] at hr
  obtain ⟨rfl, rfl⟩ := hr
  refine ⟨vc, ?_⟩
  by_cases hg : ¬ (y1.2 ≠ 0)
  · replace hK := ite_t hK hg
    refine AWPL_stP [(1, .ptr 0 0 0), (32, .bool false), (33, .opt true (.own 2 y1.1.length))] (by first | (simp [SameS, AX.look, hg]; done) | (simp at hg ⊢; simp [SameS, AX.look, hg]; done) | (simp_all [SameS, AX.look]; done)) ?_
    refine AWPL_effT tab_ok [1, 32, 33, 34] pcT fun c st' hr => ?_
    simp only [go_sem, reduceIte, reduceCtorEq, Nat.reduceEqDiff, Nat.reduceLT, Nat.reduceLeDiff, Nat.reduceBEq, Nat.reduceAdd, Nat.reduceMul, Nat.reduceSub, Nat.reducePow, Int.reduceLE, Int.reduceLT, Int.reduceNeg, Int.reduceToNat, Int.reduceAdd, Int.reduceSub] at hr
    obtain ⟨rfl, rfl⟩ := hr
    refine ⟨vc, ?_⟩
    replace hK := bind_s hK
    obtain ⟨y2, hy, hK⟩ := hK
    refine AWPL_callK [1, 32, 35] (W_rotalaw_Same_int hy) rfl rfl pcT rfl Try.call65 (.cons (.ownI _ _ _ _ _ y1.1 rfl (by simp) (by first | simp | exact List.take_of_length_le (by simp))) (.cons (.ownI _ _ _ _ _ [3, 5, 9, 6, 10, 12] rfl (by simp) (by first | simp | exact List.take_of_length_le (by simp))) .nil)) (hscG trivial) (of_decide_eq_true rfl) (by first | rfl | simp [nI, nI1, nI0]) (by first | rfl | simp [nIB, nI0]) fun st' hr => ?_
    simp only [go_sem, reduceIte, reduceCtorEq, Nat.reduceEqDiff, Nat.reduceLT, Nat.reduceLeDiff, Nat.reduceBEq, Nat.reduceAdd, Nat.reduceMul, Nat.reduceSub, Nat.reducePow, Int.reduceLE, Int.reduceLT, Int.reduceNeg, Int.reduceToNat, Int.reduceAdd, Int.reduceSub] at hr
    subst hr
    clear hy
    refine AWPL_rn tab_ok 2 [1, 37] fun c st' hr => ?_
    simp only [go_sem, reduceIte, reduceCtorEq, Nat.reduceEqDiff, Nat.reduceLT, Nat.reduceLeDiff, Nat.reduceBEq, Nat.reduceAdd, Nat.reduceMul, Nat.reduceSub, Nat.reducePow, Int.reduceLE, Int.reduceLT, Int.reduceNeg, Int.reduceToNat, Int.reduceAdd, Int.reduceSub] at hr
    obtain ⟨rfl, rfl⟩ := hr
    refine ⟨vc, ?_⟩
    refine AWPL_nil ?_
    with_reducible refine thenC_normal ?_
    refine AWP_condP (¬ (y2 = true)) rfl bd (fun hb => ?_) (fun hb => ?_)
    · replace hK := ite_t hK hb
      refine AWP_seq ?_
      -- region 3
      refine AWP_rg tab_ok [2] fun c st' hr => ?_
      simp only [go_sem, reduceIte, reduceCtorEq, Nat.reduceEqDiff, Nat.reduceLT, Nat.reduceLeDiff, Nat.reduceBEq, Nat.reduceAdd, Nat.reduceMul, Nat.reduceSub, Nat.reducePow, Int.reduceLE, Int.reduceLT, Int.reduceNeg, Int.reduceToNat, Int.reduceAdd, Int.reduceSub] at hr
      obtain ⟨rfl, rfl⟩ := hr
      refine ⟨vc, ?_⟩
      with_reducible refine thenC_normal ?_
      refine AWP_ret ?_
      with_reducible refine thenC_ret ?_
      cases hK
      refine EndsRW [] (.inl rfl) (of_decide_eq_true rfl) (by simp) rfl (fun c x hr => ?_) trivial
      simp only [go_sem, reduceIte, reduceCtorEq, Nat.reduceEqDiff, Nat.reduceLT, Nat.reduceLeDiff, Nat.reduceBEq, Nat.reduceAdd, Nat.reduceMul, Nat.reduceSub, Nat.reducePow, Int.reduceLE, Int.reduceLT, Int.reduceNeg, Int.reduceToNat, Int.reduceAdd, Int.reduceSub] at hr
      obtain ⟨rfl, rfl⟩ := hr
      exact ⟨rfl, endR⟩
    · replace hK := ite_f hK hb
      refine AWP_skip ?_
      with_reducible refine thenC_normal ?_
      refine AWP_seq ?_
      -- region 4
      refine AWP_rl ?_
      refine AWPL_rn tab_ok 1 [1, 39] fun c st' hr => ?_
      simp only [go_sem, reduceIte, reduceCtorEq, Nat.reduceEqDiff, Nat.reduceLT, Nat.reduceLeDiff, Nat.reduceBEq, Nat.reduceAdd, Nat.reduceMul, Nat.reduceSub, Nat.reducePow, Int.reduceLE, Int.reduceLT, Int.reduceNeg, Int.reduceToNat, Int.reduceAdd, Int.reduceSub] at hr
      obtain ⟨rfl, rfl⟩ := hr
      refine ⟨vc, ?_⟩
      replace hK := bind_s hK
      obtain ⟨y3, hy, hK⟩ := hK
      refine AWPL_callK [1, 40] (W_complex_Lexical hy) rfl rfl pcT rfl Try.call64 (.cons (.agg _ _ rfl (ArgsOk.get (.cons (.atom _ rfl) (.cons (.atom _ rfl) .nil))).2) .nil) (hscG trivial) (of_decide_eq_true rfl) (by first | rfl | simp [nI, nI1, nI0]) (by first | rfl | simp [nIB, nI0]) fun st' hr => ?_
      simp only [go_sem, reduceIte, reduceCtorEq, Nat.reduceEqDiff, Nat.reduceLT, Nat.reduceLeDiff, Nat.reduceBEq, Nat.reduceAdd, Nat.reduceMul, Nat.reduceSub, Nat.reducePow, Int.reduceLE, Int.reduceLT, Int.reduceNeg, Int.reduceToNat, Int.reduceAdd, Int.reduceSub] at hr
      subst hr
      clear hy
      refine AWPL_rn tab_ok 5 [1, 5, 6] fun c st' hr => ?_
      simp only [go_sem, reduceIte, reduceCtorEq, Nat.reduceEqDiff, Nat.reduceLT, Nat.reduceLeDiff, Nat.reduceBEq, Nat.reduceAdd, Nat.reduceMul, Nat.reduceSub, Nat.reducePow, Int.reduceLE, Int.reduceLT, Int.reduceNeg, Int.reduceToNat, Int.reduceAdd, Int.reduceSub] at hr
      obtain ⟨rfl, rfl⟩ := hr
      refine ⟨vc, ?_⟩
      refine AWPL_nil ?_
      with_reducible refine thenC_normal ?_
      refine AWP_seq ?_
      refine AWP_seq ?_
      -- region 5
      refine AWP_rg tab_ok [1, 5, 44] fun c st' hr => ?_
      simp only [go_sem, reduceIte, reduceCtorEq, Nat.reduceEqDiff, Nat.reduceLT, Nat.reduceLeDiff, Nat.reduceBEq, Nat.reduceAdd, Nat.reduceMul, Nat.reduceSub, Nat.reducePow, Int.reduceLE, Int.reduceLT, Int.reduceNeg, Int.reduceToNat, Int.reduceAdd, Int.reduceSub] at hr
      obtain ⟨rfl, rfl⟩ := hr
      refine ⟨vc, ?_⟩
      with_reducible refine thenC_normal ?_
      refine AWP_condP (y3.2 ≠ 0) rfl bd (fun hb1 => ?_) (fun hb1 => ?_)
      · replace hK := ite_t hK hb1
        refine AWP_seq ?_
        -- region 6
        refine AWP_rg tab_ok [2] fun c st' hr => ?_
        simp only [go_sem, reduceIte, reduceCtorEq, Nat.reduceEqDiff, Nat.reduceLT, Nat.reduceLeDiff, Nat.reduceBEq, Nat.reduceAdd, Nat.reduceMul, Nat.reduceSub, Nat.reducePow, Int.reduceLE, Int.reduceLT, Int.reduceNeg, Int.reduceToNat, Int.reduceAdd, Int.reduceSub] at hr
        obtain ⟨rfl, rfl⟩ := hr
        refine ⟨vc, ?_⟩
        with_reducible refine thenC_normal ?_
        refine AWP_ret ?_
        with_reducible refine thenC_ret ?_
        cases hK
        refine EndsRW [] (.inl rfl) (of_decide_eq_true rfl) (by simp) rfl (fun c x hr => ?_) trivial
        simp only [go_sem, reduceIte, reduceCtorEq, Nat.reduceEqDiff, Nat.reduceLT, Nat.reduceLeDiff, Nat.reduceBEq, Nat.reduceAdd, Nat.reduceMul, Nat.reduceSub, Nat.reducePow, Int.reduceLE, Int.reduceLT, Int.reduceNeg, Int.reduceToNat, Int.reduceAdd, Int.reduceSub] at hr
        obtain ⟨rfl, rfl⟩ := hr
        exact ⟨rfl, endR⟩
      · replace hK := ite_f hK hb1
        refine AWP_skip ?_
        with_reducible refine thenC_normal ?_
        refine AWP_seq ?_
        -- region 7
        refine AWP_rl ?_
        refine AWPL_rn tab_ok 5 [1, 5, 50, 52, 53] fun c st' hr => ?_
        simp only [go_sem, reduceIte, reduceCtorEq, Nat.reduceEqDiff, Nat.reduceLT, Nat.reduceLeDiff, Nat.reduceBEq, Nat.reduceAdd, Nat.reduceMul, Nat.reduceSub, Nat.reducePow, Int.reduceLE, Int.reduceLT, Int.reduceNeg, Int.reduceToNat, Int.reduceAdd, Int.reduceSub] at hr
        obtain ⟨rfl, rfl⟩ := hr
        refine ⟨vc, ?_⟩
        replace hK := bind_s hK
        obtain ⟨y4, hy, hK⟩ := hK
        refine AWPL_callK [1, 5, 54] (W_complex_Shells hy) rfl rfl pcT rfl Try.call66 (.cons (.atom _ rfl) (.cons (.atom _ rfl) (.cons (.ownI _ _ _ _ _ y3.1 rfl (by simp) (by first | simp | exact List.take_of_length_le (by simp))) .nil))) (hscG trivial) (of_decide_eq_true rfl) (by first | rfl | simp [nI, nI1, nI0]) (by first | rfl | simp [nIB, nI0]) fun st' hr => ?_
        simp only [go_sem, reduceIte, reduceCtorEq, Nat.reduceEqDiff, Nat.reduceLT, Nat.reduceLeDiff, Nat.reduceBEq, Nat.reduceAdd, Nat.reduceMul, Nat.reduceSub, Nat.reducePow, Int.reduceLE, Int.reduceLT, Int.reduceNeg, Int.reduceToNat, Int.reduceAdd, Int.reduceSub] at hr
        subst hr
        clear hy
        refine AWPL_rn tab_ok 5 [1, 5, 7, 8] fun c st' hr => ?_
        simp only [go_sem, reduceIte, reduceCtorEq, Nat.reduceEqDiff, Nat.reduceLT, Nat.reduceLeDiff, Nat.reduceBEq, Nat.reduceAdd, Nat.reduceMul, Nat.reduceSub, Nat.reducePow, Int.reduceLE, Int.reduceLT, Int.reduceNeg, Int.reduceToNat, Int.reduceAdd, Int.reduceSub] at hr
        obtain ⟨rfl, rfl⟩ := hr
        refine ⟨vc, ?_⟩
        refine AWPL_nil ?_
        with_reducible refine thenC_normal ?_
        refine AWP_seq ?_
        -- region 8
        refine AWP_rl ?_
        refine AWPL_rn tab_ok 5 [1, 5, 7, 8, 59, 61, 62] fun c st' hr => ?_
        simp only [go_sem, reduceIte, reduceCtorEq, Nat.reduceEqDiff, Nat.reduceLT, Nat.reduceLeDiff, Nat.reduceBEq, Nat.reduceAdd, Nat.reduceMul, Nat.reduceSub, Nat.reducePow, Int.reduceLE, Int.reduceLT, Int.reduceNeg, Int.reduceToNat, Int.reduceAdd, Int.reduceSub] at hr
        obtain ⟨rfl, rfl⟩ := hr
        refine ⟨vc, ?_⟩
        replace hK := bind_s hK
        obtain ⟨y5, hy, hK⟩ := hK
        refine AWPL_callK [1, 5, 7, 8, 63] (W_complex_Restriction hy) rfl rfl pcT rfl Try.call67 (.cons (.atom _ rfl) (.cons (.atom _ rfl) (.cons (.ownI _ _ _ _ _ y3.1 rfl (by simp) (by first | simp | exact List.take_of_length_le (by simp))) .nil))) (hscG trivial) (of_decide_eq_true rfl) (by first | rfl | simp [nI, nI1, nI0]) (by first | rfl | simp [nIB, nI0]) fun st' hr => ?_
        simp only [go_sem, reduceIte, reduceCtorEq, Nat.reduceEqDiff, Nat.reduceLT, Nat.reduceLeDiff, Nat.reduceBEq, Nat.reduceAdd, Nat.reduceMul, Nat.reduceSub, Nat.reducePow, Int.reduceLE, Int.reduceLT, Int.reduceNeg, Int.reduceToNat, Int.reduceAdd, Int.reduceSub] at hr
        subst hr
        clear hy
        refine AWPL_rn tab_ok 5 [1, 5, 7, 8, 9, 10] fun c st' hr => ?_
        simp only [go_sem, reduceIte, reduceCtorEq, Nat.reduceEqDiff, Nat.reduceLT, Nat.reduceLeDiff, Nat.reduceBEq, Nat.reduceAdd, Nat.reduceMul, Nat.reduceSub, Nat.reducePow, Int.reduceLE, Int.reduceLT, Int.reduceNeg, Int.reduceToNat, Int.reduceAdd, Int.reduceSub] at hr
        obtain ⟨rfl, rfl⟩ := hr
        refine ⟨vc, ?_⟩
        refine AWPL_nil ?_
        with_reducible refine thenC_normal ?_
        refine AWP_seq ?_
        -- region 9
        refine AWP_rl ?_
        refine AWPL_rn tab_ok 4 [1, 5, 7, 8, 9, 10, 68, 70] fun c st' hr => ?_
        simp only [go_sem, reduceIte, reduceCtorEq, Nat.reduceEqDiff, Nat.reduceLT, Nat.reduceLeDiff, Nat.reduceBEq, Nat.reduceAdd, Nat.reduceMul, Nat.reduceSub, Nat.reducePow, Int.reduceLE, Int.reduceLT, Int.reduceNeg, Int.reduceToNat, Int.reduceAdd, Int.reduceSub] at hr
        obtain ⟨rfl, rfl⟩ := hr
        refine ⟨vc, ?_⟩
        replace hK := bind_s hK
        obtain ⟨y6, hy, hK⟩ := hK
        refine AWPL_callK [1, 5, 7, 8, 9, 10, 71] (W_complex_H hy) rfl rfl pcT rfl Try.call68 (.cons (.atom _ rfl) (.cons (.atom _ rfl) .nil)) (hscG trivial) (of_decide_eq_true rfl) (by first | rfl | simp [nI, nI1, nI0]) (by first | rfl | simp [nIB, nI0]) fun st' hr => ?_
        simp only [go_sem, reduceIte, reduceCtorEq, Nat.reduceEqDiff, Nat.reduceLT, Nat.reduceLeDiff, Nat.reduceBEq, Nat.reduceAdd, Nat.reduceMul, Nat.reduceSub, Nat.reducePow, Int.reduceLE, Int.reduceLT, Int.reduceNeg, Int.reduceToNat, Int.reduceAdd, Int.reduceSub] at hr
        subst hr
        clear hy
        refine AWPL_rn tab_ok 5 [1, 5, 7, 8, 9, 10, 11, 12] fun c st' hr => ?_
        simp only [go_sem, reduceIte, reduceCtorEq, Nat.reduceEqDiff, Nat.reduceLT, Nat.reduceLeDiff, Nat.reduceBEq, Nat.reduceAdd, Nat.reduceMul, Nat.reduceSub, Nat.reducePow, Int.reduceLE, Int.reduceLT, Int.reduceNeg, Int.reduceToNat, Int.reduceAdd, Int.reduceSub] at hr
        obtain ⟨rfl, rfl⟩ := hr
        refine ⟨vc, ?_⟩
        refine AWPL_nil ?_
        with_reducible refine thenC_normal ?_
        refine AWP_seq ?_
        -- region 10
        refine AWP_rl ?_
        refine AWPL_rn tab_ok 1 [1, 5, 7, 8, 9, 10, 11, 12, 75] fun c st' hr => ?_
        simp only [go_sem, reduceIte, reduceCtorEq, Nat.reduceEqDiff, Nat.reduceLT, Nat.reduceLeDiff, Nat.reduceBEq, Nat.reduceAdd, Nat.reduceMul, Nat.reduceSub, Nat.reducePow, Int.reduceLE, Int.reduceLT, Int.reduceNeg, Int.reduceToNat, Int.reduceAdd, Int.reduceSub] at hr
        obtain ⟨rfl, rfl⟩ := hr
        refine ⟨vc, ?_⟩
        replace hK := bind_s hK
        obtain ⟨y7, hy, hK⟩ := hK
        refine AWPL_callK [1, 5, 7, 8, 9, 10, 11, 12, 76] (W_tutte_Polynomial hy) rfl rfl pcT rfl Try.call37 (.cons (.agg _ _ rfl (ArgsOk.get (.cons (.atom _ rfl) (.cons (.atom _ rfl) .nil))).2) .nil) (hscG trivial) (of_decide_eq_true rfl) (by first | rfl | simp [nI, nI1, nI0]) (by first | rfl | simp [nIB, nI0]) fun st' hr => ?_
        simp only [go_sem, reduceIte, reduceCtorEq, Nat.reduceEqDiff, Nat.reduceLT, Nat.reduceLeDiff, Nat.reduceBEq, Nat.reduceAdd, Nat.reduceMul, Nat.reduceSub, Nat.reducePow, Int.reduceLE, Int.reduceLT, Int.reduceNeg, Int.reduceToNat, Int.reduceAdd, Int.reduceSub] at hr
        subst hr
        clear hy
        refine AWPL_rn tab_ok 5 [1, 5, 7, 8, 9, 10, 11, 12, 13, 14] fun c st' hr => ?_
        simp only [go_sem, reduceIte, reduceCtorEq, Nat.reduceEqDiff, Nat.reduceLT, Nat.reduceLeDiff, Nat.reduceBEq, Nat.reduceAdd, Nat.reduceMul, Nat.reduceSub, Nat.reducePow, Int.reduceLE, Int.reduceLT, Int.reduceNeg, Int.reduceToNat, Int.reduceAdd, Int.reduceSub] at hr
        obtain ⟨rfl, rfl⟩ := hr
        refine ⟨vc, ?_⟩
        refine AWPL_nil ?_
        with_reducible refine thenC_normal ?_
        refine AWP_seq ?_
        refine AWP_seq ?_
        -- region 11
        refine AWP_rg tab_ok [1, 5, 9, 11, 13, 110] fun c st' hr => ?_
        simp only [go_sem, reduceIte, reduceCtorEq, Nat.reduceEqDiff, Nat.reduceLT, Nat.reduceLeDiff, Nat.reduceBEq, Nat.reduceAdd, Nat.reduceMul, Nat.reduceSub, Nat.reducePow, Int.reduceLE, Int.reduceLT, Int.reduceNeg, Int.reduceToNat, Int.reduceAdd, Int.reduceSub] at hr
        obtain ⟨rfl, rfl⟩ := hr
        refine ⟨vc, ?_⟩
        with_reducible refine thenC_normal ?_
        refine AWP_condP (((((((y4.2 ≠ 0 ∨ y5.2 ≠ 0) ∨ y6.2 ≠ 0) ∨ y7.2 ≠ 0) ∨ ¬ (y4.1 = true)) ∨ (y5.1.length : Int) ≠ (y3.1.length : Int)) ∨ (y6.1.length : Int) ≠ (y7.1.length : Int))) rfl bd (fun hb2 => ?_) (fun hb2 => ?_)
        · replace hK := ite_t hK hb2
          refine AWP_seq ?_
          -- region 12
          refine AWP_rg tab_ok [2] fun c st' hr => ?_
          simp only [go_sem, reduceIte, reduceCtorEq, Nat.reduceEqDiff, Nat.reduceLT, Nat.reduceLeDiff, Nat.reduceBEq, Nat.reduceAdd, Nat.reduceMul, Nat.reduceSub, Nat.reducePow, Int.reduceLE, Int.reduceLT, Int.reduceNeg, Int.reduceToNat, Int.reduceAdd, Int.reduceSub] at hr
          obtain ⟨rfl, rfl⟩ := hr
          refine ⟨vc, ?_⟩
          with_reducible refine thenC_normal ?_
          refine AWP_ret ?_
          with_reducible refine thenC_ret ?_
          cases hK
          refine EndsRW [] (.inl rfl) (of_decide_eq_true rfl) (by simp) rfl (fun c x hr => ?_) trivial
          simp only [go_sem, reduceIte, reduceCtorEq, Nat.reduceEqDiff, Nat.reduceLT, Nat.reduceLeDiff, Nat.reduceBEq, Nat.reduceAdd, Nat.reduceMul, Nat.reduceSub, Nat.reducePow, Int.reduceLE, Int.reduceLT, Int.reduceNeg, Int.reduceToNat, Int.reduceAdd, Int.reduceSub] at hr
          obtain ⟨rfl, rfl⟩ := hr
          exact ⟨rfl, endR⟩
        · replace hK := ite_f hK hb2
          refine AWP_skip ?_
          with_reducible refine thenC_normal ?_
          refine AWP_seq ?_
          -- region 13
          replace hK := chk_some hK
          obtain ⟨h, hK⟩ := hK
          refine AWP_rg tab_ok [1, 5, 9, 11, 13, 15] fun c st' hr => ?_
          simp only [go_sem, reduceIte, reduceCtorEq, Nat.reduceEqDiff, Nat.reduceLT, Nat.reduceLeDiff, Nat.reduceBEq, Nat.reduceAdd, Nat.reduceMul, Nat.reduceSub, Nat.reducePow, Int.reduceLE, Int.reduceLT, Int.reduceNeg, Int.reduceToNat, Int.reduceAdd, Int.reduceSub] at hr
          obtain ⟨rfl, rfl⟩ := hr
          refine ⟨vc, ?_⟩
          with_reducible refine thenC_normal ?_
          refine AWP_seq ?_
          refine AWP_seq ?_
          -- region 14
          refine AWP_rg tab_ok [1, 9, 11, 13, 15, 114, 115, 116] fun c st' hr => ?_
          simp only [go_sem, reduceIte, reduceCtorEq, Nat.reduceEqDiff, Nat.reduceLT, Nat.reduceLeDiff, Nat.reduceBEq, Nat.reduceAdd, Nat.reduceMul, Nat.reduceSub, Nat.reducePow, Int.reduceLE, Int.reduceLT, Int.reduceNeg, Int.reduceToNat, Int.reduceAdd, Int.reduceSub] at hr
          obtain ⟨rfl, rfl⟩ := hr
          refine ⟨vc, ?_⟩
          with_reducible refine thenC_normal ?_
          refine AWP_block ?_
          refine AWP_loopX 0 (fun ((v, v1) : List Int × Int) => ⟨184, [(1, .ptr 0 0 0), (9, .own 1 y5.1.length), (11, .own 2 y6.1.length), (13, .own 3 y7.1.length), (15, .own 5 v.length), (114, .own 6 y3.1.length), (115, .int .i64 (y3.1.length : Int)), (116, .int .i64 v1)], [some (.gen 46 2 [[.int .i64 m_0, .ints .i64 m_1]]), some (.ints 3 .i64 y5.1), some (.ints 3 .i64 y6.1), some (.outs 49 4 y7.1.length idO (lenO y7.1)), some (.rows 2 .i64 y7.1), some (.ints 3 .i64 v), some (.ints 3 .i64 y3.1)]⟩) (fun (v2 : List Int) => ⟨184, [(11, .own 0 y6.1.length), (13, .own 1 y7.1.length), (15, .own 3 v2.length)], [some (.ints 3 .i64 y6.1), some (.outs 49 2 y7.1.length idO (lenO y7.1)), some (.rows 2 .i64 y7.1), some (.ints 3 .i64 v2)]⟩) Sum.inl (List.replicate (y6.1.length : Int).toNat 0, 0) [0, 5, 6, 7, 8, 9, 4] hK mkWk ?_ ?_
          · clear hK; rintro ⟨v, v1⟩ b hK hpost1
            try dsimp only at hK
            change AWP _ _ _ _ ⟨184, [(1, .ptr 0 0 0), (9, .own 1 y5.1.length), (11, .own 2 y6.1.length), (13, .own 3 y7.1.length), (15, .own 5 v.length), (114, .own 6 y3.1.length), (115, .int .i64 (y3.1.length : Int)), (116, .int .i64 v1)], [some (.gen 46 2 [[.int .i64 m_0, .ints .i64 m_1]]), some (.ints 3 .i64 y5.1), some (.ints 3 .i64 y6.1), some (.outs 49 4 y7.1.length idO (lenO y7.1)), some (.rows 2 .i64 y7.1), some (.ints 3 .i64 v), some (.ints 3 .i64 y3.1)]⟩
            refine AWP_seq ?_
            -- region 15
            refine AWP_rg tab_ok [1, 9, 11, 13, 15, 114, 115, 116, 117] fun c st' hr => ?_
            simp only [go_sem, reduceIte, reduceCtorEq, Nat.reduceEqDiff, Nat.reduceLT, Nat.reduceLeDiff, Nat.reduceBEq, Nat.reduceAdd, Nat.reduceMul, Nat.reduceSub, Nat.reducePow, Int.reduceLE, Int.reduceLT, Int.reduceNeg, Int.reduceToNat, Int.reduceAdd, Int.reduceSub] at hr
            obtain ⟨rfl, rfl⟩ := hr
            refine ⟨vc, ?_⟩
            with_reducible refine thenC_normal ?_
            refine AWP_seq ?_
            refine AWP_condP (v1 < (y3.1.length : Int)) rfl bd (fun hb3 => ?_) (fun hb3 => ?_)
            · replace hK := ite_t hK hb3
              refine AWP_skip ?_
              with_reducible refine thenC_normal ?_
              refine AWP_seq ?_
              refine AWP_block ?_
              refine AWP_seq ?_
              -- region 16
              replace hK := chk_some hK
              obtain ⟨h1, hK⟩ := hK
              refine AWP_rg tab_ok [1, 9, 11, 13, 15, 16, 17, 114, 115, 116] fun c st' hr => ?_
              simp only [go_sem, reduceIte, reduceCtorEq, Nat.reduceEqDiff, Nat.reduceLT, Nat.reduceLeDiff, Nat.reduceBEq, Nat.reduceAdd, Nat.reduceMul, Nat.reduceSub, Nat.reducePow, Int.reduceLE, Int.reduceLT, Int.reduceNeg, Int.reduceToNat, Int.reduceAdd, Int.reduceSub] at hr
              obtain ⟨rfl, rfl⟩ := hr
              refine ⟨vc, ?_⟩
              with_reducible refine thenC_normal ?_
              refine AWP_seq ?_
              -- region 17
              refine AWP_rl ?_
              refine AWPL_rn tab_ok 2 [1, 9, 11, 13, 15, 16, 17, 114, 115, 116, 122, 123] fun c st' hr => ?_
              simp only [go_sem, reduceIte, reduceCtorEq, Nat.reduceEqDiff, Nat.reduceLT, Nat.reduceLeDiff, Nat.reduceBEq, Nat.reduceAdd, Nat.reduceMul, Nat.reduceSub, Nat.reducePow, Int.reduceLE, Int.reduceLT, Int.reduceNeg, Int.reduceToNat, Int.reduceAdd, Int.reduceSub] at hr
              obtain ⟨rfl, rfl⟩ := hr
              refine ⟨vc, ?_⟩
              replace hK := bind_s hK
              obtain ⟨y8, hy, hK⟩ := hK
              refine AWPL_callK [1, 9, 11, 13, 15, 16, 17, 114, 115, 116, 124] (W_tutte_Activities hy) rfl rfl pcT rfl Try.call35 (.cons (.agg _ _ rfl (ArgsOk.get (.cons (.atom _ rfl) (.cons (.atom _ rfl) .nil))).2) (.cons (.atom _ rfl) .nil)) (hscG trivial) (of_decide_eq_true rfl) (by first | rfl | simp [nI, nI1, nI0]) (by first | rfl | simp [nIB, nI0]) fun st' hr => ?_
              simp only [go_sem, reduceIte, reduceCtorEq, Nat.reduceEqDiff, Nat.reduceLT, Nat.reduceLeDiff, Nat.reduceBEq, Nat.reduceAdd, Nat.reduceMul, Nat.reduceSub, Nat.reducePow, Int.reduceLE, Int.reduceLT, Int.reduceNeg, Int.reduceToNat, Int.reduceAdd, Int.reduceSub] at hr
              subst hr
              clear hy
              refine AWPL_rn tab_ok 7 [1, 9, 11, 13, 15, 16, 17, 18, 20, 114, 115, 116] fun c st' hr => ?_
              simp only [go_sem, reduceIte, reduceCtorEq, Nat.reduceEqDiff, Nat.reduceLT, Nat.reduceLeDiff, Nat.reduceBEq, Nat.reduceAdd, Nat.reduceMul, Nat.reduceSub, Nat.reducePow, Int.reduceLE, Int.reduceLT, Int.reduceNeg, Int.reduceToNat, Int.reduceAdd, Int.reduceSub] at hr
              obtain ⟨rfl, rfl⟩ := hr
              refine ⟨vc, ?_⟩
              refine AWPL_nil ?_
              with_reducible refine thenC_normal ?_
              refine AWP_seq ?_
              refine AWP_seq ?_
              -- region 18
              replace hK := chk_some hK
              obtain ⟨h2, hK⟩ := hK
              refine AWP_rg tab_ok [1, 9, 11, 13, 15, 16, 114, 115, 116, 139] fun c st' hr => ?_
              simp only [go_sem, reduceIte, reduceCtorEq, Nat.reduceEqDiff, Nat.reduceLT, Nat.reduceLeDiff, Nat.reduceBEq, Nat.reduceAdd, Nat.reduceMul, Nat.reduceSub, Nat.reducePow, Int.reduceLE, Int.reduceLT, Int.reduceNeg, Int.reduceToNat, Int.reduceAdd, Int.reduceSub] at hr
              obtain ⟨rfl, rfl⟩ := hr
              refine ⟨vc, ?_⟩
              with_reducible refine thenC_normal ?_
              refine AWP_condP ((y8.2.2 ≠ 0 ∨ y5.1.getD v1.toNat 0 ≠ iandnot (y3.1.getD v1.toNat 0) y8.1)) rfl bd (fun hb4 => ?_) (fun hb4 => ?_)
              · replace hK := ite_t hK hb4
                refine AWP_seq ?_
                -- region 19
                refine AWP_rg tab_ok [2] fun c st' hr => ?_
                simp only [go_sem, reduceIte, reduceCtorEq, Nat.reduceEqDiff, Nat.reduceLT, Nat.reduceLeDiff, Nat.reduceBEq, Nat.reduceAdd, Nat.reduceMul, Nat.reduceSub, Nat.reducePow, Int.reduceLE, Int.reduceLT, Int.reduceNeg, Int.reduceToNat, Int.reduceAdd, Int.reduceSub] at hr
                obtain ⟨rfl, rfl⟩ := hr
                refine ⟨vc, ?_⟩
                with_reducible refine thenC_normal ?_
                refine AWP_ret ?_
                with_reducible refine thenC_ret (inBlockA_ret (thenC_ret (again_r (cutX_r (inBlockA_ret (thenC_ret ?_))))))
                replace hK := hpost1 _ hK
                try dsimp only at hK
                cases hK
                refine EndsRW [] (.inl rfl) (of_decide_eq_true rfl) (by simp) rfl (fun c x hr => ?_) trivial
                simp only [go_sem, reduceIte, reduceCtorEq, Nat.reduceEqDiff, Nat.reduceLT, Nat.reduceLeDiff, Nat.reduceBEq, Nat.reduceAdd, Nat.reduceMul, Nat.reduceSub, Nat.reducePow, Int.reduceLE, Int.reduceLT, Int.reduceNeg, Int.reduceToNat, Int.reduceAdd, Int.reduceSub] at hr
                obtain ⟨rfl, rfl⟩ := hr
                exact ⟨rfl, endR⟩
              · replace hK := ite_f hK hb4
                refine AWP_skip ?_
                with_reducible refine thenC_normal ?_
                -- region 20
                refine AWP_rl ?_
                replace hK := chk_some hK
                obtain ⟨h3, hK⟩ := hK
                refine AWPL_rn tab_ok 5 [1, 9, 11, 13, 15, 114, 115, 116, 140, 144] fun c st' hr => ?_
                simp only [go_sem, reduceIte, reduceCtorEq, Nat.reduceEqDiff, Nat.reduceLT, Nat.reduceLeDiff, Nat.reduceBEq, Nat.reduceAdd, Nat.reduceMul, Nat.reduceSub, Nat.reducePow, Int.reduceLE, Int.reduceLT, Int.reduceNeg, Int.reduceToNat, Int.reduceAdd, Int.reduceSub] at hr
                obtain ⟨rfl, rfl⟩ := hr
                refine ⟨vc, ?_⟩
                replace hK := bind_s hK
                obtain ⟨y9, hy, hK⟩ := hK
                refine AWPL_callK [1, 9, 11, 13, 15, 114, 115, 116, 140, 145] (W_rotaref_Size hy) rfl rfl pcT rfl Try.call18 (.cons (.atom _ rfl) .nil) (hscG trivial) (of_decide_eq_true rfl) (by first | rfl | simp [nI, nI1, nI0]) (by first | rfl | simp [nIB, nI0]) fun st' hr => ?_
                simp only [go_sem, reduceIte, reduceCtorEq, Nat.reduceEqDiff, Nat.reduceLT, Nat.reduceLeDiff, Nat.reduceBEq, Nat.reduceAdd, Nat.reduceMul, Nat.reduceSub, Nat.reducePow, Int.reduceLE, Int.reduceLT, Int.reduceNeg, Int.reduceToNat, Int.reduceAdd, Int.reduceSub] at hr
                subst hr
                clear hy
                replace hK := chk_some hK
                obtain ⟨h4, hK⟩ := hK
                refine AWPL_rn tab_ok 5 [1, 9, 11, 13, 15, 114, 115, 116] fun c st' hr => ?_
                simp only [go_sem, reduceIte, reduceCtorEq, Nat.reduceEqDiff, Nat.reduceLT, Nat.reduceLeDiff, Nat.reduceBEq, Nat.reduceAdd, Nat.reduceMul, Nat.reduceSub, Nat.reducePow, Int.reduceLE, Int.reduceLT, Int.reduceNeg, Int.reduceToNat, Int.reduceAdd, Int.reduceSub] at hr
                obtain ⟨rfl, rfl⟩ := hr
                refine ⟨vc, ?_⟩
                refine AWPL_nil ?_
                with_reducible refine inBlockA_normal (thenC_normal ?_)
                -- region 21
                refine AWP_facts (by simp) fun hfx => ?_
                simp only [factS, factV, fact1, fact0, factL0, lo, hi, maxLen, and_true, true_and] at hfx
                refine AWP_rg tab_ok [1, 9, 11, 13, 15, 114, 115, 116] fun c st' hr => ?_
                simp only [go_sem, reduceIte, reduceCtorEq, Nat.reduceEqDiff, Nat.reduceLT, Nat.reduceLeDiff, Nat.reduceBEq, Nat.reduceAdd, Nat.reduceMul, Nat.reduceSub, Nat.reducePow, Int.reduceLE, Int.reduceLT, Int.reduceNeg, Int.reduceToNat, Int.reduceAdd, Int.reduceSub] at hr
                obtain ⟨rfl, rfl⟩ := hr
                refine ⟨vc, ?_⟩
                clear hfx
                refine again_n (v.set y9.toNat ((v.getD y9.toNat 0) + 1), v1 + 1) [0, 1, 2, 3, 4, 5, 6] hK mkWk
            · replace hK := ite_f hK hb3
              refine AWP_exit ?_
              with_reducible refine thenC_exit (again_x ?_)
              refine cutX_here v [2, 3, 4, 5] (by have hq := hpost1 _ hK; exact hq) mkWk
          · clear hK; rintro v2 hK
            try dsimp only at hK
            refine exS ⟨184, [(11, .own 0 y6.1.length), (13, .own 1 y7.1.length), (15, .own 3 v2.length)], [some (.ints 3 .i64 y6.1), some (.outs 49 2 y7.1.length idO (lenO y7.1)), some (.rows 2 .i64 y7.1), some (.ints 3 .i64 v2)]⟩ rfl ?_
            with_reducible refine inBlockA_exit (thenC_normal ?_)
            refine AWP_seq ?_
            refine AWP_seq ?_
            -- region 22
            refine AWP_rl ?_
            refine AWPL_rn tab_ok 2 [11, 13, 151, 152] fun c st' hr => ?_
            simp only [go_sem, reduceIte, reduceCtorEq, Nat.reduceEqDiff, Nat.reduceLT, Nat.reduceLeDiff, Nat.reduceBEq, Nat.reduceAdd, Nat.reduceMul, Nat.reduceSub, Nat.reducePow, Int.reduceLE, Int.reduceLT, Int.reduceNeg, Int.reduceToNat, Int.reduceAdd, Int.reduceSub] at hr
            obtain ⟨rfl, rfl⟩ := hr
            refine ⟨vc, ?_⟩
            replace hK := bind_s hK
            obtain ⟨y10, hy, hK⟩ := hK
            refine AWPL_callK [11, 13, 153] (W_rotalaw_Same_int hy) rfl rfl pcT rfl Try.call65 (.cons (.ownI _ _ _ _ _ v2 rfl (by simp) (by first | simp | exact List.take_of_length_le (by simp))) (.cons (.ownI _ _ _ _ _ y6.1 rfl (by simp) (by first | simp | exact List.take_of_length_le (by simp))) .nil)) (hscG trivial) (of_decide_eq_true rfl) (by first | rfl | simp [nI, nI1, nI0]) (by first | rfl | simp [nIB, nI0]) fun st' hr => ?_
            simp only [go_sem, reduceIte, reduceCtorEq, Nat.reduceEqDiff, Nat.reduceLT, Nat.reduceLeDiff, Nat.reduceBEq, Nat.reduceAdd, Nat.reduceMul, Nat.reduceSub, Nat.reducePow, Int.reduceLE, Int.reduceLT, Int.reduceNeg, Int.reduceToNat, Int.reduceAdd, Int.reduceSub] at hr
            subst hr
            clear hy
            refine AWPL_rn tab_ok 1 [11, 13, 154] fun c st' hr => ?_
            simp only [go_sem, reduceIte, reduceCtorEq, Nat.reduceEqDiff, Nat.reduceLT, Nat.reduceLeDiff, Nat.reduceBEq, Nat.reduceAdd, Nat.reduceMul, Nat.reduceSub, Nat.reducePow, Int.reduceLE, Int.reduceLT, Int.reduceNeg, Int.reduceToNat, Int.reduceAdd, Int.reduceSub] at hr
            obtain ⟨rfl, rfl⟩ := hr
            refine ⟨vc, ?_⟩
            refine AWPL_nil ?_
            with_reducible refine thenC_normal ?_
            refine AWP_condP (¬ (y10 = true)) rfl bd (fun hb5 => ?_) (fun hb5 => ?_)
            · replace hK := ite_t hK hb5
              refine AWP_seq ?_
              -- region 23
              refine AWP_rg tab_ok [2] fun c st' hr => ?_
              simp only [go_sem, reduceIte, reduceCtorEq, Nat.reduceEqDiff, Nat.reduceLT, Nat.reduceLeDiff, Nat.reduceBEq, Nat.reduceAdd, Nat.reduceMul, Nat.reduceSub, Nat.reducePow, Int.reduceLE, Int.reduceLT, Int.reduceNeg, Int.reduceToNat, Int.reduceAdd, Int.reduceSub] at hr
              obtain ⟨rfl, rfl⟩ := hr
              refine ⟨vc, ?_⟩
              with_reducible refine thenC_normal ?_
              refine AWP_ret ?_
              with_reducible refine thenC_ret ?_
              cases hK
              refine EndsRW [] (.inl rfl) (of_decide_eq_true rfl) (by simp) rfl (fun c x hr => ?_) trivial
              simp only [go_sem, reduceIte, reduceCtorEq, Nat.reduceEqDiff, Nat.reduceLT, Nat.reduceLeDiff, Nat.reduceBEq, Nat.reduceAdd, Nat.reduceMul, Nat.reduceSub, Nat.reducePow, Int.reduceLE, Int.reduceLT, Int.reduceNeg, Int.reduceToNat, Int.reduceAdd, Int.reduceSub] at hr
              obtain ⟨rfl, rfl⟩ := hr
              exact ⟨rfl, endR⟩
            · replace hK := ite_f hK hb5
              refine AWP_skip ?_
              with_reducible refine thenC_normal ?_
              refine AWP_seq ?_
              refine AWP_seq ?_
              -- region 24
              refine AWP_rg tab_ok [11, 13, 156, 157] fun c st' hr => ?_
              simp only [go_sem, reduceIte, reduceCtorEq, Nat.reduceEqDiff, Nat.reduceLT, Nat.reduceLeDiff, Nat.reduceBEq, Nat.reduceAdd, Nat.reduceMul, Nat.reduceSub, Nat.reducePow, Int.reduceLE, Int.reduceLT, Int.reduceNeg, Int.reduceToNat, Int.reduceAdd, Int.reduceSub] at hr
              obtain ⟨rfl, rfl⟩ := hr
              refine ⟨vc, ?_⟩
              with_reducible refine thenC_normal ?_
              refine AWP_block ?_
              refine AWP_loopX 2 (fun (v3 : Int) => ⟨184, [(11, .own 0 y6.1.length), (13, .own 1 y7.1.length), (156, .int .i64 (y7.1.length : Int)), (157, .int .i64 v3)], [some (.ints 3 .i64 y6.1), some (.outs 49 2 y7.1.length idO (lenO y7.1)), some (.rows 2 .i64 y7.1)]⟩) (fun (_ : Unit) => ⟨184, [], []⟩) Sum.inl 0 [0, 1, 2] hK mkWk ?_ ?_
              · clear hK; rintro v3 b1 hK hpost2
                try dsimp only at hK
                change AWP _ _ _ _ ⟨184, [(11, .own 0 y6.1.length), (13, .own 1 y7.1.length), (156, .int .i64 (y7.1.length : Int)), (157, .int .i64 v3)], [some (.ints 3 .i64 y6.1), some (.outs 49 2 y7.1.length idO (lenO y7.1)), some (.rows 2 .i64 y7.1)]⟩
                refine AWP_seq ?_
                -- region 25
                refine AWP_rg tab_ok [11, 13, 156, 157, 158] fun c st' hr => ?_
                simp only [go_sem, reduceIte, reduceCtorEq, Nat.reduceEqDiff, Nat.reduceLT, Nat.reduceLeDiff, Nat.reduceBEq, Nat.reduceAdd, Nat.reduceMul, Nat.reduceSub, Nat.reducePow, Int.reduceLE, Int.reduceLT, Int.reduceNeg, Int.reduceToNat, Int.reduceAdd, Int.reduceSub] at hr
                obtain ⟨rfl, rfl⟩ := hr
                refine ⟨vc, ?_⟩
                with_reducible refine thenC_normal ?_
                refine AWP_seq ?_
                refine AWP_condP (v3 < (y7.1.length : Int)) rfl bd (fun hb6 => ?_) (fun hb6 => ?_)
                · replace hK := ite_t hK hb6
                  refine AWP_skip ?_
                  with_reducible refine thenC_normal ?_
                  refine AWP_seq ?_
                  refine AWP_block ?_
                  refine AWP_seq ?_
                  -- region 26
                  refine AWP_rg tab_ok [11, 13, 21, 156, 157] fun c st' hr => ?_
                  simp only [go_sem, reduceIte, reduceCtorEq, Nat.reduceEqDiff, Nat.reduceLT, Nat.reduceLeDiff, Nat.reduceBEq, Nat.reduceAdd, Nat.reduceMul, Nat.reduceSub, Nat.reducePow, Int.reduceLE, Int.reduceLT, Int.reduceNeg, Int.reduceToNat, Int.reduceAdd, Int.reduceSub] at hr
                  obtain ⟨rfl, rfl⟩ := hr
                  refine ⟨vc, ?_⟩
                  with_reducible refine thenC_normal ?_
                  refine AWP_seq ?_
                  -- region 27
                  refine AWP_rg tab_ok [11, 13, 21, 22, 156, 157] fun c st' hr => ?_
                  simp only [go_sem, reduceIte, reduceCtorEq, Nat.reduceEqDiff, Nat.reduceLT, Nat.reduceLeDiff, Nat.reduceBEq, Nat.reduceAdd, Nat.reduceMul, Nat.reduceSub, Nat.reducePow, Int.reduceLE, Int.reduceLT, Int.reduceNeg, Int.reduceToNat, Int.reduceAdd, Int.reduceSub] at hr
                  obtain ⟨rfl, rfl⟩ := hr
                  refine ⟨vc, ?_⟩
                  with_reducible refine thenC_normal ?_
                  refine AWP_seq ?_
                  refine AWP_seq ?_
                  -- region 28
                  replace hK := chk_some hK
                  obtain ⟨h5, hK⟩ := hK
                  refine AWP_rg tab_ok [11, 13, 21, 22, 156, 157, 163, 164, 165] fun c st' hr => ?_
                  simp only [go_sem, reduceIte, reduceCtorEq, Nat.reduceEqDiff, Nat.reduceLT, Nat.reduceLeDiff, Nat.reduceBEq, Nat.reduceAdd, Nat.reduceMul, Nat.reduceSub, Nat.reducePow, Int.reduceLE, Int.reduceLT, Int.reduceNeg, Int.reduceToNat, Int.reduceAdd, Int.reduceSub] at hr
                  obtain ⟨rfl, rfl⟩ := hr
                  refine ⟨vc, ?_⟩
                  with_reducible refine thenC_normal ?_
                  refine AWP_block ?_
                  refine AWP_loopX 4 (fun ((v4, v5) : Int × Int) => ⟨184, [(11, .own 0 y6.1.length), (13, .own 1 y7.1.length), (21, .int .i64 v3), (22, .int .i64 v4), (156, .int .i64 (y7.1.length : Int)), (157, .int .i64 v3), (163, .row 2 v3.toNat ((y7.1.getD v3.toNat []).length)), (164, .int .i64 ((y7.1.getD v3.toNat []).length : Int)), (165, .int .i64 v5)], [some (.ints 3 .i64 y6.1), some (.outs 49 2 y7.1.length idO (lenO y7.1)), some (.rows 2 .i64 y7.1)]⟩) (fun (v6 : Int) => ⟨184, [(11, .own 0 y6.1.length), (13, .own 1 y7.1.length), (21, .int .i64 v3), (22, .int .i64 v6), (156, .int .i64 (y7.1.length : Int)), (157, .int .i64 v3)], [some (.ints 3 .i64 y6.1), some (.outs 49 2 y7.1.length idO (lenO y7.1)), some (.rows 2 .i64 y7.1)]⟩) (fun v => v) (0, 0) [0, 1, 2] hK mkWk ?_ ?_
                  · clear hK; rintro ⟨v4, v5⟩ b2 hK hpost3
                    try dsimp only at hK
                    change AWP _ _ _ _ ⟨184, [(11, .own 0 y6.1.length), (13, .own 1 y7.1.length), (21, .int .i64 v3), (22, .int .i64 v4), (156, .int .i64 (y7.1.length : Int)), (157, .int .i64 v3), (163, .row 2 v3.toNat ((y7.1.getD v3.toNat []).length)), (164, .int .i64 ((y7.1.getD v3.toNat []).length : Int)), (165, .int .i64 v5)], [some (.ints 3 .i64 y6.1), some (.outs 49 2 y7.1.length idO (lenO y7.1)), some (.rows 2 .i64 y7.1)]⟩
                    refine AWP_seq ?_
                    -- region 29
                    refine AWP_rg tab_ok [11, 13, 21, 22, 156, 157, 163, 164, 165, 166] fun c st' hr => ?_
                    simp only [go_sem, reduceIte, reduceCtorEq, Nat.reduceEqDiff, Nat.reduceLT, Nat.reduceLeDiff, Nat.reduceBEq, Nat.reduceAdd, Nat.reduceMul, Nat.reduceSub, Nat.reducePow, Int.reduceLE, Int.reduceLT, Int.reduceNeg, Int.reduceToNat, Int.reduceAdd, Int.reduceSub] at hr
                    obtain ⟨rfl, rfl⟩ := hr
                    refine ⟨vc, ?_⟩
                    with_reducible refine thenC_normal ?_
                    refine AWP_seq ?_
                    refine AWP_condP (v5 < ((y7.1.getD v3.toNat []).length : Int)) rfl bd (fun hb7 => ?_) (fun hb7 => ?_)
                    · replace hK := ite_t hK hb7
                      refine AWP_skip ?_
                      with_reducible refine thenC_normal ?_
                      refine AWP_seq ?_
                      refine AWP_block ?_
                      refine AWP_seq ?_
                      -- region 30
                      replace hK := chk_some hK
                      obtain ⟨h6, hK⟩ := hK
                      refine AWP_rg tab_ok [11, 13, 21, 22, 24, 156, 157, 163, 164, 165] fun c st' hr => ?_
                      simp only [go_sem, reduceIte, reduceCtorEq, Nat.reduceEqDiff, Nat.reduceLT, Nat.reduceLeDiff, Nat.reduceBEq, Nat.reduceAdd, Nat.reduceMul, Nat.reduceSub, Nat.reducePow, Int.reduceLE, Int.reduceLT, Int.reduceNeg, Int.reduceToNat, Int.reduceAdd, Int.reduceSub] at hr
                      obtain ⟨rfl, rfl⟩ := hr
                      refine ⟨vc, ?_⟩
                      with_reducible refine thenC_normal ?_
                      -- region 31
                      replace hK := chk_some hK
                      obtain ⟨h7, hK⟩ := hK
                      refine AWP_rg tab_ok [11, 13, 21, 22, 156, 157, 163, 164, 165] fun c st' hr => ?_
                      simp only [go_sem, reduceIte, reduceCtorEq, Nat.reduceEqDiff, Nat.reduceLT, Nat.reduceLeDiff, Nat.reduceBEq, Nat.reduceAdd, Nat.reduceMul, Nat.reduceSub, Nat.reducePow, Int.reduceLE, Int.reduceLT, Int.reduceNeg, Int.reduceToNat, Int.reduceAdd, Int.reduceSub] at hr
                      obtain ⟨rfl, rfl⟩ := hr
                      refine ⟨vc, ?_⟩
                      with_reducible refine inBlockA_normal (thenC_normal ?_)
                      -- region 32
                      refine AWP_facts (by simp) fun hfx => ?_
                      simp only [factS, factV, fact1, fact0, factL0, lo, hi, maxLen, and_true, true_and] at hfx
                      refine AWP_rg tab_ok [11, 13, 21, 22, 156, 157, 163, 164, 165] fun c st' hr => ?_
                      simp only [go_sem, reduceIte, reduceCtorEq, Nat.reduceEqDiff, Nat.reduceLT, Nat.reduceLeDiff, Nat.reduceBEq, Nat.reduceAdd, Nat.reduceMul, Nat.reduceSub, Nat.reducePow, Int.reduceLE, Int.reduceLT, Int.reduceNeg, Int.reduceToNat, Int.reduceAdd, Int.reduceSub] at hr
                      obtain ⟨rfl, rfl⟩ := hr
                      refine ⟨vc, ?_⟩
                      clear hfx
                      refine again_n (v4 + ((y7.1.getD v3.toNat []).getD v5.toNat 0), v5 + 1) [0, 1, 2] hK mkWk
                    · replace hK := ite_f hK hb7
                      refine AWP_exit ?_
                      with_reducible refine thenC_exit (again_x ?_)
                      refine cutX_here v4 [0, 1, 2] (by have hq := hpost3 _ hK; exact hq) mkWk
                  · clear hK; rintro v6 hK
                    try dsimp only at hK
                    refine exS ⟨184, [(11, .own 0 y6.1.length), (13, .own 1 y7.1.length), (21, .int .i64 v3), (22, .int .i64 v6), (156, .int .i64 (y7.1.length : Int)), (157, .int .i64 v3)], [some (.ints 3 .i64 y6.1), some (.outs 49 2 y7.1.length idO (lenO y7.1)), some (.rows 2 .i64 y7.1)]⟩ rfl ?_
                    with_reducible refine inBlockA_exit (thenC_normal ?_)
                    refine AWP_seq ?_
                    -- region 33
                    replace hK := chk_some hK
                    obtain ⟨h8, hK⟩ := hK
                    refine AWP_rg tab_ok [11, 13, 156, 157, 182] fun c st' hr => ?_
                    simp only [go_sem, reduceIte, reduceCtorEq, Nat.reduceEqDiff, Nat.reduceLT, Nat.reduceLeDiff, Nat.reduceBEq, Nat.reduceAdd, Nat.reduceMul, Nat.reduceSub, Nat.reducePow, Int.reduceLE, Int.reduceLT, Int.reduceNeg, Int.reduceToNat, Int.reduceAdd, Int.reduceSub] at hr
                    obtain ⟨rfl, rfl⟩ := hr
                    refine ⟨vc, ?_⟩
                    with_reducible refine thenC_normal ?_
                    refine AWP_condP (v6 ≠ y6.1.getD (((y6.1.length : Int) - 1) - v3).toNat 0) rfl bd (fun hb8 => ?_) (fun hb8 => ?_)
                    · replace hK := ite_t hK hb8
                      refine AWP_seq ?_
                      -- region 34
                      refine AWP_rg tab_ok [2] fun c st' hr => ?_
                      simp only [go_sem, reduceIte, reduceCtorEq, Nat.reduceEqDiff, Nat.reduceLT, Nat.reduceLeDiff, Nat.reduceBEq, Nat.reduceAdd, Nat.reduceMul, Nat.reduceSub, Nat.reducePow, Int.reduceLE, Int.reduceLT, Int.reduceNeg, Int.reduceToNat, Int.reduceAdd, Int.reduceSub] at hr
                      obtain ⟨rfl, rfl⟩ := hr
                      refine ⟨vc, ?_⟩
                      with_reducible refine thenC_normal ?_
                      refine AWP_ret ?_
                      with_reducible refine inBlockA_ret (thenC_ret (again_r (cutX_r (inBlockA_ret (thenC_ret ?_)))))
                      replace hK := hpost2 _ hK
                      try dsimp only at hK
                      cases hK
                      refine EndsRW [] (.inl rfl) (of_decide_eq_true rfl) (by simp) rfl (fun c x hr => ?_) trivial
                      simp only [go_sem, reduceIte, reduceCtorEq, Nat.reduceEqDiff, Nat.reduceLT, Nat.reduceLeDiff, Nat.reduceBEq, Nat.reduceAdd, Nat.reduceMul, Nat.reduceSub, Nat.reducePow, Int.reduceLE, Int.reduceLT, Int.reduceNeg, Int.reduceToNat, Int.reduceAdd, Int.reduceSub] at hr
                      obtain ⟨rfl, rfl⟩ := hr
                      exact ⟨rfl, endR⟩
                    · replace hK := ite_f hK hb8
                      refine AWP_skip ?_
                      with_reducible refine inBlockA_normal (thenC_normal ?_)
                      -- region 35
                      refine AWP_facts (by simp) fun hfx => ?_
                      simp only [factS, factV, fact1, fact0, factL0, lo, hi, maxLen, and_true, true_and] at hfx
                      refine AWP_rg tab_ok [11, 13, 156, 157] fun c st' hr => ?_
                      simp only [go_sem, reduceIte, reduceCtorEq, Nat.reduceEqDiff, Nat.reduceLT, Nat.reduceLeDiff, Nat.reduceBEq, Nat.reduceAdd, Nat.reduceMul, Nat.reduceSub, Nat.reducePow, Int.reduceLE, Int.reduceLT, Int.reduceNeg, Int.reduceToNat, Int.reduceAdd, Int.reduceSub] at hr
                      obtain ⟨rfl, rfl⟩ := hr
                      refine ⟨vc, ?_⟩
                      clear hfx
                      refine again_n (v3 + 1) [0, 1, 2] hK mkWk
                · replace hK := ite_f hK hb6
                  refine AWP_exit ?_
                  with_reducible refine thenC_exit (again_x ?_)
                  refine cutX_here () [] (by have hq := hpost2 _ hK; exact hq) mkWk
              · clear hK; rintro _ hK
                try dsimp only at hK
                refine exS ⟨184, [], []⟩ rfl ?_
                with_reducible refine inBlockA_exit (thenC_normal ?_)
                refine AWP_seq ?_
                -- region 36
                refine AWP_rg tab_ok [2] fun c st' hr => ?_
                simp only [go_sem, reduceIte, reduceCtorEq, Nat.reduceEqDiff, Nat.reduceLT, Nat.reduceLeDiff, Nat.reduceBEq, Nat.reduceAdd, Nat.reduceMul, Nat.reduceSub, Nat.reducePow, Int.reduceLE, Int.reduceLT, Int.reduceNeg, Int.reduceToNat, Int.reduceAdd, Int.reduceSub] at hr
                obtain ⟨rfl, rfl⟩ := hr
                refine ⟨vc, ?_⟩
                with_reducible refine thenC_normal ?_
                refine AWP_ret ?_
                cases hK
                refine EndsRW [] (.inl rfl) (of_decide_eq_true rfl) (by simp) rfl (fun c x hr => ?_) trivial
                simp only [go_sem, reduceIte, reduceCtorEq, Nat.reduceEqDiff, Nat.reduceLT, Nat.reduceLeDiff, Nat.reduceBEq, Nat.reduceAdd, Nat.reduceMul, Nat.reduceSub, Nat.reducePow, Int.reduceLE, Int.reduceLT, Int.reduceNeg, Int.reduceToNat, Int.reduceAdd, Int.reduceSub] at hr
                obtain ⟨rfl, rfl⟩ := hr
                exact ⟨rfl, endR⟩
  · replace hK := ite_f hK hg
    refine AWPL_stP [(1, .ptr 0 0 0), (32, .bool true), (33, .opt false (.own 2 y1.1.length))] (by first | (simp [SameS, AX.look, hg]; done) | (simp at hg ⊢; simp [SameS, AX.look, hg]; done) | (simp_all [SameS, AX.look]; done)) ?_
    refine AWPL_skipV [1, 32, 33, 34] (.junk) rfl pcF (of_decide_eq_true rfl) fun st' hr => ?_
    simp only [go_sem, reduceIte, reduceCtorEq, Nat.reduceEqDiff, Nat.reduceLT, Nat.reduceLeDiff, Nat.reduceBEq, Nat.reduceAdd, Nat.reduceMul, Nat.reduceSub, Nat.reducePow, Int.reduceLE, Int.reduceLT, Int.reduceNeg, Int.reduceToNat, Int.reduceAdd, Int.reduceSub] at hr
    subst hr
    refine AWPL_skipV [1, 32, 35] (.bool false) rfl pcF (of_decide_eq_true rfl) fun st' hr => ?_
    simp only [go_sem, reduceIte, reduceCtorEq, Nat.reduceEqDiff, Nat.reduceLT, Nat.reduceLeDiff, Nat.reduceBEq, Nat.reduceAdd, Nat.reduceMul, Nat.reduceSub, Nat.reducePow, Int.reduceLE, Int.reduceLT, Int.reduceNeg, Int.reduceToNat, Int.reduceAdd, Int.reduceSub] at hr
    subst hr
    refine AWPL_rn tab_ok 2 [1, 37] fun c st' hr => ?_
    simp only [go_sem, reduceIte, reduceCtorEq, Nat.reduceEqDiff, Nat.reduceLT, Nat.reduceLeDiff, Nat.reduceBEq, Nat.reduceAdd, Nat.reduceMul, Nat.reduceSub, Nat.reducePow, Int.reduceLE, Int.reduceLT, Int.reduceNeg, Int.reduceToNat, Int.reduceAdd, Int.reduceSub] at hr
    obtain ⟨rfl, rfl⟩ := hr
    refine ⟨vc, ?_⟩
    refine AWPL_nil ?_
    with_reducible refine thenC_normal ?_
    refine AWP_condP (True) rfl bd (fun hb9 => ?_) (fun hb9 => ?_)
    rotate_left 1
    · exact absurd trivial hb9
    clear hb9
    refine AWP_seq ?_
    -- region 3
    refine AWP_rg tab_ok [2] fun c st' hr => ?_
    simp only [go_sem, reduceIte, reduceCtorEq, Nat.reduceEqDiff, Nat.reduceLT, Nat.reduceLeDiff, Nat.reduceBEq, Nat.reduceAdd, Nat.reduceMul, Nat.reduceSub, Nat.reducePow, Int.reduceLE, Int.reduceLT, Int.reduceNeg, Int.reduceToNat, Int.reduceAdd, Int.reduceSub] at hr
    obtain ⟨rfl, rfl⟩ := hr
    refine ⟨vc, ?_⟩
    with_reducible refine thenC_normal ?_
    refine AWP_ret ?_
    with_reducible refine thenC_ret ?_
    cases hK
    refine EndsRW [] (.inl rfl) (of_decide_eq_true rfl) (by simp) rfl (fun c x hr => ?_) trivial
    simp only [go_sem, reduceIte, reduceCtorEq, Nat.reduceEqDiff, Nat.reduceLT, Nat.reduceLeDiff, Nat.reduceBEq, Nat.reduceAdd, Nat.reduceMul, Nat.reduceSub, Nat.reducePow, Int.reduceLE, Int.reduceLT, Int.reduceNeg, Int.reduceToNat, Int.reduceAdd, Int.reduceSub] at hr
    obtain ⟨rfl, rfl⟩ := hr
    exact ⟨rfl, endR⟩

end Go.SH
