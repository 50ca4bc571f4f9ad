/-
  That the code computes these functions: bits_OnesCount. By a program of mine (shal.py). Conditions: none.
-/
import Derived.Test.YtlpikingpnenkaaAxT
import Derived.Test.YtlpikingpnenkaaAxR
import Derived.Test.YtlpikingpnenkaaSp
set_option linter.unusedVariables false
set_option linter.unusedSimpArgs false
set_option maxRecDepth 8000
set_option maxHeartbeats 4000000
namespace Go.SH
open Go Go.AX Go.AX.Try Go.Proofs

set_option maxHeartbeats 4000000 in
theorem bits_OnesCount64P (n : Int) : Pure Try.prog 174 [.int .u64 n] (.int .i64 (oc n)) [] := by
  refine Pure_introF tab_ok (n := 35) (l := [.tmp 2]) Try.func174 rfl rfl rfl (by simp) fun hfact w0 => ?_
  simp only [factL1, fact1, fact0, factL0, lo, hi, maxLen, and_true] at hfact
  refine AWP_seq ?_
  refine AWP_rg tab_ok [0] fun c st' hr => ?_
  simp only [go_sem, maxLen, Prod.mk.injEq, reduceIte, reduceCtorEq, Nat.reduceEqDiff, Nat.reduceLT, Nat.reduceLeDiff, Nat.reduceBEq, Nat.reduceAdd, Nat.reduceMul, Nat.reduceSub, Nat.reducePow, Nat.zero_le, Int.reduceLE, Int.reduceLT, Int.reduceNeg, Int.reduceToNat, Int.reduceAdd, Int.reduceSub] at hr
  obtain ⟨rfl, rfl⟩ := hr
  refine ⟨by first | (with_reducible rfl) | (simp only [Bool.and_eq_true, decide_eq_true_eq, List.length_append, List.length_cons, List.length_nil, true_and, and_true, List.length_map]; done) | (simp only [Bool.and_eq_true, decide_eq_true_eq, List.length_append, List.length_cons, List.length_nil, true_and, and_true, List.length_map]; omega) | (simp; done) | (simp; omega), ?_⟩
  with_reducible refine thenC_normal ?_
  refine AWP_seq ?_
  have h1 := oc1_bd hfact.1
  have h2 := oc2_bd h1.1
  have h3 := oc3_bd h2.1
  have h4 := oc4_bd h3.1 h3.2
  have h5 := oc5_bd h4.1 h4.2
  have h6 := oc6_bd h5.1 h5.2
  have h7 := oc_bd hfact.1
  refine AWP_rg tab_ok [0] fun c st' hr => ?_
  simp only [go_sem, maxLen, Prod.mk.injEq, reduceIte, reduceCtorEq, Nat.reduceEqDiff, Nat.reduceLT, Nat.reduceLeDiff, Nat.reduceBEq, Nat.reduceAdd, Nat.reduceMul, Nat.reduceSub, Nat.reducePow, Nat.zero_le, Int.reduceLE, Int.reduceLT, Int.reduceNeg, Int.reduceToNat, Int.reduceAdd, Int.reduceSub, ← oc1.eq_1] at hr
  obtain ⟨rfl, rfl⟩ := hr
  refine ⟨by simp only [Bool.and_eq_true, decide_eq_true_eq]; omega, ?_⟩
  with_reducible refine thenC_normal ?_
  refine AWP_seq ?_
  refine AWP_rg tab_ok [0] fun c st' hr => ?_
  simp only [go_sem, maxLen, Prod.mk.injEq, reduceIte, reduceCtorEq, Nat.reduceEqDiff, Nat.reduceLT, Nat.reduceLeDiff, Nat.reduceBEq, Nat.reduceAdd, Nat.reduceMul, Nat.reduceSub, Nat.reducePow, Nat.zero_le, Int.reduceLE, Int.reduceLT, Int.reduceNeg, Int.reduceToNat, Int.reduceAdd, Int.reduceSub, ← oc2.eq_1] at hr
  obtain ⟨rfl, rfl⟩ := hr
  refine ⟨by simp only [Bool.and_eq_true, decide_eq_true_eq]; omega, ?_⟩
  with_reducible refine thenC_normal ?_
  refine AWP_seq ?_
  refine AWP_rg tab_ok [0] fun c st' hr => ?_
  simp only [go_sem, maxLen, Prod.mk.injEq, reduceIte, reduceCtorEq, Nat.reduceEqDiff, Nat.reduceLT, Nat.reduceLeDiff, Nat.reduceBEq, Nat.reduceAdd, Nat.reduceMul, Nat.reduceSub, Nat.reducePow, Nat.zero_le, Int.reduceLE, Int.reduceLT, Int.reduceNeg, Int.reduceToNat, Int.reduceAdd, Int.reduceSub, ← oc3.eq_1] at hr
  obtain ⟨rfl, rfl⟩ := hr
  refine ⟨by simp only [Bool.and_eq_true, decide_eq_true_eq]; omega, ?_⟩
  with_reducible refine thenC_normal ?_
  refine AWP_seq ?_
  refine AWP_rg tab_ok [0] fun c st' hr => ?_
  simp only [go_sem, maxLen, Prod.mk.injEq, reduceIte, reduceCtorEq, Nat.reduceEqDiff, Nat.reduceLT, Nat.reduceLeDiff, Nat.reduceBEq, Nat.reduceAdd, Nat.reduceMul, Nat.reduceSub, Nat.reducePow, Nat.zero_le, Int.reduceLE, Int.reduceLT, Int.reduceNeg, Int.reduceToNat, Int.reduceAdd, Int.reduceSub, ← oc4.eq_1] at hr
  obtain ⟨rfl, rfl⟩ := hr
  refine ⟨by simp only [Bool.and_eq_true, decide_eq_true_eq]; omega, ?_⟩
  with_reducible refine thenC_normal ?_
  refine AWP_seq ?_
  refine AWP_rg tab_ok [0] fun c st' hr => ?_
  simp only [go_sem, maxLen, Prod.mk.injEq, reduceIte, reduceCtorEq, Nat.reduceEqDiff, Nat.reduceLT, Nat.reduceLeDiff, Nat.reduceBEq, Nat.reduceAdd, Nat.reduceMul, Nat.reduceSub, Nat.reducePow, Nat.zero_le, Int.reduceLE, Int.reduceLT, Int.reduceNeg, Int.reduceToNat, Int.reduceAdd, Int.reduceSub, ← oc5.eq_1] at hr
  obtain ⟨rfl, rfl⟩ := hr
  refine ⟨by simp only [Bool.and_eq_true, decide_eq_true_eq]; omega, ?_⟩
  with_reducible refine thenC_normal ?_
  refine AWP_seq ?_
  refine AWP_rg tab_ok [0] fun c st' hr => ?_
  simp only [go_sem, maxLen, Prod.mk.injEq, reduceIte, reduceCtorEq, Nat.reduceEqDiff, Nat.reduceLT, Nat.reduceLeDiff, Nat.reduceBEq, Nat.reduceAdd, Nat.reduceMul, Nat.reduceSub, Nat.reducePow, Nat.zero_le, Int.reduceLE, Int.reduceLT, Int.reduceNeg, Int.reduceToNat, Int.reduceAdd, Int.reduceSub, ← oc6.eq_1] at hr
  obtain ⟨rfl, rfl⟩ := hr
  refine ⟨by simp only [Bool.and_eq_true, decide_eq_true_eq]; omega, ?_⟩
  with_reducible refine thenC_normal ?_
  refine AWP_seq ?_
  refine AWP_rg tab_ok [2] fun c st' hr => ?_
  simp only [go_sem, maxLen, Prod.mk.injEq, reduceIte, reduceCtorEq, Nat.reduceEqDiff, Nat.reduceLT, Nat.reduceLeDiff, Nat.reduceBEq, Nat.reduceAdd, Nat.reduceMul, Nat.reduceSub, Nat.reducePow, Nat.zero_le, Int.reduceLE, Int.reduceLT, Int.reduceNeg, Int.reduceToNat, Int.reduceAdd, Int.reduceSub, ← oc.eq_1] at hr
  obtain ⟨rfl, rfl⟩ := hr
  refine ⟨by simp only [Bool.and_eq_true, decide_eq_true_eq]; omega, ?_⟩
  with_reducible refine thenC_normal ?_
  refine AWP_ret ?_
  refine EndsR0 (.inl rfl) (of_decide_eq_true rfl) fun c x hr => ?_
  simp only [go_sem, maxLen, Prod.mk.injEq, reduceIte, reduceCtorEq, Nat.reduceEqDiff, Nat.reduceLT, Nat.reduceLeDiff, Nat.reduceBEq, Nat.reduceAdd, Nat.reduceMul, Nat.reduceSub, Nat.reducePow, Nat.zero_le, Int.reduceLE, Int.reduceLT, Int.reduceNeg, Int.reduceToNat, Int.reduceAdd, Int.reduceSub] at hr
  obtain ⟨rfl, rfl⟩ := hr
  refine ⟨rfl, ?_⟩
  simp only [go_sem, maxLen, Prod.mk.injEq, reduceIte, reduceCtorEq, Nat.reduceEqDiff, Nat.reduceLT, Nat.reduceLeDiff, Nat.reduceBEq, Nat.reduceAdd, Nat.reduceMul, Nat.reduceSub, Nat.reducePow, Nat.zero_le, Int.reduceLE, Int.reduceLT, Int.reduceNeg, Int.reduceToNat, Int.reduceAdd, Int.reduceSub, and_true, true_and, AVal.int.injEq, AVal.bool.injEq, AVal.tup.injEq, AVal.agg.injEq, AVal.str.injEq, AVal.own.injEq, List.cons.injEq]
set_option maxHeartbeats 4000000 in
theorem bits_OnesCountP (n : Int) : Pure Try.prog 135 [.int .u64 n] (.int .i64 (oc n)) [] := by
  refine Pure_introF tab_ok (n := 8) (l := [.tmp 2]) Try.func135 rfl rfl rfl (by simp) fun hfact w0 => ?_
  simp only [factL1, fact1, fact0, factL0, lo, hi, maxLen, and_true] at hfact
  refine AWP_seq ?_
  refine AWP_rg tab_ok [0] fun c st' hr => ?_
  simp only [go_sem, maxLen, Prod.mk.injEq, reduceIte, reduceCtorEq, Nat.reduceEqDiff, Nat.reduceLT, Nat.reduceLeDiff, Nat.reduceBEq, Nat.reduceAdd, Nat.reduceMul, Nat.reduceSub, Nat.reducePow, Nat.zero_le, Int.reduceLE, Int.reduceLT, Int.reduceNeg, Int.reduceToNat, Int.reduceAdd, Int.reduceSub] at hr
  obtain ⟨rfl, rfl⟩ := hr
  refine ⟨by first | (with_reducible rfl) | (simp only [Bool.and_eq_true, decide_eq_true_eq, List.length_append, List.length_cons, List.length_nil, true_and, and_true, List.length_map]; done) | (simp only [Bool.and_eq_true, decide_eq_true_eq, List.length_append, List.length_cons, List.length_nil, true_and, and_true, List.length_map]; omega) | (simp; done) | (simp; omega), ?_⟩
  with_reducible refine thenC_normal ?_
  refine AWP_seq ?_
  refine AWP_cond rfl (fun hb0 => ?_) (fun hb0 => ?_)
  ·
    try simp only [Bool.or_eq_true, Bool.and_eq_true, Bool.or_eq_false_iff, Bool.and_eq_false_iff, Bool.not_eq_true', Bool.not_eq_false', decide_eq_true_eq, decide_eq_false_iff_not] at hb0
    cases hb0
  ·
    try simp only [Bool.or_eq_true, Bool.and_eq_true, Bool.or_eq_false_iff, Bool.and_eq_false_iff, Bool.not_eq_true', Bool.not_eq_false', decide_eq_true_eq, decide_eq_false_iff_not] at hb0
    refine AWP_skip ?_
    with_reducible refine thenC_normal ?_
    refine AWP_seq ?_
    refine AWP_rl ?_
    refine AWPL_rn tab_ok 1 [6] fun c st' hr => ?_
    simp only [go_sem, maxLen, Prod.mk.injEq, reduceIte, reduceCtorEq, Nat.reduceEqDiff, Nat.reduceLT, Nat.reduceLeDiff, Nat.reduceBEq, Nat.reduceAdd, Nat.reduceMul, Nat.reduceSub, Nat.reducePow, Nat.zero_le, Int.reduceLE, Int.reduceLT, Int.reduceNeg, Int.reduceToNat, Int.reduceAdd, Int.reduceSub] at hr
    obtain ⟨rfl, rfl⟩ := hr
    refine ⟨by first | (with_reducible rfl) | (simp only [Bool.and_eq_true, decide_eq_true_eq, List.length_append, List.length_cons, List.length_nil, true_and, and_true, List.length_map]; done) | (simp only [Bool.and_eq_true, decide_eq_true_eq, List.length_append, List.length_cons, List.length_nil, true_and, and_true, List.length_map]; omega) | (simp; done) | (simp; omega), ?_⟩
    refine AWPL_callK [7] (bits_OnesCount64P _) rfl rfl (by first | rfl | simp only [go_sem, maxLen, Prod.mk.injEq, reduceIte, reduceCtorEq, Nat.reduceEqDiff, Nat.reduceLT, Nat.reduceLeDiff, Nat.reduceBEq, Nat.reduceAdd, Nat.reduceMul, Nat.reduceSub, Nat.reducePow, Nat.zero_le, Int.reduceLE, Int.reduceLT, Int.reduceNeg, Int.reduceToNat, Int.reduceAdd, Int.reduceSub]) rfl Try.call174 (.cons (.atom _ rfl) .nil) (by first | rfl | simp only [go_sem, maxLen, Prod.mk.injEq, reduceIte, reduceCtorEq, Nat.reduceEqDiff, Nat.reduceLT, Nat.reduceLeDiff, Nat.reduceBEq, Nat.reduceAdd, Nat.reduceMul, Nat.reduceSub, Nat.reducePow, Nat.zero_le, Int.reduceLE, Int.reduceLT, Int.reduceNeg, Int.reduceToNat, Int.reduceAdd, Int.reduceSub]) (of_decide_eq_true rfl) (by first | rfl | simp [nI, nI1, nI0]) (by first | rfl | simp [nIB]) fun st' hr => ?_
    simp only [go_sem, maxLen, Prod.mk.injEq, reduceIte, reduceCtorEq, Nat.reduceEqDiff, Nat.reduceLT, Nat.reduceLeDiff, Nat.reduceBEq, Nat.reduceAdd, Nat.reduceMul, Nat.reduceSub, Nat.reducePow, Nat.zero_le, Int.reduceLE, Int.reduceLT, Int.reduceNeg, Int.reduceToNat, Int.reduceAdd, Int.reduceSub] at hr
    subst hr
    refine AWPL_rn tab_ok 1 [2] fun c st' hr => ?_
    simp only [go_sem, maxLen, Prod.mk.injEq, reduceIte, reduceCtorEq, Nat.reduceEqDiff, Nat.reduceLT, Nat.reduceLeDiff, Nat.reduceBEq, Nat.reduceAdd, Nat.reduceMul, Nat.reduceSub, Nat.reducePow, Nat.zero_le, Int.reduceLE, Int.reduceLT, Int.reduceNeg, Int.reduceToNat, Int.reduceAdd, Int.reduceSub] at hr
    obtain ⟨rfl, rfl⟩ := hr
    refine ⟨by first | (with_reducible rfl) | (simp only [Bool.and_eq_true, decide_eq_true_eq, List.length_append, List.length_cons, List.length_nil, true_and, and_true, List.length_map]; done) | (simp only [Bool.and_eq_true, decide_eq_true_eq, List.length_append, List.length_cons, List.length_nil, true_and, and_true, List.length_map]; omega) | (simp; done) | (simp; omega), ?_⟩
    refine AWPL_nil ?_
    with_reducible refine thenC_normal ?_
    refine AWP_ret ?_
    refine EndsR0 (.inl rfl) (of_decide_eq_true rfl) fun c x hr => ?_
    simp only [go_sem, maxLen, Prod.mk.injEq, reduceIte, reduceCtorEq, Nat.reduceEqDiff, Nat.reduceLT, Nat.reduceLeDiff, Nat.reduceBEq, Nat.reduceAdd, Nat.reduceMul, Nat.reduceSub, Nat.reducePow, Nat.zero_le, Int.reduceLE, Int.reduceLT, Int.reduceNeg, Int.reduceToNat, Int.reduceAdd, Int.reduceSub] at hr
    obtain ⟨rfl, rfl⟩ := hr
    refine ⟨rfl, ?_⟩
    simp only [go_sem, maxLen, Prod.mk.injEq, reduceIte, reduceCtorEq, Nat.reduceEqDiff, Nat.reduceLT, Nat.reduceLeDiff, Nat.reduceBEq, Nat.reduceAdd, Nat.reduceMul, Nat.reduceSub, Nat.reducePow, Nat.zero_le, Int.reduceLE, Int.reduceLT, Int.reduceNeg, Int.reduceToNat, Int.reduceAdd, Int.reduceSub, and_true, true_and, AVal.int.injEq, AVal.bool.injEq, AVal.tup.injEq, AVal.agg.injEq, AVal.str.injEq, AVal.own.injEq, List.cons.injEq]
theorem W_bits_OnesCount {x : Int} {r : Int} (hK : bits_OnesCount x = some r) : Pure Try.prog 135 [.int .u64 x] (.int .i64 r) [] := by
  cases hK; exact bits_OnesCountP x

end Go.SH
