/-
  sets.Check and sets.Write by what they compute, walked. By a program of mine (walk.py). Conditions: none.
-/
import Derived.Test.YthmmjfjlnadojaaAxT
set_option linter.unusedSimpArgs false
set_option linter.unusedVariables false
namespace Go.AX.Try
open Go Go.AX Go.Proofs

def chk (n s : Int) : Int := if n < 0 ∨ 8 < n ∨ s < 0 ∨ 2 ^ n.toNat ≤ s then 1 else 0
set_option maxHeartbeats 4000000 in
theorem sets_Check (n s : Int) : Pure Try.prog 49 [.int .i64 n, .int .i64 s] (.int .i64 (chk n s)) [] := by
  refine Pure_introF tab_ok (n := 21) (l := [.tmp 4]) Try.func49 rfl rfl rfl (by simp) fun hfact w0 => ?_
  simp only [factL1, fact1, fact0, factL0, lo, hi, maxLen, and_true] at hfact
  obtain ⟨_, _⟩ := hfact
  refine AWP_seq ?_
  refine AWP_rg tab_ok [0, 1] fun c st' hr => ?_
  simp only [go_sem, maxLen, Prod.mk.injEq, reduceIte, reduceCtorEq, Nat.reduceEqDiff, Nat.reduceLT, Nat.reduceLeDiff, Nat.reduceBEq, Nat.reduceAdd, Nat.reduceMul, Nat.reduceSub, Nat.reducePow, Nat.zero_le, Int.reduceLE, Int.reduceLT, Int.reduceNeg, Int.reduceToNat, Int.reduceAdd, Int.reduceSub] at hr
  obtain ⟨rfl, rfl⟩ := hr
  refine ⟨by first | (with_reducible rfl) | (simp only [Bool.and_eq_true, decide_eq_true_eq, List.length_append, List.length_cons, List.length_nil, true_and, and_true, List.length_map]; done) | (simp only [Bool.and_eq_true, decide_eq_true_eq, List.length_append, List.length_cons, List.length_nil, true_and, and_true, List.length_map]; omega) | (simp; done) | (simp; omega), ?_⟩
  with_reducible refine thenC_normal ?_
  refine AWP_seq ?_
  refine AWP_seq ?_
  refine AWP_rg tab_ok [20] fun c st' hr => ?_
  simp only [go_sem, maxLen, Prod.mk.injEq, reduceIte, reduceCtorEq, Nat.reduceEqDiff, Nat.reduceLT, Nat.reduceLeDiff, Nat.reduceBEq, Nat.reduceAdd, Nat.reduceMul, Nat.reduceSub, Nat.reducePow, Nat.zero_le, Int.reduceLE, Int.reduceLT, Int.reduceNeg, Int.reduceToNat, Int.reduceAdd, Int.reduceSub] at hr
  obtain ⟨rfl, rfl⟩ := hr
  refine ⟨by simp; omega, ?_⟩
  with_reducible refine thenC_normal ?_
  refine AWP_cond rfl (fun hb0 => ?_) (fun hb0 => ?_)
  ·
    try simp only [Bool.or_eq_true, Bool.and_eq_true, Bool.or_eq_false_iff, Bool.and_eq_false_iff, Bool.not_eq_true', Bool.not_eq_false', decide_eq_true_eq, decide_eq_false_iff_not] at hb0
    refine AWP_seq ?_
    refine AWP_rg tab_ok [4] fun c st' hr => ?_
    simp only [go_sem, maxLen, Prod.mk.injEq, reduceIte, reduceCtorEq, Nat.reduceEqDiff, Nat.reduceLT, Nat.reduceLeDiff, Nat.reduceBEq, Nat.reduceAdd, Nat.reduceMul, Nat.reduceSub, Nat.reducePow, Nat.zero_le, Int.reduceLE, Int.reduceLT, Int.reduceNeg, Int.reduceToNat, Int.reduceAdd, Int.reduceSub] at hr
    obtain ⟨rfl, rfl⟩ := hr
    refine ⟨by first | (with_reducible rfl) | (simp only [Bool.and_eq_true, decide_eq_true_eq, List.length_append, List.length_cons, List.length_nil, true_and, and_true, List.length_map]; done) | (simp only [Bool.and_eq_true, decide_eq_true_eq, List.length_append, List.length_cons, List.length_nil, true_and, and_true, List.length_map]; omega) | (simp; done) | (simp; omega), ?_⟩
    with_reducible refine thenC_normal ?_
    refine AWP_ret ?_
    with_reducible refine thenC_ret ?_
    refine EndsR0 (.inl rfl) (of_decide_eq_true rfl) fun c x hr => ?_
    simp only [go_sem, maxLen, Prod.mk.injEq, reduceIte, reduceCtorEq, Nat.reduceEqDiff, Nat.reduceLT, Nat.reduceLeDiff, Nat.reduceBEq, Nat.reduceAdd, Nat.reduceMul, Nat.reduceSub, Nat.reducePow, Nat.zero_le, Int.reduceLE, Int.reduceLT, Int.reduceNeg, Int.reduceToNat, Int.reduceAdd, Int.reduceSub] at hr
    obtain ⟨rfl, rfl⟩ := hr
    refine ⟨rfl, ?_⟩
    simp only [go_sem, maxLen, Prod.mk.injEq, reduceIte, reduceCtorEq, Nat.reduceEqDiff, Nat.reduceLT, Nat.reduceLeDiff, Nat.reduceBEq, Nat.reduceAdd, Nat.reduceMul, Nat.reduceSub, Nat.reducePow, Nat.zero_le, Int.reduceLE, Int.reduceLT, Int.reduceNeg, Int.reduceToNat, Int.reduceAdd, Int.reduceSub, and_true, true_and, AVal.int.injEq, AVal.bool.injEq, AVal.tup.injEq, AVal.agg.injEq, AVal.str.injEq, AVal.own.injEq, List.cons.injEq]
    unfold chk; rw [if_pos (by omega)]
  ·
    try simp only [Bool.or_eq_true, Bool.and_eq_true, Bool.or_eq_false_iff, Bool.and_eq_false_iff, Bool.not_eq_true', Bool.not_eq_false', decide_eq_true_eq, decide_eq_false_iff_not] at hb0
    refine AWP_skip ?_
    with_reducible refine thenC_normal ?_
    refine AWP_seq ?_
    refine AWP_rg tab_ok [4] fun c st' hr => ?_
    simp only [go_sem, maxLen, Prod.mk.injEq, reduceIte, reduceCtorEq, Nat.reduceEqDiff, Nat.reduceLT, Nat.reduceLeDiff, Nat.reduceBEq, Nat.reduceAdd, Nat.reduceMul, Nat.reduceSub, Nat.reducePow, Nat.zero_le, Int.reduceLE, Int.reduceLT, Int.reduceNeg, Int.reduceToNat, Int.reduceAdd, Int.reduceSub] at hr
    obtain ⟨rfl, rfl⟩ := hr
    refine ⟨by first | (with_reducible rfl) | (simp only [Bool.and_eq_true, decide_eq_true_eq, List.length_append, List.length_cons, List.length_nil, true_and, and_true, List.length_map]; done) | (simp only [Bool.and_eq_true, decide_eq_true_eq, List.length_append, List.length_cons, List.length_nil, true_and, and_true, List.length_map]; omega) | (simp; done) | (simp; omega), ?_⟩
    with_reducible refine thenC_normal ?_
    refine AWP_ret ?_
    refine EndsR0 (.inl rfl) (of_decide_eq_true rfl) fun c x hr => ?_
    simp only [go_sem, maxLen, Prod.mk.injEq, reduceIte, reduceCtorEq, Nat.reduceEqDiff, Nat.reduceLT, Nat.reduceLeDiff, Nat.reduceBEq, Nat.reduceAdd, Nat.reduceMul, Nat.reduceSub, Nat.reducePow, Nat.zero_le, Int.reduceLE, Int.reduceLT, Int.reduceNeg, Int.reduceToNat, Int.reduceAdd, Int.reduceSub] at hr
    obtain ⟨rfl, rfl⟩ := hr
    refine ⟨rfl, ?_⟩
    simp only [go_sem, maxLen, Prod.mk.injEq, reduceIte, reduceCtorEq, Nat.reduceEqDiff, Nat.reduceLT, Nat.reduceLeDiff, Nat.reduceBEq, Nat.reduceAdd, Nat.reduceMul, Nat.reduceSub, Nat.reducePow, Nat.zero_le, Int.reduceLE, Int.reduceLT, Int.reduceNeg, Int.reduceToNat, Int.reduceAdd, Int.reduceSub, and_true, true_and, AVal.int.injEq, AVal.bool.injEq, AVal.tup.injEq, AVal.agg.injEq, AVal.str.injEq, AVal.own.injEq, List.cons.injEq]
    unfold chk; rw [if_neg (by omega)]


/-- The text of a set, its first i elements looked at, as numbers. -/
def wr (s : Int) : Nat → List Int
  | 0 => []
  | i + 1 => if iand (s / 2 ^ i) 1 = 1 then (if 0 < (wr s i).length then wr s i ++ [32] ++ [48 + (i : Int)] else wr s i ++ [48 + (i : Int)]) else wr s i
def wrT (s : Int) : List UInt8 := if chk 8 s = 0 then (wr s 8).map fun n => UInt8.ofNat n.toNat else []
theorem wr_len (s : Int) (i : Nat) : (wr s i).length ≤ 2 * i := by
  induction i with
  | zero => simp [wr]
  | succ i ih => simp only [wr]; split <;> (try split) <;> (try simp) <;> omega


set_option maxHeartbeats 4000000 in
theorem sets_Write (s : Int) : Pure Try.prog 14 [.int .i64 s] (.tup [.str (wrT s), .int .i64 (chk 8 s)]) [] := by
  refine Pure_introF tab_ok (n := 35) (l := [.tmp 2, .tmp 3]) Try.func14 rfl rfl rfl (by simp) fun hfact w0 => ?_
  simp only [factL1, fact1, fact0, factL0, lo, hi, maxLen, and_true] at hfact
  refine AWP_seq ?_
  refine AWP_rg tab_ok [0] fun c st' hr => ?_
  simp only [go_sem, maxLen, Prod.mk.injEq, reduceIte, reduceCtorEq, Nat.reduceEqDiff, Nat.reduceLT, Nat.reduceLeDiff, Nat.reduceBEq, Nat.reduceAdd, Nat.reduceMul, Nat.reduceSub, Nat.reducePow, Nat.zero_le, Int.reduceLE, Int.reduceLT, Int.reduceNeg, Int.reduceToNat, Int.reduceAdd, Int.reduceSub] at hr
  obtain ⟨rfl, rfl⟩ := hr
  refine ⟨by first | (with_reducible rfl) | (simp only [Bool.and_eq_true, decide_eq_true_eq, List.length_append, List.length_cons, List.length_nil, true_and, and_true, List.length_map]; done) | (simp only [Bool.and_eq_true, decide_eq_true_eq, List.length_append, List.length_cons, List.length_nil, true_and, and_true, List.length_map]; omega) | (simp; done) | (simp; omega), ?_⟩
  with_reducible refine thenC_normal ?_
  refine AWP_seq ?_
  refine AWP_seq ?_
  refine AWP_rl ?_
  refine AWPL_rn tab_ok 1 [0, 7] fun c st' hr => ?_
  simp only [go_sem, maxLen, Prod.mk.injEq, reduceIte, reduceCtorEq, Nat.reduceEqDiff, Nat.reduceLT, Nat.reduceLeDiff, Nat.reduceBEq, Nat.reduceAdd, Nat.reduceMul, Nat.reduceSub, Nat.reducePow, Nat.zero_le, Int.reduceLE, Int.reduceLT, Int.reduceNeg, Int.reduceToNat, Int.reduceAdd, Int.reduceSub] at hr
  obtain ⟨rfl, rfl⟩ := hr
  refine ⟨by first | (with_reducible rfl) | (simp only [Bool.and_eq_true, decide_eq_true_eq, List.length_append, List.length_cons, List.length_nil, true_and, and_true, List.length_map]; done) | (simp only [Bool.and_eq_true, decide_eq_true_eq, List.length_append, List.length_cons, List.length_nil, true_and, and_true, List.length_map]; omega) | (simp; done) | (simp; omega), ?_⟩
  refine AWPL_callK [0, 8] (sets_Check _ _) rfl rfl (by first | rfl | simp only [go_sem, maxLen, Prod.mk.injEq, reduceIte, reduceCtorEq, Nat.reduceEqDiff, Nat.reduceLT, Nat.reduceLeDiff, Nat.reduceBEq, Nat.reduceAdd, Nat.reduceMul, Nat.reduceSub, Nat.reducePow, Nat.zero_le, Int.reduceLE, Int.reduceLT, Int.reduceNeg, Int.reduceToNat, Int.reduceAdd, Int.reduceSub]) rfl Try.call49 (.cons (.atom _ rfl) (.cons (.atom _ rfl) .nil)) (by first | rfl | simp only [go_sem, maxLen, Prod.mk.injEq, reduceIte, reduceCtorEq, Nat.reduceEqDiff, Nat.reduceLT, Nat.reduceLeDiff, Nat.reduceBEq, Nat.reduceAdd, Nat.reduceMul, Nat.reduceSub, Nat.reducePow, Nat.zero_le, Int.reduceLE, Int.reduceLT, Int.reduceNeg, Int.reduceToNat, Int.reduceAdd, Int.reduceSub]) (of_decide_eq_true rfl) (by first | rfl | simp [nI, nI1, nI0]) (by first | rfl | simp [nIB]) fun st' hr => ?_
  simp only [go_sem, maxLen, Prod.mk.injEq, reduceIte, reduceCtorEq, Nat.reduceEqDiff, Nat.reduceLT, Nat.reduceLeDiff, Nat.reduceBEq, Nat.reduceAdd, Nat.reduceMul, Nat.reduceSub, Nat.reducePow, Nat.zero_le, Int.reduceLE, Int.reduceLT, Int.reduceNeg, Int.reduceToNat, Int.reduceAdd, Int.reduceSub] at hr
  subst hr
  refine AWPL_rn tab_ok 1 [0, 4] fun c st' hr => ?_
  simp only [go_sem, maxLen, Prod.mk.injEq, reduceIte, reduceCtorEq, Nat.reduceEqDiff, Nat.reduceLT, Nat.reduceLeDiff, Nat.reduceBEq, Nat.reduceAdd, Nat.reduceMul, Nat.reduceSub, Nat.reducePow, Nat.zero_le, Int.reduceLE, Int.reduceLT, Int.reduceNeg, Int.reduceToNat, Int.reduceAdd, Int.reduceSub] at hr
  obtain ⟨rfl, rfl⟩ := hr
  refine ⟨by first | (with_reducible rfl) | (simp only [Bool.and_eq_true, decide_eq_true_eq, List.length_append, List.length_cons, List.length_nil, true_and, and_true, List.length_map]; done) | (simp only [Bool.and_eq_true, decide_eq_true_eq, List.length_append, List.length_cons, List.length_nil, true_and, and_true, List.length_map]; omega) | (simp; done) | (simp; omega), ?_⟩
  refine AWPL_nil ?_
  with_reducible refine thenC_normal ?_
  refine AWP_seq ?_
  refine AWP_rg tab_ok [0, 4, 10] fun c st' hr => ?_
  simp only [go_sem, maxLen, Prod.mk.injEq, reduceIte, reduceCtorEq, Nat.reduceEqDiff, Nat.reduceLT, Nat.reduceLeDiff, Nat.reduceBEq, Nat.reduceAdd, Nat.reduceMul, Nat.reduceSub, Nat.reducePow, Nat.zero_le, Int.reduceLE, Int.reduceLT, Int.reduceNeg, Int.reduceToNat, Int.reduceAdd, Int.reduceSub] at hr
  obtain ⟨rfl, rfl⟩ := hr
  refine ⟨by first | (with_reducible rfl) | (simp only [Bool.and_eq_true, decide_eq_true_eq, List.length_append, List.length_cons, List.length_nil, true_and, and_true, List.length_map]; done) | (simp only [Bool.and_eq_true, decide_eq_true_eq, List.length_append, List.length_cons, List.length_nil, true_and, and_true, List.length_map]; omega) | (simp; done) | (simp; omega), ?_⟩
  with_reducible refine thenC_normal ?_
  refine AWP_cond rfl (fun hb0 => ?_) (fun hb0 => ?_)
  ·
    try simp only [Bool.or_eq_true, Bool.and_eq_true, Bool.or_eq_false_iff, Bool.and_eq_false_iff, Bool.not_eq_true', Bool.not_eq_false', decide_eq_true_eq, decide_eq_false_iff_not] at hb0
    refine AWP_seq ?_
    refine AWP_rg tab_ok [2, 3] fun c st' hr => ?_
    simp only [go_sem, maxLen, Prod.mk.injEq, reduceIte, reduceCtorEq, Nat.reduceEqDiff, Nat.reduceLT, Nat.reduceLeDiff, Nat.reduceBEq, Nat.reduceAdd, Nat.reduceMul, Nat.reduceSub, Nat.reducePow, Nat.zero_le, Int.reduceLE, Int.reduceLT, Int.reduceNeg, Int.reduceToNat, Int.reduceAdd, Int.reduceSub] at hr
    obtain ⟨rfl, rfl⟩ := hr
    refine ⟨by first | (with_reducible rfl) | (simp only [Bool.and_eq_true, decide_eq_true_eq, List.length_append, List.length_cons, List.length_nil, true_and, and_true, List.length_map]; done) | (simp only [Bool.and_eq_true, decide_eq_true_eq, List.length_append, List.length_cons, List.length_nil, true_and, and_true, List.length_map]; omega) | (simp; done) | (simp; omega), ?_⟩
    with_reducible refine thenC_normal ?_
    refine AWP_ret ?_
    with_reducible refine thenC_ret ?_
    refine EndsR0 (.inl rfl) (of_decide_eq_true rfl) fun c x hr => ?_
    simp only [go_sem, maxLen, Prod.mk.injEq, reduceIte, reduceCtorEq, Nat.reduceEqDiff, Nat.reduceLT, Nat.reduceLeDiff, Nat.reduceBEq, Nat.reduceAdd, Nat.reduceMul, Nat.reduceSub, Nat.reducePow, Nat.zero_le, Int.reduceLE, Int.reduceLT, Int.reduceNeg, Int.reduceToNat, Int.reduceAdd, Int.reduceSub] at hr
    obtain ⟨rfl, rfl⟩ := hr
    refine ⟨rfl, ?_⟩
    simp only [go_sem, maxLen, Prod.mk.injEq, reduceIte, reduceCtorEq, Nat.reduceEqDiff, Nat.reduceLT, Nat.reduceLeDiff, Nat.reduceBEq, Nat.reduceAdd, Nat.reduceMul, Nat.reduceSub, Nat.reducePow, Nat.zero_le, Int.reduceLE, Int.reduceLT, Int.reduceNeg, Int.reduceToNat, Int.reduceAdd, Int.reduceSub, and_true, true_and, AVal.int.injEq, AVal.bool.injEq, AVal.tup.injEq, AVal.agg.injEq, AVal.str.injEq, AVal.own.injEq, List.cons.injEq]
    unfold wrT; rw [if_neg (by omega)]
  ·
    try simp only [Bool.or_eq_true, Bool.and_eq_true, Bool.or_eq_false_iff, Bool.and_eq_false_iff, Bool.not_eq_true', Bool.not_eq_false', decide_eq_true_eq, decide_eq_false_iff_not] at hb0
    refine AWP_skip ?_
    with_reducible refine thenC_normal ?_
    refine AWP_seq ?_
    refine AWP_rg tab_ok [0, 5] fun c st' hr => ?_
    simp only [go_sem, maxLen, Prod.mk.injEq, reduceIte, reduceCtorEq, Nat.reduceEqDiff, Nat.reduceLT, Nat.reduceLeDiff, Nat.reduceBEq, Nat.reduceAdd, Nat.reduceMul, Nat.reduceSub, Nat.reducePow, Nat.zero_le, Int.reduceLE, Int.reduceLT, Int.reduceNeg, Int.reduceToNat, Int.reduceAdd, Int.reduceSub] at hr
    obtain ⟨rfl, rfl⟩ := hr
    refine ⟨by first | (with_reducible rfl) | (simp only [Bool.and_eq_true, decide_eq_true_eq, List.length_append, List.length_cons, List.length_nil, true_and, and_true, List.length_map]; done) | (simp only [Bool.and_eq_true, decide_eq_true_eq, List.length_append, List.length_cons, List.length_nil, true_and, and_true, List.length_map]; omega) | (simp; done) | (simp; omega), ?_⟩
    with_reducible refine thenC_normal ?_
    refine AWP_seq ?_
    refine AWP_seq ?_
    refine AWP_rg tab_ok [0, 5, 12] fun c st' hr => ?_
    simp only [go_sem, maxLen, Prod.mk.injEq, reduceIte, reduceCtorEq, Nat.reduceEqDiff, Nat.reduceLT, Nat.reduceLeDiff, Nat.reduceBEq, Nat.reduceAdd, Nat.reduceMul, Nat.reduceSub, Nat.reducePow, Nat.zero_le, Int.reduceLE, Int.reduceLT, Int.reduceNeg, Int.reduceToNat, Int.reduceAdd, Int.reduceSub] at hr
    obtain ⟨rfl, rfl⟩ := hr
    refine ⟨by first | (with_reducible rfl) | (simp only [Bool.and_eq_true, decide_eq_true_eq, List.length_append, List.length_cons, List.length_nil, true_and, and_true, List.length_map]; done) | (simp only [Bool.and_eq_true, decide_eq_true_eq, List.length_append, List.length_cons, List.length_nil, true_and, and_true, List.length_map]; omega) | (simp; done) | (simp; omega), ?_⟩
    with_reducible refine thenC_normal ?_
    refine AWP_block ?_
    refine AWP_own 5 (.ints 5 .u8 []) rfl rfl fun st' hr => ?_
    simp only [go_sem, maxLen, Prod.mk.injEq, reduceIte, reduceCtorEq, Nat.reduceEqDiff, Nat.reduceLT, Nat.reduceLeDiff, Nat.reduceBEq, Nat.reduceAdd, Nat.reduceMul, Nat.reduceSub, Nat.reducePow, Nat.zero_le, Int.reduceLE, Int.reduceLT, Int.reduceNeg, Int.reduceToNat, Int.reduceAdd, Int.reduceSub] at hr
    subst hr
    refine AWP_loopS (κ := Nat) (fun k => ⟨35, [(0, .int .i64 s), (5, .own 0 (wr s k).length), (12, .int .i64 k)], [some (.ints 5 .u8 (wr s k))]⟩) (fun k => k ≤ 8) (fun k => 8 - k) 0 [0] (by omega) ⟨rfl, of_decide_eq_true rfl, by simp, rfl, by simp [WkS, look, ren, ren1, ren0, renI, wr], by simp [WkH, renI, renB, ren1, ren0, wr]⟩ ?_
    rintro k hC
    have hwl := wr_len s k
    refine AWP_seq ?_
    refine AWP_rg tab_ok [0, 5, 12, 13] fun c st' hr => ?_
    simp only [go_sem, maxLen, Prod.mk.injEq, reduceIte, reduceCtorEq, Nat.reduceEqDiff, Nat.reduceLT, Nat.reduceLeDiff, Nat.reduceBEq, Nat.reduceAdd, Nat.reduceMul, Nat.reduceSub, Nat.reducePow, Nat.zero_le, Int.reduceLE, Int.reduceLT, Int.reduceNeg, Int.reduceToNat, Int.reduceAdd, Int.reduceSub] at hr
    obtain ⟨rfl, rfl⟩ := hr
    refine ⟨by first | (with_reducible rfl) | (simp only [Bool.and_eq_true, decide_eq_true_eq, List.length_append, List.length_cons, List.length_nil, true_and, and_true, List.length_map]; done) | (simp only [Bool.and_eq_true, decide_eq_true_eq, List.length_append, List.length_cons, List.length_nil, true_and, and_true, List.length_map]; omega) | (simp; done) | (simp; omega), ?_⟩
    with_reducible refine thenC_normal ?_
    refine AWP_seq ?_
    refine AWP_cond rfl (fun hb1 => ?_) (fun hb1 => ?_)
    ·
      try simp only [Bool.or_eq_true, Bool.and_eq_true, Bool.or_eq_false_iff, Bool.and_eq_false_iff, Bool.not_eq_true', Bool.not_eq_false', decide_eq_true_eq, decide_eq_false_iff_not] at hb1
      refine AWP_skip ?_
      with_reducible refine thenC_normal ?_
      refine AWP_seq ?_
      refine AWP_block ?_
      refine AWP_seq ?_
      refine AWP_rg tab_ok [0, 5, 6, 12] fun c st' hr => ?_
      simp only [go_sem, maxLen, Prod.mk.injEq, reduceIte, reduceCtorEq, Nat.reduceEqDiff, Nat.reduceLT, Nat.reduceLeDiff, Nat.reduceBEq, Nat.reduceAdd, Nat.reduceMul, Nat.reduceSub, Nat.reducePow, Nat.zero_le, Int.reduceLE, Int.reduceLT, Int.reduceNeg, Int.reduceToNat, Int.reduceAdd, Int.reduceSub] at hr
      obtain ⟨rfl, rfl⟩ := hr
      refine ⟨by first | (with_reducible rfl) | (simp only [Bool.and_eq_true, decide_eq_true_eq, List.length_append, List.length_cons, List.length_nil, true_and, and_true, List.length_map]; done) | (simp only [Bool.and_eq_true, decide_eq_true_eq, List.length_append, List.length_cons, List.length_nil, true_and, and_true, List.length_map]; omega) | (simp; done) | (simp; omega), ?_⟩
      with_reducible refine thenC_normal ?_
      refine AWP_seq ?_
      refine AWP_rg tab_ok [0, 5, 6, 12, 19] fun c st' hr => ?_
      simp only [go_sem, maxLen, Prod.mk.injEq, reduceIte, reduceCtorEq, Nat.reduceEqDiff, Nat.reduceLT, Nat.reduceLeDiff, Nat.reduceBEq, Nat.reduceAdd, Nat.reduceMul, Nat.reduceSub, Nat.reducePow, Nat.zero_le, Int.reduceLE, Int.reduceLT, Int.reduceNeg, Int.reduceToNat, Int.reduceAdd, Int.reduceSub] at hr
      obtain ⟨rfl, rfl⟩ := hr
      refine ⟨by first | (with_reducible rfl) | (simp only [Bool.and_eq_true, decide_eq_true_eq, List.length_append, List.length_cons, List.length_nil, true_and, and_true, List.length_map]; done) | (simp only [Bool.and_eq_true, decide_eq_true_eq, List.length_append, List.length_cons, List.length_nil, true_and, and_true, List.length_map]; omega) | (simp; done) | (simp; omega), ?_⟩
      with_reducible refine thenC_normal ?_
      refine AWP_cond rfl (fun hb2 => ?_) (fun hb2 => ?_)
      ·
        try simp only [Bool.or_eq_true, Bool.and_eq_true, Bool.or_eq_false_iff, Bool.and_eq_false_iff, Bool.not_eq_true', Bool.not_eq_false', decide_eq_true_eq, decide_eq_false_iff_not] at hb2
        refine AWP_seq ?_
        refine AWP_seq ?_
        refine AWP_rg tab_ok [0, 5, 6, 12, 22] fun c st' hr => ?_
        simp only [go_sem, maxLen, Prod.mk.injEq, reduceIte, reduceCtorEq, Nat.reduceEqDiff, Nat.reduceLT, Nat.reduceLeDiff, Nat.reduceBEq, Nat.reduceAdd, Nat.reduceMul, Nat.reduceSub, Nat.reducePow, Nat.zero_le, Int.reduceLE, Int.reduceLT, Int.reduceNeg, Int.reduceToNat, Int.reduceAdd, Int.reduceSub] at hr
        obtain ⟨rfl, rfl⟩ := hr
        refine ⟨by first | (with_reducible rfl) | (simp only [Bool.and_eq_true, decide_eq_true_eq, List.length_append, List.length_cons, List.length_nil, true_and, and_true, List.length_map]; done) | (simp only [Bool.and_eq_true, decide_eq_true_eq, List.length_append, List.length_cons, List.length_nil, true_and, and_true, List.length_map]; omega) | (simp; done) | (simp; omega), ?_⟩
        with_reducible refine thenC_normal ?_
        refine AWP_cond rfl (fun hb3 => ?_) (fun hb3 => ?_)
        ·
          try simp only [Bool.or_eq_true, Bool.and_eq_true, Bool.or_eq_false_iff, Bool.and_eq_false_iff, Bool.not_eq_true', Bool.not_eq_false', decide_eq_true_eq, decide_eq_false_iff_not] at hb3
          refine AWP_rg tab_ok [0, 5, 6, 12] fun c st' hr => ?_
          simp only [go_sem, maxLen, Prod.mk.injEq, reduceIte, reduceCtorEq, Nat.reduceEqDiff, Nat.reduceLT, Nat.reduceLeDiff, Nat.reduceBEq, Nat.reduceAdd, Nat.reduceMul, Nat.reduceSub, Nat.reducePow, Nat.zero_le, Int.reduceLE, Int.reduceLT, Int.reduceNeg, Int.reduceToNat, Int.reduceAdd, Int.reduceSub] at hr
          obtain ⟨rfl, rfl⟩ := hr
          refine ⟨by first | (with_reducible rfl) | (simp only [Bool.and_eq_true, decide_eq_true_eq, List.length_append, List.length_cons, List.length_nil, true_and, and_true, List.length_map]; done) | (simp only [Bool.and_eq_true, decide_eq_true_eq, List.length_append, List.length_cons, List.length_nil, true_and, and_true, List.length_map]; omega) | (simp; done) | (simp; omega), ?_⟩
          with_reducible refine thenC_normal ?_
          refine AWP_rg tab_ok [0, 5, 12] fun c st' hr => ?_
          simp only [go_sem, maxLen, Prod.mk.injEq, reduceIte, reduceCtorEq, Nat.reduceEqDiff, Nat.reduceLT, Nat.reduceLeDiff, Nat.reduceBEq, Nat.reduceAdd, Nat.reduceMul, Nat.reduceSub, Nat.reducePow, Nat.zero_le, Int.reduceLE, Int.reduceLT, Int.reduceNeg, Int.reduceToNat, Int.reduceAdd, Int.reduceSub] at hr
          obtain ⟨rfl, rfl⟩ := hr
          refine ⟨by first | (with_reducible rfl) | (simp only [Bool.and_eq_true, decide_eq_true_eq, List.length_append, List.length_cons, List.length_nil, true_and, and_true, List.length_map]; done) | (simp only [Bool.and_eq_true, decide_eq_true_eq, List.length_append, List.length_cons, List.length_nil, true_and, and_true, List.length_map]; omega) | (simp; done) | (simp; omega), ?_⟩
          with_reducible refine inBlockA_normal (thenC_normal ?_)
          refine AWP_rg tab_ok [0, 5, 12] fun c st' hr => ?_
          simp only [go_sem, maxLen, Prod.mk.injEq, reduceIte, reduceCtorEq, Nat.reduceEqDiff, Nat.reduceLT, Nat.reduceLeDiff, Nat.reduceBEq, Nat.reduceAdd, Nat.reduceMul, Nat.reduceSub, Nat.reducePow, Nat.zero_le, Int.reduceLE, Int.reduceLT, Int.reduceNeg, Int.reduceToNat, Int.reduceAdd, Int.reduceSub] at hr
          obtain ⟨rfl, rfl⟩ := hr
          refine ⟨by first | (with_reducible rfl) | (simp only [Bool.and_eq_true, decide_eq_true_eq, List.length_append, List.length_cons, List.length_nil, true_and, and_true, List.length_map]; done) | (simp only [Bool.and_eq_true, decide_eq_true_eq, List.length_append, List.length_cons, List.length_nil, true_and, and_true, List.length_map]; omega) | (simp; done) | (simp; omega), ?_⟩
          refine loop_again (k + 1) ([4]) (by omega) (by omega) ⟨rfl, of_decide_eq_true rfl, by simp, rfl, ?_, ?_⟩
          · simp only [WkS, go_sem, maxLen, Prod.mk.injEq, reduceIte, reduceCtorEq, Nat.reduceEqDiff, Nat.reduceLT, Nat.reduceLeDiff, Nat.reduceBEq, Nat.reduceAdd, Nat.reduceMul, Nat.reduceSub, Nat.reducePow, Nat.zero_le, Int.reduceLE, Int.reduceLT, Int.reduceNeg, Int.reduceToNat, Int.reduceAdd, Int.reduceSub, and_true, true_and, or_false, true_or, or_true, AVal.int.injEq, AVal.bool.injEq, AVal.tup.injEq, AVal.agg.injEq, AVal.str.injEq, AVal.own.injEq, AVal.ints.injEq, List.cons.injEq, Option.some.injEq, Blk.ints.injEq, Blk.gen.injEq]
            rw [wr, if_pos hb2, if_pos (by omega)]; simp
          · simp only [WkH, go_sem, maxLen, Prod.mk.injEq, reduceIte, reduceCtorEq, Nat.reduceEqDiff, Nat.reduceLT, Nat.reduceLeDiff, Nat.reduceBEq, Nat.reduceAdd, Nat.reduceMul, Nat.reduceSub, Nat.reducePow, Nat.zero_le, Int.reduceLE, Int.reduceLT, Int.reduceNeg, Int.reduceToNat, Int.reduceAdd, Int.reduceSub, and_true, true_and, or_false, true_or, or_true, AVal.int.injEq, AVal.bool.injEq, AVal.tup.injEq, AVal.agg.injEq, AVal.str.injEq, AVal.own.injEq, AVal.ints.injEq, List.cons.injEq, Option.some.injEq, Blk.ints.injEq, Blk.gen.injEq]
            rw [wr, if_pos hb2, if_pos (by omega)]
        ·
          try simp only [Bool.or_eq_true, Bool.and_eq_true, Bool.or_eq_false_iff, Bool.and_eq_false_iff, Bool.not_eq_true', Bool.not_eq_false', decide_eq_true_eq, decide_eq_false_iff_not] at hb3
          refine AWP_skip ?_
          with_reducible refine thenC_normal ?_
          refine AWP_rg tab_ok [0, 5, 12] fun c st' hr => ?_
          simp only [go_sem, maxLen, Prod.mk.injEq, reduceIte, reduceCtorEq, Nat.reduceEqDiff, Nat.reduceLT, Nat.reduceLeDiff, Nat.reduceBEq, Nat.reduceAdd, Nat.reduceMul, Nat.reduceSub, Nat.reducePow, Nat.zero_le, Int.reduceLE, Int.reduceLT, Int.reduceNeg, Int.reduceToNat, Int.reduceAdd, Int.reduceSub] at hr
          obtain ⟨rfl, rfl⟩ := hr
          refine ⟨by first | (with_reducible rfl) | (simp only [Bool.and_eq_true, decide_eq_true_eq, List.length_append, List.length_cons, List.length_nil, true_and, and_true, List.length_map]; done) | (simp only [Bool.and_eq_true, decide_eq_true_eq, List.length_append, List.length_cons, List.length_nil, true_and, and_true, List.length_map]; omega) | (simp; done) | (simp; omega), ?_⟩
          with_reducible refine inBlockA_normal (thenC_normal ?_)
          refine AWP_rg tab_ok [0, 5, 12] fun c st' hr => ?_
          simp only [go_sem, maxLen, Prod.mk.injEq, reduceIte, reduceCtorEq, Nat.reduceEqDiff, Nat.reduceLT, Nat.reduceLeDiff, Nat.reduceBEq, Nat.reduceAdd, Nat.reduceMul, Nat.reduceSub, Nat.reducePow, Nat.zero_le, Int.reduceLE, Int.reduceLT, Int.reduceNeg, Int.reduceToNat, Int.reduceAdd, Int.reduceSub] at hr
          obtain ⟨rfl, rfl⟩ := hr
          refine ⟨by first | (with_reducible rfl) | (simp only [Bool.and_eq_true, decide_eq_true_eq, List.length_append, List.length_cons, List.length_nil, true_and, and_true, List.length_map]; done) | (simp only [Bool.and_eq_true, decide_eq_true_eq, List.length_append, List.length_cons, List.length_nil, true_and, and_true, List.length_map]; omega) | (simp; done) | (simp; omega), ?_⟩
          refine loop_again (k + 1) ([2]) (by omega) (by omega) ⟨rfl, of_decide_eq_true rfl, by simp, rfl, ?_, ?_⟩
          · simp only [WkS, go_sem, maxLen, Prod.mk.injEq, reduceIte, reduceCtorEq, Nat.reduceEqDiff, Nat.reduceLT, Nat.reduceLeDiff, Nat.reduceBEq, Nat.reduceAdd, Nat.reduceMul, Nat.reduceSub, Nat.reducePow, Nat.zero_le, Int.reduceLE, Int.reduceLT, Int.reduceNeg, Int.reduceToNat, Int.reduceAdd, Int.reduceSub, and_true, true_and, or_false, true_or, or_true, AVal.int.injEq, AVal.bool.injEq, AVal.tup.injEq, AVal.agg.injEq, AVal.str.injEq, AVal.own.injEq, AVal.ints.injEq, List.cons.injEq, Option.some.injEq, Blk.ints.injEq, Blk.gen.injEq]
            rw [wr, if_pos hb2, if_neg (by omega)]; simp
          · simp only [WkH, go_sem, maxLen, Prod.mk.injEq, reduceIte, reduceCtorEq, Nat.reduceEqDiff, Nat.reduceLT, Nat.reduceLeDiff, Nat.reduceBEq, Nat.reduceAdd, Nat.reduceMul, Nat.reduceSub, Nat.reducePow, Nat.zero_le, Int.reduceLE, Int.reduceLT, Int.reduceNeg, Int.reduceToNat, Int.reduceAdd, Int.reduceSub, and_true, true_and, or_false, true_or, or_true, AVal.int.injEq, AVal.bool.injEq, AVal.tup.injEq, AVal.agg.injEq, AVal.str.injEq, AVal.own.injEq, AVal.ints.injEq, List.cons.injEq, Option.some.injEq, Blk.ints.injEq, Blk.gen.injEq]
            rw [wr, if_pos hb2, if_neg (by omega)]
      ·
        try simp only [Bool.or_eq_true, Bool.and_eq_true, Bool.or_eq_false_iff, Bool.and_eq_false_iff, Bool.not_eq_true', Bool.not_eq_false', decide_eq_true_eq, decide_eq_false_iff_not] at hb2
        refine AWP_skip ?_
        with_reducible refine inBlockA_normal (thenC_normal ?_)
        refine AWP_rg tab_ok [0, 5, 12] fun c st' hr => ?_
        simp only [go_sem, maxLen, Prod.mk.injEq, reduceIte, reduceCtorEq, Nat.reduceEqDiff, Nat.reduceLT, Nat.reduceLeDiff, Nat.reduceBEq, Nat.reduceAdd, Nat.reduceMul, Nat.reduceSub, Nat.reducePow, Nat.zero_le, Int.reduceLE, Int.reduceLT, Int.reduceNeg, Int.reduceToNat, Int.reduceAdd, Int.reduceSub] at hr
        obtain ⟨rfl, rfl⟩ := hr
        refine ⟨by first | (with_reducible rfl) | (simp only [Bool.and_eq_true, decide_eq_true_eq, List.length_append, List.length_cons, List.length_nil, true_and, and_true, List.length_map]; done) | (simp only [Bool.and_eq_true, decide_eq_true_eq, List.length_append, List.length_cons, List.length_nil, true_and, and_true, List.length_map]; omega) | (simp; done) | (simp; omega), ?_⟩
        refine loop_again (k + 1) ([0]) (by omega) (by omega) ⟨rfl, of_decide_eq_true rfl, by simp, rfl, ?_, ?_⟩
        · simp only [WkS, go_sem, maxLen, Prod.mk.injEq, reduceIte, reduceCtorEq, Nat.reduceEqDiff, Nat.reduceLT, Nat.reduceLeDiff, Nat.reduceBEq, Nat.reduceAdd, Nat.reduceMul, Nat.reduceSub, Nat.reducePow, Nat.zero_le, Int.reduceLE, Int.reduceLT, Int.reduceNeg, Int.reduceToNat, Int.reduceAdd, Int.reduceSub, and_true, true_and, or_false, true_or, or_true, AVal.int.injEq, AVal.bool.injEq, AVal.tup.injEq, AVal.agg.injEq, AVal.str.injEq, AVal.own.injEq, AVal.ints.injEq, List.cons.injEq, Option.some.injEq, Blk.ints.injEq, Blk.gen.injEq]
          rw [wr, if_neg hb2]; simp
        · simp only [WkH, go_sem, maxLen, Prod.mk.injEq, reduceIte, reduceCtorEq, Nat.reduceEqDiff, Nat.reduceLT, Nat.reduceLeDiff, Nat.reduceBEq, Nat.reduceAdd, Nat.reduceMul, Nat.reduceSub, Nat.reducePow, Nat.zero_le, Int.reduceLE, Int.reduceLT, Int.reduceNeg, Int.reduceToNat, Int.reduceAdd, Int.reduceSub, and_true, true_and, or_false, true_or, or_true, AVal.int.injEq, AVal.bool.injEq, AVal.tup.injEq, AVal.agg.injEq, AVal.str.injEq, AVal.own.injEq, AVal.ints.injEq, List.cons.injEq, Option.some.injEq, Blk.ints.injEq, Blk.gen.injEq]
          rw [wr, if_neg hb2]
    ·
      try simp only [Bool.or_eq_true, Bool.and_eq_true, Bool.or_eq_false_iff, Bool.and_eq_false_iff, Bool.not_eq_true', Bool.not_eq_false', decide_eq_true_eq, decide_eq_false_iff_not] at hb1
      refine AWP_exit ?_
      with_reducible refine thenC_exit (loopC_exit (inBlockA_exit (thenC_normal ?_)))
      refine AWP_seq ?_
      refine AWP_rg tab_ok [2, 3] fun c st' hr => ?_
      simp only [go_sem, maxLen, Prod.mk.injEq, reduceIte, reduceCtorEq, Nat.reduceEqDiff, Nat.reduceLT, Nat.reduceLeDiff, Nat.reduceBEq, Nat.reduceAdd, Nat.reduceMul, Nat.reduceSub, Nat.reducePow, Nat.zero_le, Int.reduceLE, Int.reduceLT, Int.reduceNeg, Int.reduceToNat, Int.reduceAdd, Int.reduceSub] at hr
      obtain ⟨rfl, rfl⟩ := hr
      refine ⟨by first | (with_reducible rfl) | (simp only [Bool.and_eq_true, decide_eq_true_eq, List.length_append, List.length_cons, List.length_nil, true_and, and_true, List.length_map]; done) | (simp only [Bool.and_eq_true, decide_eq_true_eq, List.length_append, List.length_cons, List.length_nil, true_and, and_true, List.length_map]; omega) | (simp; done) | (simp; omega), ?_⟩
      with_reducible refine thenC_normal ?_
      refine AWP_ret ?_
      refine EndsR0 (.inl rfl) (of_decide_eq_true rfl) fun c x hr => ?_
      simp only [go_sem, maxLen, Prod.mk.injEq, reduceIte, reduceCtorEq, Nat.reduceEqDiff, Nat.reduceLT, Nat.reduceLeDiff, Nat.reduceBEq, Nat.reduceAdd, Nat.reduceMul, Nat.reduceSub, Nat.reducePow, Nat.zero_le, Int.reduceLE, Int.reduceLT, Int.reduceNeg, Int.reduceToNat, Int.reduceAdd, Int.reduceSub] at hr
      obtain ⟨rfl, rfl⟩ := hr
      refine ⟨rfl, ?_⟩
      simp only [go_sem, maxLen, Prod.mk.injEq, reduceIte, reduceCtorEq, Nat.reduceEqDiff, Nat.reduceLT, Nat.reduceLeDiff, Nat.reduceBEq, Nat.reduceAdd, Nat.reduceMul, Nat.reduceSub, Nat.reducePow, Nat.zero_le, Int.reduceLE, Int.reduceLT, Int.reduceNeg, Int.reduceToNat, Int.reduceAdd, Int.reduceSub, and_true, true_and, AVal.int.injEq, AVal.bool.injEq, AVal.tup.injEq, AVal.agg.injEq, AVal.str.injEq, AVal.own.injEq, List.cons.injEq]
      have : k = 8 := by omega
      subst this; unfold wrT; rw [if_pos hb0]; exact ⟨rfl, hb0⟩
end Go.AX.Try