/-
  sets.Read by what it computes, walked. By a program of mine (walk.py). Conditions: none.
-/
import Derived.Test.YthmmjfjlnadojaaW1
set_option linter.unusedSimpArgs false
set_option linter.unusedVariables false
namespace Go.AX.Try
open Go Go.AX Go.Proofs


/-- What is read of a text from the place at on: the set, the code, the place. -/
def rdGo (t : List UInt8) : Nat → Nat → Int → Int → Int × Int × Int
  | 0, _, s, _ => if 0 < t.length ∧ t.length % 2 = 0 then (0, 4, t.length) else (s, 0, 0)
  | f + 1, a, s, l =>
    if a % 2 = 1 then (if (t.getD a 0).toNat ≠ 32 ∨ l = 7 then (0, 4, a) else rdGo t f (a + 1) s l)
    else if ((t.getD a 0).toNat : Int) - 48 ≤ l ∨ 8 ≤ ((t.getD a 0).toNat : Int) - 48 then (0, 4, a) else rdGo t f (a + 1) (ior s (2 ^ (((t.getD a 0).toNat : Int) - 48).toNat)) (((t.getD a 0).toNat : Int) - 48)
def rd (t : List UInt8) : Int × Int × Int := rdGo t t.length 0 0 (-1)
theorem ior8 : ∀ s : Fin 256, ∀ k : Fin 8, 0 ≤ ior s.val (2 ^ k.val) ∧ ior s.val (2 ^ k.val) < 256 := of_decide_eq_true (by kernel_rfl)
theorem ior_set {s k : Int} (h1 : 0 ≤ s) (h2 : s < 256) (h3 : 0 ≤ k) (h4 : k < 8) : 0 ≤ ior s (2 ^ k.toNat) ∧ ior s (2 ^ k.toNat) < 256 := by
  have := ior8 ⟨s.toNat, by omega⟩ ⟨k.toNat, by omega⟩
  have e : ((s.toNat : Nat) : Int) = s := by omega
  simpa [e] using this


set_option maxHeartbeats 4000000 in
theorem sets_Read (t : List UInt8) : Pure Try.prog 15 [.str t] (.tup [.int .i64 (rd t).1, .agg [.int .i64 (rd t).2.1, .int .i64 (rd t).2.2]]) [] := by
  refine Pure_introF tab_ok (n := 60) (l := [.tmp 2, .cell 3 26]) Try.func15 rfl rfl rfl (by simp) fun hfact w0 => ?_
  simp only [factL1, fact1, fact0, factL0, lo, hi, maxLen, and_true] at hfact
  refine AWP_seq ?_
  refine AWP_rg tab_ok [0, 3] fun c st' hr => ?_
  simp only [go_sem, maxLen, Prod.mk.injEq, reduceIte, reduceCtorEq, Nat.reduceEqDiff, Nat.reduceLT, Nat.reduceLeDiff, Nat.reduceBEq, Nat.reduceAdd, Nat.reduceMul, Nat.reduceSub, Nat.reducePow, Nat.zero_le, Int.reduceLE, Int.reduceLT, Int.reduceNeg, Int.reduceToNat, Int.reduceAdd, Int.reduceSub] at hr
  obtain ⟨rfl, rfl⟩ := hr
  refine ⟨by first | (with_reducible rfl) | (simp only [Bool.and_eq_true, decide_eq_true_eq, List.length_append, List.length_cons, List.length_nil, true_and, and_true, List.length_map]; done) | (simp only [Bool.and_eq_true, decide_eq_true_eq, List.length_append, List.length_cons, List.length_nil, true_and, and_true, List.length_map]; omega) | (simp; done) | (simp; omega), ?_⟩
  with_reducible refine thenC_normal ?_
  refine AWP_seq ?_
  refine AWP_rg tab_ok [0, 3, 4, 5] fun c st' hr => ?_
  simp only [go_sem, maxLen, Prod.mk.injEq, reduceIte, reduceCtorEq, Nat.reduceEqDiff, Nat.reduceLT, Nat.reduceLeDiff, Nat.reduceBEq, Nat.reduceAdd, Nat.reduceMul, Nat.reduceSub, Nat.reducePow, Nat.zero_le, Int.reduceLE, Int.reduceLT, Int.reduceNeg, Int.reduceToNat, Int.reduceAdd, Int.reduceSub] at hr
  obtain ⟨rfl, rfl⟩ := hr
  refine ⟨by first | (with_reducible rfl) | (simp only [Bool.and_eq_true, decide_eq_true_eq, List.length_append, List.length_cons, List.length_nil, true_and, and_true, List.length_map]; done) | (simp only [Bool.and_eq_true, decide_eq_true_eq, List.length_append, List.length_cons, List.length_nil, true_and, and_true, List.length_map]; omega) | (simp; done) | (simp; omega), ?_⟩
  with_reducible refine thenC_normal ?_
  refine AWP_seq ?_
  refine AWP_seq ?_
  refine AWP_rg tab_ok [0, 3, 4, 5, 6] fun c st' hr => ?_
  simp only [go_sem, maxLen, Prod.mk.injEq, reduceIte, reduceCtorEq, Nat.reduceEqDiff, Nat.reduceLT, Nat.reduceLeDiff, Nat.reduceBEq, Nat.reduceAdd, Nat.reduceMul, Nat.reduceSub, Nat.reducePow, Nat.zero_le, Int.reduceLE, Int.reduceLT, Int.reduceNeg, Int.reduceToNat, Int.reduceAdd, Int.reduceSub] at hr
  obtain ⟨rfl, rfl⟩ := hr
  refine ⟨by first | (with_reducible rfl) | (simp only [Bool.and_eq_true, decide_eq_true_eq, List.length_append, List.length_cons, List.length_nil, true_and, and_true, List.length_map]; done) | (simp only [Bool.and_eq_true, decide_eq_true_eq, List.length_append, List.length_cons, List.length_nil, true_and, and_true, List.length_map]; omega) | (simp; done) | (simp; omega), ?_⟩
  with_reducible refine thenC_normal ?_
  refine AWP_block ?_
  refine AWP_loopS (κ := Nat × Int × Int) (fun x => ⟨60, [(0, .str t), (3, .ptr 0 0 0), (4, .int .i64 x.2.1), (5, .int .i64 x.2.2), (6, .int .i64 x.1)], [some (.gen 26 2 [[.int .i64 0, .int .i64 0]])]⟩) (fun x => x.1 ≤ t.length ∧ -1 ≤ x.2.2 ∧ x.2.2 < 8 ∧ 0 ≤ x.2.1 ∧ x.2.1 < 256 ∧ rdGo t (t.length - x.1) x.1 x.2.1 x.2.2 = rd t) (fun x => t.length - x.1) (0, 0, -1) [0] (⟨by simp, by simp, by simp, by simp, by simp, rfl⟩) ⟨rfl, of_decide_eq_true rfl, by simp, rfl, by simp [WkS, look, ren, ren1, ren0, renI], by simp [WkH, renI, renB, ren1, ren0]⟩ ?_
  rintro ⟨a, s, l⟩ ⟨hC1, hC2, hC3, hC4, hC5, hC6⟩
  simp only at *
  have hub : (t.getD a 0).toNat < 256 := UInt8.toNat_lt _
  refine AWP_seq ?_
  refine AWP_seq ?_
  refine AWP_rg tab_ok [0, 3, 4, 5, 6, 11] fun c st' hr => ?_
  simp only [go_sem, maxLen, Prod.mk.injEq, reduceIte, reduceCtorEq, Nat.reduceEqDiff, Nat.reduceLT, Nat.reduceLeDiff, Nat.reduceBEq, Nat.reduceAdd, Nat.reduceMul, Nat.reduceSub, Nat.reducePow, Nat.zero_le, Int.reduceLE, Int.reduceLT, Int.reduceNeg, Int.reduceToNat, Int.reduceAdd, Int.reduceSub] at hr
  obtain ⟨rfl, rfl⟩ := hr
  refine ⟨by first | (with_reducible rfl) | (simp only [Bool.and_eq_true, decide_eq_true_eq, List.length_append, List.length_cons, List.length_nil, true_and, and_true, List.length_map]; done) | (simp only [Bool.and_eq_true, decide_eq_true_eq, List.length_append, List.length_cons, List.length_nil, true_and, and_true, List.length_map]; omega) | (simp; done) | (simp; omega), ?_⟩
  with_reducible refine thenC_normal ?_
  refine AWP_cond rfl (fun hb0 => ?_) (fun hb0 => ?_)
  ·
    try simp only [Bool.or_eq_true, Bool.and_eq_true, Bool.or_eq_false_iff, Bool.and_eq_false_iff, Bool.not_eq_true', Bool.not_eq_false', decide_eq_true_eq, decide_eq_false_iff_not] at hb0
    obtain ⟨f, hf⟩ : ∃ f, t.length - a = f + 1 := ⟨t.length - a - 1, by omega⟩
    have hg : t.length - (a + 1) = f := by omega
    rw [hf, rdGo] at hC6
    refine AWP_skip ?_
    with_reducible refine thenC_normal ?_
    refine AWP_seq ?_
    refine AWP_block ?_
    refine AWP_seq ?_
    refine AWP_seq ?_
    refine AWP_rg tab_ok [0, 3, 4, 5, 6, 16] fun c st' hr => ?_
    simp only [go_sem, maxLen, Prod.mk.injEq, reduceIte, reduceCtorEq, Nat.reduceEqDiff, Nat.reduceLT, Nat.reduceLeDiff, Nat.reduceBEq, Nat.reduceAdd, Nat.reduceMul, Nat.reduceSub, Nat.reducePow, Nat.zero_le, Int.reduceLE, Int.reduceLT, Int.reduceNeg, Int.reduceToNat, Int.reduceAdd, Int.reduceSub] at hr
    obtain ⟨rfl, rfl⟩ := hr
    refine ⟨by first | (with_reducible rfl) | (simp only [Bool.and_eq_true, decide_eq_true_eq, List.length_append, List.length_cons, List.length_nil, true_and, and_true, List.length_map]; done) | (simp only [Bool.and_eq_true, decide_eq_true_eq, List.length_append, List.length_cons, List.length_nil, true_and, and_true, List.length_map]; omega) | (simp; done) | (simp; omega), ?_⟩
    with_reducible refine thenC_normal ?_
    refine AWP_cond rfl (fun hb1 => ?_) (fun hb1 => ?_)
    ·
      try simp only [Bool.or_eq_true, Bool.and_eq_true, Bool.or_eq_false_iff, Bool.and_eq_false_iff, Bool.not_eq_true', Bool.not_eq_false', decide_eq_true_eq, decide_eq_false_iff_not] at hb1
      refine AWP_seq ?_
      refine AWP_seq ?_
      refine AWP_rg tab_ok [0, 3, 4, 5, 6, 24] fun c st' hr => ?_
      simp only [go_sem, maxLen, Prod.mk.injEq, reduceIte, reduceCtorEq, Nat.reduceEqDiff, Nat.reduceLT, Nat.reduceLeDiff, Nat.reduceBEq, Nat.reduceAdd, Nat.reduceMul, Nat.reduceSub, Nat.reducePow, Nat.zero_le, Int.reduceLE, Int.reduceLT, Int.reduceNeg, Int.reduceToNat, Int.reduceAdd, Int.reduceSub] at hr
      obtain ⟨rfl, rfl⟩ := hr
      refine ⟨by first | (with_reducible rfl) | (simp only [Bool.and_eq_true, decide_eq_true_eq, List.length_append, List.length_cons, List.length_nil, true_and, and_true, List.length_map]; done) | (simp only [Bool.and_eq_true, decide_eq_true_eq, List.length_append, List.length_cons, List.length_nil, true_and, and_true, List.length_map]; omega) | (simp; done) | (simp; omega), ?_⟩
      with_reducible refine thenC_normal ?_
      refine AWP_cond rfl (fun hb2 => ?_) (fun hb2 => ?_)
      ·
        try simp only [Bool.or_eq_true, Bool.and_eq_true, Bool.or_eq_false_iff, Bool.and_eq_false_iff, Bool.not_eq_true', Bool.not_eq_false', decide_eq_true_eq, decide_eq_false_iff_not] at hb2
        refine AWP_seq ?_
        refine AWP_rg tab_ok [2, 3] fun c st' hr => ?_
        simp only [go_sem, maxLen, Prod.mk.injEq, reduceIte, reduceCtorEq, Nat.reduceEqDiff, Nat.reduceLT, Nat.reduceLeDiff, Nat.reduceBEq, Nat.reduceAdd, Nat.reduceMul, Nat.reduceSub, Nat.reducePow, Nat.zero_le, Int.reduceLE, Int.reduceLT, Int.reduceNeg, Int.reduceToNat, Int.reduceAdd, Int.reduceSub] at hr
        obtain ⟨rfl, rfl⟩ := hr
        refine ⟨by first | (with_reducible rfl) | (simp only [Bool.and_eq_true, decide_eq_true_eq, List.length_append, List.length_cons, List.length_nil, true_and, and_true, List.length_map]; done) | (simp only [Bool.and_eq_true, decide_eq_true_eq, List.length_append, List.length_cons, List.length_nil, true_and, and_true, List.length_map]; omega) | (simp; done) | (simp; omega), ?_⟩
        with_reducible refine thenC_normal ?_
        refine AWP_ret ?_
        with_reducible refine thenC_ret (thenC_ret (inBlockA_ret (thenC_ret (loopC_ret (inBlockA_ret (thenC_ret ?_))))))
        refine EndsR0 (.inl rfl) (of_decide_eq_true rfl) fun c x hr => ?_
        simp only [go_sem, maxLen, Prod.mk.injEq, reduceIte, reduceCtorEq, Nat.reduceEqDiff, Nat.reduceLT, Nat.reduceLeDiff, Nat.reduceBEq, Nat.reduceAdd, Nat.reduceMul, Nat.reduceSub, Nat.reducePow, Nat.zero_le, Int.reduceLE, Int.reduceLT, Int.reduceNeg, Int.reduceToNat, Int.reduceAdd, Int.reduceSub] at hr
        obtain ⟨rfl, rfl⟩ := hr
        refine ⟨rfl, ?_⟩
        simp only [go_sem, maxLen, Prod.mk.injEq, reduceIte, reduceCtorEq, Nat.reduceEqDiff, Nat.reduceLT, Nat.reduceLeDiff, Nat.reduceBEq, Nat.reduceAdd, Nat.reduceMul, Nat.reduceSub, Nat.reducePow, Nat.zero_le, Int.reduceLE, Int.reduceLT, Int.reduceNeg, Int.reduceToNat, Int.reduceAdd, Int.reduceSub, and_true, true_and, AVal.int.injEq, AVal.bool.injEq, AVal.tup.injEq, AVal.agg.injEq, AVal.str.injEq, AVal.own.injEq, List.cons.injEq]
        rw [if_pos (by omega), if_pos (by omega)] at hC6; simp [← hC6]
      ·
        try simp only [Bool.or_eq_true, Bool.and_eq_true, Bool.or_eq_false_iff, Bool.and_eq_false_iff, Bool.not_eq_true', Bool.not_eq_false', decide_eq_true_eq, decide_eq_false_iff_not] at hb2
        refine AWP_skip ?_
        with_reducible refine thenC_normal ?_
        refine AWP_exit ?_
        with_reducible refine thenC_exit (inBlockA_exit (thenC_normal ?_))
        refine AWP_rg tab_ok [0, 3, 4, 5, 6] fun c st' hr => ?_
        simp only [go_sem, maxLen, Prod.mk.injEq, reduceIte, reduceCtorEq, Nat.reduceEqDiff, Nat.reduceLT, Nat.reduceLeDiff, Nat.reduceBEq, Nat.reduceAdd, Nat.reduceMul, Nat.reduceSub, Nat.reducePow, Nat.zero_le, Int.reduceLE, Int.reduceLT, Int.reduceNeg, Int.reduceToNat, Int.reduceAdd, Int.reduceSub] at hr
        obtain ⟨rfl, rfl⟩ := hr
        refine ⟨by first | (with_reducible rfl) | (simp only [Bool.and_eq_true, decide_eq_true_eq, List.length_append, List.length_cons, List.length_nil, true_and, and_true, List.length_map]; done) | (simp only [Bool.and_eq_true, decide_eq_true_eq, List.length_append, List.length_cons, List.length_nil, true_and, and_true, List.length_map]; omega) | (simp; done) | (simp; omega), ?_⟩
        refine loop_again ((a + 1, s, l)) ([0]) (⟨by simp only; omega, hC2, hC3, hC4, hC5, by show rdGo t (t.length - (a + 1)) (a + 1) s l = rd t; rw [← hC6, if_pos (by omega), if_neg (by omega), hg]⟩) (by simp only; omega) ⟨rfl, of_decide_eq_true rfl, by simp, rfl, ?_, ?_⟩
        · simp only [WkS, go_sem, maxLen, Prod.mk.injEq, reduceIte, reduceCtorEq, Nat.reduceEqDiff, Nat.reduceLT, Nat.reduceLeDiff, Nat.reduceBEq, Nat.reduceAdd, Nat.reduceMul, Nat.reduceSub, Nat.reducePow, Nat.zero_le, Int.reduceLE, Int.reduceLT, Int.reduceNeg, Int.reduceToNat, Int.reduceAdd, Int.reduceSub, and_true, true_and, or_false, true_or, or_true, AVal.int.injEq, AVal.bool.injEq, AVal.tup.injEq, AVal.agg.injEq, AVal.str.injEq, AVal.own.injEq, AVal.ints.injEq, List.cons.injEq, Option.some.injEq, Blk.ints.injEq, Blk.gen.injEq]
          first | done | omega | trivial
        · simp only [WkH, go_sem, maxLen, Prod.mk.injEq, reduceIte, reduceCtorEq, Nat.reduceEqDiff, Nat.reduceLT, Nat.reduceLeDiff, Nat.reduceBEq, Nat.reduceAdd, Nat.reduceMul, Nat.reduceSub, Nat.reducePow, Nat.zero_le, Int.reduceLE, Int.reduceLT, Int.reduceNeg, Int.reduceToNat, Int.reduceAdd, Int.reduceSub, and_true, true_and, or_false, true_or, or_true, AVal.int.injEq, AVal.bool.injEq, AVal.tup.injEq, AVal.agg.injEq, AVal.str.injEq, AVal.own.injEq, AVal.ints.injEq, List.cons.injEq, Option.some.injEq, Blk.ints.injEq, Blk.gen.injEq]
    ·
      try simp only [Bool.or_eq_true, Bool.and_eq_true, Bool.or_eq_false_iff, Bool.and_eq_false_iff, Bool.not_eq_true', Bool.not_eq_false', decide_eq_true_eq, decide_eq_false_iff_not] at hb1
      refine AWP_skip ?_
      with_reducible refine thenC_normal ?_
      refine AWP_seq ?_
      refine AWP_rg tab_ok [0, 3, 4, 5, 6, 7] fun c st' hr => ?_
      simp only [go_sem, maxLen, Prod.mk.injEq, reduceIte, reduceCtorEq, Nat.reduceEqDiff, Nat.reduceLT, Nat.reduceLeDiff, Nat.reduceBEq, Nat.reduceAdd, Nat.reduceMul, Nat.reduceSub, Nat.reducePow, Nat.zero_le, Int.reduceLE, Int.reduceLT, Int.reduceNeg, Int.reduceToNat, Int.reduceAdd, Int.reduceSub] at hr
      obtain ⟨rfl, rfl⟩ := hr
      refine ⟨by first | (with_reducible rfl) | (simp only [Bool.and_eq_true, decide_eq_true_eq, List.length_append, List.length_cons, List.length_nil, true_and, and_true, List.length_map]; done) | (simp only [Bool.and_eq_true, decide_eq_true_eq, List.length_append, List.length_cons, List.length_nil, true_and, and_true, List.length_map]; omega) | (simp; done) | (simp; omega), ?_⟩
      with_reducible refine thenC_normal ?_
      refine AWP_seq ?_
      refine AWP_seq ?_
      refine AWP_rg tab_ok [0, 3, 4, 6, 7, 38] fun c st' hr => ?_
      simp only [go_sem, maxLen, Prod.mk.injEq, reduceIte, reduceCtorEq, Nat.reduceEqDiff, Nat.reduceLT, Nat.reduceLeDiff, Nat.reduceBEq, Nat.reduceAdd, Nat.reduceMul, Nat.reduceSub, Nat.reducePow, Nat.zero_le, Int.reduceLE, Int.reduceLT, Int.reduceNeg, Int.reduceToNat, Int.reduceAdd, Int.reduceSub] at hr
      obtain ⟨rfl, rfl⟩ := hr
      refine ⟨by first | (with_reducible rfl) | (simp only [Bool.and_eq_true, decide_eq_true_eq, List.length_append, List.length_cons, List.length_nil, true_and, and_true, List.length_map]; done) | (simp only [Bool.and_eq_true, decide_eq_true_eq, List.length_append, List.length_cons, List.length_nil, true_and, and_true, List.length_map]; omega) | (simp; done) | (simp; omega), ?_⟩
      with_reducible refine thenC_normal ?_
      refine AWP_cond rfl (fun hb3 => ?_) (fun hb3 => ?_)
      ·
        try simp only [Bool.or_eq_true, Bool.and_eq_true, Bool.or_eq_false_iff, Bool.and_eq_false_iff, Bool.not_eq_true', Bool.not_eq_false', decide_eq_true_eq, decide_eq_false_iff_not] at hb3
        refine AWP_seq ?_
        refine AWP_rg tab_ok [2, 3] fun c st' hr => ?_
        simp only [go_sem, maxLen, Prod.mk.injEq, reduceIte, reduceCtorEq, Nat.reduceEqDiff, Nat.reduceLT, Nat.reduceLeDiff, Nat.reduceBEq, Nat.reduceAdd, Nat.reduceMul, Nat.reduceSub, Nat.reducePow, Nat.zero_le, Int.reduceLE, Int.reduceLT, Int.reduceNeg, Int.reduceToNat, Int.reduceAdd, Int.reduceSub] at hr
        obtain ⟨rfl, rfl⟩ := hr
        refine ⟨by first | (with_reducible rfl) | (simp only [Bool.and_eq_true, decide_eq_true_eq, List.length_append, List.length_cons, List.length_nil, true_and, and_true, List.length_map]; done) | (simp only [Bool.and_eq_true, decide_eq_true_eq, List.length_append, List.length_cons, List.length_nil, true_and, and_true, List.length_map]; omega) | (simp; done) | (simp; omega), ?_⟩
        with_reducible refine thenC_normal ?_
        refine AWP_ret ?_
        with_reducible refine thenC_ret (inBlockA_ret (thenC_ret (loopC_ret (inBlockA_ret (thenC_ret ?_)))))
        refine EndsR0 (.inl rfl) (of_decide_eq_true rfl) fun c x hr => ?_
        simp only [go_sem, maxLen, Prod.mk.injEq, reduceIte, reduceCtorEq, Nat.reduceEqDiff, Nat.reduceLT, Nat.reduceLeDiff, Nat.reduceBEq, Nat.reduceAdd, Nat.reduceMul, Nat.reduceSub, Nat.reducePow, Nat.zero_le, Int.reduceLE, Int.reduceLT, Int.reduceNeg, Int.reduceToNat, Int.reduceAdd, Int.reduceSub] at hr
        obtain ⟨rfl, rfl⟩ := hr
        refine ⟨rfl, ?_⟩
        simp only [go_sem, maxLen, Prod.mk.injEq, reduceIte, reduceCtorEq, Nat.reduceEqDiff, Nat.reduceLT, Nat.reduceLeDiff, Nat.reduceBEq, Nat.reduceAdd, Nat.reduceMul, Nat.reduceSub, Nat.reducePow, Nat.zero_le, Int.reduceLE, Int.reduceLT, Int.reduceNeg, Int.reduceToNat, Int.reduceAdd, Int.reduceSub, and_true, true_and, AVal.int.injEq, AVal.bool.injEq, AVal.tup.injEq, AVal.agg.injEq, AVal.str.injEq, AVal.own.injEq, List.cons.injEq]
        rw [if_neg (by omega), if_pos (by omega)] at hC6; simp [← hC6]
      ·
        try simp only [Bool.or_eq_true, Bool.and_eq_true, Bool.or_eq_false_iff, Bool.and_eq_false_iff, Bool.not_eq_true', Bool.not_eq_false', decide_eq_true_eq, decide_eq_false_iff_not] at hb3
        refine AWP_skip ?_
        with_reducible refine thenC_normal ?_
        refine AWP_seq ?_
        refine AWP_rg tab_ok [0, 3, 4, 6, 7] fun c st' hr => ?_
        simp only [go_sem, maxLen, Prod.mk.injEq, reduceIte, reduceCtorEq, Nat.reduceEqDiff, Nat.reduceLT, Nat.reduceLeDiff, Nat.reduceBEq, Nat.reduceAdd, Nat.reduceMul, Nat.reduceSub, Nat.reducePow, Nat.zero_le, Int.reduceLE, Int.reduceLT, Int.reduceNeg, Int.reduceToNat, Int.reduceAdd, Int.reduceSub] at hr
        obtain ⟨rfl, rfl⟩ := hr
        refine ⟨by first | (with_reducible rfl) | (simp only [Bool.and_eq_true, decide_eq_true_eq, List.length_append, List.length_cons, List.length_nil, true_and, and_true, List.length_map]; done) | (simp only [Bool.and_eq_true, decide_eq_true_eq, List.length_append, List.length_cons, List.length_nil, true_and, and_true, List.length_map]; omega) | (simp; done) | (simp; omega), ?_⟩
        with_reducible refine thenC_normal ?_
        refine AWP_rg tab_ok [0, 3, 4, 5, 6] fun c st' hr => ?_
        simp only [go_sem, maxLen, Prod.mk.injEq, reduceIte, reduceCtorEq, Nat.reduceEqDiff, Nat.reduceLT, Nat.reduceLeDiff, Nat.reduceBEq, Nat.reduceAdd, Nat.reduceMul, Nat.reduceSub, Nat.reducePow, Nat.zero_le, Int.reduceLE, Int.reduceLT, Int.reduceNeg, Int.reduceToNat, Int.reduceAdd, Int.reduceSub] at hr
        obtain ⟨rfl, rfl⟩ := hr
        refine ⟨by first | (with_reducible rfl) | (simp only [Bool.and_eq_true, decide_eq_true_eq, List.length_append, List.length_cons, List.length_nil, true_and, and_true, List.length_map]; done) | (simp only [Bool.and_eq_true, decide_eq_true_eq, List.length_append, List.length_cons, List.length_nil, true_and, and_true, List.length_map]; omega) | (simp; done) | (simp; omega), ?_⟩
        with_reducible refine inBlockA_normal (thenC_normal ?_)
        refine AWP_rg tab_ok [0, 3, 4, 5, 6] fun c st' hr => ?_
        simp only [go_sem, maxLen, Prod.mk.injEq, reduceIte, reduceCtorEq, Nat.reduceEqDiff, Nat.reduceLT, Nat.reduceLeDiff, Nat.reduceBEq, Nat.reduceAdd, Nat.reduceMul, Nat.reduceSub, Nat.reducePow, Nat.zero_le, Int.reduceLE, Int.reduceLT, Int.reduceNeg, Int.reduceToNat, Int.reduceAdd, Int.reduceSub] at hr
        obtain ⟨rfl, rfl⟩ := hr
        refine ⟨by first | (with_reducible rfl) | (simp only [Bool.and_eq_true, decide_eq_true_eq, List.length_append, List.length_cons, List.length_nil, true_and, and_true, List.length_map]; done) | (simp only [Bool.and_eq_true, decide_eq_true_eq, List.length_append, List.length_cons, List.length_nil, true_and, and_true, List.length_map]; omega) | (simp; done) | (simp; omega), ?_⟩
        refine loop_again ((a + 1, ior s (2 ^ (((t.getD a 0).toNat : Int) - 48).toNat), ((t.getD a 0).toNat : Int) - 48)) ([0]) (⟨by simp only; omega, by simp only; omega, by simp only; omega, (ior_set hC4 hC5 (by omega) (by omega)).1, (ior_set hC4 hC5 (by omega) (by omega)).2, by show rdGo t (t.length - (a + 1)) (a + 1) _ _ = rd t; rw [← hC6, if_neg (by omega), if_neg (by omega), hg]⟩) (by simp only; omega) ⟨rfl, of_decide_eq_true rfl, by simp, rfl, ?_, ?_⟩
        · simp only [WkS, go_sem, maxLen, Prod.mk.injEq, reduceIte, reduceCtorEq, Nat.reduceEqDiff, Nat.reduceLT, Nat.reduceLeDiff, Nat.reduceBEq, Nat.reduceAdd, Nat.reduceMul, Nat.reduceSub, Nat.reducePow, Nat.zero_le, Int.reduceLE, Int.reduceLT, Int.reduceNeg, Int.reduceToNat, Int.reduceAdd, Int.reduceSub, and_true, true_and, or_false, true_or, or_true, AVal.int.injEq, AVal.bool.injEq, AVal.tup.injEq, AVal.agg.injEq, AVal.str.injEq, AVal.own.injEq, AVal.ints.injEq, List.cons.injEq, Option.some.injEq, Blk.ints.injEq, Blk.gen.injEq]
          first | done | omega | trivial
        · simp only [WkH, go_sem, maxLen, Prod.mk.injEq, reduceIte, reduceCtorEq, Nat.reduceEqDiff, Nat.reduceLT, Nat.reduceLeDiff, Nat.reduceBEq, Nat.reduceAdd, Nat.reduceMul, Nat.reduceSub, Nat.reducePow, Nat.zero_le, Int.reduceLE, Int.reduceLT, Int.reduceNeg, Int.reduceToNat, Int.reduceAdd, Int.reduceSub, and_true, true_and, or_false, true_or, or_true, AVal.int.injEq, AVal.bool.injEq, AVal.tup.injEq, AVal.agg.injEq, AVal.str.injEq, AVal.own.injEq, AVal.ints.injEq, List.cons.injEq, Option.some.injEq, Blk.ints.injEq, Blk.gen.injEq]
  ·
    try simp only [Bool.or_eq_true, Bool.and_eq_true, Bool.or_eq_false_iff, Bool.and_eq_false_iff, Bool.not_eq_true', Bool.not_eq_false', decide_eq_true_eq, decide_eq_false_iff_not] at hb0
    have hf : t.length - a = 0 := by omega
    rw [hf, rdGo] at hC6
    refine AWP_exit ?_
    with_reducible refine thenC_exit (loopC_exit (inBlockA_exit (thenC_normal ?_)))
    refine AWP_seq ?_
    refine AWP_seq ?_
    refine AWP_rg tab_ok [0, 3, 4, 54] fun c st' hr => ?_
    simp only [go_sem, maxLen, Prod.mk.injEq, reduceIte, reduceCtorEq, Nat.reduceEqDiff, Nat.reduceLT, Nat.reduceLeDiff, Nat.reduceBEq, Nat.reduceAdd, Nat.reduceMul, Nat.reduceSub, Nat.reducePow, Nat.zero_le, Int.reduceLE, Int.reduceLT, Int.reduceNeg, Int.reduceToNat, Int.reduceAdd, Int.reduceSub] at hr
    obtain ⟨rfl, rfl⟩ := hr
    refine ⟨by first | (with_reducible rfl) | (simp only [Bool.and_eq_true, decide_eq_true_eq, List.length_append, List.length_cons, List.length_nil, true_and, and_true, List.length_map]; done) | (simp only [Bool.and_eq_true, decide_eq_true_eq, List.length_append, List.length_cons, List.length_nil, true_and, and_true, List.length_map]; omega) | (simp; done) | (simp; omega), ?_⟩
    with_reducible refine thenC_normal ?_
    refine AWP_cond rfl (fun hb4 => ?_) (fun hb4 => ?_)
    ·
      try simp only [Bool.or_eq_true, Bool.and_eq_true, Bool.or_eq_false_iff, Bool.and_eq_false_iff, Bool.not_eq_true', Bool.not_eq_false', decide_eq_true_eq, decide_eq_false_iff_not] at hb4
      refine AWP_seq ?_
      refine AWP_rg tab_ok [2, 3] fun c st' hr => ?_
      simp only [go_sem, maxLen, Prod.mk.injEq, reduceIte, reduceCtorEq, Nat.reduceEqDiff, Nat.reduceLT, Nat.reduceLeDiff, Nat.reduceBEq, Nat.reduceAdd, Nat.reduceMul, Nat.reduceSub, Nat.reducePow, Nat.zero_le, Int.reduceLE, Int.reduceLT, Int.reduceNeg, Int.reduceToNat, Int.reduceAdd, Int.reduceSub] at hr
      obtain ⟨rfl, rfl⟩ := hr
      refine ⟨by first | (with_reducible rfl) | (simp only [Bool.and_eq_true, decide_eq_true_eq, List.length_append, List.length_cons, List.length_nil, true_and, and_true, List.length_map]; done) | (simp only [Bool.and_eq_true, decide_eq_true_eq, List.length_append, List.length_cons, List.length_nil, true_and, and_true, List.length_map]; omega) | (simp; done) | (simp; omega), ?_⟩
      with_reducible refine thenC_normal ?_
      refine AWP_ret ?_
      with_reducible refine thenC_ret ?_
      refine EndsR0 (.inl rfl) (of_decide_eq_true rfl) fun c x hr => ?_
      simp only [go_sem, maxLen, Prod.mk.injEq, reduceIte, reduceCtorEq, Nat.reduceEqDiff, Nat.reduceLT, Nat.reduceLeDiff, Nat.reduceBEq, Nat.reduceAdd, Nat.reduceMul, Nat.reduceSub, Nat.reducePow, Nat.zero_le, Int.reduceLE, Int.reduceLT, Int.reduceNeg, Int.reduceToNat, Int.reduceAdd, Int.reduceSub] at hr
      obtain ⟨rfl, rfl⟩ := hr
      refine ⟨rfl, ?_⟩
      simp only [go_sem, maxLen, Prod.mk.injEq, reduceIte, reduceCtorEq, Nat.reduceEqDiff, Nat.reduceLT, Nat.reduceLeDiff, Nat.reduceBEq, Nat.reduceAdd, Nat.reduceMul, Nat.reduceSub, Nat.reducePow, Nat.zero_le, Int.reduceLE, Int.reduceLT, Int.reduceNeg, Int.reduceToNat, Int.reduceAdd, Int.reduceSub, and_true, true_and, AVal.int.injEq, AVal.bool.injEq, AVal.tup.injEq, AVal.agg.injEq, AVal.str.injEq, AVal.own.injEq, List.cons.injEq]
      rw [if_pos (by omega)] at hC6; simp [← hC6]
    ·
      try simp only [Bool.or_eq_true, Bool.and_eq_true, Bool.or_eq_false_iff, Bool.and_eq_false_iff, Bool.not_eq_true', Bool.not_eq_false', decide_eq_true_eq, decide_eq_false_iff_not] at hb4
      refine AWP_skip ?_
      with_reducible refine thenC_normal ?_
      refine AWP_seq ?_
      refine AWP_rg tab_ok [2, 3] fun c st' hr => ?_
      simp only [go_sem, maxLen, Prod.mk.injEq, reduceIte, reduceCtorEq, Nat.reduceEqDiff, Nat.reduceLT, Nat.reduceLeDiff, Nat.reduceBEq, Nat.reduceAdd, Nat.reduceMul, Nat.reduceSub, Nat.reducePow, Nat.zero_le, Int.reduceLE, Int.reduceLT, Int.reduceNeg, Int.reduceToNat, Int.reduceAdd, Int.reduceSub] at hr
      obtain ⟨rfl, rfl⟩ := hr
      refine ⟨by first | (with_reducible rfl) | (simp only [Bool.and_eq_true, decide_eq_true_eq, List.length_append, List.length_cons, List.length_nil, true_and, and_true, List.length_map]; done) | (simp only [Bool.and_eq_true, decide_eq_true_eq, List.length_append, List.length_cons, List.length_nil, true_and, and_true, List.length_map]; omega) | (simp; done) | (simp; omega), ?_⟩
      with_reducible refine thenC_normal ?_
      refine AWP_ret ?_
      refine EndsR0 (.inl rfl) (of_decide_eq_true rfl) fun c x hr => ?_
      simp only [go_sem, maxLen, Prod.mk.injEq, reduceIte, reduceCtorEq, Nat.reduceEqDiff, Nat.reduceLT, Nat.reduceLeDiff, Nat.reduceBEq, Nat.reduceAdd, Nat.reduceMul, Nat.reduceSub, Nat.reducePow, Nat.zero_le, Int.reduceLE, Int.reduceLT, Int.reduceNeg, Int.reduceToNat, Int.reduceAdd, Int.reduceSub] at hr
      obtain ⟨rfl, rfl⟩ := hr
      refine ⟨rfl, ?_⟩
      simp only [go_sem, maxLen, Prod.mk.injEq, reduceIte, reduceCtorEq, Nat.reduceEqDiff, Nat.reduceLT, Nat.reduceLeDiff, Nat.reduceBEq, Nat.reduceAdd, Nat.reduceMul, Nat.reduceSub, Nat.reducePow, Nat.zero_le, Int.reduceLE, Int.reduceLT, Int.reduceNeg, Int.reduceToNat, Int.reduceAdd, Int.reduceSub, and_true, true_and, AVal.int.injEq, AVal.bool.injEq, AVal.tup.injEq, AVal.agg.injEq, AVal.str.injEq, AVal.own.injEq, List.cons.injEq]
      rw [if_neg (by omega)] at hC6; simp [← hC6]
end Go.AX.Try