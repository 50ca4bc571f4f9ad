/-
  That the code computes these functions: codes_Weights_1, codes_each_1, codes_each, codes_Weights, codes_Distance. By a program of mine (shal.py). Conditions: none.
-/
import Derived.Test.YtabhcjpjoknihaaAxT
import Derived.Test.YtabhcjpjoknihaaAxR
import Derived.Test.YtabhcjpjoknihaaAxFj
import Derived.Test.YtabhcjpjoknihaaAxGc
import Derived.Test.YtabhcjpjoknihaaAxCy
import Derived.Test.YtabhcjpjoknihaaAxOp
import Derived.Test.YtabhcjpjoknihaaSp
import Derived.Test.YtabhcjpjoknihaaWpfield
import Derived.Test.YtabhcjpjoknihaaWpkindsm
set_option linter.unusedVariables false
set_option linter.unusedSimpArgs false
namespace Go.SH
open Go Go.AX Go.AX.Try Go.Proofs

set_option maxRecDepth 8000 in
set_option maxHeartbeats 4000000 in
theorem W_codes_Weights_1 {w : List Int} {q0 : List Int} {r : List Int} (hK : codes_Weights_1 w q0 = some r) : InG Try.prog 146 [(.gen 35 1 [[.own 1 q0.length]]), (.ints 3 .i64 q0)] 1 (fun ls => match ls with | [pl0] => [.ints .i64 w, .ptr 0 0 0] | _ => []) (.tup []) [(.gen 35 1 [[.own 1 r.length]]), (.ints 3 .i64 r)] := by
  refine InG_intro tab_ok (n := 23) (l := []) Try.func146 rfl rfl rfl (fun ls => by first | (split <;> simp) | simp) (of_decide_eq_true rfl) (of_decide_eq_true rfl) rfl rfl rfl (by simp [renB, ren0, renI, List.range, List.range.loop]) (of_decide_eq_true rfl) (of_decide_eq_true rfl) fun w0 ls hls => ?_
  obtain ⟨pl0, rfl⟩ : ∃ pl0, ls = [pl0] := by
    match ls, hls with
    | [a], _ => exact ⟨a, rfl⟩
  simp only [pinL, List.map_cons, List.map_nil, List.cons_append, List.nil_append, Nat.zero_add, Nat.reduceAdd]
  unfold codes_Weights_1 at hK
  refine AWP_seq ?_
  -- region 0
  refine AWP_rg tab_ok [0, 1, 3] fun c st' hr => ?_
  simp only [go_sem, reduceIte, reduceCtorEq, Nat.reduceEqDiff, Nat.reduceLT, Nat.reduceLeDiff, Nat.reduceBEq, Nat.reduceAdd, Nat.reduceMul, Nat.reduceSub, Nat.reducePow, Int.reduceLE, Int.reduceLT, Int.reduceNeg, Int.reduceToNat, Int.reduceAdd, Int.reduceSub] at hr
  obtain ⟨rfl, rfl⟩ := hr
  refine ⟨vc, ?_⟩
  with_reducible refine thenC_normal ?_
  refine AWP_seq ?_
  refine AWP_seq ?_
  -- region 1
  refine AWP_rg tab_ok [1, 3, 6, 7, 8] fun c st' hr => ?_
  simp only [go_sem, reduceIte, reduceCtorEq, Nat.reduceEqDiff, Nat.reduceLT, Nat.reduceLeDiff, Nat.reduceBEq, Nat.reduceAdd, Nat.reduceMul, Nat.reduceSub, Nat.reducePow, Int.reduceLE, Int.reduceLT, Int.reduceNeg, Int.reduceToNat, Int.reduceAdd, Int.reduceSub] at hr
  obtain ⟨rfl, rfl⟩ := hr
  refine ⟨vc, ?_⟩
  with_reducible refine thenC_normal ?_
  refine AWP_block ?_
  refine AWP_loopX 0 (fun ((k, v) : Int × Int) => ⟨23, [(1, .ptr 0 0 0), (3, .int .i64 k), (6, .ints .i64 w), (7, .int .i64 (w.length : Int)), (8, .int .i64 v)], [some (.gen 35 1 [[.own 1 q0.length]]), some (.ints 3 .i64 q0), some (.pin 0 pl0)]⟩) (fun (k1 : Int) => ⟨23, [(1, .ptr 0 0 0), (3, .int .i64 k1)], [some (.gen 35 1 [[.own 1 q0.length]]), some (.ints 3 .i64 q0), some (.pin 0 pl0)]⟩) (fun v => v) (0, 0) [0, 1, 2] hK mkWk ?_ ?_
  · clear hK; rintro ⟨k, v⟩ b hK hpost1
    try dsimp only at hK
    change AWP _ _ _ _ ⟨23, [(1, .ptr 0 0 0), (3, .int .i64 k), (6, .ints .i64 w), (7, .int .i64 (w.length : Int)), (8, .int .i64 v)], [some (.gen 35 1 [[.own 1 q0.length]]), some (.ints 3 .i64 q0), some (.pin 0 pl0)]⟩
    refine AWP_seq ?_
    -- region 2
    refine AWP_rg tab_ok [1, 3, 6, 7, 8, 9] fun c st' hr => ?_
    simp only [go_sem, reduceIte, reduceCtorEq, Nat.reduceEqDiff, Nat.reduceLT, Nat.reduceLeDiff, Nat.reduceBEq, Nat.reduceAdd, Nat.reduceMul, Nat.reduceSub, Nat.reducePow, Int.reduceLE, Int.reduceLT, Int.reduceNeg, Int.reduceToNat, Int.reduceAdd, Int.reduceSub] at hr
    obtain ⟨rfl, rfl⟩ := hr
    refine ⟨vc, ?_⟩
    with_reducible refine thenC_normal ?_
    refine AWP_seq ?_
    refine AWP_condP (v < (w.length : Int)) rfl bd (fun hb => ?_) (fun hb => ?_)
    · replace hK := ite_t hK hb
      refine AWP_skip ?_
      with_reducible refine thenC_normal ?_
      refine AWP_seq ?_
      refine AWP_block ?_
      refine AWP_seq ?_
      -- region 3
      replace hK := chk_some hK
      obtain ⟨h, hK⟩ := hK
      refine AWP_rg tab_ok [1, 3, 5, 6, 7, 8] fun c st' hr => ?_
      simp only [go_sem, reduceIte, reduceCtorEq, Nat.reduceEqDiff, Nat.reduceLT, Nat.reduceLeDiff, Nat.reduceBEq, Nat.reduceAdd, Nat.reduceMul, Nat.reduceSub, Nat.reducePow, Int.reduceLE, Int.reduceLT, Int.reduceNeg, Int.reduceToNat, Int.reduceAdd, Int.reduceSub] at hr
      obtain ⟨rfl, rfl⟩ := hr
      refine ⟨vc, ?_⟩
      with_reducible refine thenC_normal ?_
      -- region 4
      replace hK := chk_some hK
      obtain ⟨h1, hK⟩ := hK
      refine AWP_rg tab_ok [1, 3, 6, 7, 8] fun c st' hr => ?_
      simp only [go_sem, reduceIte, reduceCtorEq, Nat.reduceEqDiff, Nat.reduceLT, Nat.reduceLeDiff, Nat.reduceBEq, Nat.reduceAdd, Nat.reduceMul, Nat.reduceSub, Nat.reducePow, Int.reduceLE, Int.reduceLT, Int.reduceNeg, Int.reduceToNat, Int.reduceAdd, Int.reduceSub] at hr
      obtain ⟨rfl, rfl⟩ := hr
      refine ⟨vc, ?_⟩
      with_reducible refine inBlockA_normal (thenC_normal ?_)
      -- region 5
      refine AWP_facts (by simp) fun hfx => ?_
      simp only [factS, factV, fact1, fact0, factL0, lo, hi, maxLen, and_true, true_and] at hfx
      refine AWP_rg tab_ok [1, 3, 6, 7, 8] fun c st' hr => ?_
      simp only [go_sem, reduceIte, reduceCtorEq, Nat.reduceEqDiff, Nat.reduceLT, Nat.reduceLeDiff, Nat.reduceBEq, Nat.reduceAdd, Nat.reduceMul, Nat.reduceSub, Nat.reducePow, Int.reduceLE, Int.reduceLT, Int.reduceNeg, Int.reduceToNat, Int.reduceAdd, Int.reduceSub] at hr
      obtain ⟨rfl, rfl⟩ := hr
      refine ⟨vc, ?_⟩
      clear hfx
      refine again_n (k + (min (w.getD v.toNat 0) 1), v + 1) [0, 1, 2] hK mkWk
    · replace hK := ite_f hK hb
      refine AWP_exit ?_
      with_reducible refine thenC_exit (again_x ?_)
      refine cutX_here k [0, 1, 2] (by have hq := hpost1 _ hK; exact hq) mkWk
  · clear hK; rintro k1 hK
    try dsimp only at hK
    refine exS ⟨23, [(1, .ptr 0 0 0), (3, .int .i64 k1)], [some (.gen 35 1 [[.own 1 q0.length]]), some (.ints 3 .i64 q0), some (.pin 0 pl0)]⟩ rfl ?_
    with_reducible refine inBlockA_exit (thenC_normal ?_)
    -- region 6
    replace hK := chk_some hK
    obtain ⟨h2, hK⟩ := hK
    refine AWP_rg tab_ok [] fun c st' hr => ?_
    simp only [go_sem, reduceIte, reduceCtorEq, Nat.reduceEqDiff, Nat.reduceLT, Nat.reduceLeDiff, Nat.reduceBEq, Nat.reduceAdd, Nat.reduceMul, Nat.reduceSub, Nat.reducePow, Int.reduceLE, Int.reduceLT, Int.reduceNeg, Int.reduceToNat, Int.reduceAdd, Int.reduceSub] at hr
    obtain ⟨rfl, rfl⟩ := hr
    refine ⟨vc, ?_⟩
    cases hK
    refine EndsRW [0, 1, 2] (.inr rfl) (of_decide_eq_true rfl) (by simp) rfl (fun c x hr => ?_) endH
    simp only [go_sem, reduceIte, reduceCtorEq, Nat.reduceEqDiff, Nat.reduceLT, Nat.reduceLeDiff, Nat.reduceBEq, Nat.reduceAdd, Nat.reduceMul, Nat.reduceSub, Nat.reducePow, Int.reduceLE, Int.reduceLT, Int.reduceNeg, Int.reduceToNat, Int.reduceAdd, Int.reduceSub] at hr
    obtain ⟨rfl, rfl⟩ := hr
    exact ⟨rfl, endR⟩

set_option maxRecDepth 8000 in
set_option maxHeartbeats 4000000 in
theorem WS_codes_each_1 {fuel : Nat} (ih : ∀ {k : Int} {c0_0 : Int} {c0_1 : Int} {c0_2 : List (List Int)} {c3_0 : Int} {c3_1 : Int} {c3_2 : List (List Int)} {q0 : List Int} {q1 : List Int} {r : List Int × List Int}, codes_each_1 fuel k c0_0 c0_1 c0_2 c3_0 c3_1 c3_2 q0 q1 = some r → InG Try.prog 149 [(.gen 35 1 [[.own 2 q0.length]]), (.gen 35 1 [[.own 3 q1.length]]), (.ints 3 .i64 q0), (.ints 3 .i64 q1)] 2 (fun ls => match ls with | [pl0, pl1] => [.int .i64 k, .immp [.int .i64 c0_0, .int .i64 c0_1, .fn 1 c0_2.length (fun i => [.ints .i64 (c0_2.getD i [])])], .immp [.func 146 [.abs pl0 0 0]], .ptr 1 0 0, .immp [.int .i64 c3_0, .int .i64 c3_1, .fn 1 c3_2.length (fun i => [.ints .i64 (c3_2.getD i [])])], cycA 149 [.immp [.int .i64 c0_0, .int .i64 c0_1, .fn 1 c0_2.length (fun i => [.ints .i64 (c0_2.getD i [])])], .immp [.func 146 [.abs pl0 0 0]], .abs pl1 0 0, .immp [.int .i64 c3_0, .int .i64 c3_1, .fn 1 c3_2.length (fun i => [.ints .i64 (c3_2.getD i [])])]] fuel] | _ => []) (.tup []) [(.gen 35 1 [[.own 2 r.1.length]]), (.gen 35 1 [[.own 3 r.2.length]]), (.ints 3 .i64 r.1), (.ints 3 .i64 r.2)]) {k : Int} {c0_0 : Int} {c0_1 : Int} {c0_2 : List (List Int)} {c3_0 : Int} {c3_1 : Int} {c3_2 : List (List Int)} {q0 : List Int} {q1 : List Int} {r : List Int × List Int} (hK : codes_each_1 (fuel + 1) k c0_0 c0_1 c0_2 c3_0 c3_1 c3_2 q0 q1 = some r) : InG Try.prog 149 [(.gen 35 1 [[.own 2 q0.length]]), (.gen 35 1 [[.own 3 q1.length]]), (.ints 3 .i64 q0), (.ints 3 .i64 q1)] 2 (fun ls => match ls with | [pl0, pl1] => [.int .i64 k, .immp [.int .i64 c0_0, .int .i64 c0_1, .fn 1 c0_2.length (fun i => [.ints .i64 (c0_2.getD i [])])], .immp [.func 146 [.abs pl0 0 0]], .ptr 1 0 0, .immp [.int .i64 c3_0, .int .i64 c3_1, .fn 1 c3_2.length (fun i => [.ints .i64 (c3_2.getD i [])])], .immp [.func 149 [.immp [.int .i64 c0_0, .int .i64 c0_1, .fn 1 c0_2.length (fun i => [.ints .i64 (c0_2.getD i [])])], .immp [.func 146 [.abs pl0 0 0]], .abs pl1 0 0, .immp [.int .i64 c3_0, .int .i64 c3_1, .fn 1 c3_2.length (fun i => [.ints .i64 (c3_2.getD i [])])], cycA 149 [.immp [.int .i64 c0_0, .int .i64 c0_1, .fn 1 c0_2.length (fun i => [.ints .i64 (c0_2.getD i [])])], .immp [.func 146 [.abs pl0 0 0]], .abs pl1 0 0, .immp [.int .i64 c3_0, .int .i64 c3_1, .fn 1 c3_2.length (fun i => [.ints .i64 (c3_2.getD i [])])]] fuel]]] | _ => []) (.tup []) [(.gen 35 1 [[.own 2 r.1.length]]), (.gen 35 1 [[.own 3 r.2.length]]), (.ints 3 .i64 r.1), (.ints 3 .i64 r.2)] := by
  refine InG_intro tab_ok (n := 50) (l := []) Try.func149 rfl rfl rfl (fun ls => by first | (split <;> simp) | simp) (of_decide_eq_true rfl) (of_decide_eq_true rfl) rfl rfl rfl (by simp [renB, ren0, renI, List.range, List.range.loop]) (of_decide_eq_true rfl) (of_decide_eq_true rfl) fun w0 ls hls => ?_
  obtain ⟨pl0, pl1, rfl⟩ : ∃ pl0 pl1, ls = [pl0, pl1] := by
    match ls, hls with
    | [a, b], _ => exact ⟨a, b, rfl⟩
  simp only [pinL, List.map_cons, List.map_nil, List.cons_append, List.nil_append, Nat.zero_add, Nat.reduceAdd]
  rw [codes_each_1.eq_2] at hK
  refine AWP_seq ?_
  refine AWP_seq ?_
  -- region 0
  refine AWP_rg tab_ok [0, 1, 2, 3, 4, 5, 13] fun c st' hr => ?_
  simp only [go_sem, reduceIte, reduceCtorEq, Nat.reduceEqDiff, Nat.reduceLT, Nat.reduceLeDiff, Nat.reduceBEq, Nat.reduceAdd, Nat.reduceMul, Nat.reduceSub, Nat.reducePow, Int.reduceLE, Int.reduceLT, Int.reduceNeg, Int.reduceToNat, Int.reduceAdd, Int.reduceSub] at hr
  obtain ⟨rfl, rfl⟩ := hr
  refine ⟨vc, ?_⟩
  with_reducible refine thenC_normal ?_
  refine AWP_condP (k = (c0_2.length : Int)) rfl bd (fun hb => ?_) (fun hb => ?_)
  · replace hK := ite_t hK hb
    refine AWP_seq ?_
    -- region 1
    refine AWP_rl ?_
    refine AWPL_rn tab_ok 2 [14, 15] fun c st' hr => ?_
    simp only [go_sem, reduceIte, reduceCtorEq, Nat.reduceEqDiff, Nat.reduceLT, Nat.reduceLeDiff, Nat.reduceBEq, Nat.reduceAdd, Nat.reduceMul, Nat.reduceSub, Nat.reducePow, Int.reduceLE, Int.reduceLT, Int.reduceNeg, Int.reduceToNat, Int.reduceAdd, Int.reduceSub] at hr
    obtain ⟨rfl, rfl⟩ := hr
    refine ⟨vc, ?_⟩
    replace hK := bind_s hK
    obtain ⟨y, hy, hK⟩ := hK
    refine AWPL_gK [] [0, 2] [pl0] [some (.gen 35 1 [[.own 6 ((y).length)]]), some (.gen 35 1 [[.own 3 q1.length]]), none, some (.ints 3 .i64 q1), some (.pin 0 pl0), some (.pin 1 pl1), some (.ints 3 .i64 y)] (W_codes_Weights_1 hy) rfl rfl pcT rfl Try.call146 (of_decide_eq_true rfl) ⟨(by first | rfl | simp [renB, ren0, renI]), (by first | rfl | simp [renB, ren0, renI]), trivial⟩ ⟨⟨4, rfl⟩, trivial⟩ rfl (.cons (.ownI _ _ _ _ _ q1 rfl (by simp) (by first | simp | exact List.take_of_length_le (by simp))) (.abs 0 4 rfl rfl .nil)) (hscG trivial) (of_decide_eq_true rfl) rfl rfl (of_decide_eq_true rfl) rfl fun st' hr => ?_
    simp only [go_sem, reduceIte, reduceCtorEq, Nat.reduceEqDiff, Nat.reduceLT, Nat.reduceLeDiff, Nat.reduceBEq, Nat.reduceAdd, Nat.reduceMul, Nat.reduceSub, Nat.reducePow, Int.reduceLE, Int.reduceLT, Int.reduceNeg, Int.reduceToNat, Int.reduceAdd, Int.reduceSub] at hr
    subst hr
    clear hy
    refine AWPL_nil ?_
    with_reducible refine thenC_normal ?_
    refine AWP_ret ?_
    with_reducible refine thenC_ret ?_
    cases hK
    refine EndsRW [0, 1, 6, 3, 4, 5] (.inl rfl) (of_decide_eq_true rfl) (by simp) rfl (fun c x hr => ?_) endH
    simp only [go_sem, reduceIte, reduceCtorEq, Nat.reduceEqDiff, Nat.reduceLT, Nat.reduceLeDiff, Nat.reduceBEq, Nat.reduceAdd, Nat.reduceMul, Nat.reduceSub, Nat.reducePow, Int.reduceLE, Int.reduceLT, Int.reduceNeg, Int.reduceToNat, Int.reduceAdd, Int.reduceSub] at hr
    obtain ⟨rfl, rfl⟩ := hr
    exact ⟨rfl, endR⟩
  · replace hK := ite_f hK hb
    refine AWP_skip ?_
    with_reducible refine thenC_normal ?_
    refine AWP_seq ?_
    -- region 2
    refine AWP_rg tab_ok [0, 1, 3, 4, 5, 18, 19] fun c st' hr => ?_
    simp only [go_sem, reduceIte, reduceCtorEq, Nat.reduceEqDiff, Nat.reduceLT, Nat.reduceLeDiff, Nat.reduceBEq, Nat.reduceAdd, Nat.reduceMul, Nat.reduceSub, Nat.reducePow, Int.reduceLE, Int.reduceLT, Int.reduceNeg, Int.reduceToNat, Int.reduceAdd, Int.reduceSub] at hr
    obtain ⟨rfl, rfl⟩ := hr
    refine ⟨vc, ?_⟩
    with_reducible refine thenC_normal ?_
    refine AWP_block ?_
    refine AWP_loopX 0 (fun ((q01, q11, v) : List Int × List Int × Int) => ⟨50, [(0, .int .i64 k), (1, .immp [.int .i64 c0_0, .int .i64 c0_1, .fn 1 c0_2.length (fun i => [.ints .i64 (c0_2.getD i [])])]), (3, .ptr 1 0 0), (4, .immp [.int .i64 c3_0, .int .i64 c3_1, .fn 1 c3_2.length (fun i => [.ints .i64 (c3_2.getD i [])])]), (5, .immp [.func 149 [.immp [.int .i64 c0_0, .int .i64 c0_1, .fn 1 c0_2.length (fun i => [.ints .i64 (c0_2.getD i [])])], .immp [.func 146 [.abs pl0 0 0]], .abs pl1 0 0, .immp [.int .i64 c3_0, .int .i64 c3_1, .fn 1 c3_2.length (fun i => [.ints .i64 (c3_2.getD i [])])], cycA 149 [.immp [.int .i64 c0_0, .int .i64 c0_1, .fn 1 c0_2.length (fun i => [.ints .i64 (c0_2.getD i [])])], .immp [.func 146 [.abs pl0 0 0]], .abs pl1 0 0, .immp [.int .i64 c3_0, .int .i64 c3_1, .fn 1 c3_2.length (fun i => [.ints .i64 (c3_2.getD i [])])]] fuel]]), (18, .int .i64 c3_0), (19, .int .i64 v)], [some (.gen 35 1 [[.own 2 q01.length]]), some (.gen 35 1 [[.own 3 q11.length]]), some (.ints 3 .i64 q01), some (.ints 3 .i64 q11), some (.pin 0 pl0), some (.pin 1 pl1)]⟩) (fun ((q02, q12) : List Int × List Int) => ⟨50, [], [some (.gen 35 1 [[.own 2 q02.length]]), some (.gen 35 1 [[.own 3 q12.length]]), some (.ints 3 .i64 q02), some (.ints 3 .i64 q12), some (.pin 0 pl0), some (.pin 1 pl1)]⟩) (fun v => v) (q0, q1, 0) [0, 1, 2, 3, 4, 5] hK mkWk ?_ ?_
    · clear hK; rintro ⟨q01, q11, v⟩ b hK hpost1
      try dsimp only at hK
      change AWP _ _ _ _ ⟨50, [(0, .int .i64 k), (1, .immp [.int .i64 c0_0, .int .i64 c0_1, .fn 1 c0_2.length (fun i => [.ints .i64 (c0_2.getD i [])])]), (3, .ptr 1 0 0), (4, .immp [.int .i64 c3_0, .int .i64 c3_1, .fn 1 c3_2.length (fun i => [.ints .i64 (c3_2.getD i [])])]), (5, .immp [.func 149 [.immp [.int .i64 c0_0, .int .i64 c0_1, .fn 1 c0_2.length (fun i => [.ints .i64 (c0_2.getD i [])])], .immp [.func 146 [.abs pl0 0 0]], .abs pl1 0 0, .immp [.int .i64 c3_0, .int .i64 c3_1, .fn 1 c3_2.length (fun i => [.ints .i64 (c3_2.getD i [])])], cycA 149 [.immp [.int .i64 c0_0, .int .i64 c0_1, .fn 1 c0_2.length (fun i => [.ints .i64 (c0_2.getD i [])])], .immp [.func 146 [.abs pl0 0 0]], .abs pl1 0 0, .immp [.int .i64 c3_0, .int .i64 c3_1, .fn 1 c3_2.length (fun i => [.ints .i64 (c3_2.getD i [])])]] fuel]]), (18, .int .i64 c3_0), (19, .int .i64 v)], [some (.gen 35 1 [[.own 2 q01.length]]), some (.gen 35 1 [[.own 3 q11.length]]), some (.ints 3 .i64 q01), some (.ints 3 .i64 q11), some (.pin 0 pl0), some (.pin 1 pl1)]⟩
      refine AWP_seq ?_
      -- region 3
      refine AWP_rg tab_ok [0, 1, 3, 4, 5, 18, 19, 20] fun c st' hr => ?_
      simp only [go_sem, reduceIte, reduceCtorEq, Nat.reduceEqDiff, Nat.reduceLT, Nat.reduceLeDiff, Nat.reduceBEq, Nat.reduceAdd, Nat.reduceMul, Nat.reduceSub, Nat.reducePow, Int.reduceLE, Int.reduceLT, Int.reduceNeg, Int.reduceToNat, Int.reduceAdd, Int.reduceSub] at hr
      obtain ⟨rfl, rfl⟩ := hr
      refine ⟨vc, ?_⟩
      with_reducible refine thenC_normal ?_
      refine AWP_seq ?_
      refine AWP_condP (v < c3_0) rfl bd (fun hb1 => ?_) (fun hb1 => ?_)
      · replace hK := ite_t hK hb1
        refine AWP_skip ?_
        with_reducible refine thenC_normal ?_
        refine AWP_seq ?_
        refine AWP_block ?_
        refine AWP_seq ?_
        -- region 4
        refine AWP_rl ?_
        replace hK := chk_some hK
        obtain ⟨h, hK⟩ := hK
        refine AWPL_rn tab_ok 3 [0, 1, 3, 4, 5, 18, 19, 21, 23] fun c st' hr => ?_
        simp only [go_sem, reduceIte, reduceCtorEq, Nat.reduceEqDiff, Nat.reduceLT, Nat.reduceLeDiff, Nat.reduceBEq, Nat.reduceAdd, Nat.reduceMul, Nat.reduceSub, Nat.reducePow, Int.reduceLE, Int.reduceLT, Int.reduceNeg, Int.reduceToNat, Int.reduceAdd, Int.reduceSub] at hr
        obtain ⟨rfl, rfl⟩ := hr
        refine ⟨vc, ?_⟩
        replace hK := bind_s hK
        obtain ⟨y1, hy, hK⟩ := hK
        refine AWPL_gK [0, 1, 3, 4, 5, 18, 19] [0, 1, 2, 3] [pl0, pl1] [some (.gen 35 1 [[.own 6 ((y1.1).length)]]), some (.gen 35 1 [[.own 7 ((y1.2).length)]]), none, none, some (.pin 0 pl0), some (.pin 1 pl1), some (.ints 3 .i64 y1.1), some (.ints 3 .i64 y1.2)] (ih hy) rfl rfl pcT rfl Try.call149 (of_decide_eq_true rfl) ⟨(by first | rfl | simp [renB, ren0, renI]), (by first | rfl | simp [renB, ren0, renI]), (by first | rfl | simp [renB, ren0, renI]), (by first | rfl | simp [renB, ren0, renI]), trivial⟩ ⟨⟨4, rfl⟩, ⟨5, rfl⟩, trivial⟩ rfl (.cons (.atom _ rfl) (.cons (.atom _ rfl) (.cons (.atom _ rfl) (.abs 1 5 rfl rfl (.cons (.atom _ rfl) (.cons (ArgOk.cycRefl _ _ _) .nil)))))) (hscG trivial) (of_decide_eq_true rfl) rfl rfl (of_decide_eq_true rfl) rfl fun st' hr => ?_
        simp only [go_sem, reduceIte, reduceCtorEq, Nat.reduceEqDiff, Nat.reduceLT, Nat.reduceLeDiff, Nat.reduceBEq, Nat.reduceAdd, Nat.reduceMul, Nat.reduceSub, Nat.reducePow, Int.reduceLE, Int.reduceLT, Int.reduceNeg, Int.reduceToNat, Int.reduceAdd, Int.reduceSub] at hr
        subst hr
        clear hy
        refine AWPL_nil ?_
        with_reducible refine thenC_normal ?_
        refine AWP_seq ?_
        -- region 5
        replace hK := chk_some hK
        obtain ⟨h1, hK⟩ := hK
        refine AWP_rg tab_ok [0, 1, 3, 4, 5, 18, 19, 29, 30, 31] fun c st' hr => ?_
        simp only [go_sem, reduceIte, reduceCtorEq, Nat.reduceEqDiff, Nat.reduceLT, Nat.reduceLeDiff, Nat.reduceBEq, Nat.reduceAdd, Nat.reduceMul, Nat.reduceSub, Nat.reducePow, Int.reduceLE, Int.reduceLT, Int.reduceNeg, Int.reduceToNat, Int.reduceAdd, Int.reduceSub] at hr
        obtain ⟨rfl, rfl⟩ := hr
        refine ⟨vc, ?_⟩
        with_reducible refine thenC_normal ?_
        refine AWP_block ?_
        refine AWP_loopX 2 (fun ((q13, v1) : List Int × Int) => ⟨50, [(0, .int .i64 k), (1, .immp [.int .i64 c0_0, .int .i64 c0_1, .fn 1 c0_2.length (fun i => [.ints .i64 (c0_2.getD i [])])]), (3, .ptr 1 0 0), (4, .immp [.int .i64 c3_0, .int .i64 c3_1, .fn 1 c3_2.length (fun i => [.ints .i64 (c3_2.getD i [])])]), (5, .immp [.func 149 [.immp [.int .i64 c0_0, .int .i64 c0_1, .fn 1 c0_2.length (fun i => [.ints .i64 (c0_2.getD i [])])], .immp [.func 146 [.abs pl0 0 0]], .abs pl1 0 0, .immp [.int .i64 c3_0, .int .i64 c3_1, .fn 1 c3_2.length (fun i => [.ints .i64 (c3_2.getD i [])])], cycA 149 [.immp [.int .i64 c0_0, .int .i64 c0_1, .fn 1 c0_2.length (fun i => [.ints .i64 (c0_2.getD i [])])], .immp [.func 146 [.abs pl0 0 0]], .abs pl1 0 0, .immp [.int .i64 c3_0, .int .i64 c3_1, .fn 1 c3_2.length (fun i => [.ints .i64 (c3_2.getD i [])])]] fuel]]), (18, .int .i64 c3_0), (19, .int .i64 v), (29, .ints .i64 (c0_2.getD k.toNat [])), (30, .int .i64 ((c0_2.getD k.toNat []).length : Int)), (31, .int .i64 v1)], [some (.gen 35 1 [[.own 2 y1.1.length]]), some (.gen 35 1 [[.own 3 q13.length]]), some (.ints 3 .i64 y1.1), some (.ints 3 .i64 q13), some (.pin 0 pl0), some (.pin 1 pl1)]⟩) (fun (q14 : List Int) => ⟨50, [(0, .int .i64 k), (1, .immp [.int .i64 c0_0, .int .i64 c0_1, .fn 1 c0_2.length (fun i => [.ints .i64 (c0_2.getD i [])])]), (3, .ptr 1 0 0), (4, .immp [.int .i64 c3_0, .int .i64 c3_1, .fn 1 c3_2.length (fun i => [.ints .i64 (c3_2.getD i [])])]), (5, .immp [.func 149 [.immp [.int .i64 c0_0, .int .i64 c0_1, .fn 1 c0_2.length (fun i => [.ints .i64 (c0_2.getD i [])])], .immp [.func 146 [.abs pl0 0 0]], .abs pl1 0 0, .immp [.int .i64 c3_0, .int .i64 c3_1, .fn 1 c3_2.length (fun i => [.ints .i64 (c3_2.getD i [])])], cycA 149 [.immp [.int .i64 c0_0, .int .i64 c0_1, .fn 1 c0_2.length (fun i => [.ints .i64 (c0_2.getD i [])])], .immp [.func 146 [.abs pl0 0 0]], .abs pl1 0 0, .immp [.int .i64 c3_0, .int .i64 c3_1, .fn 1 c3_2.length (fun i => [.ints .i64 (c3_2.getD i [])])]] fuel]]), (18, .int .i64 c3_0), (19, .int .i64 v)], [some (.gen 35 1 [[.own 2 y1.1.length]]), some (.gen 35 1 [[.own 3 q14.length]]), some (.ints 3 .i64 y1.1), some (.ints 3 .i64 q14), some (.pin 0 pl0), some (.pin 1 pl1)]⟩) (fun v => v) (y1.2, 0) [0, 1, 6, 7, 4, 5] hK mkWk ?_ ?_
        · clear hK; rintro ⟨q13, v1⟩ b1 hK hpost2
          try dsimp only at hK
          change AWP _ _ _ _ ⟨50, [(0, .int .i64 k), (1, .immp [.int .i64 c0_0, .int .i64 c0_1, .fn 1 c0_2.length (fun i => [.ints .i64 (c0_2.getD i [])])]), (3, .ptr 1 0 0), (4, .immp [.int .i64 c3_0, .int .i64 c3_1, .fn 1 c3_2.length (fun i => [.ints .i64 (c3_2.getD i [])])]), (5, .immp [.func 149 [.immp [.int .i64 c0_0, .int .i64 c0_1, .fn 1 c0_2.length (fun i => [.ints .i64 (c0_2.getD i [])])], .immp [.func 146 [.abs pl0 0 0]], .abs pl1 0 0, .immp [.int .i64 c3_0, .int .i64 c3_1, .fn 1 c3_2.length (fun i => [.ints .i64 (c3_2.getD i [])])], cycA 149 [.immp [.int .i64 c0_0, .int .i64 c0_1, .fn 1 c0_2.length (fun i => [.ints .i64 (c0_2.getD i [])])], .immp [.func 146 [.abs pl0 0 0]], .abs pl1 0 0, .immp [.int .i64 c3_0, .int .i64 c3_1, .fn 1 c3_2.length (fun i => [.ints .i64 (c3_2.getD i [])])]] fuel]]), (18, .int .i64 c3_0), (19, .int .i64 v), (29, .ints .i64 (c0_2.getD k.toNat [])), (30, .int .i64 ((c0_2.getD k.toNat []).length : Int)), (31, .int .i64 v1)], [some (.gen 35 1 [[.own 2 y1.1.length]]), some (.gen 35 1 [[.own 3 q13.length]]), some (.ints 3 .i64 y1.1), some (.ints 3 .i64 q13), some (.pin 0 pl0), some (.pin 1 pl1)]⟩
          refine AWP_seq ?_
          -- region 6
          refine AWP_rg tab_ok [0, 1, 3, 4, 5, 18, 19, 29, 30, 31, 32] fun c st' hr => ?_
          simp only [go_sem, reduceIte, reduceCtorEq, Nat.reduceEqDiff, Nat.reduceLT, Nat.reduceLeDiff, Nat.reduceBEq, Nat.reduceAdd, Nat.reduceMul, Nat.reduceSub, Nat.reducePow, Int.reduceLE, Int.reduceLT, Int.reduceNeg, Int.reduceToNat, Int.reduceAdd, Int.reduceSub] at hr
          obtain ⟨rfl, rfl⟩ := hr
          refine ⟨vc, ?_⟩
          with_reducible refine thenC_normal ?_
          refine AWP_seq ?_
          refine AWP_condP (v1 < ((c0_2.getD k.toNat []).length : Int)) rfl bd (fun hb2 => ?_) (fun hb2 => ?_)
          · replace hK := ite_t hK hb2
            refine AWP_skip ?_
            with_reducible refine thenC_normal ?_
            refine AWP_seq ?_
            refine AWP_block ?_
            refine AWP_seq ?_
            -- region 7
            replace hK := chk_some hK
            obtain ⟨h2, hK⟩ := hK
            refine AWP_rg tab_ok [0, 1, 3, 4, 5, 7, 8, 18, 19, 29, 30, 31] fun c st' hr => ?_
            simp only [go_sem, reduceIte, reduceCtorEq, Nat.reduceEqDiff, Nat.reduceLT, Nat.reduceLeDiff, Nat.reduceBEq, Nat.reduceAdd, Nat.reduceMul, Nat.reduceSub, Nat.reducePow, Int.reduceLE, Int.reduceLT, Int.reduceNeg, Int.reduceToNat, Int.reduceAdd, Int.reduceSub] at hr
            obtain ⟨rfl, rfl⟩ := hr
            refine ⟨vc, ?_⟩
            with_reducible refine thenC_normal ?_
            -- region 8
            replace hK := chk_some hK
            obtain ⟨h3, hK⟩ := hK
            refine AWP_dt tab_ok 12 [0, 1, 3, 4, 5, 18, 19, 29, 30, 31] mixed (by kernel_rfl) fun c st' hr => ?_
            simp only [go_sem, reduceIte, reduceCtorEq, Nat.reduceEqDiff, Nat.reduceLT, Nat.reduceLeDiff, Nat.reduceBEq, Nat.reduceAdd, Nat.reduceMul, Nat.reduceSub, Nat.reducePow, Int.reduceLE, Int.reduceLT, Int.reduceNeg, Int.reduceToNat, Int.reduceAdd, Int.reduceSub] at hr
            obtain ⟨rfl, rfl⟩ := hr
            refine ⟨vc, ?_⟩
            with_reducible refine inBlockA_normal (thenC_normal ?_)
            -- region 9
            refine AWP_facts (by simp) fun hfx => ?_
            simp only [factS, factV, fact1, fact0, factL0, lo, hi, maxLen, and_true, true_and] at hfx
            refine AWP_rg tab_ok [0, 1, 3, 4, 5, 18, 19, 29, 30, 31] fun c st' hr => ?_
            simp only [go_sem, reduceIte, reduceCtorEq, Nat.reduceEqDiff, Nat.reduceLT, Nat.reduceLeDiff, Nat.reduceBEq, Nat.reduceAdd, Nat.reduceMul, Nat.reduceSub, Nat.reducePow, Int.reduceLE, Int.reduceLT, Int.reduceNeg, Int.reduceToNat, Int.reduceAdd, Int.reduceSub] at hr
            obtain ⟨rfl, rfl⟩ := hr
            refine ⟨vc, ?_⟩
            clear hfx
            refine again_n (q13.set v1.toNat (Int.tmod ((q13.getD v1.toNat 0) + ((c0_2.getD k.toNat []).getD v1.toNat 0)) c3_0), v1 + 1) [0, 1, 2, 3, 4, 5] hK mkWk
          · replace hK := ite_f hK hb2
            refine AWP_exit ?_
            with_reducible refine thenC_exit (again_x ?_)
            refine cutX_here q13 [0, 1, 2, 3, 4, 5] (by have hq := hpost2 _ hK; exact hq) mkWk
        · clear hK; rintro q14 hK
          try dsimp only at hK
          refine exS ⟨50, [(0, .int .i64 k), (1, .immp [.int .i64 c0_0, .int .i64 c0_1, .fn 1 c0_2.length (fun i => [.ints .i64 (c0_2.getD i [])])]), (3, .ptr 1 0 0), (4, .immp [.int .i64 c3_0, .int .i64 c3_1, .fn 1 c3_2.length (fun i => [.ints .i64 (c3_2.getD i [])])]), (5, .immp [.func 149 [.immp [.int .i64 c0_0, .int .i64 c0_1, .fn 1 c0_2.length (fun i => [.ints .i64 (c0_2.getD i [])])], .immp [.func 146 [.abs pl0 0 0]], .abs pl1 0 0, .immp [.int .i64 c3_0, .int .i64 c3_1, .fn 1 c3_2.length (fun i => [.ints .i64 (c3_2.getD i [])])], cycA 149 [.immp [.int .i64 c0_0, .int .i64 c0_1, .fn 1 c0_2.length (fun i => [.ints .i64 (c0_2.getD i [])])], .immp [.func 146 [.abs pl0 0 0]], .abs pl1 0 0, .immp [.int .i64 c3_0, .int .i64 c3_1, .fn 1 c3_2.length (fun i => [.ints .i64 (c3_2.getD i [])])]] fuel]]), (18, .int .i64 c3_0), (19, .int .i64 v)], [some (.gen 35 1 [[.own 2 y1.1.length]]), some (.gen 35 1 [[.own 3 q14.length]]), some (.ints 3 .i64 y1.1), some (.ints 3 .i64 q14), some (.pin 0 pl0), some (.pin 1 pl1)]⟩ rfl ?_
          with_reducible refine inBlockA_exit (inBlockA_normal (thenC_normal ?_))
          -- region 10
          refine AWP_facts (by simp) fun hfx => ?_
          simp only [factS, factV, fact1, fact0, factL0, lo, hi, maxLen, and_true, true_and] at hfx
          refine AWP_rg tab_ok [0, 1, 3, 4, 5, 18, 19] fun c st' hr => ?_
          simp only [go_sem, reduceIte, reduceCtorEq, Nat.reduceEqDiff, Nat.reduceLT, Nat.reduceLeDiff, Nat.reduceBEq, Nat.reduceAdd, Nat.reduceMul, Nat.reduceSub, Nat.reducePow, Int.reduceLE, Int.reduceLT, Int.reduceNeg, Int.reduceToNat, Int.reduceAdd, Int.reduceSub] at hr
          obtain ⟨rfl, rfl⟩ := hr
          refine ⟨vc, ?_⟩
          clear hfx
          refine again_n (y1.1, q14, v + 1) [0, 1, 2, 3, 4, 5] hK mkWk
      · replace hK := ite_f hK hb1
        refine AWP_exit ?_
        with_reducible refine thenC_exit (again_x ?_)
        refine cutX_here (q01, q11) [0, 1, 2, 3, 4, 5] (by have hq := hpost1 _ hK; exact hq) mkWk
    · clear hK; rintro ⟨q02, q12⟩ hK
      try dsimp only at hK
      refine exS ⟨50, [], [some (.gen 35 1 [[.own 2 q02.length]]), some (.gen 35 1 [[.own 3 q12.length]]), some (.ints 3 .i64 q02), some (.ints 3 .i64 q12), some (.pin 0 pl0), some (.pin 1 pl1)]⟩ rfl ?_
      with_reducible refine inBlockA_exit ?_
      cases hK
      refine EndsRW [0, 1, 2, 3, 4, 5] (.inr rfl) (of_decide_eq_true rfl) (by simp) rfl (fun c x hr => ?_) endH
      simp only [go_sem, reduceIte, reduceCtorEq, Nat.reduceEqDiff, Nat.reduceLT, Nat.reduceLeDiff, Nat.reduceBEq, Nat.reduceAdd, Nat.reduceMul, Nat.reduceSub, Nat.reducePow, Int.reduceLE, Int.reduceLT, Int.reduceNeg, Int.reduceToNat, Int.reduceAdd, Int.reduceSub] at hr
      obtain ⟨rfl, rfl⟩ := hr
      exact ⟨rfl, endR⟩

theorem W_codes_each_1 {fuel : Nat} {k : Int} {c0_0 : Int} {c0_1 : Int} {c0_2 : List (List Int)} {c3_0 : Int} {c3_1 : Int} {c3_2 : List (List Int)} {q0 : List Int} {q1 : List Int} {r : List Int × List Int} (hK : codes_each_1 fuel k c0_0 c0_1 c0_2 c3_0 c3_1 c3_2 q0 q1 = some r) : InG Try.prog 149 [(.gen 35 1 [[.own 2 q0.length]]), (.gen 35 1 [[.own 3 q1.length]]), (.ints 3 .i64 q0), (.ints 3 .i64 q1)] 2 (fun ls => match ls with | [pl0, pl1] => [.int .i64 k, .immp [.int .i64 c0_0, .int .i64 c0_1, .fn 1 c0_2.length (fun i => [.ints .i64 (c0_2.getD i [])])], .immp [.func 146 [.abs pl0 0 0]], .ptr 1 0 0, .immp [.int .i64 c3_0, .int .i64 c3_1, .fn 1 c3_2.length (fun i => [.ints .i64 (c3_2.getD i [])])], cycA 149 [.immp [.int .i64 c0_0, .int .i64 c0_1, .fn 1 c0_2.length (fun i => [.ints .i64 (c0_2.getD i [])])], .immp [.func 146 [.abs pl0 0 0]], .abs pl1 0 0, .immp [.int .i64 c3_0, .int .i64 c3_1, .fn 1 c3_2.length (fun i => [.ints .i64 (c3_2.getD i [])])]] fuel] | _ => []) (.tup []) [(.gen 35 1 [[.own 2 r.1.length]]), (.gen 35 1 [[.own 3 r.2.length]]), (.ints 3 .i64 r.1), (.ints 3 .i64 r.2)] := by
  induction fuel generalizing k c0_0 c0_1 c0_2 c3_0 c3_1 c3_2 q0 q1 r with
  | zero => cases hK
  | succ fuel ih => exact WS_codes_each_1 ih hK

set_option maxRecDepth 8000 in
set_option maxHeartbeats 4000000 in
theorem W_codes_each {x_0 : Int} {x_1 : Int} {x_2 : List (List Int)} {q0 : List Int} {r : Int × List Int} (hK : codes_each x_0 x_1 x_2 q0 = some r) : InG Try.prog 82 [(.gen 35 1 [[.own 1 q0.length]]), (.ints 3 .i64 q0)] 1 (fun ls => match ls with | [pl0] => [.agg [.int .i64 x_0, .int .i64 x_1, .fn 1 x_2.length (fun i => [.ints .i64 (x_2.getD i [])])], .func 146 [.abs pl0 0 0]] | _ => []) (.int .i64 r.1) [(.gen 35 1 [[.own 1 r.2.length]]), (.ints 3 .i64 r.2)] := by
  refine InG_intro tab_ok (n := 33) (l := [.tmp 4]) Try.func82 rfl rfl rfl (fun ls => by first | (split <;> simp) | simp) (of_decide_eq_true rfl) (of_decide_eq_true rfl) rfl rfl rfl (by simp [renB, ren0, renI, List.range, List.range.loop]) (of_decide_eq_true rfl) (of_decide_eq_true rfl) fun w0 ls hls => ?_
  obtain ⟨pl0, rfl⟩ : ∃ pl0, ls = [pl0] := by
    match ls, hls with
    | [a], _ => exact ⟨a, rfl⟩
  simp only [pinL, List.map_cons, List.map_nil, List.cons_append, List.nil_append, Nat.zero_add, Nat.reduceAdd]
  unfold codes_each at hK
  refine AWP_seq ?_
  -- region 0
  refine AWP_rg tab_ok [2, 3] fun c st' hr => ?_
  simp only [go_sem, reduceIte, reduceCtorEq, Nat.reduceEqDiff, Nat.reduceLT, Nat.reduceLeDiff, Nat.reduceBEq, Nat.reduceAdd, Nat.reduceMul, Nat.reduceSub, Nat.reducePow, Int.reduceLE, Int.reduceLT, Int.reduceNeg, Int.reduceToNat, Int.reduceAdd, Int.reduceSub, idO_app, lenO_app, lenO_app2, lenO_eta] at hr
  obtain ⟨rfl, rfl⟩ := hr
  refine ⟨vc, ?_⟩
  with_reducible refine thenC_normal ?_
  refine AWP_seq ?_
  refine AWP_freeze 2 3 (y := .immp [.int .i64 x_0, .int .i64 x_1, .fn 1 x_2.length (fun i => [.ints .i64 (x_2.getD i [])])]) rfl (.one (.ptrM _ _ _ _ _ _ _ rfl rfl rfl (ArgsOk.get (.cons (.atom _ rfl) (.cons (.atom _ rfl) (.cons (.atom _ rfl) .nil)))).2)) fun st' hr => ?_
  simp only [go_sem, reduceIte, reduceCtorEq, Nat.reduceEqDiff, Nat.reduceLT, Nat.reduceLeDiff, Nat.reduceBEq, Nat.reduceAdd, Nat.reduceMul, Nat.reduceSub, Nat.reducePow, Int.reduceLE, Int.reduceLT, Int.reduceNeg, Int.reduceToNat, Int.reduceAdd, Int.reduceSub, idO_app, lenO_app, lenO_app2, lenO_eta, List.set_cons_zero, List.set_cons_succ] at hr
  subst hr
  refine AWP_freeze 3 4 (y := .immp [.func 146 [.abs pl0 0 0]]) rfl (.one (.ptrM _ _ _ _ _ _ [.func 146 [.abs pl0 0 0]] rfl rfl rfl (ArgsOk.get (.cons (.funcOf (.cons (.atom _ rfl) .nil)) .nil)).2)) fun st' hr => ?_
  simp only [go_sem, reduceIte, reduceCtorEq, Nat.reduceEqDiff, Nat.reduceLT, Nat.reduceLeDiff, Nat.reduceBEq, Nat.reduceAdd, Nat.reduceMul, Nat.reduceSub, Nat.reducePow, Int.reduceLE, Int.reduceLT, Int.reduceNeg, Int.reduceToNat, Int.reduceAdd, Int.reduceSub, idO_app, lenO_app, lenO_app2, lenO_eta, List.set_cons_zero, List.set_cons_succ] at hr
  subst hr
  -- region 1
  refine AWP_rl ?_
  refine AWPL_rn tab_ok 1 [2, 3, 11] fun c st' hr => ?_
  simp only [go_sem, reduceIte, reduceCtorEq, Nat.reduceEqDiff, Nat.reduceLT, Nat.reduceLeDiff, Nat.reduceBEq, Nat.reduceAdd, Nat.reduceMul, Nat.reduceSub, Nat.reducePow, Int.reduceLE, Int.reduceLT, Int.reduceNeg, Int.reduceToNat, Int.reduceAdd, Int.reduceSub, idO_app, lenO_app, lenO_app2, lenO_eta] at hr
  obtain ⟨rfl, rfl⟩ := hr
  refine ⟨vc, ?_⟩
  replace hK := bind_s hK
  obtain ⟨y, hy, hK⟩ := hK
  refine AWPL_callK [2, 3, 12] (W_field_Reduced hy) rfl rfl pcT rfl Try.call148 (.cons (.agg _ _ rfl (ArgsOk.get (.cons (.atom _ rfl) (.cons (.atom _ rfl) (.cons (.atom _ rfl) .nil)))).2) .nil) (hscG trivial) (of_decide_eq_true rfl) (by first | rfl | simp [nI, nI1, nI0]) (by first | rfl | simp [nIB, nI0]) fun st' hr => ?_
  simp only [go_sem, reduceIte, reduceCtorEq, Nat.reduceEqDiff, Nat.reduceLT, Nat.reduceLeDiff, Nat.reduceBEq, Nat.reduceAdd, Nat.reduceMul, Nat.reduceSub, Nat.reducePow, Int.reduceLE, Int.reduceLT, Int.reduceNeg, Int.reduceToNat, Int.reduceAdd, Int.reduceSub, idO_app, lenO_app, lenO_app2, lenO_eta] at hr
  subst hr
  clear hy
  refine AWPL_rn tab_ok 6 [2, 3, 5] fun c st' hr => ?_
  simp only [go_sem, reduceIte, reduceCtorEq, Nat.reduceEqDiff, Nat.reduceLT, Nat.reduceLeDiff, Nat.reduceBEq, Nat.reduceAdd, Nat.reduceMul, Nat.reduceSub, Nat.reducePow, Int.reduceLE, Int.reduceLT, Int.reduceNeg, Int.reduceToNat, Int.reduceAdd, Int.reduceSub, idO_app, lenO_app, lenO_app2, lenO_eta] at hr
  obtain ⟨rfl, rfl⟩ := hr
  refine ⟨vc, ?_⟩
  refine AWPL_nil ?_
  with_reducible refine thenC_normal ?_
  refine AWP_seq ?_
  refine AWP_freezeJ 5 [7, 5, 6] (y := .immp [.int .i64 y.1, .int .i64 y.2.1, .fn 1 y.2.2.1.length (fun i => [.ints .i64 (y.2.2.1.getD i [])])]) (.one (.ptrM _ _ _ _ _ _ _ rfl rfl rfl (ArgsOk.get (.cons (.atom _ rfl) (.cons (.atom _ rfl) (.cons (matArg (X := y.2.2.1) (by first | rfl | (simp [getB, lenO_set]; done)) (by first | rfl | (simp [getB]; done)) (by first | rfl | (simp; done))) .nil)))).2)) fun st' hr => ?_
  refine AWP_stE ⟨_, [(2, .immp [.int .i64 x_0, .int .i64 x_1, .fn 1 x_2.length (fun i => [.ints .i64 (x_2.getD i [])])]), (3, .immp [.func 146 [.abs pl0 0 0]]), (5, .immp [.int .i64 y.1, .int .i64 y.2.1, .fn 1 y.2.2.1.length (fun i => [.ints .i64 (y.2.2.1.getD i [])])])], [some (.gen 35 1 [[.own 1 q0.length]]), some (.ints 3 .i64 q0), some (.pin 0 pl0), none, none, none, none, none]⟩ (by rw [← hr]; rfl) ?_
  clear hr
  -- region 2
  refine AWP_rg tab_ok [2, 3, 5, 7] fun c st' hr => ?_
  simp only [go_sem, reduceIte, reduceCtorEq, Nat.reduceEqDiff, Nat.reduceLT, Nat.reduceLeDiff, Nat.reduceBEq, Nat.reduceAdd, Nat.reduceMul, Nat.reduceSub, Nat.reducePow, Int.reduceLE, Int.reduceLT, Int.reduceNeg, Int.reduceToNat, Int.reduceAdd, Int.reduceSub, idO_app, lenO_app, lenO_app2, lenO_eta] at hr
  obtain ⟨rfl, rfl⟩ := hr
  refine ⟨vc, ?_⟩
  with_reducible refine thenC_normal ?_
  refine AWP_seq ?_
  refine AWP_seq ?_
  -- region 3
  refine AWP_rg tab_ok [2, 3, 5, 7, 17, 18] fun c st' hr => ?_
  simp only [go_sem, reduceIte, reduceCtorEq, Nat.reduceEqDiff, Nat.reduceLT, Nat.reduceLeDiff, Nat.reduceBEq, Nat.reduceAdd, Nat.reduceMul, Nat.reduceSub, Nat.reducePow, Int.reduceLE, Int.reduceLT, Int.reduceNeg, Int.reduceToNat, Int.reduceAdd, Int.reduceSub, idO_app, lenO_app, lenO_app2, lenO_eta] at hr
  obtain ⟨rfl, rfl⟩ := hr
  refine ⟨vc, ?_⟩
  with_reducible refine thenC_normal ?_
  refine AWP_block ?_
  refine AWP_loopX 0 (fun ((n, v) : Int × Int) => ⟨33, [(2, .immp [.int .i64 x_0, .int .i64 x_1, .fn 1 x_2.length (fun i => [.ints .i64 (x_2.getD i [])])]), (3, .immp [.func 146 [.abs pl0 0 0]]), (5, .immp [.int .i64 y.1, .int .i64 y.2.1, .fn 1 y.2.2.1.length (fun i => [.ints .i64 (y.2.2.1.getD i [])])]), (7, .int .i64 n), (17, .int .i64 (y.2.2.1.length : Int)), (18, .int .i64 v)], [some (.gen 35 1 [[.own 1 q0.length]]), some (.ints 3 .i64 q0), some (.pin 0 pl0)]⟩) (fun (n1 : Int) => ⟨33, [(2, .immp [.int .i64 x_0, .int .i64 x_1, .fn 1 x_2.length (fun i => [.ints .i64 (x_2.getD i [])])]), (3, .immp [.func 146 [.abs pl0 0 0]]), (5, .immp [.int .i64 y.1, .int .i64 y.2.1, .fn 1 y.2.2.1.length (fun i => [.ints .i64 (y.2.2.1.getD i [])])]), (7, .int .i64 n1)], [some (.gen 35 1 [[.own 1 q0.length]]), some (.ints 3 .i64 q0), some (.pin 0 pl0)]⟩) (fun v => v) (1, 0) [0, 1, 2] hK mkWkR ?_ ?_
  · clear hK; rintro ⟨n, v⟩ b hK hpost1
    try dsimp only at hK
    change AWP _ _ _ _ ⟨33, [(2, .immp [.int .i64 x_0, .int .i64 x_1, .fn 1 x_2.length (fun i => [.ints .i64 (x_2.getD i [])])]), (3, .immp [.func 146 [.abs pl0 0 0]]), (5, .immp [.int .i64 y.1, .int .i64 y.2.1, .fn 1 y.2.2.1.length (fun i => [.ints .i64 (y.2.2.1.getD i [])])]), (7, .int .i64 n), (17, .int .i64 (y.2.2.1.length : Int)), (18, .int .i64 v)], [some (.gen 35 1 [[.own 1 q0.length]]), some (.ints 3 .i64 q0), some (.pin 0 pl0)]⟩
    refine AWP_seq ?_
    -- region 4
    refine AWP_rg tab_ok [2, 3, 5, 7, 17, 18, 19] fun c st' hr => ?_
    simp only [go_sem, reduceIte, reduceCtorEq, Nat.reduceEqDiff, Nat.reduceLT, Nat.reduceLeDiff, Nat.reduceBEq, Nat.reduceAdd, Nat.reduceMul, Nat.reduceSub, Nat.reducePow, Int.reduceLE, Int.reduceLT, Int.reduceNeg, Int.reduceToNat, Int.reduceAdd, Int.reduceSub, idO_app, lenO_app, lenO_app2, lenO_eta] at hr
    obtain ⟨rfl, rfl⟩ := hr
    refine ⟨vc, ?_⟩
    with_reducible refine thenC_normal ?_
    refine AWP_seq ?_
    refine AWP_condP (v < (y.2.2.1.length : Int)) rfl bd (fun hb => ?_) (fun hb => ?_)
    · replace hK := ite_t hK hb
      refine AWP_skip ?_
      with_reducible refine thenC_normal ?_
      refine AWP_seq ?_
      refine AWP_block ?_
      -- region 5
      replace hK := chk_some hK
      obtain ⟨h, hK⟩ := hK
      refine AWP_rg tab_ok [2, 3, 5, 7, 17, 18] fun c st' hr => ?_
      simp only [go_sem, reduceIte, reduceCtorEq, Nat.reduceEqDiff, Nat.reduceLT, Nat.reduceLeDiff, Nat.reduceBEq, Nat.reduceAdd, Nat.reduceMul, Nat.reduceSub, Nat.reducePow, Int.reduceLE, Int.reduceLT, Int.reduceNeg, Int.reduceToNat, Int.reduceAdd, Int.reduceSub, idO_app, lenO_app, lenO_app2, lenO_eta] at hr
      obtain ⟨rfl, rfl⟩ := hr
      refine ⟨vc, ?_⟩
      with_reducible refine inBlockA_normal (thenC_normal ?_)
      -- region 6
      replace hK := chk_some hK
      obtain ⟨h1, hK⟩ := hK
      refine AWP_rg tab_ok [2, 3, 5, 7, 17, 18] fun c st' hr => ?_
      simp only [go_sem, reduceIte, reduceCtorEq, Nat.reduceEqDiff, Nat.reduceLT, Nat.reduceLeDiff, Nat.reduceBEq, Nat.reduceAdd, Nat.reduceMul, Nat.reduceSub, Nat.reducePow, Int.reduceLE, Int.reduceLT, Int.reduceNeg, Int.reduceToNat, Int.reduceAdd, Int.reduceSub, idO_app, lenO_app, lenO_app2, lenO_eta] at hr
      obtain ⟨rfl, rfl⟩ := hr
      refine ⟨vc, ?_⟩
      refine again_n (n * x_0, v + 1) [0, 1, 2] hK mkWkR
    · replace hK := ite_f hK hb
      refine AWP_exit ?_
      with_reducible refine thenC_exit (again_x ?_)
      refine cutX_here n [0, 1, 2] (by have hq := hpost1 _ hK; exact hq) mkWkR
  · clear hK; rintro n1 hK
    try dsimp only at hK
    refine exS ⟨33, [(2, .immp [.int .i64 x_0, .int .i64 x_1, .fn 1 x_2.length (fun i => [.ints .i64 (x_2.getD i [])])]), (3, .immp [.func 146 [.abs pl0 0 0]]), (5, .immp [.int .i64 y.1, .int .i64 y.2.1, .fn 1 y.2.2.1.length (fun i => [.ints .i64 (y.2.2.1.getD i [])])]), (7, .int .i64 n1)], [some (.gen 35 1 [[.own 1 q0.length]]), some (.ints 3 .i64 q0), some (.pin 0 pl0)]⟩ rfl ?_
    with_reducible refine inBlockA_exit (thenC_normal ?_)
    refine AWP_seq ?_
    refine AWP_seq ?_
    -- region 7
    refine AWP_rg tab_ok [2, 3, 5, 26] fun c st' hr => ?_
    simp only [go_sem, reduceIte, reduceCtorEq, Nat.reduceEqDiff, Nat.reduceLT, Nat.reduceLeDiff, Nat.reduceBEq, Nat.reduceAdd, Nat.reduceMul, Nat.reduceSub, Nat.reducePow, Int.reduceLE, Int.reduceLT, Int.reduceNeg, Int.reduceToNat, Int.reduceAdd, Int.reduceSub, idO_app, lenO_app, lenO_app2, lenO_eta] at hr
    obtain ⟨rfl, rfl⟩ := hr
    refine ⟨vc, ?_⟩
    with_reducible refine thenC_normal ?_
    refine AWP_condP (20000 < n1) rfl bd (fun hb1 => ?_) (fun hb1 => ?_)
    · replace hK := ite_t hK hb1
      refine AWP_seq ?_
      -- region 8
      refine AWP_rg tab_ok [4] fun c st' hr => ?_
      simp only [go_sem, reduceIte, reduceCtorEq, Nat.reduceEqDiff, Nat.reduceLT, Nat.reduceLeDiff, Nat.reduceBEq, Nat.reduceAdd, Nat.reduceMul, Nat.reduceSub, Nat.reducePow, Int.reduceLE, Int.reduceLT, Int.reduceNeg, Int.reduceToNat, Int.reduceAdd, Int.reduceSub, idO_app, lenO_app, lenO_app2, lenO_eta] at hr
      obtain ⟨rfl, rfl⟩ := hr
      refine ⟨vc, ?_⟩
      with_reducible refine thenC_normal ?_
      refine AWP_ret ?_
      with_reducible refine thenC_ret ?_
      cases hK
      refine EndsRW [0, 1, 2] (.inl rfl) (of_decide_eq_true rfl) (by simp) rfl (fun c x hr => ?_) endHR
      simp only [go_sem, reduceIte, reduceCtorEq, Nat.reduceEqDiff, Nat.reduceLT, Nat.reduceLeDiff, Nat.reduceBEq, Nat.reduceAdd, Nat.reduceMul, Nat.reduceSub, Nat.reducePow, Int.reduceLE, Int.reduceLT, Int.reduceNeg, Int.reduceToNat, Int.reduceAdd, Int.reduceSub, idO_app, lenO_app, lenO_app2, lenO_eta] at hr
      obtain ⟨rfl, rfl⟩ := hr
      exact ⟨rfl, endR⟩
    · replace hK := ite_f hK hb1
      refine AWP_skip ?_
      with_reducible refine thenC_normal ?_
      refine AWP_seq ?_
      -- region 9
      refine AWP_rl ?_
      replace hK := chk_some hK
      obtain ⟨h2, hK⟩ := hK
      refine AWPL_rn tab_ok 5 [2, 3, 5, 8] fun c st' hr => ?_
      simp only [go_sem, reduceIte, reduceCtorEq, Nat.reduceEqDiff, Nat.reduceLT, Nat.reduceLeDiff, Nat.reduceBEq, Nat.reduceAdd, Nat.reduceMul, Nat.reduceSub, Nat.reducePow, Int.reduceLE, Int.reduceLT, Int.reduceNeg, Int.reduceToNat, Int.reduceAdd, Int.reduceSub, idO_app, lenO_app, lenO_app2, lenO_eta] at hr
      obtain ⟨rfl, rfl⟩ := hr
      refine ⟨vc, ?_⟩
      refine AWPL_nil ?_
      with_reducible refine thenC_normal ?_
      refine AWP_seq ?_
      -- region 10
      refine AWP_rg tab_ok [2, 3, 5, 8, 9] fun c st' hr => ?_
      simp only [go_sem, reduceIte, reduceCtorEq, Nat.reduceEqDiff, Nat.reduceLT, Nat.reduceLeDiff, Nat.reduceBEq, Nat.reduceAdd, Nat.reduceMul, Nat.reduceSub, Nat.reducePow, Int.reduceLE, Int.reduceLT, Int.reduceNeg, Int.reduceToNat, Int.reduceAdd, Int.reduceSub, idO_app, lenO_app, lenO_app2, lenO_eta] at hr
      obtain ⟨rfl, rfl⟩ := hr
      refine ⟨vc, ?_⟩
      with_reducible refine thenC_normal ?_
      refine AWP_seq ?_
      -- region 11
      refine AWP_rg tab_ok [9] fun c st' hr => ?_
      simp only [go_sem, reduceIte, reduceCtorEq, Nat.reduceEqDiff, Nat.reduceLT, Nat.reduceLeDiff, Nat.reduceBEq, Nat.reduceAdd, Nat.reduceMul, Nat.reduceSub, Nat.reducePow, Int.reduceLE, Int.reduceLT, Int.reduceNeg, Int.reduceToNat, Int.reduceAdd, Int.reduceSub, idO_app, lenO_app, lenO_app2, lenO_eta] at hr
      obtain ⟨rfl, rfl⟩ := hr
      refine ⟨vc, ?_⟩
      with_reducible refine thenC_normal ?_
      refine AWP_seq ?_
      refine AWP_pin 4 rfl fun pl st' hr => ?_
      simp only [go_sem, reduceIte, reduceCtorEq, Nat.reduceEqDiff, Nat.reduceLT, Nat.reduceLeDiff, Nat.reduceBEq, Nat.reduceAdd, Nat.reduceMul, Nat.reduceSub, Nat.reducePow, Int.reduceLE, Int.reduceLT, Int.reduceNeg, Int.reduceToNat, Int.reduceAdd, Int.reduceSub, idO_app, lenO_app, lenO_app2, lenO_eta, List.cons_append, List.nil_append] at hr
      subst hr
      refine AWP_freezeP 9 5 (y := .immp [.func 149 [.immp [.int .i64 y.1, .int .i64 y.2.1, .fn 1 y.2.2.1.length (fun i => [.ints .i64 (y.2.2.1.getD i [])])], .immp [.func 146 [.abs pl0 0 0]], .abs pl 0 0, .immp [.int .i64 x_0, .int .i64 x_1, .fn 1 x_2.length (fun i => [.ints .i64 (x_2.getD i [])])], cycA 149 [.immp [.int .i64 y.1, .int .i64 y.2.1, .fn 1 y.2.2.1.length (fun i => [.ints .i64 (y.2.2.1.getD i [])])], .immp [.func 146 [.abs pl0 0 0]], .abs pl 0 0, .immp [.int .i64 x_0, .int .i64 x_1, .fn 1 x_2.length (fun i => [.ints .i64 (x_2.getD i [])])]] 12]]) rfl (FrzP.cyc (src := [.immp [.int .i64 y.1, .int .i64 y.2.1, .fn 1 y.2.2.1.length (fun i => [.ints .i64 (y.2.2.1.getD i [])])], .immp [.func 146 [.abs pl0 0 0]], .ptr 4 0 0, .immp [.int .i64 x_0, .int .i64 x_1, .fn 1 x_2.length (fun i => [.ints .i64 (x_2.getD i [])])]]) rfl (.cons (.ok rfl (.atom _ rfl)) (.cons (.ok rfl (.atom _ rfl)) (.cons (.abs 6 _ _ _ _ rfl) (.cons (.ok rfl (.atom _ rfl)) .nil)))) 13) fun st' hr => ?_
      simp only [go_sem, reduceIte, reduceCtorEq, Nat.reduceEqDiff, Nat.reduceLT, Nat.reduceLeDiff, Nat.reduceBEq, Nat.reduceAdd, Nat.reduceMul, Nat.reduceSub, Nat.reducePow, Int.reduceLE, Int.reduceLT, Int.reduceNeg, Int.reduceToNat, Int.reduceAdd, Int.reduceSub, idO_app, lenO_app, lenO_app2, lenO_eta, List.set_cons_zero, List.set_cons_succ] at hr
      subst hr
      -- region 12
      refine AWP_rl ?_
      refine AWPL_rn tab_ok 1 [31] fun c st' hr => ?_
      simp only [go_sem, reduceIte, reduceCtorEq, Nat.reduceEqDiff, Nat.reduceLT, Nat.reduceLeDiff, Nat.reduceBEq, Nat.reduceAdd, Nat.reduceMul, Nat.reduceSub, Nat.reducePow, Int.reduceLE, Int.reduceLT, Int.reduceNeg, Int.reduceToNat, Int.reduceAdd, Int.reduceSub, idO_app, lenO_app, lenO_app2, lenO_eta] at hr
      obtain ⟨rfl, rfl⟩ := hr
      refine ⟨vc, ?_⟩
      replace hK := bind_s hK
      obtain ⟨y1, hy, hK⟩ := hK
      refine AWPL_gK [] [0, 4, 1, 3] [pl0, pl] [some (.gen 35 1 [[.own 7 ((y1.1).length)]]), none, some (.pin 0 pl0), none, some (.gen 35 1 [[.own 8 ((y1.2).length)]]), none, some (.pin 4 pl), some (.ints 3 .i64 y1.1), some (.ints 3 .i64 y1.2)] (W_codes_each_1 hy) rfl rfl pcT rfl Try.call149 (of_decide_eq_true rfl) ⟨(by first | rfl | simp [renB, ren0, renI]), (by first | rfl | simp [renB, ren0, renI]), (by first | rfl | simp [renB, ren0, renI]), (by first | rfl | simp [renB, ren0, renI]), trivial⟩ ⟨⟨2, rfl⟩, ⟨6, rfl⟩, trivial⟩ rfl (.cons (.atom _ rfl) (.cons (.atom _ rfl) (.cons (.atom _ rfl) (.abs 1 6 rfl rfl (.cons (.atom _ rfl) (.cons (ArgOk.cycRefl _ _ _) .nil)))))) (hscG trivial) (of_decide_eq_true rfl) rfl rfl (of_decide_eq_true rfl) rfl fun st' hr => ?_
      simp only [go_sem, reduceIte, reduceCtorEq, Nat.reduceEqDiff, Nat.reduceLT, Nat.reduceLeDiff, Nat.reduceBEq, Nat.reduceAdd, Nat.reduceMul, Nat.reduceSub, Nat.reducePow, Int.reduceLE, Int.reduceLT, Int.reduceNeg, Int.reduceToNat, Int.reduceAdd, Int.reduceSub, idO_app, lenO_app, lenO_app2, lenO_eta] at hr
      subst hr
      clear hy
      refine AWPL_nil ?_
      with_reducible refine thenC_normal ?_
      refine AWP_seq ?_
      -- region 13
      refine AWP_rg tab_ok [4] fun c st' hr => ?_
      simp only [go_sem, reduceIte, reduceCtorEq, Nat.reduceEqDiff, Nat.reduceLT, Nat.reduceLeDiff, Nat.reduceBEq, Nat.reduceAdd, Nat.reduceMul, Nat.reduceSub, Nat.reducePow, Int.reduceLE, Int.reduceLT, Int.reduceNeg, Int.reduceToNat, Int.reduceAdd, Int.reduceSub, idO_app, lenO_app, lenO_app2, lenO_eta] at hr
      obtain ⟨rfl, rfl⟩ := hr
      refine ⟨vc, ?_⟩
      with_reducible refine thenC_normal ?_
      refine AWP_ret ?_
      cases hK
      refine EndsRW [0, 7, 2] (.inl rfl) (of_decide_eq_true rfl) (by simp) rfl (fun c x hr => ?_) endHR
      simp only [go_sem, reduceIte, reduceCtorEq, Nat.reduceEqDiff, Nat.reduceLT, Nat.reduceLeDiff, Nat.reduceBEq, Nat.reduceAdd, Nat.reduceMul, Nat.reduceSub, Nat.reducePow, Int.reduceLE, Int.reduceLT, Int.reduceNeg, Int.reduceToNat, Int.reduceAdd, Int.reduceSub, idO_app, lenO_app, lenO_app2, lenO_eta] at hr
      obtain ⟨rfl, rfl⟩ := hr
      exact ⟨rfl, endR⟩

set_option maxRecDepth 8000 in
set_option maxHeartbeats 4000000 in
theorem W_codes_Weights {x_0 : Int} {x_1 : Int} {x_2 : List (List Int)} {r : List Int × Int} (hK : codes_Weights x_0 x_1 x_2 = some r) : Pure Try.prog 78 [.agg [.int .i64 x_0, .int .i64 x_1, .fn 1 x_2.length (fun i => [.ints .i64 (x_2.getD i [])])]] (.tup [.own 0 r.1.length, .int .i64 r.2]) [(.ints 3 .i64 r.1)] := by
  refine Pure_introF tab_ok (n := 23) (l := [.tmp 2, .tmp 3]) Try.func78 rfl rfl rfl (by simp) fun hfact w0 => ?_
  simp only [factL1, fact1, fact0, factL0, lo, hi, maxLen, and_true] at hfact
  unfold codes_Weights at hK
  refine AWP_seq ?_
  -- region 0
  refine AWP_rg tab_ok [1] fun c st' hr => ?_
  simp only [go_sem, reduceIte, reduceCtorEq, Nat.reduceEqDiff, Nat.reduceLT, Nat.reduceLeDiff, Nat.reduceBEq, Nat.reduceAdd, Nat.reduceMul, Nat.reduceSub, Nat.reducePow, Int.reduceLE, Int.reduceLT, Int.reduceNeg, Int.reduceToNat, Int.reduceAdd, Int.reduceSub, idO_app, lenO_app, lenO_app2, lenO_eta] at hr
  obtain ⟨rfl, rfl⟩ := hr
  refine ⟨vc, ?_⟩
  with_reducible refine thenC_normal ?_
  refine AWP_seq ?_
  refine AWP_seq ?_
  -- region 1
  refine AWP_rl ?_
  refine AWPL_rn tab_ok 1 [1, 7] fun c st' hr => ?_
  simp only [go_sem, reduceIte, reduceCtorEq, Nat.reduceEqDiff, Nat.reduceLT, Nat.reduceLeDiff, Nat.reduceBEq, Nat.reduceAdd, Nat.reduceMul, Nat.reduceSub, Nat.reducePow, Int.reduceLE, Int.reduceLT, Int.reduceNeg, Int.reduceToNat, Int.reduceAdd, Int.reduceSub, idO_app, lenO_app, lenO_app2, lenO_eta] at hr
  obtain ⟨rfl, rfl⟩ := hr
  refine ⟨vc, ?_⟩
  replace hK := bind_s hK
  obtain ⟨y, hy, hK⟩ := hK
  refine AWPL_callK [1, 8] (W_kinds_CheckMatrix hy) rfl rfl pcT rfl Try.call79 (.cons (.agg _ _ rfl (ArgsOk.get (.cons (.atom _ rfl) (.cons (.atom _ rfl) (.cons (.atom _ rfl) .nil)))).2) .nil) (hscG trivial) (of_decide_eq_true rfl) (by first | rfl | simp [nI, nI1, nI0]) (by first | rfl | simp [nIB, nI0]) fun st' hr => ?_
  simp only [go_sem, reduceIte, reduceCtorEq, Nat.reduceEqDiff, Nat.reduceLT, Nat.reduceLeDiff, Nat.reduceBEq, Nat.reduceAdd, Nat.reduceMul, Nat.reduceSub, Nat.reducePow, Int.reduceLE, Int.reduceLT, Int.reduceNeg, Int.reduceToNat, Int.reduceAdd, Int.reduceSub, idO_app, lenO_app, lenO_app2, lenO_eta] at hr
  subst hr
  clear hy
  refine AWPL_rn tab_ok 1 [1, 4] fun c st' hr => ?_
  simp only [go_sem, reduceIte, reduceCtorEq, Nat.reduceEqDiff, Nat.reduceLT, Nat.reduceLeDiff, Nat.reduceBEq, Nat.reduceAdd, Nat.reduceMul, Nat.reduceSub, Nat.reducePow, Int.reduceLE, Int.reduceLT, Int.reduceNeg, Int.reduceToNat, Int.reduceAdd, Int.reduceSub, idO_app, lenO_app, lenO_app2, lenO_eta] at hr
  obtain ⟨rfl, rfl⟩ := hr
  refine ⟨vc, ?_⟩
  refine AWPL_nil ?_
  with_reducible refine thenC_normal ?_
  refine AWP_seq ?_
  -- region 2
  refine AWP_rg tab_ok [1, 4, 10] fun c st' hr => ?_
  simp only [go_sem, reduceIte, reduceCtorEq, Nat.reduceEqDiff, Nat.reduceLT, Nat.reduceLeDiff, Nat.reduceBEq, Nat.reduceAdd, Nat.reduceMul, Nat.reduceSub, Nat.reducePow, Int.reduceLE, Int.reduceLT, Int.reduceNeg, Int.reduceToNat, Int.reduceAdd, Int.reduceSub, idO_app, lenO_app, lenO_app2, lenO_eta] at hr
  obtain ⟨rfl, rfl⟩ := hr
  refine ⟨vc, ?_⟩
  with_reducible refine thenC_normal ?_
  refine AWP_condP (y ≠ 0) rfl bd (fun hb => ?_) (fun hb => ?_)
  · replace hK := ite_t hK hb
    refine AWP_seq ?_
    -- region 3
    refine AWP_rg tab_ok [2, 3] fun c st' hr => ?_
    simp only [go_sem, reduceIte, reduceCtorEq, Nat.reduceEqDiff, Nat.reduceLT, Nat.reduceLeDiff, Nat.reduceBEq, Nat.reduceAdd, Nat.reduceMul, Nat.reduceSub, Nat.reducePow, Int.reduceLE, Int.reduceLT, Int.reduceNeg, Int.reduceToNat, Int.reduceAdd, Int.reduceSub, idO_app, lenO_app, lenO_app2, lenO_eta] at hr
    obtain ⟨rfl, rfl⟩ := hr
    refine ⟨vc, ?_⟩
    with_reducible refine thenC_normal ?_
    refine AWP_own 2 (.ints 3 .i64 []) rfl rfl fun st' hr => ?_
    simp only [go_sem, reduceIte, reduceCtorEq, Nat.reduceEqDiff, Nat.reduceLT, Nat.reduceLeDiff, Nat.reduceBEq, Nat.reduceAdd, Nat.reduceMul, Nat.reduceSub, Nat.reducePow, Int.reduceLE, Int.reduceLT, Int.reduceNeg, Int.reduceToNat, Int.reduceAdd, Int.reduceSub, idO_app, lenO_app, lenO_app2, lenO_eta] at hr
    subst hr
    refine AWP_ret ?_
    with_reducible refine thenC_ret ?_
    cases hK
    refine EndsRW [1] (.inl rfl) (of_decide_eq_true rfl) (by simp) rfl (fun c x hr => ?_) endHR
    simp only [go_sem, reduceIte, reduceCtorEq, Nat.reduceEqDiff, Nat.reduceLT, Nat.reduceLeDiff, Nat.reduceBEq, Nat.reduceAdd, Nat.reduceMul, Nat.reduceSub, Nat.reducePow, Int.reduceLE, Int.reduceLT, Int.reduceNeg, Int.reduceToNat, Int.reduceAdd, Int.reduceSub, idO_app, lenO_app, lenO_app2, lenO_eta] at hr
    obtain ⟨rfl, rfl⟩ := hr
    exact ⟨rfl, endR⟩
  · replace hK := ite_f hK hb
    refine AWP_skip ?_
    with_reducible refine thenC_normal ?_
    refine AWP_seq ?_
    -- region 4
    refine AWP_rl ?_
    replace hK := chk_some hK
    obtain ⟨h, hK⟩ := hK
    refine AWPL_rn tab_ok 6 [1, 5] fun c st' hr => ?_
    simp only [go_sem, reduceIte, reduceCtorEq, Nat.reduceEqDiff, Nat.reduceLT, Nat.reduceLeDiff, Nat.reduceBEq, Nat.reduceAdd, Nat.reduceMul, Nat.reduceSub, Nat.reducePow, Int.reduceLE, Int.reduceLT, Int.reduceNeg, Int.reduceToNat, Int.reduceAdd, Int.reduceSub, idO_app, lenO_app, lenO_app2, lenO_eta] at hr
    obtain ⟨rfl, rfl⟩ := hr
    refine ⟨vc, ?_⟩
    refine AWPL_nil ?_
    with_reducible refine thenC_normal ?_
    refine AWP_seq ?_
    refine AWP_pin 2 rfl fun pl st' hr => ?_
    simp only [go_sem, reduceIte, reduceCtorEq, Nat.reduceEqDiff, Nat.reduceLT, Nat.reduceLeDiff, Nat.reduceBEq, Nat.reduceAdd, Nat.reduceMul, Nat.reduceSub, Nat.reducePow, Int.reduceLE, Int.reduceLT, Int.reduceNeg, Int.reduceToNat, Int.reduceAdd, Int.reduceSub, idO_app, lenO_app, lenO_app2, lenO_eta, List.cons_append, List.nil_append] at hr
    subst hr
    -- region 5
    refine AWP_rl ?_
    refine AWPL_rn tab_ok 2 [5, 16, 17] fun c st' hr => ?_
    simp only [go_sem, reduceIte, reduceCtorEq, Nat.reduceEqDiff, Nat.reduceLT, Nat.reduceLeDiff, Nat.reduceBEq, Nat.reduceAdd, Nat.reduceMul, Nat.reduceSub, Nat.reducePow, Int.reduceLE, Int.reduceLT, Int.reduceNeg, Int.reduceToNat, Int.reduceAdd, Int.reduceSub, idO_app, lenO_app, lenO_app2, lenO_eta] at hr
    obtain ⟨rfl, rfl⟩ := hr
    refine ⟨vc, ?_⟩
    refine AWPL_abs 17 (.func 146 [.abs pl 0 0]) (AbsR.funcs (.cons (.abs 3 _ _ _ _ rfl) .nil)) fun st' hr => ?_
    simp only [go_sem, reduceIte, reduceCtorEq, Nat.reduceEqDiff, Nat.reduceLT, Nat.reduceLeDiff, Nat.reduceBEq, Nat.reduceAdd, Nat.reduceMul, Nat.reduceSub, Nat.reducePow, Int.reduceLE, Int.reduceLT, Int.reduceNeg, Int.reduceToNat, Int.reduceAdd, Int.reduceSub, idO_app, lenO_app, lenO_app2, lenO_eta] at hr
    subst hr
    replace hK := bind_s hK
    obtain ⟨y1, hy, hK⟩ := hK
    refine AWPL_gK [5, 18] [2, 1] [pl] [some (.gen 41 3 [[.int .i64 x_0, .int .i64 x_1, .fn 1 x_2.length (fun i => [.ints .i64 (x_2.getD i [])])]]), none, some (.gen 35 1 [[.own 4 ((y1.2).length)]]), some (.pin 2 pl), some (.ints 3 .i64 y1.2)] (W_codes_each hy) rfl rfl pcT rfl Try.call82 (of_decide_eq_true rfl) ⟨(by first | rfl | simp [renB, ren0, renI]), (by first | rfl | simp [renB, ren0, renI]), trivial⟩ ⟨⟨3, rfl⟩, trivial⟩ rfl (.cons (.agg _ _ rfl (ArgsOk.get (.cons (.atom _ rfl) (.cons (.atom _ rfl) (.cons (.atom _ rfl) .nil)))).2) (.cons (ArgOk.funcOf (.cons (.atom _ rfl) .nil)) .nil)) (hscG trivial) (of_decide_eq_true rfl) rfl rfl (of_decide_eq_true rfl) rfl fun st' hr => ?_
    simp only [go_sem, reduceIte, reduceCtorEq, Nat.reduceEqDiff, Nat.reduceLT, Nat.reduceLeDiff, Nat.reduceBEq, Nat.reduceAdd, Nat.reduceMul, Nat.reduceSub, Nat.reducePow, Int.reduceLE, Int.reduceLT, Int.reduceNeg, Int.reduceToNat, Int.reduceAdd, Int.reduceSub, idO_app, lenO_app, lenO_app2, lenO_eta] at hr
    subst hr
    clear hy
    refine AWPL_rn tab_ok 1 [5, 6] fun c st' hr => ?_
    simp only [go_sem, reduceIte, reduceCtorEq, Nat.reduceEqDiff, Nat.reduceLT, Nat.reduceLeDiff, Nat.reduceBEq, Nat.reduceAdd, Nat.reduceMul, Nat.reduceSub, Nat.reducePow, Int.reduceLE, Int.reduceLT, Int.reduceNeg, Int.reduceToNat, Int.reduceAdd, Int.reduceSub, idO_app, lenO_app, lenO_app2, lenO_eta] at hr
    obtain ⟨rfl, rfl⟩ := hr
    refine ⟨vc, ?_⟩
    refine AWPL_nil ?_
    with_reducible refine thenC_normal ?_
    refine AWP_seq ?_
    refine AWP_seq ?_
    -- region 6
    refine AWP_rg tab_ok [5, 6, 20] fun c st' hr => ?_
    simp only [go_sem, reduceIte, reduceCtorEq, Nat.reduceEqDiff, Nat.reduceLT, Nat.reduceLeDiff, Nat.reduceBEq, Nat.reduceAdd, Nat.reduceMul, Nat.reduceSub, Nat.reducePow, Int.reduceLE, Int.reduceLT, Int.reduceNeg, Int.reduceToNat, Int.reduceAdd, Int.reduceSub, idO_app, lenO_app, lenO_app2, lenO_eta] at hr
    obtain ⟨rfl, rfl⟩ := hr
    refine ⟨vc, ?_⟩
    with_reducible refine thenC_normal ?_
    refine AWP_condP (y1.1 ≠ 0) rfl bd (fun hb1 => ?_) (fun hb1 => ?_)
    · replace hK := ite_t hK hb1
      refine AWP_seq ?_
      -- region 7
      refine AWP_rg tab_ok [2, 3] fun c st' hr => ?_
      simp only [go_sem, reduceIte, reduceCtorEq, Nat.reduceEqDiff, Nat.reduceLT, Nat.reduceLeDiff, Nat.reduceBEq, Nat.reduceAdd, Nat.reduceMul, Nat.reduceSub, Nat.reducePow, Int.reduceLE, Int.reduceLT, Int.reduceNeg, Int.reduceToNat, Int.reduceAdd, Int.reduceSub, idO_app, lenO_app, lenO_app2, lenO_eta] at hr
      obtain ⟨rfl, rfl⟩ := hr
      refine ⟨vc, ?_⟩
      with_reducible refine thenC_normal ?_
      refine AWP_own 2 (.ints 3 .i64 []) rfl rfl fun st' hr => ?_
      simp only [go_sem, reduceIte, reduceCtorEq, Nat.reduceEqDiff, Nat.reduceLT, Nat.reduceLeDiff, Nat.reduceBEq, Nat.reduceAdd, Nat.reduceMul, Nat.reduceSub, Nat.reducePow, Int.reduceLE, Int.reduceLT, Int.reduceNeg, Int.reduceToNat, Int.reduceAdd, Int.reduceSub, idO_app, lenO_app, lenO_app2, lenO_eta] at hr
      subst hr
      refine AWP_ret ?_
      with_reducible refine thenC_ret ?_
      cases hK
      refine EndsRW [5] (.inl rfl) (of_decide_eq_true rfl) (by simp) rfl (fun c x hr => ?_) endHR
      simp only [go_sem, reduceIte, reduceCtorEq, Nat.reduceEqDiff, Nat.reduceLT, Nat.reduceLeDiff, Nat.reduceBEq, Nat.reduceAdd, Nat.reduceMul, Nat.reduceSub, Nat.reducePow, Int.reduceLE, Int.reduceLT, Int.reduceNeg, Int.reduceToNat, Int.reduceAdd, Int.reduceSub, idO_app, lenO_app, lenO_app2, lenO_eta] at hr
      obtain ⟨rfl, rfl⟩ := hr
      exact ⟨rfl, endR⟩
    · replace hK := ite_f hK hb1
      refine AWP_skip ?_
      with_reducible refine thenC_normal ?_
      refine AWP_seq ?_
      -- region 8
      refine AWP_rg tab_ok [2, 3] fun c st' hr => ?_
      simp only [go_sem, reduceIte, reduceCtorEq, Nat.reduceEqDiff, Nat.reduceLT, Nat.reduceLeDiff, Nat.reduceBEq, Nat.reduceAdd, Nat.reduceMul, Nat.reduceSub, Nat.reducePow, Int.reduceLE, Int.reduceLT, Int.reduceNeg, Int.reduceToNat, Int.reduceAdd, Int.reduceSub, idO_app, lenO_app, lenO_app2, lenO_eta] at hr
      obtain ⟨rfl, rfl⟩ := hr
      refine ⟨vc, ?_⟩
      with_reducible refine thenC_normal ?_
      refine AWP_ret ?_
      cases hK
      refine EndsRW [4] (.inl rfl) (of_decide_eq_true rfl) (by simp) rfl (fun c x hr => ?_) endHR
      simp only [go_sem, reduceIte, reduceCtorEq, Nat.reduceEqDiff, Nat.reduceLT, Nat.reduceLeDiff, Nat.reduceBEq, Nat.reduceAdd, Nat.reduceMul, Nat.reduceSub, Nat.reducePow, Int.reduceLE, Int.reduceLT, Int.reduceNeg, Int.reduceToNat, Int.reduceAdd, Int.reduceSub, idO_app, lenO_app, lenO_app2, lenO_eta] at hr
      obtain ⟨rfl, rfl⟩ := hr
      exact ⟨rfl, endR⟩

set_option maxRecDepth 8000 in
set_option maxHeartbeats 4000000 in
theorem W_codes_Distance {x_0 : Int} {x_1 : Int} {x_2 : List (List Int)} {r : Int × Int} (hK : codes_Distance x_0 x_1 x_2 = some r) : Pure Try.prog 23 [.agg [.int .i64 x_0, .int .i64 x_1, .fn 1 x_2.length (fun i => [.ints .i64 (x_2.getD i [])])]] (.tup [.int .i64 r.1, .int .i64 r.2]) [] := by
  refine Pure_introF tab_ok (n := 31) (l := [.tmp 2, .tmp 3]) Try.func23 rfl rfl rfl (by simp) fun hfact w0 => ?_
  simp only [factL1, fact1, fact0, factL0, lo, hi, maxLen, and_true] at hfact
  unfold codes_Distance at hK
  refine AWP_seq ?_
  -- region 0
  refine AWP_rg tab_ok [1] fun c st' hr => ?_
  simp only [go_sem, reduceIte, reduceCtorEq, Nat.reduceEqDiff, Nat.reduceLT, Nat.reduceLeDiff, Nat.reduceBEq, Nat.reduceAdd, Nat.reduceMul, Nat.reduceSub, Nat.reducePow, Int.reduceLE, Int.reduceLT, Int.reduceNeg, Int.reduceToNat, Int.reduceAdd, Int.reduceSub, idO_app, lenO_app, lenO_app2, lenO_eta] at hr
  obtain ⟨rfl, rfl⟩ := hr
  refine ⟨vc, ?_⟩
  with_reducible refine thenC_normal ?_
  refine AWP_seq ?_
  -- region 1
  refine AWP_rl ?_
  refine AWPL_rn tab_ok 1 [9] fun c st' hr => ?_
  simp only [go_sem, reduceIte, reduceCtorEq, Nat.reduceEqDiff, Nat.reduceLT, Nat.reduceLeDiff, Nat.reduceBEq, Nat.reduceAdd, Nat.reduceMul, Nat.reduceSub, Nat.reducePow, Int.reduceLE, Int.reduceLT, Int.reduceNeg, Int.reduceToNat, Int.reduceAdd, Int.reduceSub, idO_app, lenO_app, lenO_app2, lenO_eta] at hr
  obtain ⟨rfl, rfl⟩ := hr
  refine ⟨vc, ?_⟩
  replace hK := bind_s hK
  obtain ⟨y, hy, hK⟩ := hK
  refine AWPL_callK [10] (W_codes_Weights hy) rfl rfl pcT rfl Try.call78 (.cons (.agg _ _ rfl (ArgsOk.get (.cons (.atom _ rfl) (.cons (.atom _ rfl) (.cons (.atom _ rfl) .nil)))).2) .nil) (hscG trivial) (of_decide_eq_true rfl) (by first | rfl | simp [nI, nI1, nI0]) (by first | rfl | simp [nIB, nI0]) fun st' hr => ?_
  simp only [go_sem, reduceIte, reduceCtorEq, Nat.reduceEqDiff, Nat.reduceLT, Nat.reduceLeDiff, Nat.reduceBEq, Nat.reduceAdd, Nat.reduceMul, Nat.reduceSub, Nat.reducePow, Int.reduceLE, Int.reduceLT, Int.reduceNeg, Int.reduceToNat, Int.reduceAdd, Int.reduceSub, idO_app, lenO_app, lenO_app2, lenO_eta] at hr
  subst hr
  clear hy
  refine AWPL_rn tab_ok 5 [4, 5] fun c st' hr => ?_
  simp only [go_sem, reduceIte, reduceCtorEq, Nat.reduceEqDiff, Nat.reduceLT, Nat.reduceLeDiff, Nat.reduceBEq, Nat.reduceAdd, Nat.reduceMul, Nat.reduceSub, Nat.reducePow, Int.reduceLE, Int.reduceLT, Int.reduceNeg, Int.reduceToNat, Int.reduceAdd, Int.reduceSub, idO_app, lenO_app, lenO_app2, lenO_eta] at hr
  obtain ⟨rfl, rfl⟩ := hr
  refine ⟨vc, ?_⟩
  refine AWPL_nil ?_
  with_reducible refine thenC_normal ?_
  refine AWP_seq ?_
  refine AWP_seq ?_
  -- region 2
  refine AWP_rg tab_ok [4, 5, 14] fun c st' hr => ?_
  simp only [go_sem, reduceIte, reduceCtorEq, Nat.reduceEqDiff, Nat.reduceLT, Nat.reduceLeDiff, Nat.reduceBEq, Nat.reduceAdd, Nat.reduceMul, Nat.reduceSub, Nat.reducePow, Int.reduceLE, Int.reduceLT, Int.reduceNeg, Int.reduceToNat, Int.reduceAdd, Int.reduceSub, idO_app, lenO_app, lenO_app2, lenO_eta] at hr
  obtain ⟨rfl, rfl⟩ := hr
  refine ⟨vc, ?_⟩
  with_reducible refine thenC_normal ?_
  refine AWP_condP (y.2 ≠ 0) rfl bd (fun hb => ?_) (fun hb => ?_)
  · replace hK := ite_t hK hb
    refine AWP_seq ?_
    -- region 3
    refine AWP_rg tab_ok [2, 3] fun c st' hr => ?_
    simp only [go_sem, reduceIte, reduceCtorEq, Nat.reduceEqDiff, Nat.reduceLT, Nat.reduceLeDiff, Nat.reduceBEq, Nat.reduceAdd, Nat.reduceMul, Nat.reduceSub, Nat.reducePow, Int.reduceLE, Int.reduceLT, Int.reduceNeg, Int.reduceToNat, Int.reduceAdd, Int.reduceSub, idO_app, lenO_app, lenO_app2, lenO_eta] at hr
    obtain ⟨rfl, rfl⟩ := hr
    refine ⟨vc, ?_⟩
    with_reducible refine thenC_normal ?_
    refine AWP_ret ?_
    with_reducible refine thenC_ret ?_
    cases hK
    refine EndsRW [] (.inl rfl) (of_decide_eq_true rfl) (by simp) rfl (fun c x hr => ?_) trivial
    simp only [go_sem, reduceIte, reduceCtorEq, Nat.reduceEqDiff, Nat.reduceLT, Nat.reduceLeDiff, Nat.reduceBEq, Nat.reduceAdd, Nat.reduceMul, Nat.reduceSub, Nat.reducePow, Int.reduceLE, Int.reduceLT, Int.reduceNeg, Int.reduceToNat, Int.reduceAdd, Int.reduceSub, idO_app, lenO_app, lenO_app2, lenO_eta] at hr
    obtain ⟨rfl, rfl⟩ := hr
    exact ⟨rfl, endR⟩
  · replace hK := ite_f hK hb
    refine AWP_skip ?_
    with_reducible refine thenC_normal ?_
    refine AWP_seq ?_
    refine AWP_seq ?_
    -- region 4
    refine AWP_rg tab_ok [16, 17, 18] fun c st' hr => ?_
    simp only [go_sem, reduceIte, reduceCtorEq, Nat.reduceEqDiff, Nat.reduceLT, Nat.reduceLeDiff, Nat.reduceBEq, Nat.reduceAdd, Nat.reduceMul, Nat.reduceSub, Nat.reducePow, Int.reduceLE, Int.reduceLT, Int.reduceNeg, Int.reduceToNat, Int.reduceAdd, Int.reduceSub, idO_app, lenO_app, lenO_app2, lenO_eta] at hr
    obtain ⟨rfl, rfl⟩ := hr
    refine ⟨vc, ?_⟩
    with_reducible refine thenC_normal ?_
    refine AWP_block ?_
    refine AWP_loopX 0 (fun (v : Int) => ⟨31, [(16, .own 0 y.1.length), (17, .int .i64 (y.1.length : Int)), (18, .int .i64 v)], [some (.ints 3 .i64 y.1)]⟩) (fun (_ : Unit) => ⟨31, [], []⟩) Sum.inl 0 [1] hK mkWkR ?_ ?_
    · clear hK; rintro v b hK hpost1
      try dsimp only at hK
      change AWP _ _ _ _ ⟨31, [(16, .own 0 y.1.length), (17, .int .i64 (y.1.length : Int)), (18, .int .i64 v)], [some (.ints 3 .i64 y.1)]⟩
      refine AWP_seq ?_
      -- region 5
      refine AWP_rg tab_ok [16, 17, 18, 19] fun c st' hr => ?_
      simp only [go_sem, reduceIte, reduceCtorEq, Nat.reduceEqDiff, Nat.reduceLT, Nat.reduceLeDiff, Nat.reduceBEq, Nat.reduceAdd, Nat.reduceMul, Nat.reduceSub, Nat.reducePow, Int.reduceLE, Int.reduceLT, Int.reduceNeg, Int.reduceToNat, Int.reduceAdd, Int.reduceSub, idO_app, lenO_app, lenO_app2, lenO_eta] at hr
      obtain ⟨rfl, rfl⟩ := hr
      refine ⟨vc, ?_⟩
      with_reducible refine thenC_normal ?_
      refine AWP_seq ?_
      refine AWP_condP (v < (y.1.length : Int)) rfl bd (fun hb1 => ?_) (fun hb1 => ?_)
      · replace hK := ite_t hK hb1
        refine AWP_skip ?_
        with_reducible refine thenC_normal ?_
        refine AWP_seq ?_
        refine AWP_block ?_
        refine AWP_seq ?_
        -- region 6
        replace hK := chk_some hK
        obtain ⟨h, hK⟩ := hK
        refine AWP_rg tab_ok [6, 7, 16, 17, 18] fun c st' hr => ?_
        simp only [go_sem, reduceIte, reduceCtorEq, Nat.reduceEqDiff, Nat.reduceLT, Nat.reduceLeDiff, Nat.reduceBEq, Nat.reduceAdd, Nat.reduceMul, Nat.reduceSub, Nat.reducePow, Int.reduceLE, Int.reduceLT, Int.reduceNeg, Int.reduceToNat, Int.reduceAdd, Int.reduceSub, idO_app, lenO_app, lenO_app2, lenO_eta] at hr
        obtain ⟨rfl, rfl⟩ := hr
        refine ⟨vc, ?_⟩
        with_reducible refine thenC_normal ?_
        refine AWP_seq ?_
        -- region 7
        refine AWP_rg tab_ok [6, 16, 17, 18, 28] fun c st' hr => ?_
        simp only [go_sem, reduceIte, reduceCtorEq, Nat.reduceEqDiff, Nat.reduceLT, Nat.reduceLeDiff, Nat.reduceBEq, Nat.reduceAdd, Nat.reduceMul, Nat.reduceSub, Nat.reducePow, Int.reduceLE, Int.reduceLT, Int.reduceNeg, Int.reduceToNat, Int.reduceAdd, Int.reduceSub, idO_app, lenO_app, lenO_app2, lenO_eta] at hr
        obtain ⟨rfl, rfl⟩ := hr
        refine ⟨vc, ?_⟩
        with_reducible refine thenC_normal ?_
        refine AWP_condP ((0 < v ∧ 0 < y.1.getD v.toNat 0)) rfl bd (fun hb2 => ?_) (fun hb2 => ?_)
        · replace hK := ite_t hK hb2
          refine AWP_seq ?_
          -- region 8
          refine AWP_rg tab_ok [2, 3] fun c st' hr => ?_
          simp only [go_sem, reduceIte, reduceCtorEq, Nat.reduceEqDiff, Nat.reduceLT, Nat.reduceLeDiff, Nat.reduceBEq, Nat.reduceAdd, Nat.reduceMul, Nat.reduceSub, Nat.reducePow, Int.reduceLE, Int.reduceLT, Int.reduceNeg, Int.reduceToNat, Int.reduceAdd, Int.reduceSub, idO_app, lenO_app, lenO_app2, lenO_eta] at hr
          obtain ⟨rfl, rfl⟩ := hr
          refine ⟨vc, ?_⟩
          with_reducible refine thenC_normal ?_
          refine AWP_ret ?_
          with_reducible refine inBlockA_ret (thenC_ret (again_r (cutX_r (inBlockA_ret (thenC_ret ?_)))))
          replace hK := hpost1 _ hK
          try dsimp only at hK
          cases hK
          refine EndsRW [] (.inl rfl) (of_decide_eq_true rfl) (by simp) rfl (fun c x hr => ?_) trivial
          simp only [go_sem, reduceIte, reduceCtorEq, Nat.reduceEqDiff, Nat.reduceLT, Nat.reduceLeDiff, Nat.reduceBEq, Nat.reduceAdd, Nat.reduceMul, Nat.reduceSub, Nat.reducePow, Int.reduceLE, Int.reduceLT, Int.reduceNeg, Int.reduceToNat, Int.reduceAdd, Int.reduceSub, idO_app, lenO_app, lenO_app2, lenO_eta] at hr
          obtain ⟨rfl, rfl⟩ := hr
          exact ⟨rfl, endR⟩
        · replace hK := ite_f hK hb2
          refine AWP_skip ?_
          with_reducible refine inBlockA_normal (thenC_normal ?_)
          -- region 9
          replace hK := chk_some hK
          obtain ⟨h1, hK⟩ := hK
          refine AWP_rg tab_ok [16, 17, 18] fun c st' hr => ?_
          simp only [go_sem, reduceIte, reduceCtorEq, Nat.reduceEqDiff, Nat.reduceLT, Nat.reduceLeDiff, Nat.reduceBEq, Nat.reduceAdd, Nat.reduceMul, Nat.reduceSub, Nat.reducePow, Int.reduceLE, Int.reduceLT, Int.reduceNeg, Int.reduceToNat, Int.reduceAdd, Int.reduceSub, idO_app, lenO_app, lenO_app2, lenO_eta] at hr
          obtain ⟨rfl, rfl⟩ := hr
          refine ⟨vc, ?_⟩
          refine again_n (v + 1) [0] hK mkWkR
      · replace hK := ite_f hK hb1
        refine AWP_exit ?_
        with_reducible refine thenC_exit (again_x ?_)
        refine cutX_here () [] (by have hq := hpost1 _ hK; exact hq) mkWkR
    · clear hK; rintro _ hK
      try dsimp only at hK
      refine exS ⟨31, [], []⟩ rfl ?_
      with_reducible refine inBlockA_exit (thenC_normal ?_)
      refine AWP_seq ?_
      -- region 10
      refine AWP_rg tab_ok [2, 3] fun c st' hr => ?_
      simp only [go_sem, reduceIte, reduceCtorEq, Nat.reduceEqDiff, Nat.reduceLT, Nat.reduceLeDiff, Nat.reduceBEq, Nat.reduceAdd, Nat.reduceMul, Nat.reduceSub, Nat.reducePow, Int.reduceLE, Int.reduceLT, Int.reduceNeg, Int.reduceToNat, Int.reduceAdd, Int.reduceSub, idO_app, lenO_app, lenO_app2, lenO_eta] at hr
      obtain ⟨rfl, rfl⟩ := hr
      refine ⟨vc, ?_⟩
      with_reducible refine thenC_normal ?_
      refine AWP_ret ?_
      cases hK
      refine EndsRW [] (.inl rfl) (of_decide_eq_true rfl) (by simp) rfl (fun c x hr => ?_) trivial
      simp only [go_sem, reduceIte, reduceCtorEq, Nat.reduceEqDiff, Nat.reduceLT, Nat.reduceLeDiff, Nat.reduceBEq, Nat.reduceAdd, Nat.reduceMul, Nat.reduceSub, Nat.reducePow, Int.reduceLE, Int.reduceLT, Int.reduceNeg, Int.reduceToNat, Int.reduceAdd, Int.reduceSub, idO_app, lenO_app, lenO_app2, lenO_eta] at hr
      obtain ⟨rfl, rfl⟩ := hr
      exact ⟨rfl, endR⟩

end Go.SH
