/-
  That the code computes these functions: rotakeep_SameOrbit_1_1, rotakeep_SameOrbit_1. By a program of mine (shal.py). Conditions: none.
-/
import Derived.Test.YtdhbpoafkhojnaaAxT
import Derived.Test.YtdhbpoafkhojnaaAxR
import Derived.Test.YtdhbpoafkhojnaaAxGc
import Derived.Test.YtdhbpoafkhojnaaAxCy
import Derived.Test.YtdhbpoafkhojnaaAxKF
import Derived.Test.YtdhbpoafkhojnaaSprotakeep
import Derived.Test.YtdhbpoafkhojnaaWprotalaw
import Derived.Test.YtdhbpoafkhojnaaWpsamer
import Derived.Test.YtdhbpoafkhojnaaWpslices
set_option linter.unusedVariables false
set_option linter.unusedSimpArgs false
namespace Go.SH
open Go Go.AX Go.AX.Try Go.Proofs

set_option maxRecDepth 8000 in
set_option maxHeartbeats 4000000 in
theorem W_rotakeep_SameOrbit_1_1 {y : List Int} {c0_0 : Int} {c0_1 : List Int} {r : Bool} (hK : rotakeep_SameOrbit_1_1 y c0_0 c0_1 = some r) : Pure Try.prog 19 [.ints .i64 y, .immp [.int .i64 c0_0, .ints .i64 c0_1]] (.bool r) [] := by
  refine Pure_introF tab_ok (n := 8) (l := [.tmp 3]) Try.func19 rfl rfl rfl (by simp) fun hfact w0 => ?_
  simp only [factL1, fact1, fact0, factL0, lo, hi, maxLen, and_true] at hfact
  unfold rotakeep_SameOrbit_1_1 at hK
  refine AWP_seq ?_
  -- region 0
  refine AWP_rg tab_ok [0, 1] fun c st' hr => ?_
  simp only [go_sem, reduceIte, reduceCtorEq, Nat.reduceEqDiff, Nat.reduceLT, Nat.reduceLeDiff, Nat.reduceBEq, Nat.reduceAdd, Nat.reduceMul, Nat.reduceSub, Nat.reducePow, Int.reduceLE, Int.reduceLT, Int.reduceNeg, Int.reduceToNat, Int.reduceAdd, Int.reduceSub] at hr
  obtain ⟨rfl, rfl⟩ := hr
  refine ⟨vc, ?_⟩
  with_reducible refine thenC_normal ?_
  refine AWP_seq ?_
  -- region 1
  refine AWP_rl ?_
  refine AWPL_rn tab_ok 3 [5, 6] fun c st' hr => ?_
  simp only [go_sem, reduceIte, reduceCtorEq, Nat.reduceEqDiff, Nat.reduceLT, Nat.reduceLeDiff, Nat.reduceBEq, Nat.reduceAdd, Nat.reduceMul, Nat.reduceSub, Nat.reducePow, Int.reduceLE, Int.reduceLT, Int.reduceNeg, Int.reduceToNat, Int.reduceAdd, Int.reduceSub] at hr
  obtain ⟨rfl, rfl⟩ := hr
  refine ⟨vc, ?_⟩
  replace hK := bind_s hK
  obtain ⟨y1, hy, hK⟩ := hK
  refine AWPL_callK [7] (W_rotalaw_Same_int hy) rfl rfl pcT rfl Try.call20 (.cons (.atom _ rfl) (.cons (.atom _ rfl) .nil)) (hscG trivial) (of_decide_eq_true rfl) (by first | rfl | simp [nI, nI1, nI0]) (by first | rfl | simp [nIB, nI0]) fun st' hr => ?_
  simp only [go_sem, reduceIte, reduceCtorEq, Nat.reduceEqDiff, Nat.reduceLT, Nat.reduceLeDiff, Nat.reduceBEq, Nat.reduceAdd, Nat.reduceMul, Nat.reduceSub, Nat.reducePow, Int.reduceLE, Int.reduceLT, Int.reduceNeg, Int.reduceToNat, Int.reduceAdd, Int.reduceSub] at hr
  subst hr
  clear hy
  refine AWPL_rn tab_ok 1 [3] fun c st' hr => ?_
  simp only [go_sem, reduceIte, reduceCtorEq, Nat.reduceEqDiff, Nat.reduceLT, Nat.reduceLeDiff, Nat.reduceBEq, Nat.reduceAdd, Nat.reduceMul, Nat.reduceSub, Nat.reducePow, Int.reduceLE, Int.reduceLT, Int.reduceNeg, Int.reduceToNat, Int.reduceAdd, Int.reduceSub] at hr
  obtain ⟨rfl, rfl⟩ := hr
  refine ⟨vc, ?_⟩
  refine AWPL_nil ?_
  with_reducible refine thenC_normal ?_
  refine AWP_ret ?_
  cases hK
  refine EndsRW [] (.inl rfl) (of_decide_eq_true rfl) (by simp) rfl (fun c x hr => ?_) trivial
  simp only [go_sem, reduceIte, reduceCtorEq, Nat.reduceEqDiff, Nat.reduceLT, Nat.reduceLeDiff, Nat.reduceBEq, Nat.reduceAdd, Nat.reduceMul, Nat.reduceSub, Nat.reducePow, Int.reduceLE, Int.reduceLT, Int.reduceNeg, Int.reduceToNat, Int.reduceAdd, Int.reduceSub] at hr
  obtain ⟨rfl, rfl⟩ := hr
  exact ⟨rfl, endR⟩

set_option maxRecDepth 8000 in
set_option maxHeartbeats 4000000 in
theorem WS_rotakeep_SameOrbit_1 {fuel : Nat} (ih : ∀ {c1_0 : Int} {c1_1 : List Int} {q0 : List Int} {q1 : Int} {q2 : List (List Int)} {r : Bool × List Int × Int × List (List Int)}, rotakeep_SameOrbit_1 fuel c1_0 c1_1 q0 q1 q2 = some r → InG Try.prog 16 [(.gen 22 1 [[.own 3 q0.length]]), (.ints 3 .i64 [q1]), (.gen 28 1 [[.own 4 q2.length]]), (.ints 3 .i64 q0), (.gen 22 1 (List.map (fun e => [.ints .i64 e]) q2))] 3 (fun ls => match ls with | [pl0, pl1, pl2] => [.ptr 0 0 0, .immp [.int .i64 c1_0, .ints .i64 c1_1], .ptr 1 0 0, .ptr 2 0 0, cycA 16 [.abs pl0 0 0, .immp [.int .i64 c1_0, .ints .i64 c1_1], .abs pl1 0 0, .abs pl2 0 0] fuel] | _ => []) (.bool r.1) [(.gen 22 1 [[.own 3 r.2.1.length]]), (.ints 3 .i64 [r.2.2.1]), (.gen 28 1 [[.own 4 r.2.2.2.length]]), (.ints 3 .i64 r.2.1), (.gen 22 1 (List.map (fun e => [.ints .i64 e]) r.2.2.2))]) {c1_0 : Int} {c1_1 : List Int} {q0 : List Int} {q1 : Int} {q2 : List (List Int)} {r : Bool × List Int × Int × List (List Int)} (hK : rotakeep_SameOrbit_1 (fuel + 1) c1_0 c1_1 q0 q1 q2 = some r) : InG Try.prog 16 [(.gen 22 1 [[.own 3 q0.length]]), (.ints 3 .i64 [q1]), (.gen 28 1 [[.own 4 q2.length]]), (.ints 3 .i64 q0), (.gen 22 1 (List.map (fun e => [.ints .i64 e]) q2))] 3 (fun ls => match ls with | [pl0, pl1, pl2] => [.ptr 0 0 0, .immp [.int .i64 c1_0, .ints .i64 c1_1], .ptr 1 0 0, .ptr 2 0 0, .immp [.func 16 [.abs pl0 0 0, .immp [.int .i64 c1_0, .ints .i64 c1_1], .abs pl1 0 0, .abs pl2 0 0, cycA 16 [.abs pl0 0 0, .immp [.int .i64 c1_0, .ints .i64 c1_1], .abs pl1 0 0, .abs pl2 0 0] fuel]]] | _ => []) (.bool r.1) [(.gen 22 1 [[.own 3 r.2.1.length]]), (.ints 3 .i64 [r.2.2.1]), (.gen 28 1 [[.own 4 r.2.2.2.length]]), (.ints 3 .i64 r.2.1), (.gen 22 1 (List.map (fun e => [.ints .i64 e]) r.2.2.2))] := by
  refine InG_intro tab_ok (n := 56) (l := [.tmp 5]) Try.func16 rfl rfl rfl (fun ls => by split <;> simp) (of_decide_eq_true rfl) (of_decide_eq_true rfl) rfl rfl rfl (by simp [renB, ren0, renI, List.range, List.range.loop]) (of_decide_eq_true rfl) (of_decide_eq_true rfl) fun w0 ls hls => ?_
  obtain ⟨pl0, pl1, pl2, rfl⟩ : ∃ pl0 pl1 pl2, ls = [pl0, pl1, pl2] := by
    match ls, hls with
    | [a, b, c], _ => exact ⟨a, b, c, rfl⟩
  simp only [pinL, List.map_cons, List.map_nil, List.cons_append, List.nil_append, Nat.zero_add, Nat.reduceAdd]
  rw [rotakeep_SameOrbit_1.eq_2] at hK
  refine AWP_seq ?_
  -- region 0
  refine AWP_rg tab_ok [0, 1, 2, 3, 4] fun c st' hr => ?_
  simp only [go_sem, reduceIte, reduceCtorEq, Nat.reduceEqDiff, Nat.reduceLT, Nat.reduceLeDiff, Nat.reduceBEq, Nat.reduceAdd, Nat.reduceMul, Nat.reduceSub, Nat.reducePow, Int.reduceLE, Int.reduceLT, Int.reduceNeg, Int.reduceToNat, Int.reduceAdd, Int.reduceSub] at hr
  obtain ⟨rfl, rfl⟩ := hr
  refine ⟨vc, ?_⟩
  with_reducible refine thenC_normal ?_
  refine AWP_seq ?_
  refine AWP_seq ?_
  -- region 1
  refine AWP_rg tab_ok [0, 1, 2, 3, 4, 14] fun c st' hr => ?_
  simp only [go_sem, reduceIte, reduceCtorEq, Nat.reduceEqDiff, Nat.reduceLT, Nat.reduceLeDiff, Nat.reduceBEq, Nat.reduceAdd, Nat.reduceMul, Nat.reduceSub, Nat.reducePow, Int.reduceLE, Int.reduceLT, Int.reduceNeg, Int.reduceToNat, Int.reduceAdd, Int.reduceSub] at hr
  obtain ⟨rfl, rfl⟩ := hr
  refine ⟨vc, ?_⟩
  with_reducible refine thenC_normal ?_
  refine AWP_condP ((q0.length : Int) = c1_0) rfl bd (fun hb => ?_) (fun hb => ?_)
  · replace hK := ite_t hK hb
    refine AWP_seq ?_
    -- region 2
    replace hK := chk_some hK
    obtain ⟨h, hK⟩ := hK
    refine AWP_rg tab_ok [0, 1, 3] fun c st' hr => ?_
    simp only [go_sem, reduceIte, reduceCtorEq, Nat.reduceEqDiff, Nat.reduceLT, Nat.reduceLeDiff, Nat.reduceBEq, Nat.reduceAdd, Nat.reduceMul, Nat.reduceSub, Nat.reducePow, Int.reduceLE, Int.reduceLT, Int.reduceNeg, Int.reduceToNat, Int.reduceAdd, Int.reduceSub] at hr
    obtain ⟨rfl, rfl⟩ := hr
    refine ⟨vc, ?_⟩
    with_reducible refine thenC_normal ?_
    refine AWP_seq ?_
    -- region 3
    refine AWP_rl ?_
    refine AWPL_rn tab_ok 2 [3, 18, 19] fun c st' hr => ?_
    simp only [go_sem, reduceIte, reduceCtorEq, Nat.reduceEqDiff, Nat.reduceLT, Nat.reduceLeDiff, Nat.reduceBEq, Nat.reduceAdd, Nat.reduceMul, Nat.reduceSub, Nat.reducePow, Int.reduceLE, Int.reduceLT, Int.reduceNeg, Int.reduceToNat, Int.reduceAdd, Int.reduceSub] at hr
    obtain ⟨rfl, rfl⟩ := hr
    refine ⟨vc, ?_⟩
    replace hK := bind_s hK
    obtain ⟨y, hy, hK⟩ := hK
    refine AWPL_callK [3, 20] (W_same_Rename hy) rfl rfl pcT rfl Try.call17 (.cons (.agg _ _ rfl (ArgsOk.get (.cons (.atom _ rfl) (.cons (.atom _ rfl) .nil))).2) (.cons (.ownI _ _ _ _ _ q0 rfl (by simp) (by first | simp | exact List.take_of_length_le (by simp))) .nil)) (hscG trivial) (of_decide_eq_true rfl) (by first | rfl | simp [nI, nI1, nI0]) (by first | rfl | simp [nIB, nI0]) fun st' hr => ?_
    simp only [go_sem, reduceIte, reduceCtorEq, Nat.reduceEqDiff, Nat.reduceLT, Nat.reduceLeDiff, Nat.reduceBEq, Nat.reduceAdd, Nat.reduceMul, Nat.reduceSub, Nat.reducePow, Int.reduceLE, Int.reduceLT, Int.reduceNeg, Int.reduceToNat, Int.reduceAdd, Int.reduceSub] at hr
    subst hr
    clear hy
    refine AWPL_freeze 20 8 (y := .tup [.agg [.int .i64 y.1, .ints .i64 y.2.1], .int .i64 y.2.2]) rfl (.tup (.cons (.agg _ _ rfl (ArgsOk.get (.cons (.atom _ rfl) (.cons (.ownI _ _ _ _ _ y.2.1 rfl (by simp) (by first | simp | exact List.take_of_length_le (by simp))) .nil))).2) (.cons (.atom _ rfl) .nil))) fun st' hr => ?_
    simp only [go_sem, reduceIte, reduceCtorEq, Nat.reduceEqDiff, Nat.reduceLT, Nat.reduceLeDiff, Nat.reduceBEq, Nat.reduceAdd, Nat.reduceMul, Nat.reduceSub, Nat.reducePow, Int.reduceLE, Int.reduceLT, Int.reduceNeg, Int.reduceToNat, Int.reduceAdd, Int.reduceSub, List.set_cons_zero, List.set_cons_succ] at hr
    subst hr
    refine AWPL_rn tab_ok 6 [3, 6, 7] fun c st' hr => ?_
    simp only [go_sem, reduceIte, reduceCtorEq, Nat.reduceEqDiff, Nat.reduceLT, Nat.reduceLeDiff, Nat.reduceBEq, Nat.reduceAdd, Nat.reduceMul, Nat.reduceSub, Nat.reducePow, Int.reduceLE, Int.reduceLT, Int.reduceNeg, Int.reduceToNat, Int.reduceAdd, Int.reduceSub] at hr
    obtain ⟨rfl, rfl⟩ := hr
    refine ⟨vc, ?_⟩
    refine AWPL_nil ?_
    with_reducible refine thenC_normal ?_
    refine AWP_seq ?_
    refine AWP_seq ?_
    -- region 4
    refine AWP_rg tab_ok [3, 6, 24] fun c st' hr => ?_
    simp only [go_sem, reduceIte, reduceCtorEq, Nat.reduceEqDiff, Nat.reduceLT, Nat.reduceLeDiff, Nat.reduceBEq, Nat.reduceAdd, Nat.reduceMul, Nat.reduceSub, Nat.reducePow, Int.reduceLE, Int.reduceLT, Int.reduceNeg, Int.reduceToNat, Int.reduceAdd, Int.reduceSub] at hr
    obtain ⟨rfl, rfl⟩ := hr
    refine ⟨vc, ?_⟩
    with_reducible refine thenC_normal ?_
    refine AWP_condP (y.2.2 ≠ 0) rfl bd (fun hb1 => ?_) (fun hb1 => ?_)
    · replace hK := ite_t hK hb1
      refine AWP_seq ?_
      -- region 5
      refine AWP_rg tab_ok [5] fun c st' hr => ?_
      simp only [go_sem, reduceIte, reduceCtorEq, Nat.reduceEqDiff, Nat.reduceLT, Nat.reduceLeDiff, Nat.reduceBEq, Nat.reduceAdd, Nat.reduceMul, Nat.reduceSub, Nat.reducePow, Int.reduceLE, Int.reduceLT, Int.reduceNeg, Int.reduceToNat, Int.reduceAdd, Int.reduceSub] at hr
      obtain ⟨rfl, rfl⟩ := hr
      refine ⟨vc, ?_⟩
      with_reducible refine thenC_normal ?_
      refine AWP_ret ?_
      with_reducible refine thenC_ret (thenC_ret ?_)
      cases hK
      refine EndsRW [0, 1, 2, 3, 4, 5, 6, 7] (.inl rfl) (of_decide_eq_true rfl) (by simp) rfl (fun c x hr => ?_) endH
      simp only [go_sem, reduceIte, reduceCtorEq, Nat.reduceEqDiff, Nat.reduceLT, Nat.reduceLeDiff, Nat.reduceBEq, Nat.reduceAdd, Nat.reduceMul, Nat.reduceSub, Nat.reducePow, Int.reduceLE, Int.reduceLT, Int.reduceNeg, Int.reduceToNat, Int.reduceAdd, Int.reduceSub] at hr
      obtain ⟨rfl, rfl⟩ := hr
      exact ⟨rfl, endR⟩
    · replace hK := ite_f hK hb1
      refine AWP_skip ?_
      with_reducible refine thenC_normal ?_
      refine AWP_seqJ (fun q21 => ⟨56, [], [some (.gen 22 1 [[.own 3 q0.length]]), some (.ints 3 .i64 [q1 + 1]), some (.gen 28 1 [[.own 4 q21.length]]), some (.ints 3 .i64 q0), some (.gen 22 1 (List.map (fun e => [.ints .i64 e]) q21)), some (.pin 0 pl0), some (.pin 1 pl1), some (.pin 2 pl2)]⟩) hK ?_ ?_
      · clear hK; intro j hK; try dsimp only at hK
        refine AWP_seq ?_
        -- region 6
        refine AWP_rl ?_
        refine AWPL_rn tab_ok 2 [3, 6, 25, 26] fun c st' hr => ?_
        simp only [go_sem, reduceIte, reduceCtorEq, Nat.reduceEqDiff, Nat.reduceLT, Nat.reduceLeDiff, Nat.reduceBEq, Nat.reduceAdd, Nat.reduceMul, Nat.reduceSub, Nat.reducePow, Int.reduceLE, Int.reduceLT, Int.reduceNeg, Int.reduceToNat, Int.reduceAdd, Int.reduceSub] at hr
        obtain ⟨rfl, rfl⟩ := hr
        refine ⟨vc, ?_⟩
        replace hK := bind_s hK
        obtain ⟨y1, hy, hK⟩ := hK
        refine AWPL_callK [3, 6, 27] (W_slices_ContainsFunc_rows_int Try.call19 rfl (fun _ _ hh => by simpa using W_rotakeep_SameOrbit_1_1 hh) hy) rfl rfl pcT rfl Try.call18 (.cons (.ownEnc (fun e => [.ints .i64 e]) [] q2 (by first | rfl | (simp; done)) (by first | rfl | (simp; done)) (fun _ => rfl) (fun _ => rfl)) (.cons (.funcOf (.cons (.ptrM _ _ _ _ _ _ _ rfl rfl rfl (ArgsOk.get (.cons (.atom _ rfl) (.cons (.atom _ rfl) .nil))).2) .nil)) .nil)) (hscG trivial) (of_decide_eq_true rfl) (by first | rfl | simp [nI, nI1, nI0]) (by first | rfl | simp [nIB, nI0]) fun st' hr => ?_
        simp only [go_sem, reduceIte, reduceCtorEq, Nat.reduceEqDiff, Nat.reduceLT, Nat.reduceLeDiff, Nat.reduceBEq, Nat.reduceAdd, Nat.reduceMul, Nat.reduceSub, Nat.reducePow, Int.reduceLE, Int.reduceLT, Int.reduceNeg, Int.reduceToNat, Int.reduceAdd, Int.reduceSub] at hr
        subst hr
        clear hy
        refine AWPL_rn tab_ok 1 [3, 6, 28] fun c st' hr => ?_
        simp only [go_sem, reduceIte, reduceCtorEq, Nat.reduceEqDiff, Nat.reduceLT, Nat.reduceLeDiff, Nat.reduceBEq, Nat.reduceAdd, Nat.reduceMul, Nat.reduceSub, Nat.reducePow, Int.reduceLE, Int.reduceLT, Int.reduceNeg, Int.reduceToNat, Int.reduceAdd, Int.reduceSub] at hr
        obtain ⟨rfl, rfl⟩ := hr
        refine ⟨vc, ?_⟩
        refine AWPL_nil ?_
        with_reducible refine thenC_normal ?_
        refine AWP_condP (¬ (y1 = true)) rfl bd (fun hb2 => ?_) (fun hb2 => ?_)
        · replace hK := ite_t hK hb2
          -- region 7
          replace hK := chk_some hK
          obtain ⟨h1, hK⟩ := hK
          refine AWP_rg tab_ok [] fun c st' hr => ?_
          simp only [go_sem, reduceIte, reduceCtorEq, Nat.reduceEqDiff, Nat.reduceLT, Nat.reduceLeDiff, Nat.reduceBEq, Nat.reduceAdd, Nat.reduceMul, Nat.reduceSub, Nat.reducePow, Int.reduceLE, Int.reduceLT, Int.reduceNeg, Int.reduceToNat, Int.reduceAdd, Int.reduceSub] at hr
          obtain ⟨rfl, rfl⟩ := hr
          refine ⟨vc, ?_⟩
          refine join_n (q2 ++ [y.2.1]) [0, 1, 2, 3, 11, 5, 6, 7] hK mkWk
        · replace hK := ite_f hK hb2
          refine AWP_skip ?_
          refine join_n q2 [0, 1, 2, 3, 4, 5, 6, 7] hK mkWk
      · clear hK; intro q21 hK
        try dsimp only at hK
        change AWP _ _ _ _ ⟨56, [], [some (.gen 22 1 [[.own 3 q0.length]]), some (.ints 3 .i64 [q1 + 1]), some (.gen 28 1 [[.own 4 q21.length]]), some (.ints 3 .i64 q0), some (.gen 22 1 (List.map (fun e => [.ints .i64 e]) q21)), some (.pin 0 pl0), some (.pin 1 pl1), some (.pin 2 pl2)]⟩
        refine AWP_seq ?_
        -- region 8
        refine AWP_rg tab_ok [5] fun c st' hr => ?_
        simp only [go_sem, reduceIte, reduceCtorEq, Nat.reduceEqDiff, Nat.reduceLT, Nat.reduceLeDiff, Nat.reduceBEq, Nat.reduceAdd, Nat.reduceMul, Nat.reduceSub, Nat.reducePow, Int.reduceLE, Int.reduceLT, Int.reduceNeg, Int.reduceToNat, Int.reduceAdd, Int.reduceSub] at hr
        obtain ⟨rfl, rfl⟩ := hr
        refine ⟨vc, ?_⟩
        with_reducible refine thenC_normal ?_
        refine AWP_ret ?_
        with_reducible refine thenC_ret ?_
        cases hK
        refine EndsRW [0, 1, 2, 3, 4, 5, 6, 7] (.inl rfl) (of_decide_eq_true rfl) (by simp) rfl (fun c x hr => ?_) endH
        simp only [go_sem, reduceIte, reduceCtorEq, Nat.reduceEqDiff, Nat.reduceLT, Nat.reduceLeDiff, Nat.reduceBEq, Nat.reduceAdd, Nat.reduceMul, Nat.reduceSub, Nat.reducePow, Int.reduceLE, Int.reduceLT, Int.reduceNeg, Int.reduceToNat, Int.reduceAdd, Int.reduceSub] at hr
        obtain ⟨rfl, rfl⟩ := hr
        exact ⟨rfl, endR⟩
  · replace hK := ite_f hK hb
    refine AWP_skip ?_
    with_reducible refine thenC_normal ?_
    refine AWP_seq ?_
    refine AWP_seq ?_
    -- region 9
    refine AWP_rg tab_ok [0, 4, 35, 36] fun c st' hr => ?_
    simp only [go_sem, reduceIte, reduceCtorEq, Nat.reduceEqDiff, Nat.reduceLT, Nat.reduceLeDiff, Nat.reduceBEq, Nat.reduceAdd, Nat.reduceMul, Nat.reduceSub, Nat.reducePow, Int.reduceLE, Int.reduceLT, Int.reduceNeg, Int.reduceToNat, Int.reduceAdd, Int.reduceSub] at hr
    obtain ⟨rfl, rfl⟩ := hr
    refine ⟨vc, ?_⟩
    with_reducible refine thenC_normal ?_
    refine AWP_block ?_
    refine AWP_loopX 0 (fun ((q01, q11, q22, v) : List Int × Int × List (List Int) × Int) => ⟨56, [(0, .ptr 0 0 0), (4, .immp [.func 16 [.abs pl0 0 0, .immp [.int .i64 c1_0, .ints .i64 c1_1], .abs pl1 0 0, .abs pl2 0 0, cycA 16 [.abs pl0 0 0, .immp [.int .i64 c1_0, .ints .i64 c1_1], .abs pl1 0 0, .abs pl2 0 0] fuel]]), (35, .int .i64 c1_0), (36, .int .i64 v)], [some (.gen 22 1 [[.own 3 q01.length]]), some (.ints 3 .i64 [q11]), some (.gen 28 1 [[.own 4 q22.length]]), some (.ints 3 .i64 q01), some (.gen 22 1 (List.map (fun e => [.ints .i64 e]) q22)), some (.pin 0 pl0), some (.pin 1 pl1), some (.pin 2 pl2)]⟩) (fun ((q02, q12, q23) : List Int × Int × List (List Int)) => ⟨56, [], [some (.gen 22 1 [[.own 3 q02.length]]), some (.ints 3 .i64 [q12]), some (.gen 28 1 [[.own 4 q23.length]]), some (.ints 3 .i64 q02), some (.gen 22 1 (List.map (fun e => [.ints .i64 e]) q23)), some (.pin 0 pl0), some (.pin 1 pl1), some (.pin 2 pl2)]⟩) Sum.inl (q0, q1, q2, 0) [0, 1, 2, 3, 4, 5, 6, 7] hK mkWk ?_ ?_
    · clear hK; rintro ⟨q01, q11, q22, v⟩ b hK hpost1
      try dsimp only at hK
      change AWP _ _ _ _ ⟨56, [(0, .ptr 0 0 0), (4, .immp [.func 16 [.abs pl0 0 0, .immp [.int .i64 c1_0, .ints .i64 c1_1], .abs pl1 0 0, .abs pl2 0 0, cycA 16 [.abs pl0 0 0, .immp [.int .i64 c1_0, .ints .i64 c1_1], .abs pl1 0 0, .abs pl2 0 0] fuel]]), (35, .int .i64 c1_0), (36, .int .i64 v)], [some (.gen 22 1 [[.own 3 q01.length]]), some (.ints 3 .i64 [q11]), some (.gen 28 1 [[.own 4 q22.length]]), some (.ints 3 .i64 q01), some (.gen 22 1 (List.map (fun e => [.ints .i64 e]) q22)), some (.pin 0 pl0), some (.pin 1 pl1), some (.pin 2 pl2)]⟩
      refine AWP_seq ?_
      -- region 10
      refine AWP_rg tab_ok [0, 4, 35, 36, 37] fun c st' hr => ?_
      simp only [go_sem, reduceIte, reduceCtorEq, Nat.reduceEqDiff, Nat.reduceLT, Nat.reduceLeDiff, Nat.reduceBEq, Nat.reduceAdd, Nat.reduceMul, Nat.reduceSub, Nat.reducePow, Int.reduceLE, Int.reduceLT, Int.reduceNeg, Int.reduceToNat, Int.reduceAdd, Int.reduceSub] at hr
      obtain ⟨rfl, rfl⟩ := hr
      refine ⟨vc, ?_⟩
      with_reducible refine thenC_normal ?_
      refine AWP_seq ?_
      refine AWP_condP (v < c1_0) rfl bd (fun hb3 => ?_) (fun hb3 => ?_)
      · replace hK := ite_t hK hb3
        refine AWP_skip ?_
        with_reducible refine thenC_normal ?_
        refine AWP_seq ?_
        refine AWP_block ?_
        refine AWP_seq ?_
        -- region 11
        refine AWP_rg tab_ok [0, 4, 8, 35, 36] fun c st' hr => ?_
        simp only [go_sem, reduceIte, reduceCtorEq, Nat.reduceEqDiff, Nat.reduceLT, Nat.reduceLeDiff, Nat.reduceBEq, Nat.reduceAdd, Nat.reduceMul, Nat.reduceSub, Nat.reducePow, Int.reduceLE, Int.reduceLT, Int.reduceNeg, Int.reduceToNat, Int.reduceAdd, Int.reduceSub] at hr
        obtain ⟨rfl, rfl⟩ := hr
        refine ⟨vc, ?_⟩
        with_reducible refine thenC_normal ?_
        refine AWP_seq ?_
        refine AWP_seq ?_
        -- region 12
        refine AWP_rl ?_
        refine AWPL_rn tab_ok 2 [0, 4, 8, 35, 36, 39, 40] fun c st' hr => ?_
        simp only [go_sem, reduceIte, reduceCtorEq, Nat.reduceEqDiff, Nat.reduceLT, Nat.reduceLeDiff, Nat.reduceBEq, Nat.reduceAdd, Nat.reduceMul, Nat.reduceSub, Nat.reducePow, Int.reduceLE, Int.reduceLT, Int.reduceNeg, Int.reduceToNat, Int.reduceAdd, Int.reduceSub] at hr
        obtain ⟨rfl, rfl⟩ := hr
        refine ⟨vc, ?_⟩
        replace hK := bind_s hK
        obtain ⟨y2, hy, hK⟩ := hK
        refine AWPL_callK [0, 4, 8, 35, 36, 41] (W_slices_Contains_int_int hy) rfl rfl pcT rfl Try.call21 (.cons (.ownI _ _ _ _ _ q01 rfl (by simp) (by first | simp | exact List.take_of_length_le (by simp))) (.cons (.atom _ rfl) .nil)) (hscG trivial) (of_decide_eq_true rfl) (by first | rfl | simp [nI, nI1, nI0]) (by first | rfl | simp [nIB, nI0]) fun st' hr => ?_
        simp only [go_sem, reduceIte, reduceCtorEq, Nat.reduceEqDiff, Nat.reduceLT, Nat.reduceLeDiff, Nat.reduceBEq, Nat.reduceAdd, Nat.reduceMul, Nat.reduceSub, Nat.reducePow, Int.reduceLE, Int.reduceLT, Int.reduceNeg, Int.reduceToNat, Int.reduceAdd, Int.reduceSub] at hr
        subst hr
        clear hy
        refine AWPL_nil ?_
        with_reducible refine thenC_normal ?_
        refine AWP_condP (y2 = true) rfl bd (fun hb4 => ?_) (fun hb4 => ?_)
        · replace hK := ite_t hK hb4
          refine AWP_exit ?_
          with_reducible refine thenC_exit (inBlockA_exit (thenC_normal ?_))
          -- region 18
          refine AWP_facts (by simp) fun hfx => ?_
          simp only [factS, factV, fact1, fact0, factL0, lo, hi, maxLen, and_true, true_and] at hfx
          refine AWP_rg tab_ok [0, 4, 35, 36] fun c st' hr => ?_
          simp only [go_sem, reduceIte, reduceCtorEq, Nat.reduceEqDiff, Nat.reduceLT, Nat.reduceLeDiff, Nat.reduceBEq, Nat.reduceAdd, Nat.reduceMul, Nat.reduceSub, Nat.reducePow, Int.reduceLE, Int.reduceLT, Int.reduceNeg, Int.reduceToNat, Int.reduceAdd, Int.reduceSub] at hr
          obtain ⟨rfl, rfl⟩ := hr
          refine ⟨vc, ?_⟩
          clear hfx
          refine again_n (q01, q11, q22, v + 1) [0, 1, 2, 3, 4, 5, 6, 7] hK mkWk
        · replace hK := ite_f hK hb4
          refine AWP_skip ?_
          with_reducible refine thenC_normal ?_
          refine AWP_seq ?_
          -- region 13
          replace hK := chk_some hK
          obtain ⟨h2, hK⟩ := hK
          refine AWP_rg tab_ok [0, 4, 35, 36] fun c st' hr => ?_
          simp only [go_sem, reduceIte, reduceCtorEq, Nat.reduceEqDiff, Nat.reduceLT, Nat.reduceLeDiff, Nat.reduceBEq, Nat.reduceAdd, Nat.reduceMul, Nat.reduceSub, Nat.reducePow, Int.reduceLE, Int.reduceLT, Int.reduceNeg, Int.reduceToNat, Int.reduceAdd, Int.reduceSub] at hr
          obtain ⟨rfl, rfl⟩ := hr
          refine ⟨vc, ?_⟩
          with_reducible refine thenC_normal ?_
          refine AWP_seq ?_
          -- region 14
          refine AWP_rl ?_
          refine AWPL_rn tab_ok 1 [0, 4, 35, 36, 46] fun c st' hr => ?_
          simp only [go_sem, reduceIte, reduceCtorEq, Nat.reduceEqDiff, Nat.reduceLT, Nat.reduceLeDiff, Nat.reduceBEq, Nat.reduceAdd, Nat.reduceMul, Nat.reduceSub, Nat.reducePow, Int.reduceLE, Int.reduceLT, Int.reduceNeg, Int.reduceToNat, Int.reduceAdd, Int.reduceSub] at hr
          obtain ⟨rfl, rfl⟩ := hr
          refine ⟨vc, ?_⟩
          replace hK := bind_s hK
          obtain ⟨y3, hy, hK⟩ := hK
          refine AWPL_gKF [0, 4, 35, 36, 47] [0, 1, 2, 9, 4] [pl0, pl1, pl2] [some (.gen 22 1 [[.own 10 ((y3.2.1).length)]]), some (.ints 3 .i64 [y3.2.2.1]), some (.gen 28 1 [[.own 11 ((y3.2.2.2).length)]]), none, none, none, none, none, none, none, some (.ints 3 .i64 y3.2.1), some (.gen 22 1 (List.map (fun e => [.ints .i64 e]) y3.2.2.2)), some (.pin 0 pl0), some (.pin 1 pl1), some (.pin 2 pl2)] (ih hy) rfl rfl pcT rfl Try.call16 (of_decide_eq_true rfl) ⟨(by first | rfl | simp [renB, ren0, renI]), (by first | rfl | simp [renB, ren0, renI]), (by first | rfl | simp [renB, ren0, renI]), (by first | rfl | simp [renB, ren0, renI]), (by first | rfl | simp [renB, ren0, renI]), trivial⟩ ⟨⟨5, rfl⟩, ⟨6, rfl⟩, ⟨7, rfl⟩, trivial⟩ rfl (.abs 0 5 rfl rfl (.cons (.atom _ rfl) (.abs 1 6 rfl rfl (.abs 2 7 rfl rfl (.cons (ArgOk.cycRefl _ _ _) .nil))))) (hscG trivial) (of_decide_eq_true rfl) rfl (by simp [nFB, nF0, nIB, nI0]) (of_decide_eq_true rfl) (by simp [plG, pinG, killL, setB, sgm, renB, ren0, renI, List.range, List.range.loop]) fun st' hr => ?_
          simp only [go_sem, reduceIte, reduceCtorEq, Nat.reduceEqDiff, Nat.reduceLT, Nat.reduceLeDiff, Nat.reduceBEq, Nat.reduceAdd, Nat.reduceMul, Nat.reduceSub, Nat.reducePow, Int.reduceLE, Int.reduceLT, Int.reduceNeg, Int.reduceToNat, Int.reduceAdd, Int.reduceSub] at hr
          subst hr
          clear hy
          refine AWPL_rn tab_ok 1 [0, 4, 9, 35, 36] fun c st' hr => ?_
          simp only [go_sem, reduceIte, reduceCtorEq, Nat.reduceEqDiff, Nat.reduceLT, Nat.reduceLeDiff, Nat.reduceBEq, Nat.reduceAdd, Nat.reduceMul, Nat.reduceSub, Nat.reducePow, Int.reduceLE, Int.reduceLT, Int.reduceNeg, Int.reduceToNat, Int.reduceAdd, Int.reduceSub] at hr
          obtain ⟨rfl, rfl⟩ := hr
          refine ⟨vc, ?_⟩
          refine AWPL_nil ?_
          with_reducible refine thenC_normal ?_
          refine AWP_seq ?_
          -- region 15
          replace hK := chk_some hK
          obtain ⟨h3, hK⟩ := hK
          refine AWP_rg tab_ok [0, 4, 9, 35, 36] fun c st' hr => ?_
          simp only [go_sem, reduceIte, reduceCtorEq, Nat.reduceEqDiff, Nat.reduceLT, Nat.reduceLeDiff, Nat.reduceBEq, Nat.reduceAdd, Nat.reduceMul, Nat.reduceSub, Nat.reducePow, Int.reduceLE, Int.reduceLT, Int.reduceNeg, Int.reduceToNat, Int.reduceAdd, Int.reduceSub] at hr
          obtain ⟨rfl, rfl⟩ := hr
          refine ⟨vc, ?_⟩
          with_reducible refine thenC_normal ?_
          refine AWP_trunc 0 10 (List.take ((((y3.2.1).length : Int) - 1).toNat) y3.2.1) rfl rfl rfl (by first | (rw [List.length_take]; omega) | (simp only [List.length_take, List.length_append, List.length_replicate]; omega)) fun st' hr => ?_
          simp only [go_sem, reduceIte, reduceCtorEq, Nat.reduceEqDiff, Nat.reduceLT, Nat.reduceLeDiff, Nat.reduceBEq, Nat.reduceAdd, Nat.reduceMul, Nat.reduceSub, Nat.reducePow, Int.reduceLE, Int.reduceLT, Int.reduceNeg, Int.reduceToNat, Int.reduceAdd, Int.reduceSub, List.set_cons_zero, List.set_cons_succ] at hr
          subst hr
          refine AWP_seq ?_
          -- region 16
          refine AWP_rg tab_ok [0, 4, 35, 36, 54] fun c st' hr => ?_
          simp only [go_sem, reduceIte, reduceCtorEq, Nat.reduceEqDiff, Nat.reduceLT, Nat.reduceLeDiff, Nat.reduceBEq, Nat.reduceAdd, Nat.reduceMul, Nat.reduceSub, Nat.reducePow, Int.reduceLE, Int.reduceLT, Int.reduceNeg, Int.reduceToNat, Int.reduceAdd, Int.reduceSub] at hr
          obtain ⟨rfl, rfl⟩ := hr
          refine ⟨vc, ?_⟩
          with_reducible refine thenC_normal ?_
          refine AWP_condP (¬ (y3.1 = true)) rfl bd (fun hb5 => ?_) (fun hb5 => ?_)
          · replace hK := ite_t hK hb5
            refine AWP_seq ?_
            -- region 17
            refine AWP_rg tab_ok [5] fun c st' hr => ?_
            simp only [go_sem, reduceIte, reduceCtorEq, Nat.reduceEqDiff, Nat.reduceLT, Nat.reduceLeDiff, Nat.reduceBEq, Nat.reduceAdd, Nat.reduceMul, Nat.reduceSub, Nat.reducePow, Int.reduceLE, Int.reduceLT, Int.reduceNeg, Int.reduceToNat, Int.reduceAdd, Int.reduceSub] at hr
            obtain ⟨rfl, rfl⟩ := hr
            refine ⟨vc, ?_⟩
            with_reducible refine thenC_normal ?_
            refine AWP_ret ?_
            with_reducible refine inBlockA_ret (thenC_ret (again_r (cutX_r (inBlockA_ret (thenC_ret ?_)))))
            replace hK := hpost1 _ hK
            try dsimp only at hK
            cases hK
            refine EndsRW [0, 1, 2, 10, 11, 12, 13, 14] (.inl rfl) (of_decide_eq_true rfl) (by simp) rfl (fun c x hr => ?_) endH
            simp only [go_sem, reduceIte, reduceCtorEq, Nat.reduceEqDiff, Nat.reduceLT, Nat.reduceLeDiff, Nat.reduceBEq, Nat.reduceAdd, Nat.reduceMul, Nat.reduceSub, Nat.reducePow, Int.reduceLE, Int.reduceLT, Int.reduceNeg, Int.reduceToNat, Int.reduceAdd, Int.reduceSub] at hr
            obtain ⟨rfl, rfl⟩ := hr
            exact ⟨rfl, endR⟩
          · replace hK := ite_f hK hb5
            refine AWP_skip ?_
            with_reducible refine inBlockA_normal (thenC_normal ?_)
            -- region 18
            refine AWP_facts (by simp) fun hfx => ?_
            simp only [factS, factV, fact1, fact0, factL0, lo, hi, maxLen, and_true, true_and] at hfx
            refine AWP_rg tab_ok [0, 4, 35, 36] fun c st' hr => ?_
            simp only [go_sem, reduceIte, reduceCtorEq, Nat.reduceEqDiff, Nat.reduceLT, Nat.reduceLeDiff, Nat.reduceBEq, Nat.reduceAdd, Nat.reduceMul, Nat.reduceSub, Nat.reducePow, Int.reduceLE, Int.reduceLT, Int.reduceNeg, Int.reduceToNat, Int.reduceAdd, Int.reduceSub] at hr
            obtain ⟨rfl, rfl⟩ := hr
            refine ⟨vc, ?_⟩
            clear hfx
            refine again_n (List.take ((((y3.2.1).length : Int) - 1).toNat) y3.2.1, y3.2.2.1, y3.2.2.2, v + 1) [0, 1, 2, 10, 11, 12, 13, 14] hK mkWk
      · replace hK := ite_f hK hb3
        refine AWP_exit ?_
        with_reducible refine thenC_exit (again_x ?_)
        refine cutX_here (q01, q11, q22) [0, 1, 2, 3, 4, 5, 6, 7] (by have hq := hpost1 _ hK; exact hq) mkWk
    · clear hK; rintro ⟨q02, q12, q23⟩ hK
      try dsimp only at hK
      refine exS ⟨56, [], [some (.gen 22 1 [[.own 3 q02.length]]), some (.ints 3 .i64 [q12]), some (.gen 28 1 [[.own 4 q23.length]]), some (.ints 3 .i64 q02), some (.gen 22 1 (List.map (fun e => [.ints .i64 e]) q23)), some (.pin 0 pl0), some (.pin 1 pl1), some (.pin 2 pl2)]⟩ rfl ?_
      with_reducible refine inBlockA_exit (thenC_normal ?_)
      refine AWP_seq ?_
      -- region 19
      refine AWP_rg tab_ok [5] fun c st' hr => ?_
      simp only [go_sem, reduceIte, reduceCtorEq, Nat.reduceEqDiff, Nat.reduceLT, Nat.reduceLeDiff, Nat.reduceBEq, Nat.reduceAdd, Nat.reduceMul, Nat.reduceSub, Nat.reducePow, Int.reduceLE, Int.reduceLT, Int.reduceNeg, Int.reduceToNat, Int.reduceAdd, Int.reduceSub] at hr
      obtain ⟨rfl, rfl⟩ := hr
      refine ⟨vc, ?_⟩
      with_reducible refine thenC_normal ?_
      refine AWP_ret ?_
      cases hK
      refine EndsRW [0, 1, 2, 3, 4, 5, 6, 7] (.inl rfl) (of_decide_eq_true rfl) (by simp) rfl (fun c x hr => ?_) endH
      simp only [go_sem, reduceIte, reduceCtorEq, Nat.reduceEqDiff, Nat.reduceLT, Nat.reduceLeDiff, Nat.reduceBEq, Nat.reduceAdd, Nat.reduceMul, Nat.reduceSub, Nat.reducePow, Int.reduceLE, Int.reduceLT, Int.reduceNeg, Int.reduceToNat, Int.reduceAdd, Int.reduceSub] at hr
      obtain ⟨rfl, rfl⟩ := hr
      exact ⟨rfl, endR⟩

theorem W_rotakeep_SameOrbit_1 {fuel : Nat} {c1_0 : Int} {c1_1 : List Int} {q0 : List Int} {q1 : Int} {q2 : List (List Int)} {r : Bool × List Int × Int × List (List Int)} (hK : rotakeep_SameOrbit_1 fuel c1_0 c1_1 q0 q1 q2 = some r) : InG Try.prog 16 [(.gen 22 1 [[.own 3 q0.length]]), (.ints 3 .i64 [q1]), (.gen 28 1 [[.own 4 q2.length]]), (.ints 3 .i64 q0), (.gen 22 1 (List.map (fun e => [.ints .i64 e]) q2))] 3 (fun ls => match ls with | [pl0, pl1, pl2] => [.ptr 0 0 0, .immp [.int .i64 c1_0, .ints .i64 c1_1], .ptr 1 0 0, .ptr 2 0 0, cycA 16 [.abs pl0 0 0, .immp [.int .i64 c1_0, .ints .i64 c1_1], .abs pl1 0 0, .abs pl2 0 0] fuel] | _ => []) (.bool r.1) [(.gen 22 1 [[.own 3 r.2.1.length]]), (.ints 3 .i64 [r.2.2.1]), (.gen 28 1 [[.own 4 r.2.2.2.length]]), (.ints 3 .i64 r.2.1), (.gen 22 1 (List.map (fun e => [.ints .i64 e]) r.2.2.2))] := by
  induction fuel generalizing c1_0 c1_1 q0 q1 q2 r with
  | zero => cases hK
  | succ fuel ih => exact WS_rotakeep_SameOrbit_1 ih hK

end Go.SH
