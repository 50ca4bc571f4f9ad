/-
  That the code computes these functions: same_Group_1, same_each_1_v2, same_each_v2, same_Group. By a program of mine (shal.py). Conditions: none.
-/
import Derived.Test.YtdhbpoafkhojnaaAxT
import Derived.Test.YtdhbpoafkhojnaaAxR
import Derived.Test.YtdhbpoafkhojnaaAxGc
import Derived.Test.YtdhbpoafkhojnaaAxCy
import Derived.Test.YtdhbpoafkhojnaaAxOp
import Derived.Test.YtdhbpoafkhojnaaAxJm
import Derived.Test.YtdhbpoafkhojnaaAxW
import Derived.Test.YtdhbpoafkhojnaaSpsameg
import Derived.Test.YtdhbpoafkhojnaaWpaxioms
import Derived.Test.YtdhbpoafkhojnaaWpsame
set_option linter.unusedVariables false
set_option linter.unusedSimpArgs false
namespace Go.SH
open Go Go.AX Go.AX.Try Go.Proofs

set_option maxRecDepth 8000 in
set_option maxHeartbeats 4000000 in
theorem W_same_Group_1 {a0 : List Int} {q0 : Int} {r : Bool × Int} (hK : same_Group_1 a0 q0 = some r) : InG Try.prog 68 [(.ints 3 .i64 [q0])] 1 (fun ls => match ls with | [pl0] => [.ints .i64 a0, .ptr 0 0 0] | _ => []) (.bool r.1) [(.ints 3 .i64 [r.2])] := by
  refine InG_intro tab_ok (n := 6) (l := [.tmp 3]) Try.func68 rfl rfl rfl (fun ls => by split <;> simp) (of_decide_eq_true rfl) (of_decide_eq_true rfl) rfl rfl rfl (by simp [renB, ren0, renI, List.range, List.range.loop]) (of_decide_eq_true rfl) (of_decide_eq_true rfl) fun w0 ls hls => ?_
  obtain ⟨pl0, rfl⟩ : ∃ pl0, ls = [pl0] := by
    match ls, hls with
    | [a], _ => exact ⟨a, rfl⟩
  simp only [pinL, List.map_cons, List.map_nil, List.cons_append, List.nil_append, Nat.zero_add, Nat.reduceAdd]
  unfold same_Group_1 at hK
  refine AWP_seq ?_
  -- region 0
  refine AWP_rg tab_ok [1] fun c st' hr => ?_
  simp only [go_sem, reduceIte, reduceCtorEq, Nat.reduceEqDiff, Nat.reduceLT, Nat.reduceLeDiff, Nat.reduceBEq, Nat.reduceAdd, Nat.reduceMul, Nat.reduceSub, Nat.reducePow, Int.reduceLE, Int.reduceLT, Int.reduceNeg, Int.reduceToNat, Int.reduceAdd, Int.reduceSub] at hr
  obtain ⟨rfl, rfl⟩ := hr
  refine ⟨vc, ?_⟩
  with_reducible refine thenC_normal ?_
  refine AWP_seq ?_
  -- region 1
  replace hK := chk_some hK
  obtain ⟨h, hK⟩ := hK
  refine AWP_rg tab_ok [] fun c st' hr => ?_
  simp only [go_sem, reduceIte, reduceCtorEq, Nat.reduceEqDiff, Nat.reduceLT, Nat.reduceLeDiff, Nat.reduceBEq, Nat.reduceAdd, Nat.reduceMul, Nat.reduceSub, Nat.reducePow, Int.reduceLE, Int.reduceLT, Int.reduceNeg, Int.reduceToNat, Int.reduceAdd, Int.reduceSub] at hr
  obtain ⟨rfl, rfl⟩ := hr
  refine ⟨vc, ?_⟩
  with_reducible refine thenC_normal ?_
  refine AWP_seq ?_
  -- region 2
  refine AWP_rg tab_ok [3] fun c st' hr => ?_
  simp only [go_sem, reduceIte, reduceCtorEq, Nat.reduceEqDiff, Nat.reduceLT, Nat.reduceLeDiff, Nat.reduceBEq, Nat.reduceAdd, Nat.reduceMul, Nat.reduceSub, Nat.reducePow, Int.reduceLE, Int.reduceLT, Int.reduceNeg, Int.reduceToNat, Int.reduceAdd, Int.reduceSub] at hr
  obtain ⟨rfl, rfl⟩ := hr
  refine ⟨vc, ?_⟩
  with_reducible refine thenC_normal ?_
  refine AWP_ret ?_
  cases hK
  refine EndsRW [0, 1] (.inl rfl) (of_decide_eq_true rfl) (by simp) rfl (fun c x hr => ?_) endH
  simp only [go_sem, reduceIte, reduceCtorEq, Nat.reduceEqDiff, Nat.reduceLT, Nat.reduceLeDiff, Nat.reduceBEq, Nat.reduceAdd, Nat.reduceMul, Nat.reduceSub, Nat.reducePow, Int.reduceLE, Int.reduceLT, Int.reduceNeg, Int.reduceToNat, Int.reduceAdd, Int.reduceSub] at hr
  obtain ⟨rfl, rfl⟩ := hr
  exact ⟨rfl, endR⟩

set_option maxRecDepth 8000 in
set_option maxHeartbeats 4000000 in
theorem WS_same_each_1_v2 {fuel : Nat} (ih : ∀ {used : Int} {c1_0 : Int} {c1_1 : List Int} {c3_0 : Int} {c3_1 : List Int} {c4 : List Int} {c5 : List Int} {q0 : List Int} {q1 : Int} {r : Bool × List Int × Int}, same_each_1_v2 fuel used c1_0 c1_1 c3_0 c3_1 c4 c5 q0 q1 = some r → InG Try.prog 111 [(.gen 22 1 [[.own 2 q0.length]]), (.ints 3 .i64 [q1]), (.ints 3 .i64 q0)] 2 (fun ls => match ls with | [pl0, pl1] => [.int .i64 used, .ptr 0 0 0, .immp [.int .i64 c1_0, .ints .i64 c1_1], .immp [.func 68 [.abs pl1 0 0]], .immp [.int .i64 c3_0, .ints .i64 c3_1], .immp [.ints .i64 c4], .immp [.ints .i64 c5], cycA 111 [.abs pl0 0 0, .immp [.int .i64 c1_0, .ints .i64 c1_1], .immp [.func 68 [.abs pl1 0 0]], .immp [.int .i64 c3_0, .ints .i64 c3_1], .immp [.ints .i64 c4], .immp [.ints .i64 c5]] fuel] | _ => []) (.bool r.1) [(.gen 22 1 [[.own 2 r.2.1.length]]), (.ints 3 .i64 [r.2.2]), (.ints 3 .i64 r.2.1)]) {used : Int} {c1_0 : Int} {c1_1 : List Int} {c3_0 : Int} {c3_1 : List Int} {c4 : List Int} {c5 : List Int} {q0 : List Int} {q1 : Int} {r : Bool × List Int × Int} (hK : same_each_1_v2 (fuel + 1) used c1_0 c1_1 c3_0 c3_1 c4 c5 q0 q1 = some r) : InG Try.prog 111 [(.gen 22 1 [[.own 2 q0.length]]), (.ints 3 .i64 [q1]), (.ints 3 .i64 q0)] 2 (fun ls => match ls with | [pl0, pl1] => [.int .i64 used, .ptr 0 0 0, .immp [.int .i64 c1_0, .ints .i64 c1_1], .immp [.func 68 [.abs pl1 0 0]], .immp [.int .i64 c3_0, .ints .i64 c3_1], .immp [.ints .i64 c4], .immp [.ints .i64 c5], .immp [.func 111 [.abs pl0 0 0, .immp [.int .i64 c1_0, .ints .i64 c1_1], .immp [.func 68 [.abs pl1 0 0]], .immp [.int .i64 c3_0, .ints .i64 c3_1], .immp [.ints .i64 c4], .immp [.ints .i64 c5], cycA 111 [.abs pl0 0 0, .immp [.int .i64 c1_0, .ints .i64 c1_1], .immp [.func 68 [.abs pl1 0 0]], .immp [.int .i64 c3_0, .ints .i64 c3_1], .immp [.ints .i64 c4], .immp [.ints .i64 c5]] fuel]]] | _ => []) (.bool r.1) [(.gen 22 1 [[.own 2 r.2.1.length]]), (.ints 3 .i64 [r.2.2]), (.ints 3 .i64 r.2.1)] := by
  refine InG_intro tab_ok (n := 76) (l := [.tmp 9]) Try.func111 rfl rfl rfl (fun ls => by split <;> simp) (of_decide_eq_true rfl) (of_decide_eq_true rfl) rfl rfl rfl (by simp [renB, ren0, renI, List.range, List.range.loop]) (of_decide_eq_true rfl) (of_decide_eq_true rfl) fun w0 ls hls => ?_
  obtain ⟨pl0, pl1, rfl⟩ : ∃ pl0 pl1, ls = [pl0, pl1] := by
    match ls, hls with
    | [a, b], _ => exact ⟨a, b, rfl⟩
  simp only [pinL, List.map_cons, List.map_nil, List.cons_append, List.nil_append, Nat.zero_add, Nat.reduceAdd]
  rw [same_each_1_v2.eq_2] at hK
  refine AWP_seq ?_
  -- region 0
  refine AWP_rg tab_ok [0, 1, 2, 3, 4, 5, 6, 7] fun c st' hr => ?_
  simp only [go_sem, reduceIte, reduceCtorEq, Nat.reduceEqDiff, Nat.reduceLT, Nat.reduceLeDiff, Nat.reduceBEq, Nat.reduceAdd, Nat.reduceMul, Nat.reduceSub, Nat.reducePow, Int.reduceLE, Int.reduceLT, Int.reduceNeg, Int.reduceToNat, Int.reduceAdd, Int.reduceSub] at hr
  obtain ⟨rfl, rfl⟩ := hr
  refine ⟨vc, ?_⟩
  with_reducible refine thenC_normal ?_
  refine AWP_seq ?_
  -- region 1
  refine AWP_rg tab_ok [0, 1, 2, 3, 4, 5, 6, 7, 10] fun c st' hr => ?_
  simp only [go_sem, reduceIte, reduceCtorEq, Nat.reduceEqDiff, Nat.reduceLT, Nat.reduceLeDiff, Nat.reduceBEq, Nat.reduceAdd, Nat.reduceMul, Nat.reduceSub, Nat.reducePow, Int.reduceLE, Int.reduceLT, Int.reduceNeg, Int.reduceToNat, Int.reduceAdd, Int.reduceSub] at hr
  obtain ⟨rfl, rfl⟩ := hr
  refine ⟨vc, ?_⟩
  with_reducible refine thenC_normal ?_
  refine AWP_seq ?_
  refine AWP_seq ?_
  -- region 2
  refine AWP_rg tab_ok [0, 1, 3, 4, 5, 6, 7, 10, 20] fun c st' hr => ?_
  simp only [go_sem, reduceIte, reduceCtorEq, Nat.reduceEqDiff, Nat.reduceLT, Nat.reduceLeDiff, Nat.reduceBEq, Nat.reduceAdd, Nat.reduceMul, Nat.reduceSub, Nat.reducePow, Int.reduceLE, Int.reduceLT, Int.reduceNeg, Int.reduceToNat, Int.reduceAdd, Int.reduceSub] at hr
  obtain ⟨rfl, rfl⟩ := hr
  refine ⟨vc, ?_⟩
  with_reducible refine thenC_normal ?_
  refine AWP_condP ((q0.length : Int) = c1_0) rfl bd (fun hb => ?_) (fun hb => ?_)
  · replace hK := ite_t hK hb
    refine AWP_seq ?_
    -- region 3
    refine AWP_rl ?_
    refine AWPL_rn tab_ok 2 [21, 22] fun c st' hr => ?_
    simp only [go_sem, reduceIte, reduceCtorEq, Nat.reduceEqDiff, Nat.reduceLT, Nat.reduceLeDiff, Nat.reduceBEq, Nat.reduceAdd, Nat.reduceMul, Nat.reduceSub, Nat.reducePow, Int.reduceLE, Int.reduceLT, Int.reduceNeg, Int.reduceToNat, Int.reduceAdd, Int.reduceSub] at hr
    obtain ⟨rfl, rfl⟩ := hr
    refine ⟨vc, ?_⟩
    replace hK := bind_s hK
    obtain ⟨y, hy, hK⟩ := hK
    refine AWPL_gK [23] [1] [pl1] [some (.gen 22 1 [[.own 2 q0.length]]), some (.ints 3 .i64 [y.2]), some (.ints 3 .i64 q0), some (.pin 0 pl0), some (.pin 1 pl1)] (W_same_Group_1 hy) rfl rfl pcT rfl Try.call68 (of_decide_eq_true rfl) ⟨(by first | rfl | simp [renB, ren0, renI]), trivial⟩ ⟨⟨4, rfl⟩, trivial⟩ rfl (.cons (.ownI _ _ _ _ _ q0 rfl (by simp) (by first | simp | exact List.take_of_length_le (by simp))) (.abs 0 4 rfl rfl .nil)) (hscG trivial) (of_decide_eq_true rfl) rfl rfl (of_decide_eq_true rfl) rfl fun st' hr => ?_
    simp only [go_sem, reduceIte, reduceCtorEq, Nat.reduceEqDiff, Nat.reduceLT, Nat.reduceLeDiff, Nat.reduceBEq, Nat.reduceAdd, Nat.reduceMul, Nat.reduceSub, Nat.reducePow, Int.reduceLE, Int.reduceLT, Int.reduceNeg, Int.reduceToNat, Int.reduceAdd, Int.reduceSub] at hr
    subst hr
    clear hy
    refine AWPL_rn tab_ok 1 [9] fun c st' hr => ?_
    simp only [go_sem, reduceIte, reduceCtorEq, Nat.reduceEqDiff, Nat.reduceLT, Nat.reduceLeDiff, Nat.reduceBEq, Nat.reduceAdd, Nat.reduceMul, Nat.reduceSub, Nat.reducePow, Int.reduceLE, Int.reduceLT, Int.reduceNeg, Int.reduceToNat, Int.reduceAdd, Int.reduceSub] at hr
    obtain ⟨rfl, rfl⟩ := hr
    refine ⟨vc, ?_⟩
    refine AWPL_nil ?_
    with_reducible refine thenC_normal ?_
    refine AWP_ret ?_
    with_reducible refine thenC_ret ?_
    cases hK
    refine EndsRW [0, 1, 2, 3, 4] (.inl rfl) (of_decide_eq_true rfl) (by simp) rfl (fun c x hr => ?_) endH
    simp only [go_sem, reduceIte, reduceCtorEq, Nat.reduceEqDiff, Nat.reduceLT, Nat.reduceLeDiff, Nat.reduceBEq, Nat.reduceAdd, Nat.reduceMul, Nat.reduceSub, Nat.reducePow, Int.reduceLE, Int.reduceLT, Int.reduceNeg, Int.reduceToNat, Int.reduceAdd, Int.reduceSub] at hr
    obtain ⟨rfl, rfl⟩ := hr
    exact ⟨rfl, endR⟩
  · replace hK := ite_f hK hb
    refine AWP_skip ?_
    with_reducible refine thenC_normal ?_
    refine AWP_seq ?_
    refine AWP_seq ?_
    -- region 4
    refine AWP_rg tab_ok [0, 1, 5, 6, 7, 10, 25, 26] fun c st' hr => ?_
    simp only [go_sem, reduceIte, reduceCtorEq, Nat.reduceEqDiff, Nat.reduceLT, Nat.reduceLeDiff, Nat.reduceBEq, Nat.reduceAdd, Nat.reduceMul, Nat.reduceSub, Nat.reducePow, Int.reduceLE, Int.reduceLT, Int.reduceNeg, Int.reduceToNat, Int.reduceAdd, Int.reduceSub] at hr
    obtain ⟨rfl, rfl⟩ := hr
    refine ⟨vc, ?_⟩
    with_reducible refine thenC_normal ?_
    refine AWP_block ?_
    refine AWP_loopX 0 (fun ((q01, q11, v) : List Int × Int × Int) => ⟨76, [(0, .int .i64 used), (1, .ptr 0 0 0), (5, .immp [.ints .i64 c4]), (6, .immp [.ints .i64 c5]), (7, .immp [.func 111 [.abs pl0 0 0, .immp [.int .i64 c1_0, .ints .i64 c1_1], .immp [.func 68 [.abs pl1 0 0]], .immp [.int .i64 c3_0, .ints .i64 c3_1], .immp [.ints .i64 c4], .immp [.ints .i64 c5], cycA 111 [.abs pl0 0 0, .immp [.int .i64 c1_0, .ints .i64 c1_1], .immp [.func 68 [.abs pl1 0 0]], .immp [.int .i64 c3_0, .ints .i64 c3_1], .immp [.ints .i64 c4], .immp [.ints .i64 c5]] fuel]]), (10, .int .i64 (q0.length : Int)), (25, .int .i64 c3_0), (26, .int .i64 v)], [some (.gen 22 1 [[.own 2 q01.length]]), some (.ints 3 .i64 [q11]), some (.ints 3 .i64 q01), some (.pin 0 pl0), some (.pin 1 pl1)]⟩) (fun ((q02, q12) : List Int × Int) => ⟨76, [], [some (.gen 22 1 [[.own 2 q02.length]]), some (.ints 3 .i64 [q12]), some (.ints 3 .i64 q02), some (.pin 0 pl0), some (.pin 1 pl1)]⟩) Sum.inl (q0, q1, 0) [0, 1, 2, 3, 4] hK mkWk ?_ ?_
    · clear hK; rintro ⟨q01, q11, v⟩ b hK hpost1
      try dsimp only at hK
      change AWP _ _ _ _ ⟨76, [(0, .int .i64 used), (1, .ptr 0 0 0), (5, .immp [.ints .i64 c4]), (6, .immp [.ints .i64 c5]), (7, .immp [.func 111 [.abs pl0 0 0, .immp [.int .i64 c1_0, .ints .i64 c1_1], .immp [.func 68 [.abs pl1 0 0]], .immp [.int .i64 c3_0, .ints .i64 c3_1], .immp [.ints .i64 c4], .immp [.ints .i64 c5], cycA 111 [.abs pl0 0 0, .immp [.int .i64 c1_0, .ints .i64 c1_1], .immp [.func 68 [.abs pl1 0 0]], .immp [.int .i64 c3_0, .ints .i64 c3_1], .immp [.ints .i64 c4], .immp [.ints .i64 c5]] fuel]]), (10, .int .i64 (q0.length : Int)), (25, .int .i64 c3_0), (26, .int .i64 v)], [some (.gen 22 1 [[.own 2 q01.length]]), some (.ints 3 .i64 [q11]), some (.ints 3 .i64 q01), some (.pin 0 pl0), some (.pin 1 pl1)]⟩
      refine AWP_seq ?_
      -- region 5
      refine AWP_rg tab_ok [0, 1, 5, 6, 7, 10, 25, 26, 27] fun c st' hr => ?_
      simp only [go_sem, reduceIte, reduceCtorEq, Nat.reduceEqDiff, Nat.reduceLT, Nat.reduceLeDiff, Nat.reduceBEq, Nat.reduceAdd, Nat.reduceMul, Nat.reduceSub, Nat.reducePow, Int.reduceLE, Int.reduceLT, Int.reduceNeg, Int.reduceToNat, Int.reduceAdd, Int.reduceSub] at hr
      obtain ⟨rfl, rfl⟩ := hr
      refine ⟨vc, ?_⟩
      with_reducible refine thenC_normal ?_
      refine AWP_seq ?_
      refine AWP_condP (v < c3_0) rfl bd (fun hb1 => ?_) (fun hb1 => ?_)
      · replace hK := ite_t hK hb1
        refine AWP_skip ?_
        with_reducible refine thenC_normal ?_
        refine AWP_seq ?_
        refine AWP_block ?_
        refine AWP_seq ?_
        -- region 6
        refine AWP_rg tab_ok [0, 1, 5, 6, 7, 10, 11, 25, 26] fun c st' hr => ?_
        simp only [go_sem, reduceIte, reduceCtorEq, Nat.reduceEqDiff, Nat.reduceLT, Nat.reduceLeDiff, Nat.reduceBEq, Nat.reduceAdd, Nat.reduceMul, Nat.reduceSub, Nat.reducePow, Int.reduceLE, Int.reduceLT, Int.reduceNeg, Int.reduceToNat, Int.reduceAdd, Int.reduceSub] at hr
        obtain ⟨rfl, rfl⟩ := hr
        refine ⟨vc, ?_⟩
        with_reducible refine thenC_normal ?_
        refine AWP_seq ?_
        refine AWP_seq ?_
        -- region 7
        replace hK := chk_some hK
        obtain ⟨h, hK⟩ := hK
        refine AWP_rg tab_ok [0, 1, 5, 6, 7, 10, 11, 25, 26, 33] fun c st' hr => ?_
        simp only [go_sem, reduceIte, reduceCtorEq, Nat.reduceEqDiff, Nat.reduceLT, Nat.reduceLeDiff, Nat.reduceBEq, Nat.reduceAdd, Nat.reduceMul, Nat.reduceSub, Nat.reducePow, Int.reduceLE, Int.reduceLT, Int.reduceNeg, Int.reduceToNat, Int.reduceAdd, Int.reduceSub] at hr
        obtain ⟨rfl, rfl⟩ := hr
        refine ⟨vc, ?_⟩
        with_reducible refine thenC_normal ?_
        refine AWP_condP (iand (used / 2 ^ v.toNat) 1 = 1) rfl bd (fun hb2 => ?_) (fun hb2 => ?_)
        · replace hK := ite_t hK hb2
          refine AWP_exit ?_
          with_reducible refine thenC_exit (inBlockA_exit (thenC_normal ?_))
          -- region 18
          refine AWP_facts (by simp) fun hfx => ?_
          simp only [factS, factV, fact1, fact0, factL0, lo, hi, maxLen, and_true, true_and] at hfx
          refine AWP_rg tab_ok [0, 1, 5, 6, 7, 10, 25, 26] fun c st' hr => ?_
          simp only [go_sem, reduceIte, reduceCtorEq, Nat.reduceEqDiff, Nat.reduceLT, Nat.reduceLeDiff, Nat.reduceBEq, Nat.reduceAdd, Nat.reduceMul, Nat.reduceSub, Nat.reducePow, Int.reduceLE, Int.reduceLT, Int.reduceNeg, Int.reduceToNat, Int.reduceAdd, Int.reduceSub] at hr
          obtain ⟨rfl, rfl⟩ := hr
          refine ⟨vc, ?_⟩
          clear hfx
          refine again_n (q01, q11, v + 1) [0, 1, 2, 3, 4] hK mkWk
        · replace hK := ite_f hK hb2
          refine AWP_skip ?_
          with_reducible refine thenC_normal ?_
          refine AWP_seq ?_
          -- region 8
          replace hK := chk_some hK
          obtain ⟨h1, hK⟩ := hK
          refine AWP_rg tab_ok [0, 1, 5, 6, 7, 10, 11, 25, 26] fun c st' hr => ?_
          simp only [go_sem, reduceIte, reduceCtorEq, Nat.reduceEqDiff, Nat.reduceLT, Nat.reduceLeDiff, Nat.reduceBEq, Nat.reduceAdd, Nat.reduceMul, Nat.reduceSub, Nat.reducePow, Int.reduceLE, Int.reduceLT, Int.reduceNeg, Int.reduceToNat, Int.reduceAdd, Int.reduceSub] at hr
          obtain ⟨rfl, rfl⟩ := hr
          refine ⟨vc, ?_⟩
          with_reducible refine thenC_normal ?_
          refine AWP_seq ?_
          -- region 9
          refine AWP_rg tab_ok [0, 1, 5, 6, 7, 10, 11, 12, 25, 26] fun c st' hr => ?_
          simp only [go_sem, reduceIte, reduceCtorEq, Nat.reduceEqDiff, Nat.reduceLT, Nat.reduceLeDiff, Nat.reduceBEq, Nat.reduceAdd, Nat.reduceMul, Nat.reduceSub, Nat.reducePow, Int.reduceLE, Int.reduceLT, Int.reduceNeg, Int.reduceToNat, Int.reduceAdd, Int.reduceSub] at hr
          obtain ⟨rfl, rfl⟩ := hr
          refine ⟨vc, ?_⟩
          with_reducible refine thenC_normal ?_
          refine AWP_seq ?_
          refine AWP_seq ?_
          -- region 10
          replace hK := chk_some hK
          obtain ⟨h2, hK⟩ := hK
          refine AWP_rg tab_ok [0, 1, 5, 6, 7, 10, 11, 12, 13, 25, 26] fun c st' hr => ?_
          simp only [go_sem, reduceIte, reduceCtorEq, Nat.reduceEqDiff, Nat.reduceLT, Nat.reduceLeDiff, Nat.reduceBEq, Nat.reduceAdd, Nat.reduceMul, Nat.reduceSub, Nat.reducePow, Int.reduceLE, Int.reduceLT, Int.reduceNeg, Int.reduceToNat, Int.reduceAdd, Int.reduceSub] at hr
          obtain ⟨rfl, rfl⟩ := hr
          refine ⟨vc, ?_⟩
          with_reducible refine thenC_normal ?_
          refine AWP_block ?_
          refine AWP_loopX 2 (fun ((v1, v2) : Bool × Int) => ⟨76, [(0, .int .i64 used), (1, .ptr 0 0 0), (5, .immp [.ints .i64 c4]), (6, .immp [.ints .i64 c5]), (7, .immp [.func 111 [.abs pl0 0 0, .immp [.int .i64 c1_0, .ints .i64 c1_1], .immp [.func 68 [.abs pl1 0 0]], .immp [.int .i64 c3_0, .ints .i64 c3_1], .immp [.ints .i64 c4], .immp [.ints .i64 c5], cycA 111 [.abs pl0 0 0, .immp [.int .i64 c1_0, .ints .i64 c1_1], .immp [.func 68 [.abs pl1 0 0]], .immp [.int .i64 c3_0, .ints .i64 c3_1], .immp [.ints .i64 c4], .immp [.ints .i64 c5]] fuel]]), (10, .int .i64 (q0.length : Int)), (11, .int .i64 v), (12, .bool v1), (13, .int .i64 v2), (25, .int .i64 c3_0), (26, .int .i64 v)], [some (.gen 22 1 [[.own 2 ((q01 ++ [v]).length)]]), some (.ints 3 .i64 [q11]), some (.ints 3 .i64 (q01 ++ [v])), some (.pin 0 pl0), some (.pin 1 pl1)]⟩) (fun (v3 : Bool) => ⟨76, [(0, .int .i64 used), (1, .ptr 0 0 0), (5, .immp [.ints .i64 c4]), (6, .immp [.ints .i64 c5]), (7, .immp [.func 111 [.abs pl0 0 0, .immp [.int .i64 c1_0, .ints .i64 c1_1], .immp [.func 68 [.abs pl1 0 0]], .immp [.int .i64 c3_0, .ints .i64 c3_1], .immp [.ints .i64 c4], .immp [.ints .i64 c5], cycA 111 [.abs pl0 0 0, .immp [.int .i64 c1_0, .ints .i64 c1_1], .immp [.func 68 [.abs pl1 0 0]], .immp [.int .i64 c3_0, .ints .i64 c3_1], .immp [.ints .i64 c4], .immp [.ints .i64 c5]] fuel]]), (10, .int .i64 (q0.length : Int)), (11, .int .i64 v), (12, .bool v3), (25, .int .i64 c3_0), (26, .int .i64 v)], [some (.gen 22 1 [[.own 2 ((q01 ++ [v]).length)]]), some (.ints 3 .i64 [q11]), some (.ints 3 .i64 (q01 ++ [v])), some (.pin 0 pl0), some (.pin 1 pl1)]⟩) (fun v => v) (true, (2 ^ (q0.length : Int).toNat : Int)) [0, 1, 6, 3, 4] hK mkWk ?_ ?_
          · clear hK; rintro ⟨v1, v2⟩ b1 hK hpost2
            try dsimp only at hK
            change AWP _ _ _ _ ⟨76, [(0, .int .i64 used), (1, .ptr 0 0 0), (5, .immp [.ints .i64 c4]), (6, .immp [.ints .i64 c5]), (7, .immp [.func 111 [.abs pl0 0 0, .immp [.int .i64 c1_0, .ints .i64 c1_1], .immp [.func 68 [.abs pl1 0 0]], .immp [.int .i64 c3_0, .ints .i64 c3_1], .immp [.ints .i64 c4], .immp [.ints .i64 c5], cycA 111 [.abs pl0 0 0, .immp [.int .i64 c1_0, .ints .i64 c1_1], .immp [.func 68 [.abs pl1 0 0]], .immp [.int .i64 c3_0, .ints .i64 c3_1], .immp [.ints .i64 c4], .immp [.ints .i64 c5]] fuel]]), (10, .int .i64 (q0.length : Int)), (11, .int .i64 v), (12, .bool v1), (13, .int .i64 v2), (25, .int .i64 c3_0), (26, .int .i64 v)], [some (.gen 22 1 [[.own 2 ((q01 ++ [v]).length)]]), some (.ints 3 .i64 [q11]), some (.ints 3 .i64 (q01 ++ [v])), some (.pin 0 pl0), some (.pin 1 pl1)]⟩
            refine AWP_seq ?_
            refine AWP_seq ?_
            -- region 11
            replace hK := chk_some hK
            obtain ⟨h3, hK⟩ := hK
            refine AWP_rg tab_ok [0, 1, 5, 6, 7, 10, 11, 12, 13, 25, 26, 46] fun c st' hr => ?_
            simp only [go_sem, reduceIte, reduceCtorEq, Nat.reduceEqDiff, Nat.reduceLT, Nat.reduceLeDiff, Nat.reduceBEq, Nat.reduceAdd, Nat.reduceMul, Nat.reduceSub, Nat.reducePow, Int.reduceLE, Int.reduceLT, Int.reduceNeg, Int.reduceToNat, Int.reduceAdd, Int.reduceSub] at hr
            obtain ⟨rfl, rfl⟩ := hr
            refine ⟨vc, ?_⟩
            with_reducible refine thenC_normal ?_
            refine AWP_condP ((v2 < 2 * (2 ^ (q0.length : Int).toNat : Int) ∧ v1 = true)) rfl bd (fun hb3 => ?_) (fun hb3 => ?_)
            · replace hK := ite_t hK hb3
              refine AWP_skip ?_
              with_reducible refine thenC_normal ?_
              refine AWP_seq ?_
              refine AWP_block ?_
              -- region 13
              refine AWP_drawQ mixed (by kernel_rfl) ?_
              replace hK := chk_some hK
              obtain ⟨h4, hK⟩ := hK
              refine AWQL_rn tab_ok 7 [0, 1, 5, 6, 7, 10, 11, 13, 25, 26, 52, 53, 54, 55] fun c st' hr => ?_
              simp only [go_sem, reduceIte, reduceCtorEq, Nat.reduceEqDiff, Nat.reduceLT, Nat.reduceLeDiff, Nat.reduceBEq, Nat.reduceAdd, Nat.reduceMul, Nat.reduceSub, Nat.reducePow, Int.reduceLE, Int.reduceLT, Int.reduceNeg, Int.reduceToNat, Int.reduceAdd, Int.reduceSub] at hr
              obtain ⟨rfl, rfl⟩ := hr
              refine ⟨vc, ?_⟩
              replace hK := bind_s hK
              obtain ⟨y1, hy, hK⟩ := hK
              refine AWQL_callK [0, 1, 5, 6, 7, 10, 11, 13, 25, 26, 52, 53, 56] (W_same_moved hy) rfl rfl pcT rfl Try.call112 (.cons (.ownI _ _ _ _ _ (q01 ++ [v]) rfl (by simp) (by first | simp | exact List.take_of_length_le (by simp))) (.cons (.atom _ rfl) .nil)) (hscG trivial) (of_decide_eq_true rfl) rfl fun st' hr => ?_
              simp only [go_sem, reduceIte, reduceCtorEq, Nat.reduceEqDiff, Nat.reduceLT, Nat.reduceLeDiff, Nat.reduceBEq, Nat.reduceAdd, Nat.reduceMul, Nat.reduceSub, Nat.reducePow, Int.reduceLE, Int.reduceLT, Int.reduceNeg, Int.reduceToNat, Int.reduceAdd, Int.reduceSub] at hr
              subst hr
              clear hy
              replace hK := chk_some hK
              obtain ⟨h5, hK⟩ := hK
              refine AWQL_rn tab_ok 4 [0, 1, 5, 6, 7, 10, 11, 12, 13, 25, 26] fun c st' hr => ?_
              simp only [go_sem, reduceIte, reduceCtorEq, Nat.reduceEqDiff, Nat.reduceLT, Nat.reduceLeDiff, Nat.reduceBEq, Nat.reduceAdd, Nat.reduceMul, Nat.reduceSub, Nat.reducePow, Int.reduceLE, Int.reduceLT, Int.reduceNeg, Int.reduceToNat, Int.reduceAdd, Int.reduceSub] at hr
              obtain ⟨rfl, rfl⟩ := hr
              refine ⟨vc, ?_⟩
              refine AWQL_nil ?_
              with_reducible refine inBlockA_normal (thenC_normal ?_)
              -- region 12
              replace hK := chk_some hK
              obtain ⟨h6, hK⟩ := hK
              refine AWP_rg tab_ok [0, 1, 5, 6, 7, 10, 11, 12, 13, 25, 26] fun c st' hr => ?_
              simp only [go_sem, reduceIte, reduceCtorEq, Nat.reduceEqDiff, Nat.reduceLT, Nat.reduceLeDiff, Nat.reduceBEq, Nat.reduceAdd, Nat.reduceMul, Nat.reduceSub, Nat.reducePow, Int.reduceLE, Int.reduceLT, Int.reduceNeg, Int.reduceToNat, Int.reduceAdd, Int.reduceSub] at hr
              obtain ⟨rfl, rfl⟩ := hr
              refine ⟨vc, ?_⟩
              refine again_n (decide (c4.getD v2.toNat 0 = c5.getD y1.toNat 0), v2 + 1) [0, 1, 2, 3, 4] hK mkWk
            · replace hK := ite_f hK hb3
              refine AWP_exit ?_
              with_reducible refine thenC_exit (again_x ?_)
              refine cutX_here v1 [0, 1, 2, 3, 4] (by have hq := hpost2 _ hK; exact hq) mkWk
          · clear hK; rintro v3 hK
            try dsimp only at hK
            refine exS ⟨76, [(0, .int .i64 used), (1, .ptr 0 0 0), (5, .immp [.ints .i64 c4]), (6, .immp [.ints .i64 c5]), (7, .immp [.func 111 [.abs pl0 0 0, .immp [.int .i64 c1_0, .ints .i64 c1_1], .immp [.func 68 [.abs pl1 0 0]], .immp [.int .i64 c3_0, .ints .i64 c3_1], .immp [.ints .i64 c4], .immp [.ints .i64 c5], cycA 111 [.abs pl0 0 0, .immp [.int .i64 c1_0, .ints .i64 c1_1], .immp [.func 68 [.abs pl1 0 0]], .immp [.int .i64 c3_0, .ints .i64 c3_1], .immp [.ints .i64 c4], .immp [.ints .i64 c5]] fuel]]), (10, .int .i64 (q0.length : Int)), (11, .int .i64 v), (12, .bool v3), (25, .int .i64 c3_0), (26, .int .i64 v)], [some (.gen 22 1 [[.own 2 ((q01 ++ [v]).length)]]), some (.ints 3 .i64 [q11]), some (.ints 3 .i64 (q01 ++ [v])), some (.pin 0 pl0), some (.pin 1 pl1)]⟩ rfl ?_
            with_reducible refine inBlockA_exit (thenC_normal ?_)
            refine AWP_seq ?_
            -- region 14
            replace hK := chk_some hK
            obtain ⟨h7, hK⟩ := hK
            refine AWP_drawTail tab_ok 8 mixed (by kernel_rfl) fun c st' hr => ?_
            simp only [go_sem, reduceIte, reduceCtorEq, Nat.reduceEqDiff, Nat.reduceLT, Nat.reduceLeDiff, Nat.reduceBEq, Nat.reduceAdd, Nat.reduceMul, Nat.reduceSub, Nat.reducePow, Int.reduceLE, Int.reduceLT, Int.reduceNeg, Int.reduceToNat, Int.reduceAdd, Int.reduceSub] at hr
            obtain ⟨rfl, rfl⟩ := hr
            refine ⟨vc, ?_⟩
            by_cases hg : ¬ (¬ (v3 = true))
            · replace hK := ite_t hK hg
              refine AWPL_stP [(0, .int .i64 used), (1, .ptr 0 0 0), (5, .immp [.ints .i64 c4]), (6, .immp [.ints .i64 c5]), (7, .immp [.func 111 [.abs pl0 0 0, .immp [.int .i64 c1_0, .ints .i64 c1_1], .immp [.func 68 [.abs pl1 0 0]], .immp [.int .i64 c3_0, .ints .i64 c3_1], .immp [.ints .i64 c4], .immp [.ints .i64 c5], cycA 111 [.abs pl0 0 0, .immp [.int .i64 c1_0, .ints .i64 c1_1], .immp [.func 68 [.abs pl1 0 0]], .immp [.int .i64 c3_0, .ints .i64 c3_1], .immp [.ints .i64 c4], .immp [.ints .i64 c5]] fuel]]), (10, .int .i64 (q0.length : Int)), (11, .int .i64 v), (12, .bool v3), (25, .int .i64 c3_0), (26, .int .i64 v), (60, .bool v3), (61, .bool (decide (¬ (v3 = true)))), (62, .bool false), (63, .opt true (.func 111 [.abs pl0 0 0, .immp [.int .i64 c1_0, .ints .i64 c1_1], .immp [.func 68 [.abs pl1 0 0]], .immp [.int .i64 c3_0, .ints .i64 c3_1], .immp [.ints .i64 c4], .immp [.ints .i64 c5], cycA 111 [.abs pl0 0 0, .immp [.int .i64 c1_0, .ints .i64 c1_1], .immp [.func 68 [.abs pl1 0 0]], .immp [.int .i64 c3_0, .ints .i64 c3_1], .immp [.ints .i64 c4], .immp [.ints .i64 c5]] fuel])), (64, .opt true (.int .i64 used)), (65, .opt true (.int .i64 v)), (66, .opt true (.int .i64 (2 ^ v.toNat : Int))), (67, .opt true (.int .i64 (ior used (2 ^ v.toNat : Int))))] (by first | (simp [SameS, AX.look, hg]; done) | (simp at hg ⊢; simp [SameS, AX.look, hg]; done) | (simp_all [SameS, AX.look]; done)) ?_
              refine AWPL_unopt 63 (.func 111 [.abs pl0 0 0, .immp [.int .i64 c1_0, .ints .i64 c1_1], .immp [.func 68 [.abs pl1 0 0]], .immp [.int .i64 c3_0, .ints .i64 c3_1], .immp [.ints .i64 c4], .immp [.ints .i64 c5], cycA 111 [.abs pl0 0 0, .immp [.int .i64 c1_0, .ints .i64 c1_1], .immp [.func 68 [.abs pl1 0 0]], .immp [.int .i64 c3_0, .ints .i64 c3_1], .immp [.ints .i64 c4], .immp [.ints .i64 c5]] fuel]) rfl fun st' hr => ?_
              simp only [go_sem, reduceIte, reduceCtorEq, Nat.reduceEqDiff, Nat.reduceLT, Nat.reduceLeDiff, Nat.reduceBEq, Nat.reduceAdd, Nat.reduceMul, Nat.reduceSub, Nat.reducePow, Int.reduceLE, Int.reduceLT, Int.reduceNeg, Int.reduceToNat, Int.reduceAdd, Int.reduceSub] at hr
              subst hr
              replace hK := bind_s hK
              obtain ⟨y2, hy, hK⟩ := hK
              refine AWPL_gK [0, 1, 5, 6, 7, 10, 25, 26, 62, 68] [0, 1, 2] [pl0, pl1] [some (.gen 22 1 [[.own 5 ((y2.2.1).length)]]), some (.ints 3 .i64 [y2.2.2]), none, some (.pin 0 pl0), some (.pin 1 pl1), some (.ints 3 .i64 y2.2.1)] (ih hy) rfl rfl pcT rfl Try.call111 (of_decide_eq_true rfl) ⟨(by first | rfl | simp [renB, ren0, renI]), (by first | rfl | simp [renB, ren0, renI]), (by first | rfl | simp [renB, ren0, renI]), trivial⟩ ⟨⟨3, rfl⟩, ⟨4, rfl⟩, trivial⟩ rfl (.cons (.atom _ rfl) (.abs 0 3 rfl rfl (.cons (.atom _ rfl) (.cons (.atom _ rfl) (.cons (.atom _ rfl) (.cons (.atom _ rfl) (.cons (.atom _ rfl) (.cons (ArgOk.cycRefl _ _ _) .nil)))))))) (hscG trivial) (of_decide_eq_true rfl) rfl rfl (of_decide_eq_true rfl) rfl fun st' hr => ?_
              simp only [go_sem, reduceIte, reduceCtorEq, Nat.reduceEqDiff, Nat.reduceLT, Nat.reduceLeDiff, Nat.reduceBEq, Nat.reduceAdd, Nat.reduceMul, Nat.reduceSub, Nat.reducePow, Int.reduceLE, Int.reduceLT, Int.reduceNeg, Int.reduceToNat, Int.reduceAdd, Int.reduceSub] at hr
              subst hr
              clear hy
              refine AWPL_rn tab_ok 2 [0, 1, 5, 6, 7, 10, 14, 25, 26] fun c st' hr => ?_
              simp only [go_sem, reduceIte, reduceCtorEq, Nat.reduceEqDiff, Nat.reduceLT, Nat.reduceLeDiff, Nat.reduceBEq, Nat.reduceAdd, Nat.reduceMul, Nat.reduceSub, Nat.reducePow, Int.reduceLE, Int.reduceLT, Int.reduceNeg, Int.reduceToNat, Int.reduceAdd, Int.reduceSub] at hr
              obtain ⟨rfl, rfl⟩ := hr
              refine ⟨vc, ?_⟩
              refine AWPL_nil ?_
              with_reducible refine thenC_normal ?_
              refine AWP_seq ?_
              -- region 15
              replace hK := chk_some hK
              obtain ⟨h8, hK⟩ := hK
              refine AWP_rg tab_ok [0, 1, 5, 6, 7, 10, 14, 25, 26] fun c st' hr => ?_
              simp only [go_sem, reduceIte, reduceCtorEq, Nat.reduceEqDiff, Nat.reduceLT, Nat.reduceLeDiff, Nat.reduceBEq, Nat.reduceAdd, Nat.reduceMul, Nat.reduceSub, Nat.reducePow, Int.reduceLE, Int.reduceLT, Int.reduceNeg, Int.reduceToNat, Int.reduceAdd, Int.reduceSub] at hr
              obtain ⟨rfl, rfl⟩ := hr
              refine ⟨vc, ?_⟩
              with_reducible refine thenC_normal ?_
              refine AWP_trunc 0 5 (List.take ((q0.length : Int).toNat) y2.2.1) rfl rfl rfl (by first | (rw [List.length_take]; omega) | (simp only [List.length_take, List.length_append, List.length_replicate]; omega)) fun st' hr => ?_
              simp only [go_sem, reduceIte, reduceCtorEq, Nat.reduceEqDiff, Nat.reduceLT, Nat.reduceLeDiff, Nat.reduceBEq, Nat.reduceAdd, Nat.reduceMul, Nat.reduceSub, Nat.reducePow, Int.reduceLE, Int.reduceLT, Int.reduceNeg, Int.reduceToNat, Int.reduceAdd, Int.reduceSub, List.set_cons_zero, List.set_cons_succ] at hr
              subst hr
              refine AWP_seq ?_
              -- region 16
              refine AWP_rg tab_ok [0, 1, 5, 6, 7, 10, 25, 26, 74] fun c st' hr => ?_
              simp only [go_sem, reduceIte, reduceCtorEq, Nat.reduceEqDiff, Nat.reduceLT, Nat.reduceLeDiff, Nat.reduceBEq, Nat.reduceAdd, Nat.reduceMul, Nat.reduceSub, Nat.reducePow, Int.reduceLE, Int.reduceLT, Int.reduceNeg, Int.reduceToNat, Int.reduceAdd, Int.reduceSub] at hr
              obtain ⟨rfl, rfl⟩ := hr
              refine ⟨vc, ?_⟩
              with_reducible refine thenC_normal ?_
              refine AWP_condP (¬ (y2.1 = true)) rfl bd (fun hb4 => ?_) (fun hb4 => ?_)
              · replace hK := ite_t hK hb4
                refine AWP_seq ?_
                -- region 17
                refine AWP_rg tab_ok [9] fun c st' hr => ?_
                simp only [go_sem, reduceIte, reduceCtorEq, Nat.reduceEqDiff, Nat.reduceLT, Nat.reduceLeDiff, Nat.reduceBEq, Nat.reduceAdd, Nat.reduceMul, Nat.reduceSub, Nat.reducePow, Int.reduceLE, Int.reduceLT, Int.reduceNeg, Int.reduceToNat, Int.reduceAdd, Int.reduceSub] at hr
                obtain ⟨rfl, rfl⟩ := hr
                refine ⟨vc, ?_⟩
                with_reducible refine thenC_normal ?_
                refine AWP_ret ?_
                with_reducible refine inBlockA_ret (thenC_ret (again_r (cutX_r (inBlockA_ret (thenC_ret ?_)))))
                replace hK := hpost1 _ hK
                try dsimp only at hK
                cases hK
                refine EndsRW [0, 1, 5, 3, 4] (.inl rfl) (of_decide_eq_true rfl) (by simp) rfl (fun c x hr => ?_) endH
                simp only [go_sem, reduceIte, reduceCtorEq, Nat.reduceEqDiff, Nat.reduceLT, Nat.reduceLeDiff, Nat.reduceBEq, Nat.reduceAdd, Nat.reduceMul, Nat.reduceSub, Nat.reducePow, Int.reduceLE, Int.reduceLT, Int.reduceNeg, Int.reduceToNat, Int.reduceAdd, Int.reduceSub] at hr
                obtain ⟨rfl, rfl⟩ := hr
                exact ⟨rfl, endR⟩
              · replace hK := ite_f hK hb4
                refine AWP_skip ?_
                with_reducible refine inBlockA_normal (thenC_normal ?_)
                -- region 18
                refine AWP_facts (by simp) fun hfx => ?_
                simp only [factS, factV, fact1, fact0, factL0, lo, hi, maxLen, and_true, true_and] at hfx
                refine AWP_rg tab_ok [0, 1, 5, 6, 7, 10, 25, 26] fun c st' hr => ?_
                simp only [go_sem, reduceIte, reduceCtorEq, Nat.reduceEqDiff, Nat.reduceLT, Nat.reduceLeDiff, Nat.reduceBEq, Nat.reduceAdd, Nat.reduceMul, Nat.reduceSub, Nat.reducePow, Int.reduceLE, Int.reduceLT, Int.reduceNeg, Int.reduceToNat, Int.reduceAdd, Int.reduceSub] at hr
                obtain ⟨rfl, rfl⟩ := hr
                refine ⟨vc, ?_⟩
                clear hfx
                refine again_n (List.take ((q0.length : Int).toNat) y2.2.1, y2.2.2, v + 1) [0, 1, 5, 3, 4] hK mkWk
            · replace hK := ite_f hK hg
              refine AWPL_stP [(0, .int .i64 used), (1, .ptr 0 0 0), (5, .immp [.ints .i64 c4]), (6, .immp [.ints .i64 c5]), (7, .immp [.func 111 [.abs pl0 0 0, .immp [.int .i64 c1_0, .ints .i64 c1_1], .immp [.func 68 [.abs pl1 0 0]], .immp [.int .i64 c3_0, .ints .i64 c3_1], .immp [.ints .i64 c4], .immp [.ints .i64 c5], cycA 111 [.abs pl0 0 0, .immp [.int .i64 c1_0, .ints .i64 c1_1], .immp [.func 68 [.abs pl1 0 0]], .immp [.int .i64 c3_0, .ints .i64 c3_1], .immp [.ints .i64 c4], .immp [.ints .i64 c5]] fuel]]), (10, .int .i64 (q0.length : Int)), (11, .int .i64 v), (12, .bool v3), (25, .int .i64 c3_0), (26, .int .i64 v), (60, .bool v3), (61, .bool (decide (¬ (v3 = true)))), (62, .bool true), (63, .opt false (.func 111 [.abs pl0 0 0, .immp [.int .i64 c1_0, .ints .i64 c1_1], .immp [.func 68 [.abs pl1 0 0]], .immp [.int .i64 c3_0, .ints .i64 c3_1], .immp [.ints .i64 c4], .immp [.ints .i64 c5], cycA 111 [.abs pl0 0 0, .immp [.int .i64 c1_0, .ints .i64 c1_1], .immp [.func 68 [.abs pl1 0 0]], .immp [.int .i64 c3_0, .ints .i64 c3_1], .immp [.ints .i64 c4], .immp [.ints .i64 c5]] fuel])), (64, .opt false (.int .i64 used)), (65, .opt false (.int .i64 v)), (66, .opt false (.int .i64 (2 ^ v.toNat : Int))), (67, .opt false (.int .i64 (ior used (2 ^ v.toNat : Int))))] (by first | (simp [SameS, AX.look, hg]; done) | (simp at hg ⊢; simp [SameS, AX.look, hg]; done) | (simp_all [SameS, AX.look]; done)) ?_
              refine AWPL_skipV [0, 1, 5, 6, 7, 10, 25, 26, 62, 68] (.bool false) rfl pcF (of_decide_eq_true rfl) fun st' hr => ?_
              simp only [go_sem, reduceIte, reduceCtorEq, Nat.reduceEqDiff, Nat.reduceLT, Nat.reduceLeDiff, Nat.reduceBEq, Nat.reduceAdd, Nat.reduceMul, Nat.reduceSub, Nat.reducePow, Int.reduceLE, Int.reduceLT, Int.reduceNeg, Int.reduceToNat, Int.reduceAdd, Int.reduceSub] at hr
              subst hr
              refine AWPL_rn tab_ok 2 [0, 1, 5, 6, 7, 10, 14, 25, 26] fun c st' hr => ?_
              simp only [go_sem, reduceIte, reduceCtorEq, Nat.reduceEqDiff, Nat.reduceLT, Nat.reduceLeDiff, Nat.reduceBEq, Nat.reduceAdd, Nat.reduceMul, Nat.reduceSub, Nat.reducePow, Int.reduceLE, Int.reduceLT, Int.reduceNeg, Int.reduceToNat, Int.reduceAdd, Int.reduceSub] at hr
              obtain ⟨rfl, rfl⟩ := hr
              refine ⟨vc, ?_⟩
              refine AWPL_nil ?_
              with_reducible refine thenC_normal ?_
              refine AWP_seq ?_
              -- region 15
              replace hK := chk_some hK
              obtain ⟨h9, hK⟩ := hK
              refine AWP_rg tab_ok [0, 1, 5, 6, 7, 10, 14, 25, 26] fun c st' hr => ?_
              simp only [go_sem, reduceIte, reduceCtorEq, Nat.reduceEqDiff, Nat.reduceLT, Nat.reduceLeDiff, Nat.reduceBEq, Nat.reduceAdd, Nat.reduceMul, Nat.reduceSub, Nat.reducePow, Int.reduceLE, Int.reduceLT, Int.reduceNeg, Int.reduceToNat, Int.reduceAdd, Int.reduceSub] at hr
              obtain ⟨rfl, rfl⟩ := hr
              refine ⟨vc, ?_⟩
              with_reducible refine thenC_normal ?_
              refine AWP_trunc 0 2 (List.take ((q0.length : Int).toNat) (q01 ++ [v])) rfl rfl rfl (by first | (rw [List.length_take]; omega) | (simp only [List.length_take, List.length_append, List.length_replicate]; omega)) fun st' hr => ?_
              simp only [go_sem, reduceIte, reduceCtorEq, Nat.reduceEqDiff, Nat.reduceLT, Nat.reduceLeDiff, Nat.reduceBEq, Nat.reduceAdd, Nat.reduceMul, Nat.reduceSub, Nat.reducePow, Int.reduceLE, Int.reduceLT, Int.reduceNeg, Int.reduceToNat, Int.reduceAdd, Int.reduceSub, List.set_cons_zero, List.set_cons_succ] at hr
              subst hr
              refine AWP_seq ?_
              -- region 16
              refine AWP_rg tab_ok [0, 1, 5, 6, 7, 10, 25, 26, 74] fun c st' hr => ?_
              simp only [go_sem, reduceIte, reduceCtorEq, Nat.reduceEqDiff, Nat.reduceLT, Nat.reduceLeDiff, Nat.reduceBEq, Nat.reduceAdd, Nat.reduceMul, Nat.reduceSub, Nat.reducePow, Int.reduceLE, Int.reduceLT, Int.reduceNeg, Int.reduceToNat, Int.reduceAdd, Int.reduceSub] at hr
              obtain ⟨rfl, rfl⟩ := hr
              refine ⟨vc, ?_⟩
              with_reducible refine thenC_normal ?_
              refine AWP_condP (¬ (True)) rfl bd (fun hb5 => ?_) (fun hb5 => ?_)
              · replace hK := ite_t hK hb5
                refine AWP_seq ?_
                -- region 17
                refine AWP_rg tab_ok [9] fun c st' hr => ?_
                simp only [go_sem, reduceIte, reduceCtorEq, Nat.reduceEqDiff, Nat.reduceLT, Nat.reduceLeDiff, Nat.reduceBEq, Nat.reduceAdd, Nat.reduceMul, Nat.reduceSub, Nat.reducePow, Int.reduceLE, Int.reduceLT, Int.reduceNeg, Int.reduceToNat, Int.reduceAdd, Int.reduceSub] at hr
                obtain ⟨rfl, rfl⟩ := hr
                refine ⟨vc, ?_⟩
                with_reducible refine thenC_normal ?_
                refine AWP_ret ?_
                with_reducible refine inBlockA_ret (thenC_ret (again_r (cutX_r (inBlockA_ret (thenC_ret ?_)))))
                replace hK := hpost1 _ hK
                try dsimp only at hK
                cases hK
                refine EndsRW [0, 1, 2, 3, 4] (.inl rfl) (of_decide_eq_true rfl) (by simp) rfl (fun c x hr => ?_) endH
                simp only [go_sem, reduceIte, reduceCtorEq, Nat.reduceEqDiff, Nat.reduceLT, Nat.reduceLeDiff, Nat.reduceBEq, Nat.reduceAdd, Nat.reduceMul, Nat.reduceSub, Nat.reducePow, Int.reduceLE, Int.reduceLT, Int.reduceNeg, Int.reduceToNat, Int.reduceAdd, Int.reduceSub] at hr
                obtain ⟨rfl, rfl⟩ := hr
                exact ⟨rfl, endR⟩
              · replace hK := ite_f hK hb5
                refine AWP_skip ?_
                with_reducible refine inBlockA_normal (thenC_normal ?_)
                -- region 18
                refine AWP_facts (by simp) fun hfx => ?_
                simp only [factS, factV, fact1, fact0, factL0, lo, hi, maxLen, and_true, true_and] at hfx
                refine AWP_rg tab_ok [0, 1, 5, 6, 7, 10, 25, 26] fun c st' hr => ?_
                simp only [go_sem, reduceIte, reduceCtorEq, Nat.reduceEqDiff, Nat.reduceLT, Nat.reduceLeDiff, Nat.reduceBEq, Nat.reduceAdd, Nat.reduceMul, Nat.reduceSub, Nat.reducePow, Int.reduceLE, Int.reduceLT, Int.reduceNeg, Int.reduceToNat, Int.reduceAdd, Int.reduceSub] at hr
                obtain ⟨rfl, rfl⟩ := hr
                refine ⟨vc, ?_⟩
                clear hfx
                refine again_n (List.take ((q0.length : Int).toNat) (q01 ++ [v]), q11, v + 1) [0, 1, 2, 3, 4] hK mkWk
      · replace hK := ite_f hK hb1
        refine AWP_exit ?_
        with_reducible refine thenC_exit (again_x ?_)
        refine cutX_here (q01, q11) [0, 1, 2, 3, 4] (by have hq := hpost1 _ hK; exact hq) mkWk
    · clear hK; rintro ⟨q02, q12⟩ hK
      try dsimp only at hK
      refine exS ⟨76, [], [some (.gen 22 1 [[.own 2 q02.length]]), some (.ints 3 .i64 [q12]), some (.ints 3 .i64 q02), some (.pin 0 pl0), some (.pin 1 pl1)]⟩ rfl ?_
      with_reducible refine inBlockA_exit (thenC_normal ?_)
      refine AWP_seq ?_
      -- region 19
      refine AWP_rg tab_ok [9] fun c st' hr => ?_
      simp only [go_sem, reduceIte, reduceCtorEq, Nat.reduceEqDiff, Nat.reduceLT, Nat.reduceLeDiff, Nat.reduceBEq, Nat.reduceAdd, Nat.reduceMul, Nat.reduceSub, Nat.reducePow, Int.reduceLE, Int.reduceLT, Int.reduceNeg, Int.reduceToNat, Int.reduceAdd, Int.reduceSub] at hr
      obtain ⟨rfl, rfl⟩ := hr
      refine ⟨vc, ?_⟩
      with_reducible refine thenC_normal ?_
      refine AWP_ret ?_
      cases hK
      refine EndsRW [0, 1, 2, 3, 4] (.inl rfl) (of_decide_eq_true rfl) (by simp) rfl (fun c x hr => ?_) endH
      simp only [go_sem, reduceIte, reduceCtorEq, Nat.reduceEqDiff, Nat.reduceLT, Nat.reduceLeDiff, Nat.reduceBEq, Nat.reduceAdd, Nat.reduceMul, Nat.reduceSub, Nat.reducePow, Int.reduceLE, Int.reduceLT, Int.reduceNeg, Int.reduceToNat, Int.reduceAdd, Int.reduceSub] at hr
      obtain ⟨rfl, rfl⟩ := hr
      exact ⟨rfl, endR⟩

theorem W_same_each_1_v2 {fuel : Nat} {used : Int} {c1_0 : Int} {c1_1 : List Int} {c3_0 : Int} {c3_1 : List Int} {c4 : List Int} {c5 : List Int} {q0 : List Int} {q1 : Int} {r : Bool × List Int × Int} (hK : same_each_1_v2 fuel used c1_0 c1_1 c3_0 c3_1 c4 c5 q0 q1 = some r) : InG Try.prog 111 [(.gen 22 1 [[.own 2 q0.length]]), (.ints 3 .i64 [q1]), (.ints 3 .i64 q0)] 2 (fun ls => match ls with | [pl0, pl1] => [.int .i64 used, .ptr 0 0 0, .immp [.int .i64 c1_0, .ints .i64 c1_1], .immp [.func 68 [.abs pl1 0 0]], .immp [.int .i64 c3_0, .ints .i64 c3_1], .immp [.ints .i64 c4], .immp [.ints .i64 c5], cycA 111 [.abs pl0 0 0, .immp [.int .i64 c1_0, .ints .i64 c1_1], .immp [.func 68 [.abs pl1 0 0]], .immp [.int .i64 c3_0, .ints .i64 c3_1], .immp [.ints .i64 c4], .immp [.ints .i64 c5]] fuel] | _ => []) (.bool r.1) [(.gen 22 1 [[.own 2 r.2.1.length]]), (.ints 3 .i64 [r.2.2]), (.ints 3 .i64 r.2.1)] := by
  induction fuel generalizing used c1_0 c1_1 c3_0 c3_1 c4 c5 q0 q1 r with
  | zero => cases hK
  | succ fuel ih => exact WS_same_each_1_v2 ih hK

set_option maxRecDepth 8000 in
set_option maxHeartbeats 4000000 in
theorem W_same_each_v2 {a_0 : Int} {a_1 : List Int} {b_0 : Int} {b_1 : List Int} {q0 : Int} {r : Int} (hK : same_each_v2 a_0 a_1 b_0 b_1 q0 = some r) : InG Try.prog 67 [(.ints 3 .i64 [q0])] 1 (fun ls => match ls with | [pl0] => [.agg [.int .i64 a_0, .ints .i64 a_1], .agg [.int .i64 b_0, .ints .i64 b_1], .func 68 [.abs pl0 0 0]] | _ => []) (.tup []) [(.ints 3 .i64 [r])] := by
  refine InG_intro tab_ok (n := 17) (l := []) Try.func67 rfl rfl rfl (fun ls => by split <;> simp) (of_decide_eq_true rfl) (of_decide_eq_true rfl) rfl rfl rfl (by simp [renB, ren0, renI, List.range, List.range.loop]) (of_decide_eq_true rfl) (of_decide_eq_true rfl) fun w0 ls hls => ?_
  obtain ⟨pl0, rfl⟩ : ∃ pl0, ls = [pl0] := by
    match ls, hls with
    | [a], _ => exact ⟨a, rfl⟩
  simp only [pinL, List.map_cons, List.map_nil, List.cons_append, List.nil_append, Nat.zero_add, Nat.reduceAdd]
  unfold same_each_v2 at hK
  refine AWP_seq ?_
  -- region 0
  refine AWP_rg tab_ok [3, 4, 5] fun c st' hr => ?_
  simp only [go_sem, reduceIte, reduceCtorEq, Nat.reduceEqDiff, Nat.reduceLT, Nat.reduceLeDiff, Nat.reduceBEq, Nat.reduceAdd, Nat.reduceMul, Nat.reduceSub, Nat.reducePow, Int.reduceLE, Int.reduceLT, Int.reduceNeg, Int.reduceToNat, Int.reduceAdd, Int.reduceSub] at hr
  obtain ⟨rfl, rfl⟩ := hr
  refine ⟨vc, ?_⟩
  with_reducible refine thenC_normal ?_
  refine AWP_seq ?_
  refine AWP_freeze 3 2 (y := .immp [.int .i64 a_0, .ints .i64 a_1]) rfl (.one (.ptrM _ _ _ _ _ _ _ rfl rfl rfl (ArgsOk.get (.cons (.atom _ rfl) (.cons (.atom _ rfl) .nil))).2)) fun st' hr => ?_
  simp only [go_sem, reduceIte, reduceCtorEq, Nat.reduceEqDiff, Nat.reduceLT, Nat.reduceLeDiff, Nat.reduceBEq, Nat.reduceAdd, Nat.reduceMul, Nat.reduceSub, Nat.reducePow, Int.reduceLE, Int.reduceLT, Int.reduceNeg, Int.reduceToNat, Int.reduceAdd, Int.reduceSub, List.set_cons_zero, List.set_cons_succ] at hr
  subst hr
  refine AWP_freeze 4 3 (y := .immp [.int .i64 b_0, .ints .i64 b_1]) rfl (.one (.ptrM _ _ _ _ _ _ _ rfl rfl rfl (ArgsOk.get (.cons (.atom _ rfl) (.cons (.atom _ rfl) .nil))).2)) fun st' hr => ?_
  simp only [go_sem, reduceIte, reduceCtorEq, Nat.reduceEqDiff, Nat.reduceLT, Nat.reduceLeDiff, Nat.reduceBEq, Nat.reduceAdd, Nat.reduceMul, Nat.reduceSub, Nat.reducePow, Int.reduceLE, Int.reduceLT, Int.reduceNeg, Int.reduceToNat, Int.reduceAdd, Int.reduceSub, List.set_cons_zero, List.set_cons_succ] at hr
  subst hr
  refine AWP_freeze 5 4 (y := .immp [.func 68 [.abs pl0 0 0]]) rfl (.one (.ptrM _ _ _ _ _ _ [.func 68 [.abs pl0 0 0]] rfl rfl rfl (ArgsOk.get (.cons (.funcOf (.cons (.atom _ rfl) .nil)) .nil)).2)) fun st' hr => ?_
  simp only [go_sem, reduceIte, reduceCtorEq, Nat.reduceEqDiff, Nat.reduceLT, Nat.reduceLeDiff, Nat.reduceBEq, Nat.reduceAdd, Nat.reduceMul, Nat.reduceSub, Nat.reducePow, Int.reduceLE, Int.reduceLT, Int.reduceNeg, Int.reduceToNat, Int.reduceAdd, Int.reduceSub, List.set_cons_zero, List.set_cons_succ] at hr
  subst hr
  -- region 1
  replace hK := bind_s hK
  obtain ⟨y, hy, hK⟩ := hK
  replace hK := bind_s hK
  obtain ⟨y1, hy1, hK⟩ := hK
  refine AWP_drawJ ⟨17, [(3, .immp [.int .i64 a_0, .ints .i64 a_1]), (4, .immp [.int .i64 b_0, .ints .i64 b_1]), (5, .immp [.func 68 [.abs pl0 0 0]]), (6, .ptr 7 0 0), (7, .ptr 8 0 0)], [some (.ints 3 .i64 [q0]), some (.pin 0 pl0), none, none, none, some (.ints 3 .i64 y), some (.ints 3 .i64 y1), some (.gen 22 1 [[.own 5 y.length]]), some (.gen 22 1 [[.own 6 y1.length]])]⟩ mixed ?_ ?_
  · refine AWPB_memo fun AA hAA => ?_
    have hn : AA 0 #[true, true, true, true, true, true, true, true] ⟨17, [(3, .immp [.int .i64 a_0, .ints .i64 a_1]), (4, .immp [.int .i64 b_0, .ints .i64 b_1]), (5, .immp [.func 68 [.abs pl0 0 0]]), (6, .ptr 7 0 0), (7, .ptr 8 0 0)], [some (.ints 3 .i64 [q0]), some (.pin 0 pl0), none, none, none, some (.ints 3 .i64 y), some (.ints 3 .i64 y1), some (.gen 22 1 [[.own 5 y.length]]), some (.gen 22 1 [[.own 6 y1.length]])]⟩ := (hAA _ _ _).2 (by
      exact AWPB_end [0, 1, 2, 3, 4, 5, 6, 7, 8] (by kernel_rfl) mkWk)
    have hn1 : AA 1 #[true, true, true, true, true, true, true, false] ⟨17, [(3, .immp [.int .i64 a_0, .ints .i64 a_1]), (4, .immp [.int .i64 b_0, .ints .i64 b_1]), (5, .immp [.func 68 [.abs pl0 0 0]]), (6, .ptr 7 0 0), (7, .ptr 8 0 0), (13, .own 6 y1.length)], [some (.ints 3 .i64 [q0]), some (.pin 0 pl0), none, none, none, some (.ints 3 .i64 y), some (.ints 3 .i64 y1), some (.gen 22 1 [[.own 5 y.length]]), some (.gen 22 1 [[.nil]])]⟩ := (hAA _ _ _).2 (by
      refine AWPB_one 7 _ (by kernel_rfl) rfl ?_
      refine AWPL_rn tab_ok 1 [3, 4, 5, 6, 7] fun c st' hr => ?_
      simp only [go_sem, reduceIte, reduceCtorEq, Nat.reduceEqDiff, Nat.reduceLT, Nat.reduceLeDiff, Nat.reduceBEq, Nat.reduceAdd, Nat.reduceMul, Nat.reduceSub, Nat.reducePow, Int.reduceLE, Int.reduceLT, Int.reduceNeg, Int.reduceToNat, Int.reduceAdd, Int.reduceSub] at hr
      obtain ⟨rfl, rfl⟩ := hr
      refine ⟨vc, ?_⟩
      refine AWPL_nil ?_
      refine QB_normal ?_
      exact AWPB_wk [0, 1, 2, 3, 4, 5, 6, 7, 8] mkWk ((hAA _ _ _).1 hn))
    have hn2 : AA 2 #[true, true, true, true, true, true, false, false] ⟨17, [(3, .immp [.int .i64 a_0, .ints .i64 a_1]), (4, .immp [.int .i64 b_0, .ints .i64 b_1]), (5, .immp [.func 68 [.abs pl0 0 0]]), (6, .ptr 7 0 0), (7, .ptr 8 0 0), (11, .own 5 y.length), (13, .own 6 y1.length)], [some (.ints 3 .i64 [q0]), some (.pin 0 pl0), none, none, none, some (.ints 3 .i64 y), some (.ints 3 .i64 y1), some (.gen 22 1 [[.nil]]), some (.gen 22 1 [[.nil]])]⟩ := (hAA _ _ _).2 (by
      refine AWPB_one 6 _ (by kernel_rfl) rfl ?_
      refine AWPL_rn tab_ok 1 [3, 4, 5, 6, 7, 13] fun c st' hr => ?_
      simp only [go_sem, reduceIte, reduceCtorEq, Nat.reduceEqDiff, Nat.reduceLT, Nat.reduceLeDiff, Nat.reduceBEq, Nat.reduceAdd, Nat.reduceMul, Nat.reduceSub, Nat.reducePow, Int.reduceLE, Int.reduceLT, Int.reduceNeg, Int.reduceToNat, Int.reduceAdd, Int.reduceSub] at hr
      obtain ⟨rfl, rfl⟩ := hr
      refine ⟨vc, ?_⟩
      refine AWPL_nil ?_
      refine QB_normal ?_
      exact AWPB_wk [0, 1, 2, 3, 4, 5, 6, 7, 8] mkWk ((hAA _ _ _).1 hn1))
    have hn3 : AA 3 #[true, true, true, true, true, false, false, false] ⟨17, [(3, .immp [.int .i64 a_0, .ints .i64 a_1]), (4, .immp [.int .i64 b_0, .ints .i64 b_1]), (5, .immp [.func 68 [.abs pl0 0 0]]), (6, .ptr 7 0 0), (11, .own 5 y.length), (13, .own 6 y1.length)], [some (.ints 3 .i64 [q0]), some (.pin 0 pl0), none, none, none, some (.ints 3 .i64 y), some (.ints 3 .i64 y1), some (.gen 22 1 [[.nil]])]⟩ := (hAA _ _ _).2 (by
      refine AWPB_one 5 _ (by kernel_rfl) rfl ?_
      refine AWPL_rn tab_ok 1 [3, 4, 5, 6, 7, 11, 13] fun c st' hr => ?_
      simp only [go_sem, reduceIte, reduceCtorEq, Nat.reduceEqDiff, Nat.reduceLT, Nat.reduceLeDiff, Nat.reduceBEq, Nat.reduceAdd, Nat.reduceMul, Nat.reduceSub, Nat.reducePow, Int.reduceLE, Int.reduceLT, Int.reduceNeg, Int.reduceToNat, Int.reduceAdd, Int.reduceSub] at hr
      obtain ⟨rfl, rfl⟩ := hr
      refine ⟨vc, ?_⟩
      refine AWPL_nil ?_
      refine QB_normal ?_
      exact AWPB_wk [0, 1, 2, 3, 4, 5, 6, 7, 8] mkWk ((hAA _ _ _).1 hn2))
    have hn4 : AA 3 #[true, true, true, true, false, true, false, false] ⟨17, [(3, .immp [.int .i64 a_0, .ints .i64 a_1]), (4, .immp [.int .i64 b_0, .ints .i64 b_1]), (5, .immp [.func 68 [.abs pl0 0 0]]), (7, .ptr 7 0 0), (11, .own 5 y.length), (13, .own 6 y1.length)], [some (.ints 3 .i64 [q0]), some (.pin 0 pl0), none, none, none, some (.ints 3 .i64 y), some (.ints 3 .i64 y1), some (.gen 22 1 [[.nil]])]⟩ := (hAA _ _ _).2 (by
      refine AWPB_one 4 _ (by kernel_rfl) rfl ?_
      refine AWPL_rn tab_ok 1 [3, 4, 5, 6, 7, 11, 13] fun c st' hr => ?_
      simp only [go_sem, reduceIte, reduceCtorEq, Nat.reduceEqDiff, Nat.reduceLT, Nat.reduceLeDiff, Nat.reduceBEq, Nat.reduceAdd, Nat.reduceMul, Nat.reduceSub, Nat.reducePow, Int.reduceLE, Int.reduceLT, Int.reduceNeg, Int.reduceToNat, Int.reduceAdd, Int.reduceSub] at hr
      obtain ⟨rfl, rfl⟩ := hr
      refine ⟨vc, ?_⟩
      refine AWPL_nil ?_
      refine QB_normal ?_
      exact AWPB_wk [0, 1, 2, 3, 4, 5, 6, 8, 7] mkWk ((hAA _ _ _).1 hn2))
    have hn5 : AA 4 #[true, true, true, true, false, false, false, false] ⟨17, [(3, .immp [.int .i64 a_0, .ints .i64 a_1]), (4, .immp [.int .i64 b_0, .ints .i64 b_1]), (5, .immp [.func 68 [.abs pl0 0 0]]), (11, .own 5 y.length), (13, .own 6 y1.length)], [some (.ints 3 .i64 [q0]), some (.pin 0 pl0), none, none, none, some (.ints 3 .i64 y), some (.ints 3 .i64 y1)]⟩ := (hAA _ _ _).2 (by
      refine AWPB_two 4 5 _ _ (by kernel_rfl) rfl rfl ?_ ?_
      · skip
        refine AWPL_rn tab_ok 1 [3, 4, 5, 6, 7, 11, 13] fun c st' hr => ?_
        simp only [go_sem, reduceIte, reduceCtorEq, Nat.reduceEqDiff, Nat.reduceLT, Nat.reduceLeDiff, Nat.reduceBEq, Nat.reduceAdd, Nat.reduceMul, Nat.reduceSub, Nat.reducePow, Int.reduceLE, Int.reduceLT, Int.reduceNeg, Int.reduceToNat, Int.reduceAdd, Int.reduceSub] at hr
        obtain ⟨rfl, rfl⟩ := hr
        refine ⟨vc, ?_⟩
        refine AWPL_nil ?_
        refine QB_normal ?_
        exact AWPB_wk [0, 1, 2, 3, 4, 5, 6, 7] mkWk ((hAA _ _ _).1 hn3)
      · skip
        refine AWPL_rn tab_ok 1 [3, 4, 5, 6, 7, 11, 13] fun c st' hr => ?_
        simp only [go_sem, reduceIte, reduceCtorEq, Nat.reduceEqDiff, Nat.reduceLT, Nat.reduceLeDiff, Nat.reduceBEq, Nat.reduceAdd, Nat.reduceMul, Nat.reduceSub, Nat.reducePow, Int.reduceLE, Int.reduceLT, Int.reduceNeg, Int.reduceToNat, Int.reduceAdd, Int.reduceSub] at hr
        obtain ⟨rfl, rfl⟩ := hr
        refine ⟨vc, ?_⟩
        refine AWPL_nil ?_
        refine QB_normal ?_
        exact AWPB_wk [0, 1, 2, 3, 4, 5, 6, 7] mkWk ((hAA _ _ _).1 hn4))
    have hn6 : AA 3 #[true, true, true, false, true, true, false, false] ⟨17, [(3, .immp [.int .i64 a_0, .ints .i64 a_1]), (4, .immp [.int .i64 b_0, .ints .i64 b_1]), (5, .immp [.func 68 [.abs pl0 0 0]]), (6, .ptr 6 0 0), (7, .ptr 7 0 0), (11, .own 5 y.length), (12, .agg [.int .i64 b_0, .ints .i64 b_1])], [some (.ints 3 .i64 [q0]), some (.pin 0 pl0), none, none, none, some (.ints 3 .i64 y), some (.gen 22 1 [[.nil]]), some (.gen 22 1 [[.nil]])]⟩ := (hAA _ _ _).2 (by
      refine AWPB_one 3 _ (by kernel_rfl) rfl ?_
      refine AWPL_callK [3, 4, 5, 6, 7, 11, 13] (W_same_ranks hy1) rfl rfl pcT rfl Try.call105 (.cons (.agg _ _ rfl (ArgsOk.get (.cons (.atom _ rfl) (.cons (.atom _ rfl) .nil))).2) .nil) (hscG trivial) (of_decide_eq_true rfl) (by first | rfl | simp [nI, nI1, nI0]) (by first | rfl | simp [nIB, nI0]) fun st' hr => ?_
      simp only [go_sem, reduceIte, reduceCtorEq, Nat.reduceEqDiff, Nat.reduceLT, Nat.reduceLeDiff, Nat.reduceBEq, Nat.reduceAdd, Nat.reduceMul, Nat.reduceSub, Nat.reducePow, Int.reduceLE, Int.reduceLT, Int.reduceNeg, Int.reduceToNat, Int.reduceAdd, Int.reduceSub] at hr
      subst hr
      refine AWPL_nil ?_
      refine QB_normal ?_
      exact AWPB_wk [0, 1, 2, 3, 4, 5, 8, 6, 7] mkWk ((hAA _ _ _).1 hn2))
    have hn7 : AA 4 #[true, true, true, false, true, false, false, false] ⟨17, [(3, .immp [.int .i64 a_0, .ints .i64 a_1]), (4, .immp [.int .i64 b_0, .ints .i64 b_1]), (5, .immp [.func 68 [.abs pl0 0 0]]), (6, .ptr 6 0 0), (11, .own 5 y.length), (12, .agg [.int .i64 b_0, .ints .i64 b_1])], [some (.ints 3 .i64 [q0]), some (.pin 0 pl0), none, none, none, some (.ints 3 .i64 y), some (.gen 22 1 [[.nil]])]⟩ := (hAA _ _ _).2 (by
      refine AWPB_two 3 5 _ _ (by kernel_rfl) rfl rfl ?_ ?_
      · skip
        refine AWPL_callK [3, 4, 5, 6, 7, 11, 13] (W_same_ranks hy1) rfl rfl pcT rfl Try.call105 (.cons (.agg _ _ rfl (ArgsOk.get (.cons (.atom _ rfl) (.cons (.atom _ rfl) .nil))).2) .nil) (hscG trivial) (of_decide_eq_true rfl) (by first | rfl | simp [nI, nI1, nI0]) (by first | rfl | simp [nIB, nI0]) fun st' hr => ?_
        simp only [go_sem, reduceIte, reduceCtorEq, Nat.reduceEqDiff, Nat.reduceLT, Nat.reduceLeDiff, Nat.reduceBEq, Nat.reduceAdd, Nat.reduceMul, Nat.reduceSub, Nat.reducePow, Int.reduceLE, Int.reduceLT, Int.reduceNeg, Int.reduceToNat, Int.reduceAdd, Int.reduceSub] at hr
        subst hr
        refine AWPL_nil ?_
        refine QB_normal ?_
        exact AWPB_wk [0, 1, 2, 3, 4, 5, 7, 6] mkWk ((hAA _ _ _).1 hn3)
      · skip
        refine AWPL_rn tab_ok 1 [3, 4, 5, 6, 7, 11, 12, 13] fun c st' hr => ?_
        simp only [go_sem, reduceIte, reduceCtorEq, Nat.reduceEqDiff, Nat.reduceLT, Nat.reduceLeDiff, Nat.reduceBEq, Nat.reduceAdd, Nat.reduceMul, Nat.reduceSub, Nat.reducePow, Int.reduceLE, Int.reduceLT, Int.reduceNeg, Int.reduceToNat, Int.reduceAdd, Int.reduceSub] at hr
        obtain ⟨rfl, rfl⟩ := hr
        refine ⟨vc, ?_⟩
        refine AWPL_nil ?_
        refine QB_normal ?_
        exact AWPB_wk [0, 1, 2, 3, 4, 5, 6, 7] mkWk ((hAA _ _ _).1 hn6))
    have hn8 : AA 4 #[true, true, true, false, false, true, false, false] ⟨17, [(3, .immp [.int .i64 a_0, .ints .i64 a_1]), (4, .immp [.int .i64 b_0, .ints .i64 b_1]), (5, .immp [.func 68 [.abs pl0 0 0]]), (7, .ptr 6 0 0), (11, .own 5 y.length), (12, .agg [.int .i64 b_0, .ints .i64 b_1])], [some (.ints 3 .i64 [q0]), some (.pin 0 pl0), none, none, none, some (.ints 3 .i64 y), some (.gen 22 1 [[.nil]])]⟩ := (hAA _ _ _).2 (by
      refine AWPB_two 3 4 _ _ (by kernel_rfl) rfl rfl ?_ ?_
      · skip
        refine AWPL_callK [3, 4, 5, 6, 7, 11, 13] (W_same_ranks hy1) rfl rfl pcT rfl Try.call105 (.cons (.agg _ _ rfl (ArgsOk.get (.cons (.atom _ rfl) (.cons (.atom _ rfl) .nil))).2) .nil) (hscG trivial) (of_decide_eq_true rfl) (by first | rfl | simp [nI, nI1, nI0]) (by first | rfl | simp [nIB, nI0]) fun st' hr => ?_
        simp only [go_sem, reduceIte, reduceCtorEq, Nat.reduceEqDiff, Nat.reduceLT, Nat.reduceLeDiff, Nat.reduceBEq, Nat.reduceAdd, Nat.reduceMul, Nat.reduceSub, Nat.reducePow, Int.reduceLE, Int.reduceLT, Int.reduceNeg, Int.reduceToNat, Int.reduceAdd, Int.reduceSub] at hr
        subst hr
        refine AWPL_nil ?_
        refine QB_normal ?_
        exact AWPB_wk [0, 1, 2, 3, 4, 5, 7, 6] mkWk ((hAA _ _ _).1 hn4)
      · skip
        refine AWPL_rn tab_ok 1 [3, 4, 5, 6, 7, 11, 12, 13] fun c st' hr => ?_
        simp only [go_sem, reduceIte, reduceCtorEq, Nat.reduceEqDiff, Nat.reduceLT, Nat.reduceLeDiff, Nat.reduceBEq, Nat.reduceAdd, Nat.reduceMul, Nat.reduceSub, Nat.reducePow, Int.reduceLE, Int.reduceLT, Int.reduceNeg, Int.reduceToNat, Int.reduceAdd, Int.reduceSub] at hr
        obtain ⟨rfl, rfl⟩ := hr
        refine ⟨vc, ?_⟩
        refine AWPL_nil ?_
        refine QB_normal ?_
        exact AWPB_wk [0, 1, 2, 3, 4, 5, 7, 6] mkWk ((hAA _ _ _).1 hn6))
    have hn9 : AA 5 #[true, true, true, false, false, false, false, false] ⟨17, [(3, .immp [.int .i64 a_0, .ints .i64 a_1]), (4, .immp [.int .i64 b_0, .ints .i64 b_1]), (5, .immp [.func 68 [.abs pl0 0 0]]), (11, .own 5 y.length), (12, .agg [.int .i64 b_0, .ints .i64 b_1])], [some (.ints 3 .i64 [q0]), some (.pin 0 pl0), none, none, none, some (.ints 3 .i64 y)]⟩ := (hAA _ _ _).2 (by
      refine AWPB_three 3 4 5 _ _ _ (by kernel_rfl) rfl rfl rfl ?_ ?_ ?_
      · skip
        refine AWPL_callK [3, 4, 5, 6, 7, 11, 13] (W_same_ranks hy1) rfl rfl pcT rfl Try.call105 (.cons (.agg _ _ rfl (ArgsOk.get (.cons (.atom _ rfl) (.cons (.atom _ rfl) .nil))).2) .nil) (hscG trivial) (of_decide_eq_true rfl) (by first | rfl | simp [nI, nI1, nI0]) (by first | rfl | simp [nIB, nI0]) fun st' hr => ?_
        simp only [go_sem, reduceIte, reduceCtorEq, Nat.reduceEqDiff, Nat.reduceLT, Nat.reduceLeDiff, Nat.reduceBEq, Nat.reduceAdd, Nat.reduceMul, Nat.reduceSub, Nat.reducePow, Int.reduceLE, Int.reduceLT, Int.reduceNeg, Int.reduceToNat, Int.reduceAdd, Int.reduceSub] at hr
        subst hr
        refine AWPL_nil ?_
        refine QB_normal ?_
        exact AWPB_wk [0, 1, 2, 3, 4, 5, 6] mkWk ((hAA _ _ _).1 hn5)
      · skip
        refine AWPL_rn tab_ok 1 [3, 4, 5, 6, 7, 11, 12, 13] fun c st' hr => ?_
        simp only [go_sem, reduceIte, reduceCtorEq, Nat.reduceEqDiff, Nat.reduceLT, Nat.reduceLeDiff, Nat.reduceBEq, Nat.reduceAdd, Nat.reduceMul, Nat.reduceSub, Nat.reducePow, Int.reduceLE, Int.reduceLT, Int.reduceNeg, Int.reduceToNat, Int.reduceAdd, Int.reduceSub] at hr
        obtain ⟨rfl, rfl⟩ := hr
        refine ⟨vc, ?_⟩
        refine AWPL_nil ?_
        refine QB_normal ?_
        exact AWPB_wk [0, 1, 2, 3, 4, 5, 6] mkWk ((hAA _ _ _).1 hn7)
      · skip
        refine AWPL_rn tab_ok 1 [3, 4, 5, 6, 7, 11, 12, 13] fun c st' hr => ?_
        simp only [go_sem, reduceIte, reduceCtorEq, Nat.reduceEqDiff, Nat.reduceLT, Nat.reduceLeDiff, Nat.reduceBEq, Nat.reduceAdd, Nat.reduceMul, Nat.reduceSub, Nat.reducePow, Int.reduceLE, Int.reduceLT, Int.reduceNeg, Int.reduceToNat, Int.reduceAdd, Int.reduceSub] at hr
        obtain ⟨rfl, rfl⟩ := hr
        refine ⟨vc, ?_⟩
        refine AWPL_nil ?_
        refine QB_normal ?_
        exact AWPB_wk [0, 1, 2, 3, 4, 5, 6] mkWk ((hAA _ _ _).1 hn8))
    have hn10 : AA 4 #[true, true, false, false, true, true, false, false] ⟨17, [(3, .immp [.int .i64 a_0, .ints .i64 a_1]), (4, .immp [.int .i64 b_0, .ints .i64 b_1]), (5, .immp [.func 68 [.abs pl0 0 0]]), (6, .ptr 6 0 0), (7, .ptr 7 0 0), (11, .own 5 y.length)], [some (.ints 3 .i64 [q0]), some (.pin 0 pl0), none, none, none, some (.ints 3 .i64 y), some (.gen 22 1 [[.nil]]), some (.gen 22 1 [[.nil]])]⟩ := (hAA _ _ _).2 (by
      refine AWPB_one 2 _ (by kernel_rfl) rfl ?_
      refine AWPL_rn tab_ok 1 [3, 4, 5, 6, 7, 11, 12, 13] fun c st' hr => ?_
      simp only [go_sem, reduceIte, reduceCtorEq, Nat.reduceEqDiff, Nat.reduceLT, Nat.reduceLeDiff, Nat.reduceBEq, Nat.reduceAdd, Nat.reduceMul, Nat.reduceSub, Nat.reducePow, Int.reduceLE, Int.reduceLT, Int.reduceNeg, Int.reduceToNat, Int.reduceAdd, Int.reduceSub] at hr
      obtain ⟨rfl, rfl⟩ := hr
      refine ⟨vc, ?_⟩
      refine AWPL_nil ?_
      refine QB_normal ?_
      exact AWPB_wk [0, 1, 2, 3, 4, 5, 6, 7] mkWk ((hAA _ _ _).1 hn6))
    have hn11 : AA 5 #[true, true, false, false, true, false, false, false] ⟨17, [(3, .immp [.int .i64 a_0, .ints .i64 a_1]), (4, .immp [.int .i64 b_0, .ints .i64 b_1]), (5, .immp [.func 68 [.abs pl0 0 0]]), (6, .ptr 6 0 0), (11, .own 5 y.length)], [some (.ints 3 .i64 [q0]), some (.pin 0 pl0), none, none, none, some (.ints 3 .i64 y), some (.gen 22 1 [[.nil]])]⟩ := (hAA _ _ _).2 (by
      refine AWPB_two 2 5 _ _ (by kernel_rfl) rfl rfl ?_ ?_
      · skip
        refine AWPL_rn tab_ok 1 [3, 4, 5, 6, 7, 11, 12, 13] fun c st' hr => ?_
        simp only [go_sem, reduceIte, reduceCtorEq, Nat.reduceEqDiff, Nat.reduceLT, Nat.reduceLeDiff, Nat.reduceBEq, Nat.reduceAdd, Nat.reduceMul, Nat.reduceSub, Nat.reducePow, Int.reduceLE, Int.reduceLT, Int.reduceNeg, Int.reduceToNat, Int.reduceAdd, Int.reduceSub] at hr
        obtain ⟨rfl, rfl⟩ := hr
        refine ⟨vc, ?_⟩
        refine AWPL_nil ?_
        refine QB_normal ?_
        exact AWPB_wk [0, 1, 2, 3, 4, 5, 6] mkWk ((hAA _ _ _).1 hn7)
      · skip
        refine AWPL_rn tab_ok 1 [3, 4, 5, 6, 7, 11, 12, 13] fun c st' hr => ?_
        simp only [go_sem, reduceIte, reduceCtorEq, Nat.reduceEqDiff, Nat.reduceLT, Nat.reduceLeDiff, Nat.reduceBEq, Nat.reduceAdd, Nat.reduceMul, Nat.reduceSub, Nat.reducePow, Int.reduceLE, Int.reduceLT, Int.reduceNeg, Int.reduceToNat, Int.reduceAdd, Int.reduceSub] at hr
        obtain ⟨rfl, rfl⟩ := hr
        refine ⟨vc, ?_⟩
        refine AWPL_nil ?_
        refine QB_normal ?_
        exact AWPB_wk [0, 1, 2, 3, 4, 5, 6, 7] mkWk ((hAA _ _ _).1 hn10))
    have hn12 : AA 5 #[true, true, false, false, false, true, false, false] ⟨17, [(3, .immp [.int .i64 a_0, .ints .i64 a_1]), (4, .immp [.int .i64 b_0, .ints .i64 b_1]), (5, .immp [.func 68 [.abs pl0 0 0]]), (7, .ptr 6 0 0), (11, .own 5 y.length)], [some (.ints 3 .i64 [q0]), some (.pin 0 pl0), none, none, none, some (.ints 3 .i64 y), some (.gen 22 1 [[.nil]])]⟩ := (hAA _ _ _).2 (by
      refine AWPB_two 2 4 _ _ (by kernel_rfl) rfl rfl ?_ ?_
      · skip
        refine AWPL_rn tab_ok 1 [3, 4, 5, 6, 7, 11, 12, 13] fun c st' hr => ?_
        simp only [go_sem, reduceIte, reduceCtorEq, Nat.reduceEqDiff, Nat.reduceLT, Nat.reduceLeDiff, Nat.reduceBEq, Nat.reduceAdd, Nat.reduceMul, Nat.reduceSub, Nat.reducePow, Int.reduceLE, Int.reduceLT, Int.reduceNeg, Int.reduceToNat, Int.reduceAdd, Int.reduceSub] at hr
        obtain ⟨rfl, rfl⟩ := hr
        refine ⟨vc, ?_⟩
        refine AWPL_nil ?_
        refine QB_normal ?_
        exact AWPB_wk [0, 1, 2, 3, 4, 5, 6] mkWk ((hAA _ _ _).1 hn8)
      · skip
        refine AWPL_rn tab_ok 1 [3, 4, 5, 6, 7, 11, 12, 13] fun c st' hr => ?_
        simp only [go_sem, reduceIte, reduceCtorEq, Nat.reduceEqDiff, Nat.reduceLT, Nat.reduceLeDiff, Nat.reduceBEq, Nat.reduceAdd, Nat.reduceMul, Nat.reduceSub, Nat.reducePow, Int.reduceLE, Int.reduceLT, Int.reduceNeg, Int.reduceToNat, Int.reduceAdd, Int.reduceSub] at hr
        obtain ⟨rfl, rfl⟩ := hr
        refine ⟨vc, ?_⟩
        refine AWPL_nil ?_
        refine QB_normal ?_
        exact AWPB_wk [0, 1, 2, 3, 4, 5, 7, 6] mkWk ((hAA _ _ _).1 hn10))
    have hn13 : AA 6 #[true, true, false, false, false, false, false, false] ⟨17, [(3, .immp [.int .i64 a_0, .ints .i64 a_1]), (4, .immp [.int .i64 b_0, .ints .i64 b_1]), (5, .immp [.func 68 [.abs pl0 0 0]]), (11, .own 5 y.length)], [some (.ints 3 .i64 [q0]), some (.pin 0 pl0), none, none, none, some (.ints 3 .i64 y)]⟩ := (hAA _ _ _).2 (by
      refine AWPB_three 2 4 5 _ _ _ (by kernel_rfl) rfl rfl rfl ?_ ?_ ?_
      · skip
        refine AWPL_rn tab_ok 1 [3, 4, 5, 6, 7, 11, 12, 13] fun c st' hr => ?_
        simp only [go_sem, reduceIte, reduceCtorEq, Nat.reduceEqDiff, Nat.reduceLT, Nat.reduceLeDiff, Nat.reduceBEq, Nat.reduceAdd, Nat.reduceMul, Nat.reduceSub, Nat.reducePow, Int.reduceLE, Int.reduceLT, Int.reduceNeg, Int.reduceToNat, Int.reduceAdd, Int.reduceSub] at hr
        obtain ⟨rfl, rfl⟩ := hr
        refine ⟨vc, ?_⟩
        refine AWPL_nil ?_
        refine QB_normal ?_
        exact AWPB_wk [0, 1, 2, 3, 4, 5] mkWk ((hAA _ _ _).1 hn9)
      · skip
        refine AWPL_rn tab_ok 1 [3, 4, 5, 6, 7, 11, 12, 13] fun c st' hr => ?_
        simp only [go_sem, reduceIte, reduceCtorEq, Nat.reduceEqDiff, Nat.reduceLT, Nat.reduceLeDiff, Nat.reduceBEq, Nat.reduceAdd, Nat.reduceMul, Nat.reduceSub, Nat.reducePow, Int.reduceLE, Int.reduceLT, Int.reduceNeg, Int.reduceToNat, Int.reduceAdd, Int.reduceSub] at hr
        obtain ⟨rfl, rfl⟩ := hr
        refine ⟨vc, ?_⟩
        refine AWPL_nil ?_
        refine QB_normal ?_
        exact AWPB_wk [0, 1, 2, 3, 4, 5, 6] mkWk ((hAA _ _ _).1 hn11)
      · skip
        refine AWPL_rn tab_ok 1 [3, 4, 5, 6, 7, 11, 12, 13] fun c st' hr => ?_
        simp only [go_sem, reduceIte, reduceCtorEq, Nat.reduceEqDiff, Nat.reduceLT, Nat.reduceLeDiff, Nat.reduceBEq, Nat.reduceAdd, Nat.reduceMul, Nat.reduceSub, Nat.reducePow, Int.reduceLE, Int.reduceLT, Int.reduceNeg, Int.reduceToNat, Int.reduceAdd, Int.reduceSub] at hr
        obtain ⟨rfl, rfl⟩ := hr
        refine ⟨vc, ?_⟩
        refine AWPL_nil ?_
        refine QB_normal ?_
        exact AWPB_wk [0, 1, 2, 3, 4, 5, 6] mkWk ((hAA _ _ _).1 hn12))
    have hn14 : AA 4 #[true, false, true, false, true, true, false, false] ⟨17, [(3, .immp [.int .i64 a_0, .ints .i64 a_1]), (4, .immp [.int .i64 b_0, .ints .i64 b_1]), (5, .immp [.func 68 [.abs pl0 0 0]]), (6, .ptr 5 0 0), (7, .ptr 6 0 0), (10, .agg [.int .i64 a_0, .ints .i64 a_1]), (12, .agg [.int .i64 b_0, .ints .i64 b_1])], [some (.ints 3 .i64 [q0]), some (.pin 0 pl0), none, none, none, some (.gen 22 1 [[.nil]]), some (.gen 22 1 [[.nil]])]⟩ := (hAA _ _ _).2 (by
      refine AWPB_one 1 _ (by kernel_rfl) rfl ?_
      refine AWPL_callK [3, 4, 5, 6, 7, 11, 12, 13] (W_same_ranks hy) rfl rfl pcT rfl Try.call105 (.cons (.agg _ _ rfl (ArgsOk.get (.cons (.atom _ rfl) (.cons (.atom _ rfl) .nil))).2) .nil) (hscG trivial) (of_decide_eq_true rfl) (by first | rfl | simp [nI, nI1, nI0]) (by first | rfl | simp [nIB, nI0]) fun st' hr => ?_
      simp only [go_sem, reduceIte, reduceCtorEq, Nat.reduceEqDiff, Nat.reduceLT, Nat.reduceLeDiff, Nat.reduceBEq, Nat.reduceAdd, Nat.reduceMul, Nat.reduceSub, Nat.reducePow, Int.reduceLE, Int.reduceLT, Int.reduceNeg, Int.reduceToNat, Int.reduceAdd, Int.reduceSub] at hr
      subst hr
      refine AWPL_nil ?_
      refine QB_normal ?_
      exact AWPB_wk [0, 1, 2, 3, 4, 7, 5, 6] mkWk ((hAA _ _ _).1 hn6))
    have hn15 : AA 5 #[true, false, true, false, true, false, false, false] ⟨17, [(3, .immp [.int .i64 a_0, .ints .i64 a_1]), (4, .immp [.int .i64 b_0, .ints .i64 b_1]), (5, .immp [.func 68 [.abs pl0 0 0]]), (6, .ptr 5 0 0), (10, .agg [.int .i64 a_0, .ints .i64 a_1]), (12, .agg [.int .i64 b_0, .ints .i64 b_1])], [some (.ints 3 .i64 [q0]), some (.pin 0 pl0), none, none, none, some (.gen 22 1 [[.nil]])]⟩ := (hAA _ _ _).2 (by
      refine AWPB_two 1 5 _ _ (by kernel_rfl) rfl rfl ?_ ?_
      · skip
        refine AWPL_callK [3, 4, 5, 6, 7, 11, 12, 13] (W_same_ranks hy) rfl rfl pcT rfl Try.call105 (.cons (.agg _ _ rfl (ArgsOk.get (.cons (.atom _ rfl) (.cons (.atom _ rfl) .nil))).2) .nil) (hscG trivial) (of_decide_eq_true rfl) (by first | rfl | simp [nI, nI1, nI0]) (by first | rfl | simp [nIB, nI0]) fun st' hr => ?_
        simp only [go_sem, reduceIte, reduceCtorEq, Nat.reduceEqDiff, Nat.reduceLT, Nat.reduceLeDiff, Nat.reduceBEq, Nat.reduceAdd, Nat.reduceMul, Nat.reduceSub, Nat.reducePow, Int.reduceLE, Int.reduceLT, Int.reduceNeg, Int.reduceToNat, Int.reduceAdd, Int.reduceSub] at hr
        subst hr
        refine AWPL_nil ?_
        refine QB_normal ?_
        exact AWPB_wk [0, 1, 2, 3, 4, 6, 5] mkWk ((hAA _ _ _).1 hn7)
      · skip
        refine AWPL_rn tab_ok 1 [3, 4, 5, 6, 7, 10, 11, 12, 13] fun c st' hr => ?_
        simp only [go_sem, reduceIte, reduceCtorEq, Nat.reduceEqDiff, Nat.reduceLT, Nat.reduceLeDiff, Nat.reduceBEq, Nat.reduceAdd, Nat.reduceMul, Nat.reduceSub, Nat.reducePow, Int.reduceLE, Int.reduceLT, Int.reduceNeg, Int.reduceToNat, Int.reduceAdd, Int.reduceSub] at hr
        obtain ⟨rfl, rfl⟩ := hr
        refine ⟨vc, ?_⟩
        refine AWPL_nil ?_
        refine QB_normal ?_
        exact AWPB_wk [0, 1, 2, 3, 4, 5, 6] mkWk ((hAA _ _ _).1 hn14))
    have hn16 : AA 5 #[true, false, true, false, false, true, false, false] ⟨17, [(3, .immp [.int .i64 a_0, .ints .i64 a_1]), (4, .immp [.int .i64 b_0, .ints .i64 b_1]), (5, .immp [.func 68 [.abs pl0 0 0]]), (7, .ptr 5 0 0), (10, .agg [.int .i64 a_0, .ints .i64 a_1]), (12, .agg [.int .i64 b_0, .ints .i64 b_1])], [some (.ints 3 .i64 [q0]), some (.pin 0 pl0), none, none, none, some (.gen 22 1 [[.nil]])]⟩ := (hAA _ _ _).2 (by
      refine AWPB_two 1 4 _ _ (by kernel_rfl) rfl rfl ?_ ?_
      · skip
        refine AWPL_callK [3, 4, 5, 6, 7, 11, 12, 13] (W_same_ranks hy) rfl rfl pcT rfl Try.call105 (.cons (.agg _ _ rfl (ArgsOk.get (.cons (.atom _ rfl) (.cons (.atom _ rfl) .nil))).2) .nil) (hscG trivial) (of_decide_eq_true rfl) (by first | rfl | simp [nI, nI1, nI0]) (by first | rfl | simp [nIB, nI0]) fun st' hr => ?_
        simp only [go_sem, reduceIte, reduceCtorEq, Nat.reduceEqDiff, Nat.reduceLT, Nat.reduceLeDiff, Nat.reduceBEq, Nat.reduceAdd, Nat.reduceMul, Nat.reduceSub, Nat.reducePow, Int.reduceLE, Int.reduceLT, Int.reduceNeg, Int.reduceToNat, Int.reduceAdd, Int.reduceSub] at hr
        subst hr
        refine AWPL_nil ?_
        refine QB_normal ?_
        exact AWPB_wk [0, 1, 2, 3, 4, 6, 5] mkWk ((hAA _ _ _).1 hn8)
      · skip
        refine AWPL_rn tab_ok 1 [3, 4, 5, 6, 7, 10, 11, 12, 13] fun c st' hr => ?_
        simp only [go_sem, reduceIte, reduceCtorEq, Nat.reduceEqDiff, Nat.reduceLT, Nat.reduceLeDiff, Nat.reduceBEq, Nat.reduceAdd, Nat.reduceMul, Nat.reduceSub, Nat.reducePow, Int.reduceLE, Int.reduceLT, Int.reduceNeg, Int.reduceToNat, Int.reduceAdd, Int.reduceSub] at hr
        obtain ⟨rfl, rfl⟩ := hr
        refine ⟨vc, ?_⟩
        refine AWPL_nil ?_
        refine QB_normal ?_
        exact AWPB_wk [0, 1, 2, 3, 4, 6, 5] mkWk ((hAA _ _ _).1 hn14))
    have hn17 : AA 6 #[true, false, true, false, false, false, false, false] ⟨17, [(3, .immp [.int .i64 a_0, .ints .i64 a_1]), (4, .immp [.int .i64 b_0, .ints .i64 b_1]), (5, .immp [.func 68 [.abs pl0 0 0]]), (10, .agg [.int .i64 a_0, .ints .i64 a_1]), (12, .agg [.int .i64 b_0, .ints .i64 b_1])], [some (.ints 3 .i64 [q0]), some (.pin 0 pl0), none, none, none]⟩ := (hAA _ _ _).2 (by
      refine AWPB_three 1 4 5 _ _ _ (by kernel_rfl) rfl rfl rfl ?_ ?_ ?_
      · skip
        refine AWPL_callK [3, 4, 5, 6, 7, 11, 12, 13] (W_same_ranks hy) rfl rfl pcT rfl Try.call105 (.cons (.agg _ _ rfl (ArgsOk.get (.cons (.atom _ rfl) (.cons (.atom _ rfl) .nil))).2) .nil) (hscG trivial) (of_decide_eq_true rfl) (by first | rfl | simp [nI, nI1, nI0]) (by first | rfl | simp [nIB, nI0]) fun st' hr => ?_
        simp only [go_sem, reduceIte, reduceCtorEq, Nat.reduceEqDiff, Nat.reduceLT, Nat.reduceLeDiff, Nat.reduceBEq, Nat.reduceAdd, Nat.reduceMul, Nat.reduceSub, Nat.reducePow, Int.reduceLE, Int.reduceLT, Int.reduceNeg, Int.reduceToNat, Int.reduceAdd, Int.reduceSub] at hr
        subst hr
        refine AWPL_nil ?_
        refine QB_normal ?_
        exact AWPB_wk [0, 1, 2, 3, 4, 5] mkWk ((hAA _ _ _).1 hn9)
      · skip
        refine AWPL_rn tab_ok 1 [3, 4, 5, 6, 7, 10, 11, 12, 13] fun c st' hr => ?_
        simp only [go_sem, reduceIte, reduceCtorEq, Nat.reduceEqDiff, Nat.reduceLT, Nat.reduceLeDiff, Nat.reduceBEq, Nat.reduceAdd, Nat.reduceMul, Nat.reduceSub, Nat.reducePow, Int.reduceLE, Int.reduceLT, Int.reduceNeg, Int.reduceToNat, Int.reduceAdd, Int.reduceSub] at hr
        obtain ⟨rfl, rfl⟩ := hr
        refine ⟨vc, ?_⟩
        refine AWPL_nil ?_
        refine QB_normal ?_
        exact AWPB_wk [0, 1, 2, 3, 4, 5] mkWk ((hAA _ _ _).1 hn15)
      · skip
        refine AWPL_rn tab_ok 1 [3, 4, 5, 6, 7, 10, 11, 12, 13] fun c st' hr => ?_
        simp only [go_sem, reduceIte, reduceCtorEq, Nat.reduceEqDiff, Nat.reduceLT, Nat.reduceLeDiff, Nat.reduceBEq, Nat.reduceAdd, Nat.reduceMul, Nat.reduceSub, Nat.reducePow, Int.reduceLE, Int.reduceLT, Int.reduceNeg, Int.reduceToNat, Int.reduceAdd, Int.reduceSub] at hr
        obtain ⟨rfl, rfl⟩ := hr
        refine ⟨vc, ?_⟩
        refine AWPL_nil ?_
        refine QB_normal ?_
        exact AWPB_wk [0, 1, 2, 3, 4, 5] mkWk ((hAA _ _ _).1 hn16))
    have hn18 : AA 5 #[true, false, false, false, true, true, false, false] ⟨17, [(3, .immp [.int .i64 a_0, .ints .i64 a_1]), (4, .immp [.int .i64 b_0, .ints .i64 b_1]), (5, .immp [.func 68 [.abs pl0 0 0]]), (6, .ptr 5 0 0), (7, .ptr 6 0 0), (10, .agg [.int .i64 a_0, .ints .i64 a_1])], [some (.ints 3 .i64 [q0]), some (.pin 0 pl0), none, none, none, some (.gen 22 1 [[.nil]]), some (.gen 22 1 [[.nil]])]⟩ := (hAA _ _ _).2 (by
      refine AWPB_two 1 2 _ _ (by kernel_rfl) rfl rfl ?_ ?_
      · skip
        refine AWPL_callK [3, 4, 5, 6, 7, 11, 12, 13] (W_same_ranks hy) rfl rfl pcT rfl Try.call105 (.cons (.agg _ _ rfl (ArgsOk.get (.cons (.atom _ rfl) (.cons (.atom _ rfl) .nil))).2) .nil) (hscG trivial) (of_decide_eq_true rfl) (by first | rfl | simp [nI, nI1, nI0]) (by first | rfl | simp [nIB, nI0]) fun st' hr => ?_
        simp only [go_sem, reduceIte, reduceCtorEq, Nat.reduceEqDiff, Nat.reduceLT, Nat.reduceLeDiff, Nat.reduceBEq, Nat.reduceAdd, Nat.reduceMul, Nat.reduceSub, Nat.reducePow, Int.reduceLE, Int.reduceLT, Int.reduceNeg, Int.reduceToNat, Int.reduceAdd, Int.reduceSub] at hr
        subst hr
        refine AWPL_nil ?_
        refine QB_normal ?_
        exact AWPB_wk [0, 1, 2, 3, 4, 7, 5, 6] mkWk ((hAA _ _ _).1 hn10)
      · skip
        refine AWPL_rn tab_ok 1 [3, 4, 5, 6, 7, 10, 11, 12, 13] fun c st' hr => ?_
        simp only [go_sem, reduceIte, reduceCtorEq, Nat.reduceEqDiff, Nat.reduceLT, Nat.reduceLeDiff, Nat.reduceBEq, Nat.reduceAdd, Nat.reduceMul, Nat.reduceSub, Nat.reducePow, Int.reduceLE, Int.reduceLT, Int.reduceNeg, Int.reduceToNat, Int.reduceAdd, Int.reduceSub] at hr
        obtain ⟨rfl, rfl⟩ := hr
        refine ⟨vc, ?_⟩
        refine AWPL_nil ?_
        refine QB_normal ?_
        exact AWPB_wk [0, 1, 2, 3, 4, 5, 6] mkWk ((hAA _ _ _).1 hn14))
    have hn19 : AA 6 #[true, false, false, false, true, false, false, false] ⟨17, [(3, .immp [.int .i64 a_0, .ints .i64 a_1]), (4, .immp [.int .i64 b_0, .ints .i64 b_1]), (5, .immp [.func 68 [.abs pl0 0 0]]), (6, .ptr 5 0 0), (10, .agg [.int .i64 a_0, .ints .i64 a_1])], [some (.ints 3 .i64 [q0]), some (.pin 0 pl0), none, none, none, some (.gen 22 1 [[.nil]])]⟩ := (hAA _ _ _).2 (by
      refine AWPB_three 1 2 5 _ _ _ (by kernel_rfl) rfl rfl rfl ?_ ?_ ?_
      · skip
        refine AWPL_callK [3, 4, 5, 6, 7, 11, 12, 13] (W_same_ranks hy) rfl rfl pcT rfl Try.call105 (.cons (.agg _ _ rfl (ArgsOk.get (.cons (.atom _ rfl) (.cons (.atom _ rfl) .nil))).2) .nil) (hscG trivial) (of_decide_eq_true rfl) (by first | rfl | simp [nI, nI1, nI0]) (by first | rfl | simp [nIB, nI0]) fun st' hr => ?_
        simp only [go_sem, reduceIte, reduceCtorEq, Nat.reduceEqDiff, Nat.reduceLT, Nat.reduceLeDiff, Nat.reduceBEq, Nat.reduceAdd, Nat.reduceMul, Nat.reduceSub, Nat.reducePow, Int.reduceLE, Int.reduceLT, Int.reduceNeg, Int.reduceToNat, Int.reduceAdd, Int.reduceSub] at hr
        subst hr
        refine AWPL_nil ?_
        refine QB_normal ?_
        exact AWPB_wk [0, 1, 2, 3, 4, 6, 5] mkWk ((hAA _ _ _).1 hn11)
      · skip
        refine AWPL_rn tab_ok 1 [3, 4, 5, 6, 7, 10, 11, 12, 13] fun c st' hr => ?_
        simp only [go_sem, reduceIte, reduceCtorEq, Nat.reduceEqDiff, Nat.reduceLT, Nat.reduceLeDiff, Nat.reduceBEq, Nat.reduceAdd, Nat.reduceMul, Nat.reduceSub, Nat.reducePow, Int.reduceLE, Int.reduceLT, Int.reduceNeg, Int.reduceToNat, Int.reduceAdd, Int.reduceSub] at hr
        obtain ⟨rfl, rfl⟩ := hr
        refine ⟨vc, ?_⟩
        refine AWPL_nil ?_
        refine QB_normal ?_
        exact AWPB_wk [0, 1, 2, 3, 4, 5] mkWk ((hAA _ _ _).1 hn15)
      · skip
        refine AWPL_rn tab_ok 1 [3, 4, 5, 6, 7, 10, 11, 12, 13] fun c st' hr => ?_
        simp only [go_sem, reduceIte, reduceCtorEq, Nat.reduceEqDiff, Nat.reduceLT, Nat.reduceLeDiff, Nat.reduceBEq, Nat.reduceAdd, Nat.reduceMul, Nat.reduceSub, Nat.reducePow, Int.reduceLE, Int.reduceLT, Int.reduceNeg, Int.reduceToNat, Int.reduceAdd, Int.reduceSub] at hr
        obtain ⟨rfl, rfl⟩ := hr
        refine ⟨vc, ?_⟩
        refine AWPL_nil ?_
        refine QB_normal ?_
        exact AWPB_wk [0, 1, 2, 3, 4, 5, 6] mkWk ((hAA _ _ _).1 hn18))
    have hn20 : AA 6 #[true, false, false, false, false, true, false, false] ⟨17, [(3, .immp [.int .i64 a_0, .ints .i64 a_1]), (4, .immp [.int .i64 b_0, .ints .i64 b_1]), (5, .immp [.func 68 [.abs pl0 0 0]]), (7, .ptr 5 0 0), (10, .agg [.int .i64 a_0, .ints .i64 a_1])], [some (.ints 3 .i64 [q0]), some (.pin 0 pl0), none, none, none, some (.gen 22 1 [[.nil]])]⟩ := (hAA _ _ _).2 (by
      refine AWPB_three 1 2 4 _ _ _ (by kernel_rfl) rfl rfl rfl ?_ ?_ ?_
      · skip
        refine AWPL_callK [3, 4, 5, 6, 7, 11, 12, 13] (W_same_ranks hy) rfl rfl pcT rfl Try.call105 (.cons (.agg _ _ rfl (ArgsOk.get (.cons (.atom _ rfl) (.cons (.atom _ rfl) .nil))).2) .nil) (hscG trivial) (of_decide_eq_true rfl) (by first | rfl | simp [nI, nI1, nI0]) (by first | rfl | simp [nIB, nI0]) fun st' hr => ?_
        simp only [go_sem, reduceIte, reduceCtorEq, Nat.reduceEqDiff, Nat.reduceLT, Nat.reduceLeDiff, Nat.reduceBEq, Nat.reduceAdd, Nat.reduceMul, Nat.reduceSub, Nat.reducePow, Int.reduceLE, Int.reduceLT, Int.reduceNeg, Int.reduceToNat, Int.reduceAdd, Int.reduceSub] at hr
        subst hr
        refine AWPL_nil ?_
        refine QB_normal ?_
        exact AWPB_wk [0, 1, 2, 3, 4, 6, 5] mkWk ((hAA _ _ _).1 hn12)
      · skip
        refine AWPL_rn tab_ok 1 [3, 4, 5, 6, 7, 10, 11, 12, 13] fun c st' hr => ?_
        simp only [go_sem, reduceIte, reduceCtorEq, Nat.reduceEqDiff, Nat.reduceLT, Nat.reduceLeDiff, Nat.reduceBEq, Nat.reduceAdd, Nat.reduceMul, Nat.reduceSub, Nat.reducePow, Int.reduceLE, Int.reduceLT, Int.reduceNeg, Int.reduceToNat, Int.reduceAdd, Int.reduceSub] at hr
        obtain ⟨rfl, rfl⟩ := hr
        refine ⟨vc, ?_⟩
        refine AWPL_nil ?_
        refine QB_normal ?_
        exact AWPB_wk [0, 1, 2, 3, 4, 5] mkWk ((hAA _ _ _).1 hn16)
      · skip
        refine AWPL_rn tab_ok 1 [3, 4, 5, 6, 7, 10, 11, 12, 13] fun c st' hr => ?_
        simp only [go_sem, reduceIte, reduceCtorEq, Nat.reduceEqDiff, Nat.reduceLT, Nat.reduceLeDiff, Nat.reduceBEq, Nat.reduceAdd, Nat.reduceMul, Nat.reduceSub, Nat.reducePow, Int.reduceLE, Int.reduceLT, Int.reduceNeg, Int.reduceToNat, Int.reduceAdd, Int.reduceSub] at hr
        obtain ⟨rfl, rfl⟩ := hr
        refine ⟨vc, ?_⟩
        refine AWPL_nil ?_
        refine QB_normal ?_
        exact AWPB_wk [0, 1, 2, 3, 4, 6, 5] mkWk ((hAA _ _ _).1 hn18))
    have hn21 : AA 7 #[true, false, false, false, false, false, false, false] ⟨17, [(3, .immp [.int .i64 a_0, .ints .i64 a_1]), (4, .immp [.int .i64 b_0, .ints .i64 b_1]), (5, .immp [.func 68 [.abs pl0 0 0]]), (10, .agg [.int .i64 a_0, .ints .i64 a_1])], [some (.ints 3 .i64 [q0]), some (.pin 0 pl0), none, none, none]⟩ := (hAA _ _ _).2 (by
      refine AWPB_four 1 2 4 5 _ _ _ _ (by kernel_rfl) rfl rfl rfl rfl ?_ ?_ ?_ ?_
      · skip
        refine AWPL_callK [3, 4, 5, 6, 7, 11, 12, 13] (W_same_ranks hy) rfl rfl pcT rfl Try.call105 (.cons (.agg _ _ rfl (ArgsOk.get (.cons (.atom _ rfl) (.cons (.atom _ rfl) .nil))).2) .nil) (hscG trivial) (of_decide_eq_true rfl) (by first | rfl | simp [nI, nI1, nI0]) (by first | rfl | simp [nIB, nI0]) fun st' hr => ?_
        simp only [go_sem, reduceIte, reduceCtorEq, Nat.reduceEqDiff, Nat.reduceLT, Nat.reduceLeDiff, Nat.reduceBEq, Nat.reduceAdd, Nat.reduceMul, Nat.reduceSub, Nat.reducePow, Int.reduceLE, Int.reduceLT, Int.reduceNeg, Int.reduceToNat, Int.reduceAdd, Int.reduceSub] at hr
        subst hr
        refine AWPL_nil ?_
        refine QB_normal ?_
        exact AWPB_wk [0, 1, 2, 3, 4, 5] mkWk ((hAA _ _ _).1 hn13)
      · skip
        refine AWPL_rn tab_ok 1 [3, 4, 5, 6, 7, 10, 11, 12, 13] fun c st' hr => ?_
        simp only [go_sem, reduceIte, reduceCtorEq, Nat.reduceEqDiff, Nat.reduceLT, Nat.reduceLeDiff, Nat.reduceBEq, Nat.reduceAdd, Nat.reduceMul, Nat.reduceSub, Nat.reducePow, Int.reduceLE, Int.reduceLT, Int.reduceNeg, Int.reduceToNat, Int.reduceAdd, Int.reduceSub] at hr
        obtain ⟨rfl, rfl⟩ := hr
        refine ⟨vc, ?_⟩
        refine AWPL_nil ?_
        refine QB_normal ?_
        exact AWPB_wk [0, 1, 2, 3, 4] mkWk ((hAA _ _ _).1 hn17)
      · skip
        refine AWPL_rn tab_ok 1 [3, 4, 5, 6, 7, 10, 11, 12, 13] fun c st' hr => ?_
        simp only [go_sem, reduceIte, reduceCtorEq, Nat.reduceEqDiff, Nat.reduceLT, Nat.reduceLeDiff, Nat.reduceBEq, Nat.reduceAdd, Nat.reduceMul, Nat.reduceSub, Nat.reducePow, Int.reduceLE, Int.reduceLT, Int.reduceNeg, Int.reduceToNat, Int.reduceAdd, Int.reduceSub] at hr
        obtain ⟨rfl, rfl⟩ := hr
        refine ⟨vc, ?_⟩
        refine AWPL_nil ?_
        refine QB_normal ?_
        exact AWPB_wk [0, 1, 2, 3, 4, 5] mkWk ((hAA _ _ _).1 hn19)
      · skip
        refine AWPL_rn tab_ok 1 [3, 4, 5, 6, 7, 10, 11, 12, 13] fun c st' hr => ?_
        simp only [go_sem, reduceIte, reduceCtorEq, Nat.reduceEqDiff, Nat.reduceLT, Nat.reduceLeDiff, Nat.reduceBEq, Nat.reduceAdd, Nat.reduceMul, Nat.reduceSub, Nat.reducePow, Int.reduceLE, Int.reduceLT, Int.reduceNeg, Int.reduceToNat, Int.reduceAdd, Int.reduceSub] at hr
        obtain ⟨rfl, rfl⟩ := hr
        refine ⟨vc, ?_⟩
        refine AWPL_nil ?_
        refine QB_normal ?_
        exact AWPB_wk [0, 1, 2, 3, 4, 5] mkWk ((hAA _ _ _).1 hn20))
    have hn22 : AA 5 #[false, false, true, false, true, true, false, false] ⟨17, [(3, .immp [.int .i64 a_0, .ints .i64 a_1]), (4, .immp [.int .i64 b_0, .ints .i64 b_1]), (5, .immp [.func 68 [.abs pl0 0 0]]), (6, .ptr 5 0 0), (7, .ptr 6 0 0), (12, .agg [.int .i64 b_0, .ints .i64 b_1])], [some (.ints 3 .i64 [q0]), some (.pin 0 pl0), none, none, none, some (.gen 22 1 [[.nil]]), some (.gen 22 1 [[.nil]])]⟩ := (hAA _ _ _).2 (by
      refine AWPB_one 0 _ (by kernel_rfl) rfl ?_
      refine AWPL_rn tab_ok 1 [3, 4, 5, 6, 7, 10, 11, 12, 13] fun c st' hr => ?_
      simp only [go_sem, reduceIte, reduceCtorEq, Nat.reduceEqDiff, Nat.reduceLT, Nat.reduceLeDiff, Nat.reduceBEq, Nat.reduceAdd, Nat.reduceMul, Nat.reduceSub, Nat.reducePow, Int.reduceLE, Int.reduceLT, Int.reduceNeg, Int.reduceToNat, Int.reduceAdd, Int.reduceSub] at hr
      obtain ⟨rfl, rfl⟩ := hr
      refine ⟨vc, ?_⟩
      refine AWPL_nil ?_
      refine QB_normal ?_
      exact AWPB_wk [0, 1, 2, 3, 4, 5, 6] mkWk ((hAA _ _ _).1 hn14))
    have hn23 : AA 6 #[false, false, true, false, true, false, false, false] ⟨17, [(3, .immp [.int .i64 a_0, .ints .i64 a_1]), (4, .immp [.int .i64 b_0, .ints .i64 b_1]), (5, .immp [.func 68 [.abs pl0 0 0]]), (6, .ptr 5 0 0), (12, .agg [.int .i64 b_0, .ints .i64 b_1])], [some (.ints 3 .i64 [q0]), some (.pin 0 pl0), none, none, none, some (.gen 22 1 [[.nil]])]⟩ := (hAA _ _ _).2 (by
      refine AWPB_two 0 5 _ _ (by kernel_rfl) rfl rfl ?_ ?_
      · skip
        refine AWPL_rn tab_ok 1 [3, 4, 5, 6, 7, 10, 11, 12, 13] fun c st' hr => ?_
        simp only [go_sem, reduceIte, reduceCtorEq, Nat.reduceEqDiff, Nat.reduceLT, Nat.reduceLeDiff, Nat.reduceBEq, Nat.reduceAdd, Nat.reduceMul, Nat.reduceSub, Nat.reducePow, Int.reduceLE, Int.reduceLT, Int.reduceNeg, Int.reduceToNat, Int.reduceAdd, Int.reduceSub] at hr
        obtain ⟨rfl, rfl⟩ := hr
        refine ⟨vc, ?_⟩
        refine AWPL_nil ?_
        refine QB_normal ?_
        exact AWPB_wk [0, 1, 2, 3, 4, 5] mkWk ((hAA _ _ _).1 hn15)
      · skip
        refine AWPL_rn tab_ok 1 [3, 4, 5, 6, 7, 10, 11, 12, 13] fun c st' hr => ?_
        simp only [go_sem, reduceIte, reduceCtorEq, Nat.reduceEqDiff, Nat.reduceLT, Nat.reduceLeDiff, Nat.reduceBEq, Nat.reduceAdd, Nat.reduceMul, Nat.reduceSub, Nat.reducePow, Int.reduceLE, Int.reduceLT, Int.reduceNeg, Int.reduceToNat, Int.reduceAdd, Int.reduceSub] at hr
        obtain ⟨rfl, rfl⟩ := hr
        refine ⟨vc, ?_⟩
        refine AWPL_nil ?_
        refine QB_normal ?_
        exact AWPB_wk [0, 1, 2, 3, 4, 5, 6] mkWk ((hAA _ _ _).1 hn22))
    have hn24 : AA 6 #[false, false, true, false, false, true, false, false] ⟨17, [(3, .immp [.int .i64 a_0, .ints .i64 a_1]), (4, .immp [.int .i64 b_0, .ints .i64 b_1]), (5, .immp [.func 68 [.abs pl0 0 0]]), (7, .ptr 5 0 0), (12, .agg [.int .i64 b_0, .ints .i64 b_1])], [some (.ints 3 .i64 [q0]), some (.pin 0 pl0), none, none, none, some (.gen 22 1 [[.nil]])]⟩ := (hAA _ _ _).2 (by
      refine AWPB_two 0 4 _ _ (by kernel_rfl) rfl rfl ?_ ?_
      · skip
        refine AWPL_rn tab_ok 1 [3, 4, 5, 6, 7, 10, 11, 12, 13] fun c st' hr => ?_
        simp only [go_sem, reduceIte, reduceCtorEq, Nat.reduceEqDiff, Nat.reduceLT, Nat.reduceLeDiff, Nat.reduceBEq, Nat.reduceAdd, Nat.reduceMul, Nat.reduceSub, Nat.reducePow, Int.reduceLE, Int.reduceLT, Int.reduceNeg, Int.reduceToNat, Int.reduceAdd, Int.reduceSub] at hr
        obtain ⟨rfl, rfl⟩ := hr
        refine ⟨vc, ?_⟩
        refine AWPL_nil ?_
        refine QB_normal ?_
        exact AWPB_wk [0, 1, 2, 3, 4, 5] mkWk ((hAA _ _ _).1 hn16)
      · skip
        refine AWPL_rn tab_ok 1 [3, 4, 5, 6, 7, 10, 11, 12, 13] fun c st' hr => ?_
        simp only [go_sem, reduceIte, reduceCtorEq, Nat.reduceEqDiff, Nat.reduceLT, Nat.reduceLeDiff, Nat.reduceBEq, Nat.reduceAdd, Nat.reduceMul, Nat.reduceSub, Nat.reducePow, Int.reduceLE, Int.reduceLT, Int.reduceNeg, Int.reduceToNat, Int.reduceAdd, Int.reduceSub] at hr
        obtain ⟨rfl, rfl⟩ := hr
        refine ⟨vc, ?_⟩
        refine AWPL_nil ?_
        refine QB_normal ?_
        exact AWPB_wk [0, 1, 2, 3, 4, 6, 5] mkWk ((hAA _ _ _).1 hn22))
    have hn25 : AA 7 #[false, false, true, false, false, false, false, false] ⟨17, [(3, .immp [.int .i64 a_0, .ints .i64 a_1]), (4, .immp [.int .i64 b_0, .ints .i64 b_1]), (5, .immp [.func 68 [.abs pl0 0 0]]), (12, .agg [.int .i64 b_0, .ints .i64 b_1])], [some (.ints 3 .i64 [q0]), some (.pin 0 pl0), none, none, none]⟩ := (hAA _ _ _).2 (by
      refine AWPB_three 0 4 5 _ _ _ (by kernel_rfl) rfl rfl rfl ?_ ?_ ?_
      · skip
        refine AWPL_rn tab_ok 1 [3, 4, 5, 6, 7, 10, 11, 12, 13] fun c st' hr => ?_
        simp only [go_sem, reduceIte, reduceCtorEq, Nat.reduceEqDiff, Nat.reduceLT, Nat.reduceLeDiff, Nat.reduceBEq, Nat.reduceAdd, Nat.reduceMul, Nat.reduceSub, Nat.reducePow, Int.reduceLE, Int.reduceLT, Int.reduceNeg, Int.reduceToNat, Int.reduceAdd, Int.reduceSub] at hr
        obtain ⟨rfl, rfl⟩ := hr
        refine ⟨vc, ?_⟩
        refine AWPL_nil ?_
        refine QB_normal ?_
        exact AWPB_wk [0, 1, 2, 3, 4] mkWk ((hAA _ _ _).1 hn17)
      · skip
        refine AWPL_rn tab_ok 1 [3, 4, 5, 6, 7, 10, 11, 12, 13] fun c st' hr => ?_
        simp only [go_sem, reduceIte, reduceCtorEq, Nat.reduceEqDiff, Nat.reduceLT, Nat.reduceLeDiff, Nat.reduceBEq, Nat.reduceAdd, Nat.reduceMul, Nat.reduceSub, Nat.reducePow, Int.reduceLE, Int.reduceLT, Int.reduceNeg, Int.reduceToNat, Int.reduceAdd, Int.reduceSub] at hr
        obtain ⟨rfl, rfl⟩ := hr
        refine ⟨vc, ?_⟩
        refine AWPL_nil ?_
        refine QB_normal ?_
        exact AWPB_wk [0, 1, 2, 3, 4, 5] mkWk ((hAA _ _ _).1 hn23)
      · skip
        refine AWPL_rn tab_ok 1 [3, 4, 5, 6, 7, 10, 11, 12, 13] fun c st' hr => ?_
        simp only [go_sem, reduceIte, reduceCtorEq, Nat.reduceEqDiff, Nat.reduceLT, Nat.reduceLeDiff, Nat.reduceBEq, Nat.reduceAdd, Nat.reduceMul, Nat.reduceSub, Nat.reducePow, Int.reduceLE, Int.reduceLT, Int.reduceNeg, Int.reduceToNat, Int.reduceAdd, Int.reduceSub] at hr
        obtain ⟨rfl, rfl⟩ := hr
        refine ⟨vc, ?_⟩
        refine AWPL_nil ?_
        refine QB_normal ?_
        exact AWPB_wk [0, 1, 2, 3, 4, 5] mkWk ((hAA _ _ _).1 hn24))
    have hn26 : AA 6 #[false, false, false, false, true, true, false, false] ⟨17, [(3, .immp [.int .i64 a_0, .ints .i64 a_1]), (4, .immp [.int .i64 b_0, .ints .i64 b_1]), (5, .immp [.func 68 [.abs pl0 0 0]]), (6, .ptr 5 0 0), (7, .ptr 6 0 0)], [some (.ints 3 .i64 [q0]), some (.pin 0 pl0), none, none, none, some (.gen 22 1 [[.nil]]), some (.gen 22 1 [[.nil]])]⟩ := (hAA _ _ _).2 (by
      refine AWPB_two 0 2 _ _ (by kernel_rfl) rfl rfl ?_ ?_
      · skip
        refine AWPL_rn tab_ok 1 [3, 4, 5, 6, 7, 10, 11, 12, 13] fun c st' hr => ?_
        simp only [go_sem, reduceIte, reduceCtorEq, Nat.reduceEqDiff, Nat.reduceLT, Nat.reduceLeDiff, Nat.reduceBEq, Nat.reduceAdd, Nat.reduceMul, Nat.reduceSub, Nat.reducePow, Int.reduceLE, Int.reduceLT, Int.reduceNeg, Int.reduceToNat, Int.reduceAdd, Int.reduceSub] at hr
        obtain ⟨rfl, rfl⟩ := hr
        refine ⟨vc, ?_⟩
        refine AWPL_nil ?_
        refine QB_normal ?_
        exact AWPB_wk [0, 1, 2, 3, 4, 5, 6] mkWk ((hAA _ _ _).1 hn18)
      · skip
        refine AWPL_rn tab_ok 1 [3, 4, 5, 6, 7, 10, 11, 12, 13] fun c st' hr => ?_
        simp only [go_sem, reduceIte, reduceCtorEq, Nat.reduceEqDiff, Nat.reduceLT, Nat.reduceLeDiff, Nat.reduceBEq, Nat.reduceAdd, Nat.reduceMul, Nat.reduceSub, Nat.reducePow, Int.reduceLE, Int.reduceLT, Int.reduceNeg, Int.reduceToNat, Int.reduceAdd, Int.reduceSub] at hr
        obtain ⟨rfl, rfl⟩ := hr
        refine ⟨vc, ?_⟩
        refine AWPL_nil ?_
        refine QB_normal ?_
        exact AWPB_wk [0, 1, 2, 3, 4, 5, 6] mkWk ((hAA _ _ _).1 hn22))
    have hn27 : AA 7 #[false, false, false, false, true, false, false, false] ⟨17, [(3, .immp [.int .i64 a_0, .ints .i64 a_1]), (4, .immp [.int .i64 b_0, .ints .i64 b_1]), (5, .immp [.func 68 [.abs pl0 0 0]]), (6, .ptr 5 0 0)], [some (.ints 3 .i64 [q0]), some (.pin 0 pl0), none, none, none, some (.gen 22 1 [[.nil]])]⟩ := (hAA _ _ _).2 (by
      refine AWPB_three 0 2 5 _ _ _ (by kernel_rfl) rfl rfl rfl ?_ ?_ ?_
      · skip
        refine AWPL_rn tab_ok 1 [3, 4, 5, 6, 7, 10, 11, 12, 13] fun c st' hr => ?_
        simp only [go_sem, reduceIte, reduceCtorEq, Nat.reduceEqDiff, Nat.reduceLT, Nat.reduceLeDiff, Nat.reduceBEq, Nat.reduceAdd, Nat.reduceMul, Nat.reduceSub, Nat.reducePow, Int.reduceLE, Int.reduceLT, Int.reduceNeg, Int.reduceToNat, Int.reduceAdd, Int.reduceSub] at hr
        obtain ⟨rfl, rfl⟩ := hr
        refine ⟨vc, ?_⟩
        refine AWPL_nil ?_
        refine QB_normal ?_
        exact AWPB_wk [0, 1, 2, 3, 4, 5] mkWk ((hAA _ _ _).1 hn19)
      · skip
        refine AWPL_rn tab_ok 1 [3, 4, 5, 6, 7, 10, 11, 12, 13] fun c st' hr => ?_
        simp only [go_sem, reduceIte, reduceCtorEq, Nat.reduceEqDiff, Nat.reduceLT, Nat.reduceLeDiff, Nat.reduceBEq, Nat.reduceAdd, Nat.reduceMul, Nat.reduceSub, Nat.reducePow, Int.reduceLE, Int.reduceLT, Int.reduceNeg, Int.reduceToNat, Int.reduceAdd, Int.reduceSub] at hr
        obtain ⟨rfl, rfl⟩ := hr
        refine ⟨vc, ?_⟩
        refine AWPL_nil ?_
        refine QB_normal ?_
        exact AWPB_wk [0, 1, 2, 3, 4, 5] mkWk ((hAA _ _ _).1 hn23)
      · skip
        refine AWPL_rn tab_ok 1 [3, 4, 5, 6, 7, 10, 11, 12, 13] fun c st' hr => ?_
        simp only [go_sem, reduceIte, reduceCtorEq, Nat.reduceEqDiff, Nat.reduceLT, Nat.reduceLeDiff, Nat.reduceBEq, Nat.reduceAdd, Nat.reduceMul, Nat.reduceSub, Nat.reducePow, Int.reduceLE, Int.reduceLT, Int.reduceNeg, Int.reduceToNat, Int.reduceAdd, Int.reduceSub] at hr
        obtain ⟨rfl, rfl⟩ := hr
        refine ⟨vc, ?_⟩
        refine AWPL_nil ?_
        refine QB_normal ?_
        exact AWPB_wk [0, 1, 2, 3, 4, 5, 6] mkWk ((hAA _ _ _).1 hn26))
    have hn28 : AA 7 #[false, false, false, false, false, true, false, false] ⟨17, [(3, .immp [.int .i64 a_0, .ints .i64 a_1]), (4, .immp [.int .i64 b_0, .ints .i64 b_1]), (5, .immp [.func 68 [.abs pl0 0 0]]), (7, .ptr 5 0 0)], [some (.ints 3 .i64 [q0]), some (.pin 0 pl0), none, none, none, some (.gen 22 1 [[.nil]])]⟩ := (hAA _ _ _).2 (by
      refine AWPB_three 0 2 4 _ _ _ (by kernel_rfl) rfl rfl rfl ?_ ?_ ?_
      · skip
        refine AWPL_rn tab_ok 1 [3, 4, 5, 6, 7, 10, 11, 12, 13] fun c st' hr => ?_
        simp only [go_sem, reduceIte, reduceCtorEq, Nat.reduceEqDiff, Nat.reduceLT, Nat.reduceLeDiff, Nat.reduceBEq, Nat.reduceAdd, Nat.reduceMul, Nat.reduceSub, Nat.reducePow, Int.reduceLE, Int.reduceLT, Int.reduceNeg, Int.reduceToNat, Int.reduceAdd, Int.reduceSub] at hr
        obtain ⟨rfl, rfl⟩ := hr
        refine ⟨vc, ?_⟩
        refine AWPL_nil ?_
        refine QB_normal ?_
        exact AWPB_wk [0, 1, 2, 3, 4, 5] mkWk ((hAA _ _ _).1 hn20)
      · skip
        refine AWPL_rn tab_ok 1 [3, 4, 5, 6, 7, 10, 11, 12, 13] fun c st' hr => ?_
        simp only [go_sem, reduceIte, reduceCtorEq, Nat.reduceEqDiff, Nat.reduceLT, Nat.reduceLeDiff, Nat.reduceBEq, Nat.reduceAdd, Nat.reduceMul, Nat.reduceSub, Nat.reducePow, Int.reduceLE, Int.reduceLT, Int.reduceNeg, Int.reduceToNat, Int.reduceAdd, Int.reduceSub] at hr
        obtain ⟨rfl, rfl⟩ := hr
        refine ⟨vc, ?_⟩
        refine AWPL_nil ?_
        refine QB_normal ?_
        exact AWPB_wk [0, 1, 2, 3, 4, 5] mkWk ((hAA _ _ _).1 hn24)
      · skip
        refine AWPL_rn tab_ok 1 [3, 4, 5, 6, 7, 10, 11, 12, 13] fun c st' hr => ?_
        simp only [go_sem, reduceIte, reduceCtorEq, Nat.reduceEqDiff, Nat.reduceLT, Nat.reduceLeDiff, Nat.reduceBEq, Nat.reduceAdd, Nat.reduceMul, Nat.reduceSub, Nat.reducePow, Int.reduceLE, Int.reduceLT, Int.reduceNeg, Int.reduceToNat, Int.reduceAdd, Int.reduceSub] at hr
        obtain ⟨rfl, rfl⟩ := hr
        refine ⟨vc, ?_⟩
        refine AWPL_nil ?_
        refine QB_normal ?_
        exact AWPB_wk [0, 1, 2, 3, 4, 6, 5] mkWk ((hAA _ _ _).1 hn26))
    have hn29 : AA 8 #[false, false, false, false, false, false, false, false] ⟨17, [(3, .immp [.int .i64 a_0, .ints .i64 a_1]), (4, .immp [.int .i64 b_0, .ints .i64 b_1]), (5, .immp [.func 68 [.abs pl0 0 0]])], [some (.ints 3 .i64 [q0]), some (.pin 0 pl0), none, none, none]⟩ := (hAA _ _ _).2 (by
      refine AWPB_four 0 2 4 5 _ _ _ _ (by kernel_rfl) rfl rfl rfl rfl ?_ ?_ ?_ ?_
      · skip
        refine AWPL_rn tab_ok 1 [3, 4, 5, 6, 7, 10, 11, 12, 13] fun c st' hr => ?_
        simp only [go_sem, reduceIte, reduceCtorEq, Nat.reduceEqDiff, Nat.reduceLT, Nat.reduceLeDiff, Nat.reduceBEq, Nat.reduceAdd, Nat.reduceMul, Nat.reduceSub, Nat.reducePow, Int.reduceLE, Int.reduceLT, Int.reduceNeg, Int.reduceToNat, Int.reduceAdd, Int.reduceSub] at hr
        obtain ⟨rfl, rfl⟩ := hr
        refine ⟨vc, ?_⟩
        refine AWPL_nil ?_
        refine QB_normal ?_
        exact AWPB_wk [0, 1, 2, 3, 4] mkWk ((hAA _ _ _).1 hn21)
      · skip
        refine AWPL_rn tab_ok 1 [3, 4, 5, 6, 7, 10, 11, 12, 13] fun c st' hr => ?_
        simp only [go_sem, reduceIte, reduceCtorEq, Nat.reduceEqDiff, Nat.reduceLT, Nat.reduceLeDiff, Nat.reduceBEq, Nat.reduceAdd, Nat.reduceMul, Nat.reduceSub, Nat.reducePow, Int.reduceLE, Int.reduceLT, Int.reduceNeg, Int.reduceToNat, Int.reduceAdd, Int.reduceSub] at hr
        obtain ⟨rfl, rfl⟩ := hr
        refine ⟨vc, ?_⟩
        refine AWPL_nil ?_
        refine QB_normal ?_
        exact AWPB_wk [0, 1, 2, 3, 4] mkWk ((hAA _ _ _).1 hn25)
      · skip
        refine AWPL_rn tab_ok 1 [3, 4, 5, 6, 7, 10, 11, 12, 13] fun c st' hr => ?_
        simp only [go_sem, reduceIte, reduceCtorEq, Nat.reduceEqDiff, Nat.reduceLT, Nat.reduceLeDiff, Nat.reduceBEq, Nat.reduceAdd, Nat.reduceMul, Nat.reduceSub, Nat.reducePow, Int.reduceLE, Int.reduceLT, Int.reduceNeg, Int.reduceToNat, Int.reduceAdd, Int.reduceSub] at hr
        obtain ⟨rfl, rfl⟩ := hr
        refine ⟨vc, ?_⟩
        refine AWPL_nil ?_
        refine QB_normal ?_
        exact AWPB_wk [0, 1, 2, 3, 4, 5] mkWk ((hAA _ _ _).1 hn27)
      · skip
        refine AWPL_rn tab_ok 1 [3, 4, 5, 6, 7, 10, 11, 12, 13] fun c st' hr => ?_
        simp only [go_sem, reduceIte, reduceCtorEq, Nat.reduceEqDiff, Nat.reduceLT, Nat.reduceLeDiff, Nat.reduceBEq, Nat.reduceAdd, Nat.reduceMul, Nat.reduceSub, Nat.reducePow, Int.reduceLE, Int.reduceLT, Int.reduceNeg, Int.reduceToNat, Int.reduceAdd, Int.reduceSub] at hr
        obtain ⟨rfl, rfl⟩ := hr
        refine ⟨vc, ?_⟩
        refine AWPL_nil ?_
        refine QB_normal ?_
        exact AWPB_wk [0, 1, 2, 3, 4, 5] mkWk ((hAA _ _ _).1 hn28))
    exact (hAA _ _ _).2 (AWPB_wk [0, 1, 2, 3, 4] mkWk ((hAA _ _ _).1 hn29))
  with_reducible refine thenC_normal ?_
  refine AWP_seq ?_
  refine AWP_freezeC 7 5 y rfl rfl (by simp) (by simp) fun st' hr => ?_
  simp only [go_sem, reduceIte, reduceCtorEq, Nat.reduceEqDiff, Nat.reduceLT, Nat.reduceLeDiff, Nat.reduceBEq, Nat.reduceAdd, Nat.reduceMul, Nat.reduceSub, Nat.reducePow, Int.reduceLE, Int.reduceLT, Int.reduceNeg, Int.reduceToNat, Int.reduceAdd, Int.reduceSub, List.set_cons_zero, List.set_cons_succ] at hr
  subst hr
  refine AWP_freezeC 8 6 y1 rfl rfl (by simp) (by simp) fun st' hr => ?_
  simp only [go_sem, reduceIte, reduceCtorEq, Nat.reduceEqDiff, Nat.reduceLT, Nat.reduceLeDiff, Nat.reduceBEq, Nat.reduceAdd, Nat.reduceMul, Nat.reduceSub, Nat.reducePow, Int.reduceLE, Int.reduceLT, Int.reduceNeg, Int.reduceToNat, Int.reduceAdd, Int.reduceSub, List.set_cons_zero, List.set_cons_succ] at hr
  subst hr
  -- region 2
  refine AWP_rg tab_ok [3, 4, 5, 6, 7, 8] fun c st' hr => ?_
  simp only [go_sem, reduceIte, reduceCtorEq, Nat.reduceEqDiff, Nat.reduceLT, Nat.reduceLeDiff, Nat.reduceBEq, Nat.reduceAdd, Nat.reduceMul, Nat.reduceSub, Nat.reducePow, Int.reduceLE, Int.reduceLT, Int.reduceNeg, Int.reduceToNat, Int.reduceAdd, Int.reduceSub] at hr
  obtain ⟨rfl, rfl⟩ := hr
  refine ⟨vc, ?_⟩
  with_reducible refine thenC_normal ?_
  refine AWP_ownH 9 0 (.ints 3 .i64 []) rfl rfl rfl fun st' hr => ?_
  simp only [go_sem, reduceIte, reduceCtorEq, Nat.reduceEqDiff, Nat.reduceLT, Nat.reduceLeDiff, Nat.reduceBEq, Nat.reduceAdd, Nat.reduceMul, Nat.reduceSub, Nat.reducePow, Int.reduceLE, Int.reduceLT, Int.reduceNeg, Int.reduceToNat, Int.reduceAdd, Int.reduceSub] at hr
  subst hr
  refine AWP_seq ?_
  refine AWP_freeze 6 7 (y := .immp [.ints .i64 y]) rfl (.one (.ptrM _ _ _ _ _ _ _ rfl rfl rfl (ArgsOk.get (.cons (.atom _ rfl) .nil)).2)) fun st' hr => ?_
  simp only [go_sem, reduceIte, reduceCtorEq, Nat.reduceEqDiff, Nat.reduceLT, Nat.reduceLeDiff, Nat.reduceBEq, Nat.reduceAdd, Nat.reduceMul, Nat.reduceSub, Nat.reducePow, Int.reduceLE, Int.reduceLT, Int.reduceNeg, Int.reduceToNat, Int.reduceAdd, Int.reduceSub, List.set_cons_zero, List.set_cons_succ] at hr
  subst hr
  refine AWP_freeze 7 8 (y := .immp [.ints .i64 y1]) rfl (.one (.ptrM _ _ _ _ _ _ _ rfl rfl rfl (ArgsOk.get (.cons (.atom _ rfl) .nil)).2)) fun st' hr => ?_
  simp only [go_sem, reduceIte, reduceCtorEq, Nat.reduceEqDiff, Nat.reduceLT, Nat.reduceLeDiff, Nat.reduceBEq, Nat.reduceAdd, Nat.reduceMul, Nat.reduceSub, Nat.reducePow, Int.reduceLE, Int.reduceLT, Int.reduceNeg, Int.reduceToNat, Int.reduceAdd, Int.reduceSub, List.set_cons_zero, List.set_cons_succ] at hr
  subst hr
  -- region 3
  refine AWP_rg tab_ok [3, 4, 5, 6, 7, 8, 9] fun c st' hr => ?_
  simp only [go_sem, reduceIte, reduceCtorEq, Nat.reduceEqDiff, Nat.reduceLT, Nat.reduceLeDiff, Nat.reduceBEq, Nat.reduceAdd, Nat.reduceMul, Nat.reduceSub, Nat.reducePow, Int.reduceLE, Int.reduceLT, Int.reduceNeg, Int.reduceToNat, Int.reduceAdd, Int.reduceSub] at hr
  obtain ⟨rfl, rfl⟩ := hr
  refine ⟨vc, ?_⟩
  with_reducible refine thenC_normal ?_
  refine AWP_seq ?_
  -- region 4
  refine AWP_rg tab_ok [9] fun c st' hr => ?_
  simp only [go_sem, reduceIte, reduceCtorEq, Nat.reduceEqDiff, Nat.reduceLT, Nat.reduceLeDiff, Nat.reduceBEq, Nat.reduceAdd, Nat.reduceMul, Nat.reduceSub, Nat.reducePow, Int.reduceLE, Int.reduceLT, Int.reduceNeg, Int.reduceToNat, Int.reduceAdd, Int.reduceSub] at hr
  obtain ⟨rfl, rfl⟩ := hr
  refine ⟨vc, ?_⟩
  with_reducible refine thenC_normal ?_
  refine AWP_pin 9 rfl fun pl st' hr => ?_
  simp only [go_sem, reduceIte, reduceCtorEq, Nat.reduceEqDiff, Nat.reduceLT, Nat.reduceLeDiff, Nat.reduceBEq, Nat.reduceAdd, Nat.reduceMul, Nat.reduceSub, Nat.reducePow, Int.reduceLE, Int.reduceLT, Int.reduceNeg, Int.reduceToNat, Int.reduceAdd, Int.reduceSub, List.cons_append, List.nil_append] at hr
  subst hr
  refine AWP_freezeP 9 11 (y := .immp [.func 111 [.abs pl 0 0, .immp [.int .i64 a_0, .ints .i64 a_1], .immp [.func 68 [.abs pl0 0 0]], .immp [.int .i64 b_0, .ints .i64 b_1], .immp [.ints .i64 y], .immp [.ints .i64 y1], cycA 111 [.abs pl 0 0, .immp [.int .i64 a_0, .ints .i64 a_1], .immp [.func 68 [.abs pl0 0 0]], .immp [.int .i64 b_0, .ints .i64 b_1], .immp [.ints .i64 y], .immp [.ints .i64 y1]] 12]]) rfl (FrzP.cyc (src := [.ptr 9 0 0, .immp [.int .i64 a_0, .ints .i64 a_1], .immp [.func 68 [.abs pl0 0 0]], .immp [.int .i64 b_0, .ints .i64 b_1], .immp [.ints .i64 y], .immp [.ints .i64 y1]]) rfl (.cons (.abs 12 _ _ _ _ rfl) (.cons (.ok rfl (.atom _ rfl)) (.cons (.ok rfl (.atom _ rfl)) (.cons (.ok rfl (.atom _ rfl)) (.cons (.ok rfl (.atom _ rfl)) (.cons (.ok rfl (.atom _ rfl)) .nil)))))) 13) fun st' hr => ?_
  simp only [go_sem, reduceIte, reduceCtorEq, Nat.reduceEqDiff, Nat.reduceLT, Nat.reduceLeDiff, Nat.reduceBEq, Nat.reduceAdd, Nat.reduceMul, Nat.reduceSub, Nat.reducePow, Int.reduceLE, Int.reduceLT, Int.reduceNeg, Int.reduceToNat, Int.reduceAdd, Int.reduceSub, List.set_cons_zero, List.set_cons_succ] at hr
  subst hr
  -- region 5
  refine AWP_rl ?_
  refine AWPL_rn tab_ok 1 [15] fun c st' hr => ?_
  simp only [go_sem, reduceIte, reduceCtorEq, Nat.reduceEqDiff, Nat.reduceLT, Nat.reduceLeDiff, Nat.reduceBEq, Nat.reduceAdd, Nat.reduceMul, Nat.reduceSub, Nat.reducePow, Int.reduceLE, Int.reduceLT, Int.reduceNeg, Int.reduceToNat, Int.reduceAdd, Int.reduceSub] at hr
  obtain ⟨rfl, rfl⟩ := hr
  refine ⟨vc, ?_⟩
  replace hK := bind_s hK
  obtain ⟨y2, hy, hK⟩ := hK
  refine AWPL_gK [] [9, 0, 10] [pl, pl0] [some (.ints 3 .i64 [y2.2.2]), some (.pin 0 pl0), none, none, none, none, none, none, none, some (.gen 22 1 [[.own 13 ((y2.2.1).length)]]), none, none, some (.pin 9 pl), some (.ints 3 .i64 y2.2.1)] (W_same_each_1_v2 hy) rfl rfl pcT rfl Try.call111 (of_decide_eq_true rfl) ⟨(by first | rfl | simp [renB, ren0, renI]), (by first | rfl | simp [renB, ren0, renI]), (by first | rfl | simp [renB, ren0, renI]), trivial⟩ ⟨⟨12, rfl⟩, ⟨1, rfl⟩, trivial⟩ rfl (.cons (.atom _ rfl) (.abs 0 12 rfl rfl (.cons (.atom _ rfl) (.cons (.atom _ rfl) (.cons (.atom _ rfl) (.cons (.atom _ rfl) (.cons (.atom _ rfl) (.cons (ArgOk.cycRefl _ _ _) .nil)))))))) (hscG trivial) (of_decide_eq_true rfl) rfl rfl (of_decide_eq_true rfl) rfl fun st' hr => ?_
  simp only [go_sem, reduceIte, reduceCtorEq, Nat.reduceEqDiff, Nat.reduceLT, Nat.reduceLeDiff, Nat.reduceBEq, Nat.reduceAdd, Nat.reduceMul, Nat.reduceSub, Nat.reducePow, Int.reduceLE, Int.reduceLT, Int.reduceNeg, Int.reduceToNat, Int.reduceAdd, Int.reduceSub] at hr
  subst hr
  clear hy
  refine AWPL_nil ?_
  cases hK
  refine EndsRW [0, 1] (.inr rfl) (of_decide_eq_true rfl) (by simp) rfl (fun c x hr => ?_) endH
  simp only [go_sem, reduceIte, reduceCtorEq, Nat.reduceEqDiff, Nat.reduceLT, Nat.reduceLeDiff, Nat.reduceBEq, Nat.reduceAdd, Nat.reduceMul, Nat.reduceSub, Nat.reducePow, Int.reduceLE, Int.reduceLT, Int.reduceNeg, Int.reduceToNat, Int.reduceAdd, Int.reduceSub] at hr
  obtain ⟨rfl, rfl⟩ := hr
  exact ⟨rfl, endR⟩

set_option maxRecDepth 8000 in
set_option maxHeartbeats 4000000 in
theorem W_same_Group {m_0 : Int} {m_1 : List Int} {r : Int × Int} (hK : same_Group m_0 m_1 = some r) : Pure Try.prog 15 [.agg [.int .i64 m_0, .ints .i64 m_1]] (.tup [.int .i64 r.1, .int .i64 r.2]) [] := by
  refine Pure_introF tab_ok (n := 16) (l := [.tmp 2, .tmp 3]) Try.func15 rfl rfl rfl (by simp) fun hfact w0 => ?_
  simp only [factL1, fact1, fact0, factL0, lo, hi, maxLen, and_true] at hfact
  unfold same_Group at hK
  refine AWP_seq ?_
  -- region 0
  refine AWP_rg tab_ok [1] fun c st' hr => ?_
  simp only [go_sem, reduceIte, reduceCtorEq, Nat.reduceEqDiff, Nat.reduceLT, Nat.reduceLeDiff, Nat.reduceBEq, Nat.reduceAdd, Nat.reduceMul, Nat.reduceSub, Nat.reducePow, Int.reduceLE, Int.reduceLT, Int.reduceNeg, Int.reduceToNat, Int.reduceAdd, Int.reduceSub] at hr
  obtain ⟨rfl, rfl⟩ := hr
  refine ⟨vc, ?_⟩
  with_reducible refine thenC_normal ?_
  refine AWP_seq ?_
  refine AWP_seq ?_
  refine AWP_freeze 1 0 (y := .immp [.int .i64 m_0, .ints .i64 m_1]) rfl (.one (.ptrM _ _ _ _ _ _ _ rfl rfl rfl (ArgsOk.get (.cons (.atom _ rfl) (.cons (.atom _ rfl) .nil))).2)) fun st' hr => ?_
  simp only [go_sem, reduceIte, reduceCtorEq, Nat.reduceEqDiff, Nat.reduceLT, Nat.reduceLeDiff, Nat.reduceBEq, Nat.reduceAdd, Nat.reduceMul, Nat.reduceSub, Nat.reducePow, Int.reduceLE, Int.reduceLT, Int.reduceNeg, Int.reduceToNat, Int.reduceAdd, Int.reduceSub, List.set_cons_zero, List.set_cons_succ] at hr
  subst hr
  -- region 1
  refine AWP_rl ?_
  refine AWPL_rn tab_ok 1 [1, 6] fun c st' hr => ?_
  simp only [go_sem, reduceIte, reduceCtorEq, Nat.reduceEqDiff, Nat.reduceLT, Nat.reduceLeDiff, Nat.reduceBEq, Nat.reduceAdd, Nat.reduceMul, Nat.reduceSub, Nat.reducePow, Int.reduceLE, Int.reduceLT, Int.reduceNeg, Int.reduceToNat, Int.reduceAdd, Int.reduceSub] at hr
  obtain ⟨rfl, rfl⟩ := hr
  refine ⟨vc, ?_⟩
  replace hK := bind_s hK
  obtain ⟨y, hy, hK⟩ := hK
  refine AWPL_callK [1, 7] (W_axioms_Check hy) rfl rfl pcT rfl Try.call52 (.cons (.agg _ _ rfl (ArgsOk.get (.cons (.atom _ rfl) (.cons (.atom _ rfl) .nil))).2) .nil) (hscG trivial) (of_decide_eq_true rfl) (by first | rfl | simp [nI, nI1, nI0]) (by first | rfl | simp [nIB, nI0]) fun st' hr => ?_
  simp only [go_sem, reduceIte, reduceCtorEq, Nat.reduceEqDiff, Nat.reduceLT, Nat.reduceLeDiff, Nat.reduceBEq, Nat.reduceAdd, Nat.reduceMul, Nat.reduceSub, Nat.reducePow, Int.reduceLE, Int.reduceLT, Int.reduceNeg, Int.reduceToNat, Int.reduceAdd, Int.reduceSub] at hr
  subst hr
  clear hy
  refine AWPL_rn tab_ok 1 [1, 4] fun c st' hr => ?_
  simp only [go_sem, reduceIte, reduceCtorEq, Nat.reduceEqDiff, Nat.reduceLT, Nat.reduceLeDiff, Nat.reduceBEq, Nat.reduceAdd, Nat.reduceMul, Nat.reduceSub, Nat.reducePow, Int.reduceLE, Int.reduceLT, Int.reduceNeg, Int.reduceToNat, Int.reduceAdd, Int.reduceSub] at hr
  obtain ⟨rfl, rfl⟩ := hr
  refine ⟨vc, ?_⟩
  refine AWPL_nil ?_
  with_reducible refine thenC_normal ?_
  refine AWP_seq ?_
  -- region 2
  refine AWP_rg tab_ok [1, 4, 9] fun c st' hr => ?_
  simp only [go_sem, reduceIte, reduceCtorEq, Nat.reduceEqDiff, Nat.reduceLT, Nat.reduceLeDiff, Nat.reduceBEq, Nat.reduceAdd, Nat.reduceMul, Nat.reduceSub, Nat.reducePow, Int.reduceLE, Int.reduceLT, Int.reduceNeg, Int.reduceToNat, Int.reduceAdd, Int.reduceSub] at hr
  obtain ⟨rfl, rfl⟩ := hr
  refine ⟨vc, ?_⟩
  with_reducible refine thenC_normal ?_
  refine AWP_condP (y ≠ 0) rfl bd (fun hb => ?_) (fun hb => ?_)
  · replace hK := ite_t hK hb
    refine AWP_seq ?_
    -- region 3
    refine AWP_rg tab_ok [2, 3] fun c st' hr => ?_
    simp only [go_sem, reduceIte, reduceCtorEq, Nat.reduceEqDiff, Nat.reduceLT, Nat.reduceLeDiff, Nat.reduceBEq, Nat.reduceAdd, Nat.reduceMul, Nat.reduceSub, Nat.reducePow, Int.reduceLE, Int.reduceLT, Int.reduceNeg, Int.reduceToNat, Int.reduceAdd, Int.reduceSub] at hr
    obtain ⟨rfl, rfl⟩ := hr
    refine ⟨vc, ?_⟩
    with_reducible refine thenC_normal ?_
    refine AWP_ret ?_
    with_reducible refine thenC_ret ?_
    cases hK
    refine EndsRW [] (.inl rfl) (of_decide_eq_true rfl) (by simp) rfl (fun c x hr => ?_) trivial
    simp only [go_sem, reduceIte, reduceCtorEq, Nat.reduceEqDiff, Nat.reduceLT, Nat.reduceLeDiff, Nat.reduceBEq, Nat.reduceAdd, Nat.reduceMul, Nat.reduceSub, Nat.reducePow, Int.reduceLE, Int.reduceLT, Int.reduceNeg, Int.reduceToNat, Int.reduceAdd, Int.reduceSub] at hr
    obtain ⟨rfl, rfl⟩ := hr
    exact ⟨rfl, endR⟩
  · replace hK := ite_f hK hb
    refine AWP_skip ?_
    with_reducible refine thenC_normal ?_
    refine AWP_seq ?_
    -- region 4
    refine AWP_rg tab_ok [1, 5] fun c st' hr => ?_
    simp only [go_sem, reduceIte, reduceCtorEq, Nat.reduceEqDiff, Nat.reduceLT, Nat.reduceLeDiff, Nat.reduceBEq, Nat.reduceAdd, Nat.reduceMul, Nat.reduceSub, Nat.reducePow, Int.reduceLE, Int.reduceLT, Int.reduceNeg, Int.reduceToNat, Int.reduceAdd, Int.reduceSub] at hr
    obtain ⟨rfl, rfl⟩ := hr
    refine ⟨vc, ?_⟩
    with_reducible refine thenC_normal ?_
    refine AWP_seq ?_
    refine AWP_pin 1 rfl fun pl st' hr => ?_
    simp only [go_sem, reduceIte, reduceCtorEq, Nat.reduceEqDiff, Nat.reduceLT, Nat.reduceLeDiff, Nat.reduceBEq, Nat.reduceAdd, Nat.reduceMul, Nat.reduceSub, Nat.reducePow, Int.reduceLE, Int.reduceLT, Int.reduceNeg, Int.reduceToNat, Int.reduceAdd, Int.reduceSub, List.cons_append, List.nil_append] at hr
    subst hr
    -- region 5
    refine AWP_rl ?_
    refine AWPL_rn tab_ok 3 [5, 11, 12, 13] fun c st' hr => ?_
    simp only [go_sem, reduceIte, reduceCtorEq, Nat.reduceEqDiff, Nat.reduceLT, Nat.reduceLeDiff, Nat.reduceBEq, Nat.reduceAdd, Nat.reduceMul, Nat.reduceSub, Nat.reducePow, Int.reduceLE, Int.reduceLT, Int.reduceNeg, Int.reduceToNat, Int.reduceAdd, Int.reduceSub] at hr
    obtain ⟨rfl, rfl⟩ := hr
    refine ⟨vc, ?_⟩
    refine AWPL_abs 13 (.func 68 [.abs pl 0 0]) (AbsR.funcs (.cons (.abs 2 _ _ _ _ rfl) .nil)) fun st' hr => ?_
    simp only [go_sem, reduceIte, reduceCtorEq, Nat.reduceEqDiff, Nat.reduceLT, Nat.reduceLeDiff, Nat.reduceBEq, Nat.reduceAdd, Nat.reduceMul, Nat.reduceSub, Nat.reducePow, Int.reduceLE, Int.reduceLT, Int.reduceNeg, Int.reduceToNat, Int.reduceAdd, Int.reduceSub] at hr
    subst hr
    replace hK := bind_s hK
    obtain ⟨y1, hy, hK⟩ := hK
    refine AWPL_gK [5] [1] [pl] [none, some (.ints 3 .i64 [y1]), some (.pin 1 pl)] (W_same_each_v2 hy) rfl rfl pcT rfl Try.call67 (of_decide_eq_true rfl) ⟨(by first | rfl | simp [renB, ren0, renI]), trivial⟩ ⟨⟨2, rfl⟩, trivial⟩ rfl (.cons (.agg _ _ rfl (ArgsOk.get (.cons (.atom _ rfl) (.cons (.atom _ rfl) .nil))).2) (.cons (.agg _ _ rfl (ArgsOk.get (.cons (.atom _ rfl) (.cons (.atom _ rfl) .nil))).2) (.cons (ArgOk.funcOf (.cons (.atom _ rfl) .nil)) .nil))) (hscG trivial) (of_decide_eq_true rfl) rfl rfl (of_decide_eq_true rfl) rfl fun st' hr => ?_
    simp only [go_sem, reduceIte, reduceCtorEq, Nat.reduceEqDiff, Nat.reduceLT, Nat.reduceLeDiff, Nat.reduceBEq, Nat.reduceAdd, Nat.reduceMul, Nat.reduceSub, Nat.reducePow, Int.reduceLE, Int.reduceLT, Int.reduceNeg, Int.reduceToNat, Int.reduceAdd, Int.reduceSub] at hr
    subst hr
    clear hy
    refine AWPL_nil ?_
    with_reducible refine thenC_normal ?_
    refine AWP_seq ?_
    -- region 6
    refine AWP_rg tab_ok [2, 3] fun c st' hr => ?_
    simp only [go_sem, reduceIte, reduceCtorEq, Nat.reduceEqDiff, Nat.reduceLT, Nat.reduceLeDiff, Nat.reduceBEq, Nat.reduceAdd, Nat.reduceMul, Nat.reduceSub, Nat.reducePow, Int.reduceLE, Int.reduceLT, Int.reduceNeg, Int.reduceToNat, Int.reduceAdd, Int.reduceSub] at hr
    obtain ⟨rfl, rfl⟩ := hr
    refine ⟨vc, ?_⟩
    with_reducible refine thenC_normal ?_
    refine AWP_ret ?_
    cases hK
    refine EndsRW [] (.inl rfl) (of_decide_eq_true rfl) (by simp) rfl (fun c x hr => ?_) trivial
    simp only [go_sem, reduceIte, reduceCtorEq, Nat.reduceEqDiff, Nat.reduceLT, Nat.reduceLeDiff, Nat.reduceBEq, Nat.reduceAdd, Nat.reduceMul, Nat.reduceSub, Nat.reducePow, Int.reduceLE, Int.reduceLT, Int.reduceNeg, Int.reduceToNat, Int.reduceAdd, Int.reduceSub] at hr
    obtain ⟨rfl, rfl⟩ := hr
    exact ⟨rfl, endR⟩

end Go.SH
