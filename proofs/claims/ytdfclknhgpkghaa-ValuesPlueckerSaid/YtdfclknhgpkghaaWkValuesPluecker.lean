/-
  That the code computes these functions: rotakeep_ValuesPluecker. By a program of mine (shal.py). Conditions: none.
-/
import Derived.Test.YtdfclknhgpkghaaAxT
import Derived.Test.YtdfclknhgpkghaaAxR
import Derived.Test.YtdfclknhgpkghaaSkValuesPluecker
import Derived.Test.YtdfclknhgpkghaaWprotakeep
import Derived.Test.YtdfclknhgpkghaaWprotaref
import Derived.Test.YtdfclknhgpkghaaWpvalues
set_option linter.unusedVariables false
set_option linter.unusedSimpArgs false
namespace Go.SH
open Go Go.AX Go.AX.Try Go.Proofs

set_option maxRecDepth 8000 in
set_option maxHeartbeats 4000000 in
theorem W_rotakeep_ValuesPluecker {n : Int} {a1 : List (Int × Int)} {r : Bool} (hK : rotakeep_ValuesPluecker n a1 = some r) : Pure Try.prog 3 [.int .i64 n, .fn 2 a1.length (fun i => [.int .i64 ((a1.getD i (0, 0)).1), .int .i64 ((a1.getD i (0, 0)).2)])] (.bool r) [] := by
  refine Pure_introF tab_ok (n := 138) (l := [.tmp 4]) Try.func3 rfl rfl rfl (by simp) fun hfact w0 => ?_
  simp only [factL1, fact1, fact0, factL0, lo, hi, maxLen, and_true] at hfact
  unfold rotakeep_ValuesPluecker at hK
  refine AWP_seq ?_
  -- region 0
  refine AWP_rg tab_ok [0, 3] fun c st' hr => ?_
  simp only [go_sem, reduceIte, reduceCtorEq, Nat.reduceEqDiff, Nat.reduceLT, Nat.reduceLeDiff, Nat.reduceBEq, Nat.reduceAdd, Nat.reduceMul, Nat.reduceSub, Nat.reducePow, Int.reduceLE, Int.reduceLT, Int.reduceNeg, Int.reduceToNat, Int.reduceAdd, Int.reduceSub] at hr
  obtain ⟨rfl, rfl⟩ := hr
  refine ⟨vc, ?_⟩
  with_reducible refine thenC_normal ?_
  refine AWP_seq ?_
  refine AWP_seq ?_
  -- region 1
  refine AWP_rl ?_
  refine AWPL_rn tab_ok 4 [0, 3, 23, 24] fun c st' hr => ?_
  simp only [go_sem, reduceIte, reduceCtorEq, Nat.reduceEqDiff, Nat.reduceLT, Nat.reduceLeDiff, Nat.reduceBEq, Nat.reduceAdd, Nat.reduceMul, Nat.reduceSub, Nat.reducePow, Int.reduceLE, Int.reduceLT, Int.reduceNeg, Int.reduceToNat, Int.reduceAdd, Int.reduceSub] at hr
  obtain ⟨rfl, rfl⟩ := hr
  refine ⟨vc, ?_⟩
  replace hK := bind_s hK
  obtain ⟨y, hy, hK⟩ := hK
  refine AWPL_callK [0, 3, 25] (W_values_Best hy) rfl rfl pcT rfl Try.call13 (.cons (.atom _ rfl) (.cons (.ownEnc (fun e => [.int .i64 e.1, .int .i64 e.2]) (0, 0) [(1, 0), (2, 5)] (by first | rfl | (simp; done)) (by first | rfl | (simp; done)) (fun _ => rfl) (fun _ => rfl)) (.cons (.ownI _ _ _ _ _ [1, 1] rfl (by simp) (by simp)) .nil))) (hscG trivial) (of_decide_eq_true rfl) (by first | rfl | simp [nI, nI1, nI0]) (by first | rfl | simp [nIB, nI0]) fun st' hr => ?_
  simp only [go_sem, reduceIte, reduceCtorEq, Nat.reduceEqDiff, Nat.reduceLT, Nat.reduceLeDiff, Nat.reduceBEq, Nat.reduceAdd, Nat.reduceMul, Nat.reduceSub, Nat.reducePow, Int.reduceLE, Int.reduceLT, Int.reduceNeg, Int.reduceToNat, Int.reduceAdd, Int.reduceSub] at hr
  subst hr
  clear hy
  refine AWPL_rn tab_ok 7 [0, 3, 5, 6, 7] fun c st' hr => ?_
  simp only [go_sem, reduceIte, reduceCtorEq, Nat.reduceEqDiff, Nat.reduceLT, Nat.reduceLeDiff, Nat.reduceBEq, Nat.reduceAdd, Nat.reduceMul, Nat.reduceSub, Nat.reducePow, Int.reduceLE, Int.reduceLT, Int.reduceNeg, Int.reduceToNat, Int.reduceAdd, Int.reduceSub] at hr
  obtain ⟨rfl, rfl⟩ := hr
  refine ⟨vc, ?_⟩
  refine AWPL_nil ?_
  with_reducible refine thenC_normal ?_
  refine AWP_seq ?_
  -- region 2
  refine AWP_rg tab_ok [0, 3, 38] fun c st' hr => ?_
  simp only [go_sem, reduceIte, reduceCtorEq, Nat.reduceEqDiff, Nat.reduceLT, Nat.reduceLeDiff, Nat.reduceBEq, Nat.reduceAdd, Nat.reduceMul, Nat.reduceSub, Nat.reducePow, Int.reduceLE, Int.reduceLT, Int.reduceNeg, Int.reduceToNat, Int.reduceAdd, Int.reduceSub] at hr
  obtain ⟨rfl, rfl⟩ := hr
  refine ⟨vc, ?_⟩
  with_reducible refine thenC_normal ?_
  refine AWP_condP (((y.2.2 ≠ 0 ∨ y.1 ≠ 2) ∨ y.2.1 ≠ 6)) rfl bd (fun hb => ?_) (fun hb => ?_)
  · replace hK := ite_t hK hb
    refine AWP_seq ?_
    -- region 3
    refine AWP_rg tab_ok [4] fun c st' hr => ?_
    simp only [go_sem, reduceIte, reduceCtorEq, Nat.reduceEqDiff, Nat.reduceLT, Nat.reduceLeDiff, Nat.reduceBEq, Nat.reduceAdd, Nat.reduceMul, Nat.reduceSub, Nat.reducePow, Int.reduceLE, Int.reduceLT, Int.reduceNeg, Int.reduceToNat, Int.reduceAdd, Int.reduceSub] at hr
    obtain ⟨rfl, rfl⟩ := hr
    refine ⟨vc, ?_⟩
    with_reducible refine thenC_normal ?_
    refine AWP_ret ?_
    with_reducible refine thenC_ret ?_
    cases hK
    refine EndsRW [] (.inl rfl) (of_decide_eq_true rfl) (by simp) rfl (fun c x hr => ?_) trivial
    simp only [go_sem, reduceIte, reduceCtorEq, Nat.reduceEqDiff, Nat.reduceLT, Nat.reduceLeDiff, Nat.reduceBEq, Nat.reduceAdd, Nat.reduceMul, Nat.reduceSub, Nat.reducePow, Int.reduceLE, Int.reduceLT, Int.reduceNeg, Int.reduceToNat, Int.reduceAdd, Int.reduceSub] at hr
    obtain ⟨rfl, rfl⟩ := hr
    exact ⟨rfl, endR⟩
  · replace hK := ite_f hK hb
    refine AWP_skip ?_
    with_reducible refine thenC_normal ?_
    refine AWP_seq ?_
    refine AWP_seq ?_
    -- region 4
    refine AWP_rl ?_
    refine AWPL_rn tab_ok 2 [0, 3, 39, 40] fun c st' hr => ?_
    simp only [go_sem, reduceIte, reduceCtorEq, Nat.reduceEqDiff, Nat.reduceLT, Nat.reduceLeDiff, Nat.reduceBEq, Nat.reduceAdd, Nat.reduceMul, Nat.reduceSub, Nat.reducePow, Int.reduceLE, Int.reduceLT, Int.reduceNeg, Int.reduceToNat, Int.reduceAdd, Int.reduceSub] at hr
    obtain ⟨rfl, rfl⟩ := hr
    refine ⟨vc, ?_⟩
    replace hK := bind_s hK
    obtain ⟨y1, hy, hK⟩ := hK
    refine AWPL_callK [0, 3, 41] (W_values_Check hy) rfl rfl pcT rfl Try.call14 (.cons (.atom _ rfl) (.cons (.atom _ rfl) .nil)) (hscG trivial) (of_decide_eq_true rfl) (by first | rfl | simp [nI, nI1, nI0]) (by first | rfl | simp [nIB, nI0]) fun st' hr => ?_
    simp only [go_sem, reduceIte, reduceCtorEq, Nat.reduceEqDiff, Nat.reduceLT, Nat.reduceLeDiff, Nat.reduceBEq, Nat.reduceAdd, Nat.reduceMul, Nat.reduceSub, Nat.reducePow, Int.reduceLE, Int.reduceLT, Int.reduceNeg, Int.reduceToNat, Int.reduceAdd, Int.reduceSub] at hr
    subst hr
    clear hy
    refine AWPL_rn tab_ok 1 [0, 3, 42] fun c st' hr => ?_
    simp only [go_sem, reduceIte, reduceCtorEq, Nat.reduceEqDiff, Nat.reduceLT, Nat.reduceLeDiff, Nat.reduceBEq, Nat.reduceAdd, Nat.reduceMul, Nat.reduceSub, Nat.reducePow, Int.reduceLE, Int.reduceLT, Int.reduceNeg, Int.reduceToNat, Int.reduceAdd, Int.reduceSub] at hr
    obtain ⟨rfl, rfl⟩ := hr
    refine ⟨vc, ?_⟩
    refine AWPL_nil ?_
    with_reducible refine thenC_normal ?_
    refine AWP_condP (y1 ≠ 0) rfl bd (fun hb1 => ?_) (fun hb1 => ?_)
    · replace hK := ite_t hK hb1
      refine AWP_seq ?_
      -- region 5
      refine AWP_rg tab_ok [4] fun c st' hr => ?_
      simp only [go_sem, reduceIte, reduceCtorEq, Nat.reduceEqDiff, Nat.reduceLT, Nat.reduceLeDiff, Nat.reduceBEq, Nat.reduceAdd, Nat.reduceMul, Nat.reduceSub, Nat.reducePow, Int.reduceLE, Int.reduceLT, Int.reduceNeg, Int.reduceToNat, Int.reduceAdd, Int.reduceSub] at hr
      obtain ⟨rfl, rfl⟩ := hr
      refine ⟨vc, ?_⟩
      with_reducible refine thenC_normal ?_
      refine AWP_ret ?_
      with_reducible refine thenC_ret ?_
      cases hK
      refine EndsRW [] (.inl rfl) (of_decide_eq_true rfl) (by simp) rfl (fun c x hr => ?_) trivial
      simp only [go_sem, reduceIte, reduceCtorEq, Nat.reduceEqDiff, Nat.reduceLT, Nat.reduceLeDiff, Nat.reduceBEq, Nat.reduceAdd, Nat.reduceMul, Nat.reduceSub, Nat.reducePow, Int.reduceLE, Int.reduceLT, Int.reduceNeg, Int.reduceToNat, Int.reduceAdd, Int.reduceSub] at hr
      obtain ⟨rfl, rfl⟩ := hr
      exact ⟨rfl, endR⟩
    · replace hK := ite_f hK hb1
      refine AWP_skip ?_
      with_reducible refine thenC_normal ?_
      refine AWP_seq ?_
      -- region 6
      refine AWP_rg tab_ok [0, 3, 8] fun c st' hr => ?_
      simp only [go_sem, reduceIte, reduceCtorEq, Nat.reduceEqDiff, Nat.reduceLT, Nat.reduceLeDiff, Nat.reduceBEq, Nat.reduceAdd, Nat.reduceMul, Nat.reduceSub, Nat.reducePow, Int.reduceLE, Int.reduceLT, Int.reduceNeg, Int.reduceToNat, Int.reduceAdd, Int.reduceSub] at hr
      obtain ⟨rfl, rfl⟩ := hr
      refine ⟨vc, ?_⟩
      with_reducible refine thenC_normal ?_
      refine AWP_seq ?_
      refine AWP_seq ?_
      -- region 7
      replace hK := chk_some hK
      obtain ⟨h, hK⟩ := hK
      refine AWP_rg tab_ok [0, 3, 8, 45, 46] fun c st' hr => ?_
      simp only [go_sem, reduceIte, reduceCtorEq, Nat.reduceEqDiff, Nat.reduceLT, Nat.reduceLeDiff, Nat.reduceBEq, Nat.reduceAdd, Nat.reduceMul, Nat.reduceSub, Nat.reducePow, Int.reduceLE, Int.reduceLT, Int.reduceNeg, Int.reduceToNat, Int.reduceAdd, Int.reduceSub] at hr
      obtain ⟨rfl, rfl⟩ := hr
      refine ⟨vc, ?_⟩
      with_reducible refine thenC_normal ?_
      refine AWP_block ?_
      refine AWP_loopX 0 (fun (v : Int) => ⟨138, [(0, .int .i64 n), (3, .ptr 0 0 0), (8, .func 15 [.ptr 0 0 0]), (45, .int .i64 (2 ^ n.toNat : Int)), (46, .int .i64 v)], [some (.gen 22 1 [[.fn 2 a1.length (fun i => [.int .i64 ((a1.getD i (0, 0)).1), .int .i64 ((a1.getD i (0, 0)).2)])]])]⟩) (fun (_ : Unit) => ⟨138, [], []⟩) Sum.inl 0 [0] hK mkWk ?_ ?_
      · clear hK; rintro v b hK hpost1
        try dsimp only at hK
        change AWP _ _ _ _ ⟨138, [(0, .int .i64 n), (3, .ptr 0 0 0), (8, .func 15 [.ptr 0 0 0]), (45, .int .i64 (2 ^ n.toNat : Int)), (46, .int .i64 v)], [some (.gen 22 1 [[.fn 2 a1.length (fun i => [.int .i64 ((a1.getD i (0, 0)).1), .int .i64 ((a1.getD i (0, 0)).2)])]])]⟩
        refine AWP_seq ?_
        -- region 8
        refine AWP_rg tab_ok [0, 3, 8, 45, 46, 47] fun c st' hr => ?_
        simp only [go_sem, reduceIte, reduceCtorEq, Nat.reduceEqDiff, Nat.reduceLT, Nat.reduceLeDiff, Nat.reduceBEq, Nat.reduceAdd, Nat.reduceMul, Nat.reduceSub, Nat.reducePow, Int.reduceLE, Int.reduceLT, Int.reduceNeg, Int.reduceToNat, Int.reduceAdd, Int.reduceSub] at hr
        obtain ⟨rfl, rfl⟩ := hr
        refine ⟨vc, ?_⟩
        with_reducible refine thenC_normal ?_
        refine AWP_seq ?_
        refine AWP_condP (v < (2 ^ n.toNat : Int)) rfl bd (fun hb2 => ?_) (fun hb2 => ?_)
        · replace hK := ite_t hK hb2
          refine AWP_skip ?_
          with_reducible refine thenC_normal ?_
          refine AWP_seq ?_
          refine AWP_block ?_
          refine AWP_seq ?_
          -- region 9
          refine AWP_rg tab_ok [0, 3, 8, 9, 45, 46] fun c st' hr => ?_
          simp only [go_sem, reduceIte, reduceCtorEq, Nat.reduceEqDiff, Nat.reduceLT, Nat.reduceLeDiff, Nat.reduceBEq, Nat.reduceAdd, Nat.reduceMul, Nat.reduceSub, Nat.reducePow, Int.reduceLE, Int.reduceLT, Int.reduceNeg, Int.reduceToNat, Int.reduceAdd, Int.reduceSub] at hr
          obtain ⟨rfl, rfl⟩ := hr
          refine ⟨vc, ?_⟩
          with_reducible refine thenC_normal ?_
          refine AWP_seq ?_
          refine AWP_seq ?_
          -- region 10
          refine AWP_drawQ mixed (by kernel_rfl) ?_
          refine AWQL_rn tab_ok 1 [0, 3, 8, 9, 45, 46, 49] fun c st' hr => ?_
          simp only [go_sem, reduceIte, reduceCtorEq, Nat.reduceEqDiff, Nat.reduceLT, Nat.reduceLeDiff, Nat.reduceBEq, Nat.reduceAdd, Nat.reduceMul, Nat.reduceSub, Nat.reducePow, Int.reduceLE, Int.reduceLT, Int.reduceNeg, Int.reduceToNat, Int.reduceAdd, Int.reduceSub] at hr
          obtain ⟨rfl, rfl⟩ := hr
          refine ⟨vc, ?_⟩
          replace hK := bind_s hK
          obtain ⟨y2, hy, hK⟩ := hK
          refine AWQL_callK [0, 3, 8, 9, 45, 46, 50] (W_rotaref_Size hy) rfl rfl pcT rfl Try.call18 (.cons (.atom _ rfl) .nil) (hscG trivial) (of_decide_eq_true rfl) rfl fun st' hr => ?_
          simp only [go_sem, reduceIte, reduceCtorEq, Nat.reduceEqDiff, Nat.reduceLT, Nat.reduceLeDiff, Nat.reduceBEq, Nat.reduceAdd, Nat.reduceMul, Nat.reduceSub, Nat.reducePow, Int.reduceLE, Int.reduceLT, Int.reduceNeg, Int.reduceToNat, Int.reduceAdd, Int.reduceSub] at hr
          subst hr
          clear hy
          replace hK := chk_some hK
          obtain ⟨h1, hK⟩ := hK
          refine AWQL_rn tab_ok 5 [0, 3, 8, 9, 45, 46, 51, 55] fun c st' hr => ?_
          simp only [go_sem, reduceIte, reduceCtorEq, Nat.reduceEqDiff, Nat.reduceLT, Nat.reduceLeDiff, Nat.reduceBEq, Nat.reduceAdd, Nat.reduceMul, Nat.reduceSub, Nat.reducePow, Int.reduceLE, Int.reduceLT, Int.reduceNeg, Int.reduceToNat, Int.reduceAdd, Int.reduceSub] at hr
          obtain ⟨rfl, rfl⟩ := hr
          refine ⟨vc, ?_⟩
          replace hK := bind_s hK
          obtain ⟨y3, hy, hK⟩ := hK
          refine AWQL_callK [0, 3, 8, 9, 45, 46, 51, 56] (W_rotaref_Size hy) rfl rfl pcT rfl Try.call18 (.cons (.atom _ rfl) .nil) (hscG trivial) (of_decide_eq_true rfl) rfl fun st' hr => ?_
          simp only [go_sem, reduceIte, reduceCtorEq, Nat.reduceEqDiff, Nat.reduceLT, Nat.reduceLeDiff, Nat.reduceBEq, Nat.reduceAdd, Nat.reduceMul, Nat.reduceSub, Nat.reducePow, Int.reduceLE, Int.reduceLT, Int.reduceNeg, Int.reduceToNat, Int.reduceAdd, Int.reduceSub] at hr
          subst hr
          clear hy
          refine AWQL_rn tab_ok 1 [0, 3, 8, 9, 45, 46, 57] fun c st' hr => ?_
          simp only [go_sem, reduceIte, reduceCtorEq, Nat.reduceEqDiff, Nat.reduceLT, Nat.reduceLeDiff, Nat.reduceBEq, Nat.reduceAdd, Nat.reduceMul, Nat.reduceSub, Nat.reducePow, Int.reduceLE, Int.reduceLT, Int.reduceNeg, Int.reduceToNat, Int.reduceAdd, Int.reduceSub] at hr
          obtain ⟨rfl, rfl⟩ := hr
          refine ⟨vc, ?_⟩
          refine AWQL_nil ?_
          with_reducible refine thenC_normal ?_
          refine AWP_condP (y2 + 2 ≠ y3) rfl bd (fun hb3 => ?_) (fun hb3 => ?_)
          · replace hK := ite_t hK hb3
            refine AWP_exit ?_
            with_reducible refine thenC_exit (inBlockA_exit (thenC_normal ?_))
            -- region 31
            refine AWP_facts (by simp) fun hfx => ?_
            simp only [factS, factV, fact1, fact0, factL0, lo, hi, maxLen, and_true, true_and] at hfx
            refine AWP_rg tab_ok [0, 3, 8, 45, 46] fun c st' hr => ?_
            simp only [go_sem, reduceIte, reduceCtorEq, Nat.reduceEqDiff, Nat.reduceLT, Nat.reduceLeDiff, Nat.reduceBEq, Nat.reduceAdd, Nat.reduceMul, Nat.reduceSub, Nat.reducePow, Int.reduceLE, Int.reduceLT, Int.reduceNeg, Int.reduceToNat, Int.reduceAdd, Int.reduceSub] at hr
            obtain ⟨rfl, rfl⟩ := hr
            refine ⟨vc, ?_⟩
            clear hfx
            refine again_n (v + 1) [0] hK mkWk
          · replace hK := ite_f hK hb3
            refine AWP_skip ?_
            with_reducible refine thenC_normal ?_
            refine AWP_seq ?_
            -- region 11
            replace hK := chk_some hK
            obtain ⟨h2, hK⟩ := hK
            refine AWP_rg tab_ok [0, 3, 8, 9, 45, 46, 59, 60] fun c st' hr => ?_
            simp only [go_sem, reduceIte, reduceCtorEq, Nat.reduceEqDiff, Nat.reduceLT, Nat.reduceLeDiff, Nat.reduceBEq, Nat.reduceAdd, Nat.reduceMul, Nat.reduceSub, Nat.reducePow, Int.reduceLE, Int.reduceLT, Int.reduceNeg, Int.reduceToNat, Int.reduceAdd, Int.reduceSub] at hr
            obtain ⟨rfl, rfl⟩ := hr
            refine ⟨vc, ?_⟩
            with_reducible refine thenC_normal ?_
            refine AWP_block ?_
            refine AWP_loopX 2 (fun (v1 : Int) => ⟨138, [(0, .int .i64 n), (3, .ptr 0 0 0), (8, .func 15 [.ptr 0 0 0]), (9, .int .i64 v), (45, .int .i64 (2 ^ n.toNat : Int)), (46, .int .i64 v), (59, .int .i64 (2 ^ n.toNat : Int)), (60, .int .i64 v1)], [some (.gen 22 1 [[.fn 2 a1.length (fun i => [.int .i64 ((a1.getD i (0, 0)).1), .int .i64 ((a1.getD i (0, 0)).2)])]])]⟩) (fun (_ : Unit) => ⟨138, [(0, .int .i64 n), (3, .ptr 0 0 0), (8, .func 15 [.ptr 0 0 0]), (45, .int .i64 (2 ^ n.toNat : Int)), (46, .int .i64 v)], [some (.gen 22 1 [[.fn 2 a1.length (fun i => [.int .i64 ((a1.getD i (0, 0)).1), .int .i64 ((a1.getD i (0, 0)).2)])]])]⟩) Sum.inl 0 [0] hK mkWk ?_ ?_
            · clear hK; rintro v1 b1 hK hpost2
              try dsimp only at hK
              change AWP _ _ _ _ ⟨138, [(0, .int .i64 n), (3, .ptr 0 0 0), (8, .func 15 [.ptr 0 0 0]), (9, .int .i64 v), (45, .int .i64 (2 ^ n.toNat : Int)), (46, .int .i64 v), (59, .int .i64 (2 ^ n.toNat : Int)), (60, .int .i64 v1)], [some (.gen 22 1 [[.fn 2 a1.length (fun i => [.int .i64 ((a1.getD i (0, 0)).1), .int .i64 ((a1.getD i (0, 0)).2)])]])]⟩
              refine AWP_seq ?_
              -- region 12
              refine AWP_rg tab_ok [0, 3, 8, 9, 45, 46, 59, 60, 61] fun c st' hr => ?_
              simp only [go_sem, reduceIte, reduceCtorEq, Nat.reduceEqDiff, Nat.reduceLT, Nat.reduceLeDiff, Nat.reduceBEq, Nat.reduceAdd, Nat.reduceMul, Nat.reduceSub, Nat.reducePow, Int.reduceLE, Int.reduceLT, Int.reduceNeg, Int.reduceToNat, Int.reduceAdd, Int.reduceSub] at hr
              obtain ⟨rfl, rfl⟩ := hr
              refine ⟨vc, ?_⟩
              with_reducible refine thenC_normal ?_
              refine AWP_seq ?_
              refine AWP_condP (v1 < (2 ^ n.toNat : Int)) rfl bd (fun hb4 => ?_) (fun hb4 => ?_)
              · replace hK := ite_t hK hb4
                refine AWP_skip ?_
                with_reducible refine thenC_normal ?_
                refine AWP_seq ?_
                refine AWP_block ?_
                refine AWP_seq ?_
                -- region 13
                refine AWP_rg tab_ok [0, 3, 8, 9, 10, 45, 46, 59, 60] fun c st' hr => ?_
                simp only [go_sem, reduceIte, reduceCtorEq, Nat.reduceEqDiff, Nat.reduceLT, Nat.reduceLeDiff, Nat.reduceBEq, Nat.reduceAdd, Nat.reduceMul, Nat.reduceSub, Nat.reducePow, Int.reduceLE, Int.reduceLT, Int.reduceNeg, Int.reduceToNat, Int.reduceAdd, Int.reduceSub] at hr
                obtain ⟨rfl, rfl⟩ := hr
                refine ⟨vc, ?_⟩
                with_reducible refine thenC_normal ?_
                refine AWP_seq ?_
                refine AWP_seq ?_
                -- region 14
                refine AWP_rl ?_
                refine AWPL_rn tab_ok 1 [0, 3, 8, 9, 10, 45, 46, 59, 60, 63] fun c st' hr => ?_
                simp only [go_sem, reduceIte, reduceCtorEq, Nat.reduceEqDiff, Nat.reduceLT, Nat.reduceLeDiff, Nat.reduceBEq, Nat.reduceAdd, Nat.reduceMul, Nat.reduceSub, Nat.reducePow, Int.reduceLE, Int.reduceLT, Int.reduceNeg, Int.reduceToNat, Int.reduceAdd, Int.reduceSub] at hr
                obtain ⟨rfl, rfl⟩ := hr
                refine ⟨vc, ?_⟩
                replace hK := bind_s hK
                obtain ⟨y4, hy, hK⟩ := hK
                refine AWPL_callK [0, 3, 8, 9, 10, 45, 46, 59, 60, 64] (W_rotaref_Size hy) rfl rfl pcT rfl Try.call18 (.cons (.atom _ rfl) .nil) (hscG trivial) (of_decide_eq_true rfl) (by first | rfl | simp [nI, nI1, nI0]) (by first | rfl | simp [nIB, nI0]) fun st' hr => ?_
                simp only [go_sem, reduceIte, reduceCtorEq, Nat.reduceEqDiff, Nat.reduceLT, Nat.reduceLeDiff, Nat.reduceBEq, Nat.reduceAdd, Nat.reduceMul, Nat.reduceSub, Nat.reducePow, Int.reduceLE, Int.reduceLT, Int.reduceNeg, Int.reduceToNat, Int.reduceAdd, Int.reduceSub] at hr
                subst hr
                clear hy
                refine AWPL_rn tab_ok 7 [0, 3, 8, 9, 10, 45, 46, 59, 60, 71] fun c st' hr => ?_
                simp only [go_sem, reduceIte, reduceCtorEq, Nat.reduceEqDiff, Nat.reduceLT, Nat.reduceLeDiff, Nat.reduceBEq, Nat.reduceAdd, Nat.reduceMul, Nat.reduceSub, Nat.reducePow, Int.reduceLE, Int.reduceLT, Int.reduceNeg, Int.reduceToNat, Int.reduceAdd, Int.reduceSub] at hr
                obtain ⟨rfl, rfl⟩ := hr
                refine ⟨vc, ?_⟩
                refine AWPL_nil ?_
                with_reducible refine thenC_normal ?_
                refine AWP_condP ((y4 ≠ 4 ∨ iand v1 v ≠ 0)) rfl bd (fun hb5 => ?_) (fun hb5 => ?_)
                · replace hK := ite_t hK hb5
                  refine AWP_exit ?_
                  with_reducible refine thenC_exit (inBlockA_exit (thenC_normal ?_))
                  -- region 30
                  refine AWP_facts (by simp) fun hfx => ?_
                  simp only [factS, factV, fact1, fact0, factL0, lo, hi, maxLen, and_true, true_and] at hfx
                  refine AWP_rg tab_ok [0, 3, 8, 9, 45, 46, 59, 60] fun c st' hr => ?_
                  simp only [go_sem, reduceIte, reduceCtorEq, Nat.reduceEqDiff, Nat.reduceLT, Nat.reduceLeDiff, Nat.reduceBEq, Nat.reduceAdd, Nat.reduceMul, Nat.reduceSub, Nat.reducePow, Int.reduceLE, Int.reduceLT, Int.reduceNeg, Int.reduceToNat, Int.reduceAdd, Int.reduceSub] at hr
                  obtain ⟨rfl, rfl⟩ := hr
                  refine ⟨vc, ?_⟩
                  clear hfx
                  refine again_n (v1 + 1) [0] hK mkWk
                · replace hK := ite_f hK hb5
                  refine AWP_skip ?_
                  with_reducible refine thenC_normal ?_
                  refine AWP_seq ?_
                  -- region 15
                  refine AWP_rl ?_
                  refine AWPL_rn tab_ok 1 [0, 3, 8, 9, 10, 45, 46, 59, 60, 72] fun c st' hr => ?_
                  simp only [go_sem, reduceIte, reduceCtorEq, Nat.reduceEqDiff, Nat.reduceLT, Nat.reduceLeDiff, Nat.reduceBEq, Nat.reduceAdd, Nat.reduceMul, Nat.reduceSub, Nat.reducePow, Int.reduceLE, Int.reduceLT, Int.reduceNeg, Int.reduceToNat, Int.reduceAdd, Int.reduceSub] at hr
                  obtain ⟨rfl, rfl⟩ := hr
                  refine ⟨vc, ?_⟩
                  replace hK := bind_s hK
                  obtain ⟨y5, hy, hK⟩ := hK
                  refine AWPL_callK [0, 3, 8, 9, 10, 45, 46, 59, 60, 73] (W_rotaref_Elements hy) rfl rfl pcT rfl Try.call19 (.cons (.atom _ rfl) .nil) (hscG trivial) (of_decide_eq_true rfl) (by first | rfl | simp [nI, nI1, nI0]) (by first | rfl | simp [nIB, nI0]) fun st' hr => ?_
                  simp only [go_sem, reduceIte, reduceCtorEq, Nat.reduceEqDiff, Nat.reduceLT, Nat.reduceLeDiff, Nat.reduceBEq, Nat.reduceAdd, Nat.reduceMul, Nat.reduceSub, Nat.reducePow, Int.reduceLE, Int.reduceLT, Int.reduceNeg, Int.reduceToNat, Int.reduceAdd, Int.reduceSub] at hr
                  subst hr
                  clear hy
                  refine AWPL_rn tab_ok 1 [0, 3, 8, 9, 10, 11, 45, 46, 59, 60] fun c st' hr => ?_
                  simp only [go_sem, reduceIte, reduceCtorEq, Nat.reduceEqDiff, Nat.reduceLT, Nat.reduceLeDiff, Nat.reduceBEq, Nat.reduceAdd, Nat.reduceMul, Nat.reduceSub, Nat.reducePow, Int.reduceLE, Int.reduceLT, Int.reduceNeg, Int.reduceToNat, Int.reduceAdd, Int.reduceSub] at hr
                  obtain ⟨rfl, rfl⟩ := hr
                  refine ⟨vc, ?_⟩
                  refine AWPL_nil ?_
                  with_reducible refine thenC_normal ?_
                  refine AWP_seq ?_
                  -- region 16
                  refine AWP_rg tab_ok [0, 3, 8, 9, 10, 11, 12, 13, 45, 46, 59, 60] fun c st' hr => ?_
                  simp only [go_sem, reduceIte, reduceCtorEq, Nat.reduceEqDiff, Nat.reduceLT, Nat.reduceLeDiff, Nat.reduceBEq, Nat.reduceAdd, Nat.reduceMul, Nat.reduceSub, Nat.reducePow, Int.reduceLE, Int.reduceLT, Int.reduceNeg, Int.reduceToNat, Int.reduceAdd, Int.reduceSub] at hr
                  obtain ⟨rfl, rfl⟩ := hr
                  refine ⟨vc, ?_⟩
                  with_reducible refine thenC_normal ?_
                  refine AWP_seq ?_
                  refine AWP_seq ?_
                  -- region 17
                  refine AWP_rg tab_ok [0, 3, 8, 9, 10, 11, 12, 13, 14, 45, 46, 59, 60] fun c st' hr => ?_
                  simp only [go_sem, reduceIte, reduceCtorEq, Nat.reduceEqDiff, Nat.reduceLT, Nat.reduceLeDiff, Nat.reduceBEq, Nat.reduceAdd, Nat.reduceMul, Nat.reduceSub, Nat.reducePow, Int.reduceLE, Int.reduceLT, Int.reduceNeg, Int.reduceToNat, Int.reduceAdd, Int.reduceSub] at hr
                  obtain ⟨rfl, rfl⟩ := hr
                  refine ⟨vc, ?_⟩
                  with_reducible refine thenC_normal ?_
                  refine AWP_block ?_
                  refine AWP_loopX 4 (fun ((v2, v3, v4) : Int × Int × Int) => ⟨138, [(0, .int .i64 n), (3, .ptr 0 0 0), (8, .func 15 [.ptr 0 0 0]), (9, .int .i64 v), (10, .int .i64 v1), (11, .own 1 y5.length), (12, .int .i64 v2), (13, .int .i64 v3), (14, .int .i64 v4), (45, .int .i64 (2 ^ n.toNat : Int)), (46, .int .i64 v), (59, .int .i64 (2 ^ n.toNat : Int)), (60, .int .i64 v1)], [some (.gen 22 1 [[.fn 2 a1.length (fun i => [.int .i64 ((a1.getD i (0, 0)).1), .int .i64 ((a1.getD i (0, 0)).2)])]]), some (.ints 3 .i64 y5)]⟩) (fun (v5 : Int) => ⟨138, [(0, .int .i64 n), (3, .ptr 0 0 0), (8, .func 15 [.ptr 0 0 0]), (9, .int .i64 v), (13, .int .i64 v5), (45, .int .i64 (2 ^ n.toNat : Int)), (46, .int .i64 v), (59, .int .i64 (2 ^ n.toNat : Int)), (60, .int .i64 v1)], [some (.gen 22 1 [[.fn 2 a1.length (fun i => [.int .i64 ((a1.getD i (0, 0)).1), .int .i64 ((a1.getD i (0, 0)).2)])]])]⟩) (fun v => v) (0, 0, 1) [0, 1] hK mkWk ?_ ?_
                  · clear hK; rintro ⟨v2, v3, v4⟩ b2 hK hpost3
                    try dsimp only at hK
                    change AWP _ _ _ _ ⟨138, [(0, .int .i64 n), (3, .ptr 0 0 0), (8, .func 15 [.ptr 0 0 0]), (9, .int .i64 v), (10, .int .i64 v1), (11, .own 1 y5.length), (12, .int .i64 v2), (13, .int .i64 v3), (14, .int .i64 v4), (45, .int .i64 (2 ^ n.toNat : Int)), (46, .int .i64 v), (59, .int .i64 (2 ^ n.toNat : Int)), (60, .int .i64 v1)], [some (.gen 22 1 [[.fn 2 a1.length (fun i => [.int .i64 ((a1.getD i (0, 0)).1), .int .i64 ((a1.getD i (0, 0)).2)])]]), some (.ints 3 .i64 y5)]⟩
                    refine AWP_seq ?_
                    refine AWP_seq ?_
                    -- region 18
                    refine AWP_rg tab_ok [0, 3, 8, 9, 10, 11, 12, 13, 14, 45, 46, 59, 60, 75] fun c st' hr => ?_
                    simp only [go_sem, reduceIte, reduceCtorEq, Nat.reduceEqDiff, Nat.reduceLT, Nat.reduceLeDiff, Nat.reduceBEq, Nat.reduceAdd, Nat.reduceMul, Nat.reduceSub, Nat.reducePow, Int.reduceLE, Int.reduceLT, Int.reduceNeg, Int.reduceToNat, Int.reduceAdd, Int.reduceSub] at hr
                    obtain ⟨rfl, rfl⟩ := hr
                    refine ⟨vc, ?_⟩
                    with_reducible refine thenC_normal ?_
                    refine AWP_condP (v4 < 4) rfl bd (fun hb6 => ?_) (fun hb6 => ?_)
                    · replace hK := ite_t hK hb6
                      refine AWP_skip ?_
                      with_reducible refine thenC_normal ?_
                      refine AWP_seq ?_
                      refine AWP_block ?_
                      refine AWP_seq ?_
                      -- region 20
                      replace hK := chk_some hK
                      obtain ⟨h3, hK⟩ := hK
                      refine AWP_dr tab_ok [0, 3, 8, 9, 10, 11, 12, 13, 14, 15, 45, 46, 59, 60] mixed (by kernel_rfl) fun c st' hr => ?_
                      simp only [go_sem, reduceIte, reduceCtorEq, Nat.reduceEqDiff, Nat.reduceLT, Nat.reduceLeDiff, Nat.reduceBEq, Nat.reduceAdd, Nat.reduceMul, Nat.reduceSub, Nat.reducePow, Int.reduceLE, Int.reduceLT, Int.reduceNeg, Int.reduceToNat, Int.reduceAdd, Int.reduceSub] at hr
                      obtain ⟨rfl, rfl⟩ := hr
                      refine ⟨vc, ?_⟩
                      with_reducible refine thenC_normal ?_
                      refine AWP_seq ?_
                      -- region 21
                      refine AWP_rl ?_
                      refine AWPL_rn tab_ok 4 [0, 3, 8, 9, 10, 11, 12, 13, 14, 15, 45, 46, 59, 60, 89, 92] fun c st' hr => ?_
                      simp only [go_sem, reduceIte, reduceCtorEq, Nat.reduceEqDiff, Nat.reduceLT, Nat.reduceLeDiff, Nat.reduceBEq, Nat.reduceAdd, Nat.reduceMul, Nat.reduceSub, Nat.reducePow, Int.reduceLE, Int.reduceLT, Int.reduceNeg, Int.reduceToNat, Int.reduceAdd, Int.reduceSub] at hr
                      obtain ⟨rfl, rfl⟩ := hr
                      refine ⟨vc, ?_⟩
                      replace hK := bind_s hK
                      obtain ⟨y6, hy, hK⟩ := hK
                      refine AWPL_callK [0, 3, 8, 9, 10, 11, 12, 13, 14, 15, 45, 46, 59, 60, 93] (W_rotakeep_ValuesPluecker_1 hy) rfl rfl pcT rfl Try.call15 (.cons (.atom _ rfl) (.cons (.ptrM _ _ _ _ _ _ _ rfl rfl rfl (ArgsOk.get (.cons (.atom _ rfl) .nil)).2) .nil)) (hscG trivial) (of_decide_eq_true rfl) (by first | rfl | simp [nI, nI1, nI0]) (by first | rfl | simp [nIB, nI0]) fun st' hr => ?_
                      simp only [go_sem, reduceIte, reduceCtorEq, Nat.reduceEqDiff, Nat.reduceLT, Nat.reduceLeDiff, Nat.reduceBEq, Nat.reduceAdd, Nat.reduceMul, Nat.reduceSub, Nat.reducePow, Int.reduceLE, Int.reduceLT, Int.reduceNeg, Int.reduceToNat, Int.reduceAdd, Int.reduceSub] at hr
                      subst hr
                      clear hy
                      refine AWPL_rn tab_ok 5 [0, 3, 8, 9, 10, 11, 12, 13, 14, 15, 16, 17, 45, 46, 59, 60] fun c st' hr => ?_
                      simp only [go_sem, reduceIte, reduceCtorEq, Nat.reduceEqDiff, Nat.reduceLT, Nat.reduceLeDiff, Nat.reduceBEq, Nat.reduceAdd, Nat.reduceMul, Nat.reduceSub, Nat.reducePow, Int.reduceLE, Int.reduceLT, Int.reduceNeg, Int.reduceToNat, Int.reduceAdd, Int.reduceSub] at hr
                      obtain ⟨rfl, rfl⟩ := hr
                      refine ⟨vc, ?_⟩
                      refine AWPL_nil ?_
                      with_reducible refine thenC_normal ?_
                      refine AWP_seq ?_
                      -- region 22
                      refine AWP_rl ?_
                      refine AWPL_rn tab_ok 6 [0, 3, 8, 9, 10, 11, 12, 13, 14, 16, 17, 45, 46, 59, 60, 97, 102] fun c st' hr => ?_
                      simp only [go_sem, reduceIte, reduceCtorEq, Nat.reduceEqDiff, Nat.reduceLT, Nat.reduceLeDiff, Nat.reduceBEq, Nat.reduceAdd, Nat.reduceMul, Nat.reduceSub, Nat.reducePow, Int.reduceLE, Int.reduceLT, Int.reduceNeg, Int.reduceToNat, Int.reduceAdd, Int.reduceSub] at hr
                      obtain ⟨rfl, rfl⟩ := hr
                      refine ⟨vc, ?_⟩
                      replace hK := bind_s hK
                      obtain ⟨y7, hy, hK⟩ := hK
                      refine AWPL_callK [0, 3, 8, 9, 10, 11, 12, 13, 14, 16, 17, 45, 46, 59, 60, 103] (W_rotakeep_ValuesPluecker_1 hy) rfl rfl pcT rfl Try.call15 (.cons (.atom _ rfl) (.cons (.ptrM _ _ _ _ _ _ _ rfl rfl rfl (ArgsOk.get (.cons (.atom _ rfl) .nil)).2) .nil)) (hscG trivial) (of_decide_eq_true rfl) (by first | rfl | simp [nI, nI1, nI0]) (by first | rfl | simp [nIB, nI0]) fun st' hr => ?_
                      simp only [go_sem, reduceIte, reduceCtorEq, Nat.reduceEqDiff, Nat.reduceLT, Nat.reduceLeDiff, Nat.reduceBEq, Nat.reduceAdd, Nat.reduceMul, Nat.reduceSub, Nat.reducePow, Int.reduceLE, Int.reduceLT, Int.reduceNeg, Int.reduceToNat, Int.reduceAdd, Int.reduceSub] at hr
                      subst hr
                      clear hy
                      refine AWPL_rn tab_ok 5 [0, 3, 8, 9, 10, 11, 12, 13, 14, 16, 17, 18, 19, 45, 46, 59, 60] fun c st' hr => ?_
                      simp only [go_sem, reduceIte, reduceCtorEq, Nat.reduceEqDiff, Nat.reduceLT, Nat.reduceLeDiff, Nat.reduceBEq, Nat.reduceAdd, Nat.reduceMul, Nat.reduceSub, Nat.reducePow, Int.reduceLE, Int.reduceLT, Int.reduceNeg, Int.reduceToNat, Int.reduceAdd, Int.reduceSub] at hr
                      obtain ⟨rfl, rfl⟩ := hr
                      refine ⟨vc, ?_⟩
                      refine AWPL_nil ?_
                      with_reducible refine thenC_normal ?_
                      refine AWP_block ?_
                      refine AWP_seq ?_
                      -- region 23
                      refine AWP_rg tab_ok [0, 3, 8, 9, 10, 11, 12, 13, 14, 16, 18, 45, 46, 59, 60, 106] fun c st' hr => ?_
                      simp only [go_sem, reduceIte, reduceCtorEq, Nat.reduceEqDiff, Nat.reduceLT, Nat.reduceLeDiff, Nat.reduceBEq, Nat.reduceAdd, Nat.reduceMul, Nat.reduceSub, Nat.reducePow, Int.reduceLE, Int.reduceLT, Int.reduceNeg, Int.reduceToNat, Int.reduceAdd, Int.reduceSub] at hr
                      obtain ⟨rfl, rfl⟩ := hr
                      refine ⟨vc, ?_⟩
                      with_reducible refine thenC_normal ?_
                      refine AWP_condP ((¬ (y6.2 = true) ∨ ¬ (y7.2 = true))) rfl bd (fun hb7 => ?_) (fun hb7 => ?_)
                      · replace hK := ite_t hK hb7
                        refine AWP_skip ?_
                        with_reducible refine inBlockA_normal (inBlockA_normal (thenC_normal ?_))
                        -- region 19
                        refine AWP_facts (by simp) fun hfx => ?_
                        simp only [factS, factV, fact1, fact0, factL0, lo, hi, maxLen, and_true, true_and] at hfx
                        refine AWP_rg tab_ok [0, 3, 8, 9, 10, 11, 12, 13, 14, 45, 46, 59, 60] fun c st' hr => ?_
                        simp only [go_sem, reduceIte, reduceCtorEq, Nat.reduceEqDiff, Nat.reduceLT, Nat.reduceLeDiff, Nat.reduceBEq, Nat.reduceAdd, Nat.reduceMul, Nat.reduceSub, Nat.reducePow, Int.reduceLE, Int.reduceLT, Int.reduceNeg, Int.reduceToNat, Int.reduceAdd, Int.reduceSub] at hr
                        obtain ⟨rfl, rfl⟩ := hr
                        refine ⟨vc, ?_⟩
                        clear hfx
                        refine again_n (v2, v3, v4 + 1) [0, 1] hK mkWk
                      · replace hK := ite_f hK hb7
                        refine AWP_seq ?_
                        -- region 24
                        replace hK := chk_some hK
                        obtain ⟨h4, hK⟩ := hK
                        refine AWP_rg tab_ok [0, 3, 8, 9, 10, 11, 12, 13, 14, 16, 18, 45, 46, 59, 60, 113] fun c st' hr => ?_
                        simp only [go_sem, reduceIte, reduceCtorEq, Nat.reduceEqDiff, Nat.reduceLT, Nat.reduceLeDiff, Nat.reduceBEq, Nat.reduceAdd, Nat.reduceMul, Nat.reduceSub, Nat.reducePow, Int.reduceLE, Int.reduceLT, Int.reduceNeg, Int.reduceToNat, Int.reduceAdd, Int.reduceSub] at hr
                        obtain ⟨rfl, rfl⟩ := hr
                        refine ⟨vc, ?_⟩
                        with_reducible refine thenC_normal ?_
                        refine AWP_condP ((v3 = 0 ∨ v2 < y6.1 + y7.1)) rfl bd (fun hb8 => ?_) (fun hb8 => ?_)
                        · replace hK := ite_t hK hb8
                          -- region 25
                          replace hK := chk_some hK
                          obtain ⟨h5, hK⟩ := hK
                          refine AWP_rg tab_ok [0, 3, 8, 9, 10, 11, 12, 13, 14, 45, 46, 59, 60] fun c st' hr => ?_
                          simp only [go_sem, reduceIte, reduceCtorEq, Nat.reduceEqDiff, Nat.reduceLT, Nat.reduceLeDiff, Nat.reduceBEq, Nat.reduceAdd, Nat.reduceMul, Nat.reduceSub, Nat.reducePow, Int.reduceLE, Int.reduceLT, Int.reduceNeg, Int.reduceToNat, Int.reduceAdd, Int.reduceSub] at hr
                          obtain ⟨rfl, rfl⟩ := hr
                          refine ⟨vc, ?_⟩
                          with_reducible refine inBlockA_normal (inBlockA_normal (thenC_normal ?_))
                          -- region 19
                          refine AWP_facts (by simp) fun hfx => ?_
                          simp only [factS, factV, fact1, fact0, factL0, lo, hi, maxLen, and_true, true_and] at hfx
                          refine AWP_rg tab_ok [0, 3, 8, 9, 10, 11, 12, 13, 14, 45, 46, 59, 60] fun c st' hr => ?_
                          simp only [go_sem, reduceIte, reduceCtorEq, Nat.reduceEqDiff, Nat.reduceLT, Nat.reduceLeDiff, Nat.reduceBEq, Nat.reduceAdd, Nat.reduceMul, Nat.reduceSub, Nat.reducePow, Int.reduceLE, Int.reduceLT, Int.reduceNeg, Int.reduceToNat, Int.reduceAdd, Int.reduceSub] at hr
                          obtain ⟨rfl, rfl⟩ := hr
                          refine ⟨vc, ?_⟩
                          clear hfx
                          refine again_n (y6.1 + y7.1, 1, v4 + 1) [0, 1] hK mkWk
                        · replace hK := ite_f hK hb8
                          refine AWP_seq ?_
                          -- region 26
                          replace hK := chk_some hK
                          obtain ⟨h6, hK⟩ := hK
                          refine AWP_rg tab_ok [0, 3, 8, 9, 10, 11, 12, 13, 14, 45, 46, 59, 60, 126] fun c st' hr => ?_
                          simp only [go_sem, reduceIte, reduceCtorEq, Nat.reduceEqDiff, Nat.reduceLT, Nat.reduceLeDiff, Nat.reduceBEq, Nat.reduceAdd, Nat.reduceMul, Nat.reduceSub, Nat.reducePow, Int.reduceLE, Int.reduceLT, Int.reduceNeg, Int.reduceToNat, Int.reduceAdd, Int.reduceSub] at hr
                          obtain ⟨rfl, rfl⟩ := hr
                          refine ⟨vc, ?_⟩
                          with_reducible refine thenC_normal ?_
                          refine AWP_condP (y6.1 + y7.1 = v2) rfl bd (fun hb9 => ?_) (fun hb9 => ?_)
                          · replace hK := ite_t hK hb9
                            -- region 27
                            replace hK := chk_some hK
                            obtain ⟨h7, hK⟩ := hK
                            refine AWP_rg tab_ok [0, 3, 8, 9, 10, 11, 12, 13, 14, 45, 46, 59, 60] fun c st' hr => ?_
                            simp only [go_sem, reduceIte, reduceCtorEq, Nat.reduceEqDiff, Nat.reduceLT, Nat.reduceLeDiff, Nat.reduceBEq, Nat.reduceAdd, Nat.reduceMul, Nat.reduceSub, Nat.reducePow, Int.reduceLE, Int.reduceLT, Int.reduceNeg, Int.reduceToNat, Int.reduceAdd, Int.reduceSub] at hr
                            obtain ⟨rfl, rfl⟩ := hr
                            refine ⟨vc, ?_⟩
                            with_reducible refine inBlockA_normal (inBlockA_normal (thenC_normal ?_))
                            -- region 19
                            refine AWP_facts (by simp) fun hfx => ?_
                            simp only [factS, factV, fact1, fact0, factL0, lo, hi, maxLen, and_true, true_and] at hfx
                            refine AWP_rg tab_ok [0, 3, 8, 9, 10, 11, 12, 13, 14, 45, 46, 59, 60] fun c st' hr => ?_
                            simp only [go_sem, reduceIte, reduceCtorEq, Nat.reduceEqDiff, Nat.reduceLT, Nat.reduceLeDiff, Nat.reduceBEq, Nat.reduceAdd, Nat.reduceMul, Nat.reduceSub, Nat.reducePow, Int.reduceLE, Int.reduceLT, Int.reduceNeg, Int.reduceToNat, Int.reduceAdd, Int.reduceSub] at hr
                            obtain ⟨rfl, rfl⟩ := hr
                            refine ⟨vc, ?_⟩
                            clear hfx
                            refine again_n (v2, v3 + 1, v4 + 1) [0, 1] hK mkWk
                          · replace hK := ite_f hK hb9
                            refine AWP_skip ?_
                            with_reducible refine inBlockA_normal (inBlockA_normal (thenC_normal ?_))
                            -- region 19
                            refine AWP_facts (by simp) fun hfx => ?_
                            simp only [factS, factV, fact1, fact0, factL0, lo, hi, maxLen, and_true, true_and] at hfx
                            refine AWP_rg tab_ok [0, 3, 8, 9, 10, 11, 12, 13, 14, 45, 46, 59, 60] fun c st' hr => ?_
                            simp only [go_sem, reduceIte, reduceCtorEq, Nat.reduceEqDiff, Nat.reduceLT, Nat.reduceLeDiff, Nat.reduceBEq, Nat.reduceAdd, Nat.reduceMul, Nat.reduceSub, Nat.reducePow, Int.reduceLE, Int.reduceLT, Int.reduceNeg, Int.reduceToNat, Int.reduceAdd, Int.reduceSub] at hr
                            obtain ⟨rfl, rfl⟩ := hr
                            refine ⟨vc, ?_⟩
                            clear hfx
                            refine again_n (v2, v3, v4 + 1) [0, 1] hK mkWk
                    · replace hK := ite_f hK hb6
                      refine AWP_exit ?_
                      with_reducible refine thenC_exit (again_x ?_)
                      refine cutX_here v3 [0] (hpost3 _ hK) mkWk
                  · clear hK; rintro v5 hK
                    try dsimp only at hK
                    refine exS ⟨138, [(0, .int .i64 n), (3, .ptr 0 0 0), (8, .func 15 [.ptr 0 0 0]), (9, .int .i64 v), (13, .int .i64 v5), (45, .int .i64 (2 ^ n.toNat : Int)), (46, .int .i64 v), (59, .int .i64 (2 ^ n.toNat : Int)), (60, .int .i64 v1)], [some (.gen 22 1 [[.fn 2 a1.length (fun i => [.int .i64 ((a1.getD i (0, 0)).1), .int .i64 ((a1.getD i (0, 0)).2)])]])]⟩ rfl ?_
                    with_reducible refine inBlockA_exit (thenC_normal ?_)
                    refine AWP_seq ?_
                    -- region 28
                    refine AWP_rg tab_ok [0, 3, 8, 9, 45, 46, 59, 60, 135] fun c st' hr => ?_
                    simp only [go_sem, reduceIte, reduceCtorEq, Nat.reduceEqDiff, Nat.reduceLT, Nat.reduceLeDiff, Nat.reduceBEq, Nat.reduceAdd, Nat.reduceMul, Nat.reduceSub, Nat.reducePow, Int.reduceLE, Int.reduceLT, Int.reduceNeg, Int.reduceToNat, Int.reduceAdd, Int.reduceSub] at hr
                    obtain ⟨rfl, rfl⟩ := hr
                    refine ⟨vc, ?_⟩
                    with_reducible refine thenC_normal ?_
                    refine AWP_condP (v5 = 1) rfl bd (fun hb10 => ?_) (fun hb10 => ?_)
                    · replace hK := ite_t hK hb10
                      refine AWP_seq ?_
                      -- region 29
                      refine AWP_rg tab_ok [4] fun c st' hr => ?_
                      simp only [go_sem, reduceIte, reduceCtorEq, Nat.reduceEqDiff, Nat.reduceLT, Nat.reduceLeDiff, Nat.reduceBEq, Nat.reduceAdd, Nat.reduceMul, Nat.reduceSub, Nat.reducePow, Int.reduceLE, Int.reduceLT, Int.reduceNeg, Int.reduceToNat, Int.reduceAdd, Int.reduceSub] at hr
                      obtain ⟨rfl, rfl⟩ := hr
                      refine ⟨vc, ?_⟩
                      with_reducible refine thenC_normal ?_
                      refine AWP_ret ?_
                      with_reducible refine inBlockA_ret (thenC_ret (again_r (cutX_r (inBlockA_ret (inBlockA_ret (thenC_ret (again_r (cutX_r (inBlockA_ret (thenC_ret ?_))))))))))
                      replace hK := hpost2 _ hK
                      try dsimp only at hK
                      replace hK := hpost1 _ hK
                      try dsimp only at hK
                      cases hK
                      refine EndsRW [] (.inl rfl) (of_decide_eq_true rfl) (by simp) rfl (fun c x hr => ?_) trivial
                      simp only [go_sem, reduceIte, reduceCtorEq, Nat.reduceEqDiff, Nat.reduceLT, Nat.reduceLeDiff, Nat.reduceBEq, Nat.reduceAdd, Nat.reduceMul, Nat.reduceSub, Nat.reducePow, Int.reduceLE, Int.reduceLT, Int.reduceNeg, Int.reduceToNat, Int.reduceAdd, Int.reduceSub] at hr
                      obtain ⟨rfl, rfl⟩ := hr
                      exact ⟨rfl, endR⟩
                    · replace hK := ite_f hK hb10
                      refine AWP_skip ?_
                      with_reducible refine inBlockA_normal (thenC_normal ?_)
                      -- region 30
                      refine AWP_facts (by simp) fun hfx => ?_
                      simp only [factS, factV, fact1, fact0, factL0, lo, hi, maxLen, and_true, true_and] at hfx
                      refine AWP_rg tab_ok [0, 3, 8, 9, 45, 46, 59, 60] fun c st' hr => ?_
                      simp only [go_sem, reduceIte, reduceCtorEq, Nat.reduceEqDiff, Nat.reduceLT, Nat.reduceLeDiff, Nat.reduceBEq, Nat.reduceAdd, Nat.reduceMul, Nat.reduceSub, Nat.reducePow, Int.reduceLE, Int.reduceLT, Int.reduceNeg, Int.reduceToNat, Int.reduceAdd, Int.reduceSub] at hr
                      obtain ⟨rfl, rfl⟩ := hr
                      refine ⟨vc, ?_⟩
                      clear hfx
                      refine again_n (v1 + 1) [0] hK mkWk
              · replace hK := ite_f hK hb4
                refine AWP_exit ?_
                with_reducible refine thenC_exit (again_x ?_)
                refine cutX_here () [0] (hpost2 _ hK) mkWk
            · clear hK; rintro _ hK
              try dsimp only at hK
              refine exS ⟨138, [(0, .int .i64 n), (3, .ptr 0 0 0), (8, .func 15 [.ptr 0 0 0]), (45, .int .i64 (2 ^ n.toNat : Int)), (46, .int .i64 v)], [some (.gen 22 1 [[.fn 2 a1.length (fun i => [.int .i64 ((a1.getD i (0, 0)).1), .int .i64 ((a1.getD i (0, 0)).2)])]])]⟩ rfl ?_
              with_reducible refine inBlockA_exit (inBlockA_normal (thenC_normal ?_))
              -- region 31
              refine AWP_facts (by simp) fun hfx => ?_
              simp only [factS, factV, fact1, fact0, factL0, lo, hi, maxLen, and_true, true_and] at hfx
              refine AWP_rg tab_ok [0, 3, 8, 45, 46] fun c st' hr => ?_
              simp only [go_sem, reduceIte, reduceCtorEq, Nat.reduceEqDiff, Nat.reduceLT, Nat.reduceLeDiff, Nat.reduceBEq, Nat.reduceAdd, Nat.reduceMul, Nat.reduceSub, Nat.reducePow, Int.reduceLE, Int.reduceLT, Int.reduceNeg, Int.reduceToNat, Int.reduceAdd, Int.reduceSub] at hr
              obtain ⟨rfl, rfl⟩ := hr
              refine ⟨vc, ?_⟩
              clear hfx
              refine again_n (v + 1) [0] hK mkWk
        · replace hK := ite_f hK hb2
          refine AWP_exit ?_
          with_reducible refine thenC_exit (again_x ?_)
          refine cutX_here () [] (hpost1 _ hK) mkWk
      · clear hK; rintro _ hK
        try dsimp only at hK
        refine exS ⟨138, [], []⟩ rfl ?_
        with_reducible refine inBlockA_exit (thenC_normal ?_)
        refine AWP_seq ?_
        -- region 32
        refine AWP_rg tab_ok [4] fun c st' hr => ?_
        simp only [go_sem, reduceIte, reduceCtorEq, Nat.reduceEqDiff, Nat.reduceLT, Nat.reduceLeDiff, Nat.reduceBEq, Nat.reduceAdd, Nat.reduceMul, Nat.reduceSub, Nat.reducePow, Int.reduceLE, Int.reduceLT, Int.reduceNeg, Int.reduceToNat, Int.reduceAdd, Int.reduceSub] at hr
        obtain ⟨rfl, rfl⟩ := hr
        refine ⟨vc, ?_⟩
        with_reducible refine thenC_normal ?_
        refine AWP_ret ?_
        cases hK
        refine EndsRW [] (.inl rfl) (of_decide_eq_true rfl) (by simp) rfl (fun c x hr => ?_) trivial
        simp only [go_sem, reduceIte, reduceCtorEq, Nat.reduceEqDiff, Nat.reduceLT, Nat.reduceLeDiff, Nat.reduceBEq, Nat.reduceAdd, Nat.reduceMul, Nat.reduceSub, Nat.reducePow, Int.reduceLE, Int.reduceLT, Int.reduceNeg, Int.reduceToNat, Int.reduceAdd, Int.reduceSub] at hr
        obtain ⟨rfl, rfl⟩ := hr
        exact ⟨rfl, endR⟩

end Go.SH
