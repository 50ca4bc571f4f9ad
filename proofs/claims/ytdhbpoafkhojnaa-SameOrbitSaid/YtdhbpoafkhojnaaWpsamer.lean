/-
  That the code computes these functions: same_order, same_Rename. By a program of mine (shal.py). Conditions: none.
-/
import Derived.Test.YtdhbpoafkhojnaaAxT
import Derived.Test.YtdhbpoafkhojnaaAxR
import Derived.Test.YtdhbpoafkhojnaaAxJm
import Derived.Test.YtdhbpoafkhojnaaAxW
import Derived.Test.YtdhbpoafkhojnaaSpsamer
import Derived.Test.YtdhbpoafkhojnaaWpaxioms
import Derived.Test.YtdhbpoafkhojnaaWpsamec
import Derived.Test.YtdhbpoafkhojnaaWpslices
set_option linter.unusedVariables false
set_option linter.unusedSimpArgs false
namespace Go.SH
open Go Go.AX Go.AX.Try Go.Proofs

set_option maxRecDepth 8000 in
set_option maxHeartbeats 4000000 in
theorem W_same_order {p : List Int} {n : Int} {r : Bool} (hK : same_order p n = some r) : Pure Try.prog 69 [.ints .i64 p, .int .i64 n] (.bool r) [] := by
  refine Pure_introF tab_ok (n := 33) (l := [.tmp 4]) Try.func69 rfl rfl rfl (by simp) fun hfact w0 => ?_
  simp only [factL1, fact1, fact0, factL0, lo, hi, maxLen, and_true] at hfact
  unfold same_order at hK
  refine AWP_seq ?_
  -- region 0
  refine AWP_rg tab_ok [0, 1] fun c st' hr => ?_
  simp only [go_sem, reduceIte, reduceCtorEq, Nat.reduceEqDiff, Nat.reduceLT, Nat.reduceLeDiff, Nat.reduceBEq, Nat.reduceAdd, Nat.reduceMul, Nat.reduceSub, Nat.reducePow, Int.reduceLE, Int.reduceLT, Int.reduceNeg, Int.reduceToNat, Int.reduceAdd, Int.reduceSub] at hr
  obtain ⟨rfl, rfl⟩ := hr
  refine ⟨vc, ?_⟩
  with_reducible refine thenC_normal ?_
  refine AWP_seq ?_
  refine AWP_seq ?_
  -- region 1
  refine AWP_rg tab_ok [0, 1, 10] fun c st' hr => ?_
  simp only [go_sem, reduceIte, reduceCtorEq, Nat.reduceEqDiff, Nat.reduceLT, Nat.reduceLeDiff, Nat.reduceBEq, Nat.reduceAdd, Nat.reduceMul, Nat.reduceSub, Nat.reducePow, Int.reduceLE, Int.reduceLT, Int.reduceNeg, Int.reduceToNat, Int.reduceAdd, Int.reduceSub] at hr
  obtain ⟨rfl, rfl⟩ := hr
  refine ⟨vc, ?_⟩
  with_reducible refine thenC_normal ?_
  refine AWP_condP ((p.length : Int) ≠ n) rfl bd (fun hb => ?_) (fun hb => ?_)
  · replace hK := ite_t hK hb
    refine AWP_seq ?_
    -- region 2
    refine AWP_rg tab_ok [4] fun c st' hr => ?_
    simp only [go_sem, reduceIte, reduceCtorEq, Nat.reduceEqDiff, Nat.reduceLT, Nat.reduceLeDiff, Nat.reduceBEq, Nat.reduceAdd, Nat.reduceMul, Nat.reduceSub, Nat.reducePow, Int.reduceLE, Int.reduceLT, Int.reduceNeg, Int.reduceToNat, Int.reduceAdd, Int.reduceSub] at hr
    obtain ⟨rfl, rfl⟩ := hr
    refine ⟨vc, ?_⟩
    with_reducible refine thenC_normal ?_
    refine AWP_ret ?_
    with_reducible refine thenC_ret ?_
    cases hK
    refine EndsRW [] (.inl rfl) (of_decide_eq_true rfl) (by simp) rfl (fun c x hr => ?_) trivial
    simp only [go_sem, reduceIte, reduceCtorEq, Nat.reduceEqDiff, Nat.reduceLT, Nat.reduceLeDiff, Nat.reduceBEq, Nat.reduceAdd, Nat.reduceMul, Nat.reduceSub, Nat.reducePow, Int.reduceLE, Int.reduceLT, Int.reduceNeg, Int.reduceToNat, Int.reduceAdd, Int.reduceSub] at hr
    obtain ⟨rfl, rfl⟩ := hr
    exact ⟨rfl, endR⟩
  · replace hK := ite_f hK hb
    refine AWP_skip ?_
    with_reducible refine thenC_normal ?_
    refine AWP_seq ?_
    refine AWP_seq ?_
    -- region 3
    refine AWP_rg tab_ok [0, 1, 11, 12, 13] fun c st' hr => ?_
    simp only [go_sem, reduceIte, reduceCtorEq, Nat.reduceEqDiff, Nat.reduceLT, Nat.reduceLeDiff, Nat.reduceBEq, Nat.reduceAdd, Nat.reduceMul, Nat.reduceSub, Nat.reducePow, Int.reduceLE, Int.reduceLT, Int.reduceNeg, Int.reduceToNat, Int.reduceAdd, Int.reduceSub] at hr
    obtain ⟨rfl, rfl⟩ := hr
    refine ⟨vc, ?_⟩
    with_reducible refine thenC_normal ?_
    refine AWP_block ?_
    refine AWP_loopX 0 (fun (v : Int) => ⟨33, [(0, .ints .i64 p), (1, .int .i64 n), (11, .ints .i64 p), (12, .int .i64 (p.length : Int)), (13, .int .i64 v)], []⟩) (fun (_ : Unit) => ⟨33, [], []⟩) Sum.inl 0 [] hK mkWk ?_ ?_
    · clear hK; rintro v b hK hpost1
      try dsimp only at hK
      change AWP _ _ _ _ ⟨33, [(0, .ints .i64 p), (1, .int .i64 n), (11, .ints .i64 p), (12, .int .i64 (p.length : Int)), (13, .int .i64 v)], []⟩
      refine AWP_seq ?_
      -- region 4
      refine AWP_rg tab_ok [0, 1, 11, 12, 13, 14] fun c st' hr => ?_
      simp only [go_sem, reduceIte, reduceCtorEq, Nat.reduceEqDiff, Nat.reduceLT, Nat.reduceLeDiff, Nat.reduceBEq, Nat.reduceAdd, Nat.reduceMul, Nat.reduceSub, Nat.reducePow, Int.reduceLE, Int.reduceLT, Int.reduceNeg, Int.reduceToNat, Int.reduceAdd, Int.reduceSub] at hr
      obtain ⟨rfl, rfl⟩ := hr
      refine ⟨vc, ?_⟩
      with_reducible refine thenC_normal ?_
      refine AWP_seq ?_
      refine AWP_condP (v < (p.length : Int)) rfl bd (fun hb1 => ?_) (fun hb1 => ?_)
      · replace hK := ite_t hK hb1
        refine AWP_skip ?_
        with_reducible refine thenC_normal ?_
        refine AWP_seq ?_
        refine AWP_block ?_
        refine AWP_seq ?_
        -- region 5
        replace hK := chk_some hK
        obtain ⟨h, hK⟩ := hK
        refine AWP_rg tab_ok [0, 1, 5, 6, 11, 12, 13] fun c st' hr => ?_
        simp only [go_sem, reduceIte, reduceCtorEq, Nat.reduceEqDiff, Nat.reduceLT, Nat.reduceLeDiff, Nat.reduceBEq, Nat.reduceAdd, Nat.reduceMul, Nat.reduceSub, Nat.reducePow, Int.reduceLE, Int.reduceLT, Int.reduceNeg, Int.reduceToNat, Int.reduceAdd, Int.reduceSub] at hr
        obtain ⟨rfl, rfl⟩ := hr
        refine ⟨vc, ?_⟩
        with_reducible refine thenC_normal ?_
        refine AWP_seq ?_
        -- region 6
        refine AWP_rl ?_
        replace hK := chk_some hK
        obtain ⟨h1, hK⟩ := hK
        refine AWPL_rn tab_ok 12 [0, 1, 11, 12, 13, 25, 28, 29] fun c st' hr => ?_
        simp only [go_sem, reduceIte, reduceCtorEq, Nat.reduceEqDiff, Nat.reduceLT, Nat.reduceLeDiff, Nat.reduceBEq, Nat.reduceAdd, Nat.reduceMul, Nat.reduceSub, Nat.reducePow, Int.reduceLE, Int.reduceLT, Int.reduceNeg, Int.reduceToNat, Int.reduceAdd, Int.reduceSub] at hr
        obtain ⟨rfl, rfl⟩ := hr
        refine ⟨vc, ?_⟩
        replace hK := bind_s hK
        obtain ⟨y, hy, hK⟩ := hK
        refine AWPL_callGP [0, 1, 11, 12, 13, 25, 30] (¬ ((p.getD v.toNat 0 < 0 ∨ n ≤ p.getD v.toNat 0))) (fun hg => (W_slices_Contains_int_int (ite_t hy hg))) rfl rfl pcG rfl Try.call21 (.cons (.atom _ rfl) (.cons (.atom _ rfl) .nil)) (fun hg => hscG hg) (of_decide_eq_true rfl) (by first | rfl | simp [nI, nI1, nI0]) (by first | rfl | simp [sh, sh1, sh0]) fun st' hr => ?_
        simp only [go_sem, reduceIte, reduceCtorEq, Nat.reduceEqDiff, Nat.reduceLT, Nat.reduceLeDiff, Nat.reduceBEq, Nat.reduceAdd, Nat.reduceMul, Nat.reduceSub, Nat.reducePow, Int.reduceLE, Int.reduceLT, Int.reduceNeg, Int.reduceToNat, Int.reduceAdd, Int.reduceSub] at hr
        subst hr
        clear hy
        refine AWPL_rn tab_ok 1 [0, 1, 11, 12, 13, 31] fun c st' hr => ?_
        simp only [go_sem, reduceIte, reduceCtorEq, Nat.reduceEqDiff, Nat.reduceLT, Nat.reduceLeDiff, Nat.reduceBEq, Nat.reduceAdd, Nat.reduceMul, Nat.reduceSub, Nat.reducePow, Int.reduceLE, Int.reduceLT, Int.reduceNeg, Int.reduceToNat, Int.reduceAdd, Int.reduceSub] at hr
        obtain ⟨rfl, rfl⟩ := hr
        refine ⟨vc, ?_⟩
        refine AWPL_nil ?_
        with_reducible refine thenC_normal ?_
        refine AWP_condP (((p.getD v.toNat 0 < 0 ∨ n ≤ p.getD v.toNat 0) ∨ y = true)) rfl bd (fun hb2 => ?_) (fun hb2 => ?_)
        · replace hK := ite_t hK hb2
          refine AWP_seq ?_
          -- region 7
          refine AWP_rg tab_ok [4] fun c st' hr => ?_
          simp only [go_sem, reduceIte, reduceCtorEq, Nat.reduceEqDiff, Nat.reduceLT, Nat.reduceLeDiff, Nat.reduceBEq, Nat.reduceAdd, Nat.reduceMul, Nat.reduceSub, Nat.reducePow, Int.reduceLE, Int.reduceLT, Int.reduceNeg, Int.reduceToNat, Int.reduceAdd, Int.reduceSub] at hr
          obtain ⟨rfl, rfl⟩ := hr
          refine ⟨vc, ?_⟩
          with_reducible refine thenC_normal ?_
          refine AWP_ret ?_
          with_reducible refine inBlockA_ret (thenC_ret (again_r (cutX_r (inBlockA_ret (thenC_ret ?_)))))
          replace hK := hpost1 _ hK
          try dsimp only at hK
          cases hK
          refine EndsRW [] (.inl rfl) (of_decide_eq_true rfl) (by simp) rfl (fun c x hr => ?_) trivial
          simp only [go_sem, reduceIte, reduceCtorEq, Nat.reduceEqDiff, Nat.reduceLT, Nat.reduceLeDiff, Nat.reduceBEq, Nat.reduceAdd, Nat.reduceMul, Nat.reduceSub, Nat.reducePow, Int.reduceLE, Int.reduceLT, Int.reduceNeg, Int.reduceToNat, Int.reduceAdd, Int.reduceSub] at hr
          obtain ⟨rfl, rfl⟩ := hr
          exact ⟨rfl, endR⟩
        · replace hK := ite_f hK hb2
          refine AWP_skip ?_
          with_reducible refine inBlockA_normal (thenC_normal ?_)
          -- region 8
          refine AWP_facts (by simp) fun hfx => ?_
          simp only [factS, factV, fact1, fact0, factL0, lo, hi, maxLen, and_true, true_and] at hfx
          refine AWP_rg tab_ok [0, 1, 11, 12, 13] fun c st' hr => ?_
          simp only [go_sem, reduceIte, reduceCtorEq, Nat.reduceEqDiff, Nat.reduceLT, Nat.reduceLeDiff, Nat.reduceBEq, Nat.reduceAdd, Nat.reduceMul, Nat.reduceSub, Nat.reducePow, Int.reduceLE, Int.reduceLT, Int.reduceNeg, Int.reduceToNat, Int.reduceAdd, Int.reduceSub] at hr
          obtain ⟨rfl, rfl⟩ := hr
          refine ⟨vc, ?_⟩
          clear hfx
          refine again_n (v + 1) [] hK mkWk
      · replace hK := ite_f hK hb1
        refine AWP_exit ?_
        with_reducible refine thenC_exit (again_x ?_)
        refine cutX_here () [] (by have hq := hpost1 _ hK; exact hq) mkWk
    · clear hK; rintro _ hK
      try dsimp only at hK
      refine exS ⟨33, [], []⟩ rfl ?_
      with_reducible refine inBlockA_exit (thenC_normal ?_)
      refine AWP_seq ?_
      -- region 9
      refine AWP_rg tab_ok [4] fun c st' hr => ?_
      simp only [go_sem, reduceIte, reduceCtorEq, Nat.reduceEqDiff, Nat.reduceLT, Nat.reduceLeDiff, Nat.reduceBEq, Nat.reduceAdd, Nat.reduceMul, Nat.reduceSub, Nat.reducePow, Int.reduceLE, Int.reduceLT, Int.reduceNeg, Int.reduceToNat, Int.reduceAdd, Int.reduceSub] at hr
      obtain ⟨rfl, rfl⟩ := hr
      refine ⟨vc, ?_⟩
      with_reducible refine thenC_normal ?_
      refine AWP_ret ?_
      cases hK
      refine EndsRW [] (.inl rfl) (of_decide_eq_true rfl) (by simp) rfl (fun c x hr => ?_) trivial
      simp only [go_sem, reduceIte, reduceCtorEq, Nat.reduceEqDiff, Nat.reduceLT, Nat.reduceLeDiff, Nat.reduceBEq, Nat.reduceAdd, Nat.reduceMul, Nat.reduceSub, Nat.reducePow, Int.reduceLE, Int.reduceLT, Int.reduceNeg, Int.reduceToNat, Int.reduceAdd, Int.reduceSub] at hr
      obtain ⟨rfl, rfl⟩ := hr
      exact ⟨rfl, endR⟩

set_option maxRecDepth 8000 in
set_option maxHeartbeats 4000000 in
theorem W_same_Rename {m_0 : Int} {m_1 : List Int} {p : List Int} {r : Int × List Int × Int} (hK : same_Rename m_0 m_1 p = some r) : Pure Try.prog 17 [.agg [.int .i64 m_0, .ints .i64 m_1], .ints .i64 p] (.tup [.agg [.int .i64 r.1, .own 0 r.2.1.length], .int .i64 r.2.2]) [(.ints 3 .i64 r.2.1)] := by
  refine Pure_introF tab_ok (n := 25) (l := [.cell 4 24, .tmp 5]) Try.func17 rfl rfl rfl (by simp) fun hfact w0 => ?_
  simp only [factL1, fact1, fact0, factL0, lo, hi, maxLen, and_true] at hfact
  unfold same_Rename at hK
  refine AWP_seq ?_
  -- region 0
  refine AWP_rg tab_ok [1, 2, 4] fun c st' hr => ?_
  simp only [go_sem, reduceIte, reduceCtorEq, Nat.reduceEqDiff, Nat.reduceLT, Nat.reduceLeDiff, Nat.reduceBEq, Nat.reduceAdd, Nat.reduceMul, Nat.reduceSub, Nat.reducePow, Int.reduceLE, Int.reduceLT, Int.reduceNeg, Int.reduceToNat, Int.reduceAdd, Int.reduceSub] at hr
  obtain ⟨rfl, rfl⟩ := hr
  refine ⟨vc, ?_⟩
  with_reducible refine thenC_normal ?_
  refine AWP_ownH 1 1 (.ints 3 .i64 []) rfl rfl rfl fun st' hr => ?_
  simp only [go_sem, reduceIte, reduceCtorEq, Nat.reduceEqDiff, Nat.reduceLT, Nat.reduceLeDiff, Nat.reduceBEq, Nat.reduceAdd, Nat.reduceMul, Nat.reduceSub, Nat.reducePow, Int.reduceLE, Int.reduceLT, Int.reduceNeg, Int.reduceToNat, Int.reduceAdd, Int.reduceSub] at hr
  subst hr
  refine AWP_seq ?_
  refine AWP_seq ?_
  -- region 1
  refine AWP_rl ?_
  refine AWPL_rn tab_ok 1 [1, 2, 4, 7] fun c st' hr => ?_
  simp only [go_sem, reduceIte, reduceCtorEq, Nat.reduceEqDiff, Nat.reduceLT, Nat.reduceLeDiff, Nat.reduceBEq, Nat.reduceAdd, Nat.reduceMul, Nat.reduceSub, Nat.reducePow, Int.reduceLE, Int.reduceLT, Int.reduceNeg, Int.reduceToNat, Int.reduceAdd, Int.reduceSub] at hr
  obtain ⟨rfl, rfl⟩ := hr
  refine ⟨vc, ?_⟩
  replace hK := bind_s hK
  obtain ⟨y, hy, hK⟩ := hK
  refine AWPL_callK [1, 2, 4, 8] (W_axioms_Check hy) rfl rfl pcT rfl Try.call52 (.cons (.agg _ _ rfl (ArgsOk.get (.cons (.atom _ rfl) (.cons (.atom _ rfl) .nil))).2) .nil) (hscG trivial) (of_decide_eq_true rfl) (by first | rfl | simp [nI, nI1, nI0]) (by first | rfl | simp [nIB, nI0]) fun st' hr => ?_
  simp only [go_sem, reduceIte, reduceCtorEq, Nat.reduceEqDiff, Nat.reduceLT, Nat.reduceLeDiff, Nat.reduceBEq, Nat.reduceAdd, Nat.reduceMul, Nat.reduceSub, Nat.reducePow, Int.reduceLE, Int.reduceLT, Int.reduceNeg, Int.reduceToNat, Int.reduceAdd, Int.reduceSub] at hr
  subst hr
  clear hy
  refine AWPL_rn tab_ok 1 [1, 2, 4, 6] fun c st' hr => ?_
  simp only [go_sem, reduceIte, reduceCtorEq, Nat.reduceEqDiff, Nat.reduceLT, Nat.reduceLeDiff, Nat.reduceBEq, Nat.reduceAdd, Nat.reduceMul, Nat.reduceSub, Nat.reducePow, Int.reduceLE, Int.reduceLT, Int.reduceNeg, Int.reduceToNat, Int.reduceAdd, Int.reduceSub] at hr
  obtain ⟨rfl, rfl⟩ := hr
  refine ⟨vc, ?_⟩
  refine AWPL_nil ?_
  with_reducible refine thenC_normal ?_
  refine AWP_seq ?_
  -- region 2
  refine AWP_rg tab_ok [1, 2, 4, 6, 10] fun c st' hr => ?_
  simp only [go_sem, reduceIte, reduceCtorEq, Nat.reduceEqDiff, Nat.reduceLT, Nat.reduceLeDiff, Nat.reduceBEq, Nat.reduceAdd, Nat.reduceMul, Nat.reduceSub, Nat.reducePow, Int.reduceLE, Int.reduceLT, Int.reduceNeg, Int.reduceToNat, Int.reduceAdd, Int.reduceSub] at hr
  obtain ⟨rfl, rfl⟩ := hr
  refine ⟨vc, ?_⟩
  with_reducible refine thenC_normal ?_
  refine AWP_condP (y ≠ 0) rfl bd (fun hb => ?_) (fun hb => ?_)
  · replace hK := ite_t hK hb
    refine AWP_seq ?_
    -- region 3
    refine AWP_rg tab_ok [4, 5] fun c st' hr => ?_
    simp only [go_sem, reduceIte, reduceCtorEq, Nat.reduceEqDiff, Nat.reduceLT, Nat.reduceLeDiff, Nat.reduceBEq, Nat.reduceAdd, Nat.reduceMul, Nat.reduceSub, Nat.reducePow, Int.reduceLE, Int.reduceLT, Int.reduceNeg, Int.reduceToNat, Int.reduceAdd, Int.reduceSub] at hr
    obtain ⟨rfl, rfl⟩ := hr
    refine ⟨vc, ?_⟩
    with_reducible refine thenC_normal ?_
    refine AWP_ownH 1 1 (.ints 3 .i64 []) rfl rfl rfl fun st' hr => ?_
    simp only [go_sem, reduceIte, reduceCtorEq, Nat.reduceEqDiff, Nat.reduceLT, Nat.reduceLeDiff, Nat.reduceBEq, Nat.reduceAdd, Nat.reduceMul, Nat.reduceSub, Nat.reducePow, Int.reduceLE, Int.reduceLT, Int.reduceNeg, Int.reduceToNat, Int.reduceAdd, Int.reduceSub] at hr
    subst hr
    refine AWP_ret ?_
    with_reducible refine thenC_ret ?_
    cases hK
    refine EndsRW [3] (.inl rfl) (of_decide_eq_true rfl) (by simp) rfl (fun c x hr => ?_) endH
    simp only [go_sem, reduceIte, reduceCtorEq, Nat.reduceEqDiff, Nat.reduceLT, Nat.reduceLeDiff, Nat.reduceBEq, Nat.reduceAdd, Nat.reduceMul, Nat.reduceSub, Nat.reducePow, Int.reduceLE, Int.reduceLT, Int.reduceNeg, Int.reduceToNat, Int.reduceAdd, Int.reduceSub] at hr
    obtain ⟨rfl, rfl⟩ := hr
    exact ⟨rfl, endR⟩
  · replace hK := ite_f hK hb
    refine AWP_skip ?_
    with_reducible refine thenC_normal ?_
    refine AWP_seq ?_
    refine AWP_seq ?_
    -- region 4
    refine AWP_rl ?_
    refine AWPL_rn tab_ok 3 [1, 2, 4, 13, 15] fun c st' hr => ?_
    simp only [go_sem, reduceIte, reduceCtorEq, Nat.reduceEqDiff, Nat.reduceLT, Nat.reduceLeDiff, Nat.reduceBEq, Nat.reduceAdd, Nat.reduceMul, Nat.reduceSub, Nat.reducePow, Int.reduceLE, Int.reduceLT, Int.reduceNeg, Int.reduceToNat, Int.reduceAdd, Int.reduceSub] at hr
    obtain ⟨rfl, rfl⟩ := hr
    refine ⟨vc, ?_⟩
    replace hK := bind_s hK
    obtain ⟨y1, hy, hK⟩ := hK
    refine AWPL_callK [1, 2, 4, 16] (W_same_order hy) rfl rfl pcT rfl Try.call69 (.cons (.atom _ rfl) (.cons (.atom _ rfl) .nil)) (hscG trivial) (of_decide_eq_true rfl) (by first | rfl | simp [nI, nI1, nI0]) (by first | rfl | simp [nIB, nI0]) fun st' hr => ?_
    simp only [go_sem, reduceIte, reduceCtorEq, Nat.reduceEqDiff, Nat.reduceLT, Nat.reduceLeDiff, Nat.reduceBEq, Nat.reduceAdd, Nat.reduceMul, Nat.reduceSub, Nat.reducePow, Int.reduceLE, Int.reduceLT, Int.reduceNeg, Int.reduceToNat, Int.reduceAdd, Int.reduceSub] at hr
    subst hr
    clear hy
    refine AWPL_rn tab_ok 1 [1, 2, 4, 17] fun c st' hr => ?_
    simp only [go_sem, reduceIte, reduceCtorEq, Nat.reduceEqDiff, Nat.reduceLT, Nat.reduceLeDiff, Nat.reduceBEq, Nat.reduceAdd, Nat.reduceMul, Nat.reduceSub, Nat.reducePow, Int.reduceLE, Int.reduceLT, Int.reduceNeg, Int.reduceToNat, Int.reduceAdd, Int.reduceSub] at hr
    obtain ⟨rfl, rfl⟩ := hr
    refine ⟨vc, ?_⟩
    refine AWPL_nil ?_
    with_reducible refine thenC_normal ?_
    refine AWP_condP (¬ (y1 = true)) rfl bd (fun hb1 => ?_) (fun hb1 => ?_)
    · replace hK := ite_t hK hb1
      refine AWP_seq ?_
      -- region 5
      refine AWP_rg tab_ok [4, 5] fun c st' hr => ?_
      simp only [go_sem, reduceIte, reduceCtorEq, Nat.reduceEqDiff, Nat.reduceLT, Nat.reduceLeDiff, Nat.reduceBEq, Nat.reduceAdd, Nat.reduceMul, Nat.reduceSub, Nat.reducePow, Int.reduceLE, Int.reduceLT, Int.reduceNeg, Int.reduceToNat, Int.reduceAdd, Int.reduceSub] at hr
      obtain ⟨rfl, rfl⟩ := hr
      refine ⟨vc, ?_⟩
      with_reducible refine thenC_normal ?_
      refine AWP_ownH 1 1 (.ints 3 .i64 []) rfl rfl rfl fun st' hr => ?_
      simp only [go_sem, reduceIte, reduceCtorEq, Nat.reduceEqDiff, Nat.reduceLT, Nat.reduceLeDiff, Nat.reduceBEq, Nat.reduceAdd, Nat.reduceMul, Nat.reduceSub, Nat.reducePow, Int.reduceLE, Int.reduceLT, Int.reduceNeg, Int.reduceToNat, Int.reduceAdd, Int.reduceSub] at hr
      subst hr
      refine AWP_ret ?_
      with_reducible refine thenC_ret ?_
      cases hK
      refine EndsRW [3] (.inl rfl) (of_decide_eq_true rfl) (by simp) rfl (fun c x hr => ?_) endH
      simp only [go_sem, reduceIte, reduceCtorEq, Nat.reduceEqDiff, Nat.reduceLT, Nat.reduceLeDiff, Nat.reduceBEq, Nat.reduceAdd, Nat.reduceMul, Nat.reduceSub, Nat.reducePow, Int.reduceLE, Int.reduceLT, Int.reduceNeg, Int.reduceToNat, Int.reduceAdd, Int.reduceSub] at hr
      obtain ⟨rfl, rfl⟩ := hr
      exact ⟨rfl, endR⟩
    · replace hK := ite_f hK hb1
      refine AWP_skip ?_
      with_reducible refine thenC_normal ?_
      refine AWP_seq ?_
      -- region 6
      replace hK := bind_s hK
      obtain ⟨y2, hy, hK⟩ := hK
      refine AWP_drawJ ⟨25, [(4, .ptr 1 0 0), (5, .int .i64 0)], [some (.gen 24 2 [[.int .i64 m_0, .ints .i64 m_1]]), some (.gen 24 2 [[.int .i64 m_0, .own 3 y2.length]]), some (.ints 3 .i64 []), some (.ints 3 .i64 y2)]⟩ mixed ?_ ?_
      · refine AWPB_memo fun AA hAA => ?_
        have hn : AA 0 #[true, true, true, true, true, true, true, true] ⟨25, [(4, .ptr 1 0 0), (5, .int .i64 0)], [some (.gen 24 2 [[.int .i64 m_0, .ints .i64 m_1]]), some (.gen 24 2 [[.int .i64 m_0, .own 3 y2.length]]), some (.ints 3 .i64 []), some (.ints 3 .i64 y2)]⟩ := (hAA _ _ _).2 (by
          exact AWPB_end [0, 1, 2, 3] (by kernel_rfl) mkWk)
        have hn1 : AA 1 #[true, true, true, true, true, true, true, false] ⟨25, [(4, .ptr 1 0 0)], [some (.gen 24 2 [[.int .i64 m_0, .ints .i64 m_1]]), some (.gen 24 2 [[.int .i64 m_0, .own 3 y2.length]]), some (.ints 3 .i64 []), some (.ints 3 .i64 y2)]⟩ := (hAA _ _ _).2 (by
          refine AWPB_take tab_ok [4, 5] 7 _ rfl rfl (by kernel_rfl) fun c st' hr => ?_
          simp only [go_sem, reduceIte, reduceCtorEq, Nat.reduceEqDiff, Nat.reduceLT, Nat.reduceLeDiff, Nat.reduceBEq, Nat.reduceAdd, Nat.reduceMul, Nat.reduceSub, Nat.reducePow, Int.reduceLE, Int.reduceLT, Int.reduceNeg, Int.reduceToNat, Int.reduceAdd, Int.reduceSub] at hr
          obtain ⟨rfl, rfl⟩ := hr
          refine ⟨vc, ?_⟩
          exact AWPB_wk [0, 1, 2, 3] mkWk ((hAA _ _ _).1 hn))
        have hn2 : AA 2 #[true, true, true, true, true, true, false, false] ⟨25, [(4, .ptr 1 0 0), (24, .agg [.int .i64 m_0, .own 3 y2.length])], [some (.gen 24 2 [[.int .i64 m_0, .ints .i64 m_1]]), some (.gen 24 2 [[.int .i64 0, .own 2 0]]), some (.ints 3 .i64 []), some (.ints 3 .i64 y2)]⟩ := (hAA _ _ _).2 (by
          refine AWPB_one 6 _ (by kernel_rfl) rfl ?_
          refine AWPL_rn tab_ok 1 [4, 5] fun c st' hr => ?_
          simp only [go_sem, reduceIte, reduceCtorEq, Nat.reduceEqDiff, Nat.reduceLT, Nat.reduceLeDiff, Nat.reduceBEq, Nat.reduceAdd, Nat.reduceMul, Nat.reduceSub, Nat.reducePow, Int.reduceLE, Int.reduceLT, Int.reduceNeg, Int.reduceToNat, Int.reduceAdd, Int.reduceSub] at hr
          obtain ⟨rfl, rfl⟩ := hr
          refine ⟨vc, ?_⟩
          refine AWPL_nil ?_
          refine QB_normal ?_
          exact AWPB_wk [0, 1, 2, 3] mkWk ((hAA _ _ _).1 hn1))
        have hn3 : AA 3 #[true, true, true, true, true, false, false, false] ⟨25, [(4, .ptr 1 0 0), (20, .int .i64 m_0), (23, .own 3 y2.length)], [some (.gen 24 2 [[.int .i64 m_0, .ints .i64 m_1]]), some (.gen 24 2 [[.int .i64 0, .own 2 0]]), some (.ints 3 .i64 []), some (.ints 3 .i64 y2)]⟩ := (hAA _ _ _).2 (by
          refine AWPB_one 5 _ (by kernel_rfl) rfl ?_
          refine AWPL_rn tab_ok 1 [4, 5, 24] fun c st' hr => ?_
          simp only [go_sem, reduceIte, reduceCtorEq, Nat.reduceEqDiff, Nat.reduceLT, Nat.reduceLeDiff, Nat.reduceBEq, Nat.reduceAdd, Nat.reduceMul, Nat.reduceSub, Nat.reducePow, Int.reduceLE, Int.reduceLT, Int.reduceNeg, Int.reduceToNat, Int.reduceAdd, Int.reduceSub] at hr
          obtain ⟨rfl, rfl⟩ := hr
          refine ⟨vc, ?_⟩
          refine AWPL_nil ?_
          refine QB_normal ?_
          exact AWPB_wk [0, 1, 2, 3] mkWk ((hAA _ _ _).1 hn2))
        have hn4 : AA 4 #[true, true, true, true, false, false, false, false] ⟨25, [(4, .ptr 1 0 0), (20, .int .i64 m_0), (21, .agg [.int .i64 m_0, .ints .i64 m_1]), (22, .ints .i64 p)], [some (.gen 24 2 [[.int .i64 m_0, .ints .i64 m_1]]), some (.gen 24 2 [[.int .i64 0, .own 2 0]]), some (.ints 3 .i64 [])]⟩ := (hAA _ _ _).2 (by
          refine AWPB_one 4 _ (by kernel_rfl) rfl ?_
          refine AWPL_callK [4, 5, 20, 23, 24] (W_same_renamed hy) rfl rfl pcT rfl Try.call70 (.cons (.agg _ _ rfl (ArgsOk.get (.cons (.atom _ rfl) (.cons (.atom _ rfl) .nil))).2) (.cons (.atom _ rfl) .nil)) (hscG trivial) (of_decide_eq_true rfl) (by first | rfl | simp [nI, nI1, nI0]) (by first | rfl | simp [nIB, nI0]) fun st' hr => ?_
          simp only [go_sem, reduceIte, reduceCtorEq, Nat.reduceEqDiff, Nat.reduceLT, Nat.reduceLeDiff, Nat.reduceBEq, Nat.reduceAdd, Nat.reduceMul, Nat.reduceSub, Nat.reducePow, Int.reduceLE, Int.reduceLT, Int.reduceNeg, Int.reduceToNat, Int.reduceAdd, Int.reduceSub] at hr
          subst hr
          refine AWPL_nil ?_
          refine QB_normal ?_
          exact AWPB_wk [0, 1, 2, 3] mkWk ((hAA _ _ _).1 hn3))
        have hn5 : AA 5 #[true, true, false, true, false, false, false, false] ⟨25, [(2, .ptr 0 0 0), (4, .ptr 1 0 0), (20, .int .i64 m_0), (22, .ints .i64 p)], [some (.gen 24 2 [[.int .i64 m_0, .ints .i64 m_1]]), some (.gen 24 2 [[.int .i64 0, .own 2 0]]), some (.ints 3 .i64 [])]⟩ := (hAA _ _ _).2 (by
          refine AWPB_one 2 _ (by kernel_rfl) rfl ?_
          refine AWPL_rn tab_ok 1 [4, 5, 20, 21, 22, 23, 24] fun c st' hr => ?_
          simp only [go_sem, reduceIte, reduceCtorEq, Nat.reduceEqDiff, Nat.reduceLT, Nat.reduceLeDiff, Nat.reduceBEq, Nat.reduceAdd, Nat.reduceMul, Nat.reduceSub, Nat.reducePow, Int.reduceLE, Int.reduceLT, Int.reduceNeg, Int.reduceToNat, Int.reduceAdd, Int.reduceSub] at hr
          obtain ⟨rfl, rfl⟩ := hr
          refine ⟨vc, ?_⟩
          refine AWPL_nil ?_
          refine QB_normal ?_
          exact AWPB_wk [0, 1, 2] mkWk ((hAA _ _ _).1 hn4))
        have hn6 : AA 4 #[true, false, true, true, true, false, false, false] ⟨25, [(4, .ptr 1 0 0), (19, .ptr 0 0 0), (23, .own 3 y2.length)], [some (.gen 24 2 [[.int .i64 m_0, .ints .i64 m_1]]), some (.gen 24 2 [[.int .i64 0, .own 2 0]]), some (.ints 3 .i64 []), some (.ints 3 .i64 y2)]⟩ := (hAA _ _ _).2 (by
          refine AWPB_one 1 _ (by kernel_rfl) rfl ?_
          refine AWPL_rn tab_ok 1 [4, 5, 20, 23, 24] fun c st' hr => ?_
          simp only [go_sem, reduceIte, reduceCtorEq, Nat.reduceEqDiff, Nat.reduceLT, Nat.reduceLeDiff, Nat.reduceBEq, Nat.reduceAdd, Nat.reduceMul, Nat.reduceSub, Nat.reducePow, Int.reduceLE, Int.reduceLT, Int.reduceNeg, Int.reduceToNat, Int.reduceAdd, Int.reduceSub] at hr
          obtain ⟨rfl, rfl⟩ := hr
          refine ⟨vc, ?_⟩
          refine AWPL_nil ?_
          refine QB_normal ?_
          exact AWPB_wk [0, 1, 2, 3] mkWk ((hAA _ _ _).1 hn3))
        have hn7 : AA 5 #[true, false, true, true, false, false, false, false] ⟨25, [(4, .ptr 1 0 0), (19, .ptr 0 0 0), (21, .agg [.int .i64 m_0, .ints .i64 m_1]), (22, .ints .i64 p)], [some (.gen 24 2 [[.int .i64 m_0, .ints .i64 m_1]]), some (.gen 24 2 [[.int .i64 0, .own 2 0]]), some (.ints 3 .i64 [])]⟩ := (hAA _ _ _).2 (by
          refine AWPB_two 1 4 _ _ (by kernel_rfl) rfl rfl ?_ ?_
          · skip
            refine AWPL_rn tab_ok 1 [4, 5, 20, 21, 22, 23, 24] fun c st' hr => ?_
            simp only [go_sem, reduceIte, reduceCtorEq, Nat.reduceEqDiff, Nat.reduceLT, Nat.reduceLeDiff, Nat.reduceBEq, Nat.reduceAdd, Nat.reduceMul, Nat.reduceSub, Nat.reducePow, Int.reduceLE, Int.reduceLT, Int.reduceNeg, Int.reduceToNat, Int.reduceAdd, Int.reduceSub] at hr
            obtain ⟨rfl, rfl⟩ := hr
            refine ⟨vc, ?_⟩
            refine AWPL_nil ?_
            refine QB_normal ?_
            exact AWPB_wk [0, 1, 2] mkWk ((hAA _ _ _).1 hn4)
          · skip
            refine AWPL_callK [4, 5, 19, 20, 23, 24] (W_same_renamed hy) rfl rfl pcT rfl Try.call70 (.cons (.agg _ _ rfl (ArgsOk.get (.cons (.atom _ rfl) (.cons (.atom _ rfl) .nil))).2) (.cons (.atom _ rfl) .nil)) (hscG trivial) (of_decide_eq_true rfl) (by first | rfl | simp [nI, nI1, nI0]) (by first | rfl | simp [nIB, nI0]) fun st' hr => ?_
            simp only [go_sem, reduceIte, reduceCtorEq, Nat.reduceEqDiff, Nat.reduceLT, Nat.reduceLeDiff, Nat.reduceBEq, Nat.reduceAdd, Nat.reduceMul, Nat.reduceSub, Nat.reducePow, Int.reduceLE, Int.reduceLT, Int.reduceNeg, Int.reduceToNat, Int.reduceAdd, Int.reduceSub] at hr
            subst hr
            refine AWPL_nil ?_
            refine QB_normal ?_
            exact AWPB_wk [0, 1, 2, 3] mkWk ((hAA _ _ _).1 hn6))
        have hn8 : AA 6 #[true, false, false, true, false, false, false, false] ⟨25, [(2, .ptr 0 0 0), (4, .ptr 1 0 0), (19, .ptr 0 0 0), (22, .ints .i64 p)], [some (.gen 24 2 [[.int .i64 m_0, .ints .i64 m_1]]), some (.gen 24 2 [[.int .i64 0, .own 2 0]]), some (.ints 3 .i64 [])]⟩ := (hAA _ _ _).2 (by
          refine AWPB_two 1 2 _ _ (by kernel_rfl) rfl rfl ?_ ?_
          · skip
            refine AWPL_rn tab_ok 1 [2, 4, 5, 20, 21, 22, 23, 24] fun c st' hr => ?_
            simp only [go_sem, reduceIte, reduceCtorEq, Nat.reduceEqDiff, Nat.reduceLT, Nat.reduceLeDiff, Nat.reduceBEq, Nat.reduceAdd, Nat.reduceMul, Nat.reduceSub, Nat.reducePow, Int.reduceLE, Int.reduceLT, Int.reduceNeg, Int.reduceToNat, Int.reduceAdd, Int.reduceSub] at hr
            obtain ⟨rfl, rfl⟩ := hr
            refine ⟨vc, ?_⟩
            refine AWPL_nil ?_
            refine QB_normal ?_
            exact AWPB_wk [0, 1, 2] mkWk ((hAA _ _ _).1 hn5)
          · skip
            refine AWPL_rn tab_ok 1 [4, 5, 19, 20, 21, 22, 23, 24] fun c st' hr => ?_
            simp only [go_sem, reduceIte, reduceCtorEq, Nat.reduceEqDiff, Nat.reduceLT, Nat.reduceLeDiff, Nat.reduceBEq, Nat.reduceAdd, Nat.reduceMul, Nat.reduceSub, Nat.reducePow, Int.reduceLE, Int.reduceLT, Int.reduceNeg, Int.reduceToNat, Int.reduceAdd, Int.reduceSub] at hr
            obtain ⟨rfl, rfl⟩ := hr
            refine ⟨vc, ?_⟩
            refine AWPL_nil ?_
            refine QB_normal ?_
            exact AWPB_wk [0, 1, 2] mkWk ((hAA _ _ _).1 hn7))
        have hn9 : AA 5 #[false, false, true, true, true, false, false, false] ⟨25, [(2, .ptr 0 0 0), (4, .ptr 1 0 0), (23, .own 3 y2.length)], [some (.gen 24 2 [[.int .i64 m_0, .ints .i64 m_1]]), some (.gen 24 2 [[.int .i64 0, .own 2 0]]), some (.ints 3 .i64 []), some (.ints 3 .i64 y2)]⟩ := (hAA _ _ _).2 (by
          refine AWPB_one 0 _ (by kernel_rfl) rfl ?_
          refine AWPL_rn tab_ok 1 [4, 5, 19, 20, 23, 24] fun c st' hr => ?_
          simp only [go_sem, reduceIte, reduceCtorEq, Nat.reduceEqDiff, Nat.reduceLT, Nat.reduceLeDiff, Nat.reduceBEq, Nat.reduceAdd, Nat.reduceMul, Nat.reduceSub, Nat.reducePow, Int.reduceLE, Int.reduceLT, Int.reduceNeg, Int.reduceToNat, Int.reduceAdd, Int.reduceSub] at hr
          obtain ⟨rfl, rfl⟩ := hr
          refine ⟨vc, ?_⟩
          refine AWPL_nil ?_
          refine QB_normal ?_
          exact AWPB_wk [0, 1, 2, 3] mkWk ((hAA _ _ _).1 hn6))
        have hn10 : AA 6 #[false, false, true, true, false, false, false, false] ⟨25, [(2, .ptr 0 0 0), (4, .ptr 1 0 0), (21, .agg [.int .i64 m_0, .ints .i64 m_1]), (22, .ints .i64 p)], [some (.gen 24 2 [[.int .i64 m_0, .ints .i64 m_1]]), some (.gen 24 2 [[.int .i64 0, .own 2 0]]), some (.ints 3 .i64 [])]⟩ := (hAA _ _ _).2 (by
          refine AWPB_two 0 4 _ _ (by kernel_rfl) rfl rfl ?_ ?_
          · skip
            refine AWPL_rn tab_ok 1 [4, 5, 19, 20, 21, 22, 23, 24] fun c st' hr => ?_
            simp only [go_sem, reduceIte, reduceCtorEq, Nat.reduceEqDiff, Nat.reduceLT, Nat.reduceLeDiff, Nat.reduceBEq, Nat.reduceAdd, Nat.reduceMul, Nat.reduceSub, Nat.reducePow, Int.reduceLE, Int.reduceLT, Int.reduceNeg, Int.reduceToNat, Int.reduceAdd, Int.reduceSub] at hr
            obtain ⟨rfl, rfl⟩ := hr
            refine ⟨vc, ?_⟩
            refine AWPL_nil ?_
            refine QB_normal ?_
            exact AWPB_wk [0, 1, 2] mkWk ((hAA _ _ _).1 hn7)
          · skip
            refine AWPL_callK [2, 4, 5, 19, 20, 23, 24] (W_same_renamed hy) rfl rfl pcT rfl Try.call70 (.cons (.agg _ _ rfl (ArgsOk.get (.cons (.atom _ rfl) (.cons (.atom _ rfl) .nil))).2) (.cons (.atom _ rfl) .nil)) (hscG trivial) (of_decide_eq_true rfl) (by first | rfl | simp [nI, nI1, nI0]) (by first | rfl | simp [nIB, nI0]) fun st' hr => ?_
            simp only [go_sem, reduceIte, reduceCtorEq, Nat.reduceEqDiff, Nat.reduceLT, Nat.reduceLeDiff, Nat.reduceBEq, Nat.reduceAdd, Nat.reduceMul, Nat.reduceSub, Nat.reducePow, Int.reduceLE, Int.reduceLT, Int.reduceNeg, Int.reduceToNat, Int.reduceAdd, Int.reduceSub] at hr
            subst hr
            refine AWPL_nil ?_
            refine QB_normal ?_
            exact AWPB_wk [0, 1, 2, 3] mkWk ((hAA _ _ _).1 hn9))
        have hn11 : AA 7 #[false, false, false, true, false, false, false, false] ⟨25, [(2, .ptr 0 0 0), (4, .ptr 1 0 0), (22, .ints .i64 p)], [some (.gen 24 2 [[.int .i64 m_0, .ints .i64 m_1]]), some (.gen 24 2 [[.int .i64 0, .own 2 0]]), some (.ints 3 .i64 [])]⟩ := (hAA _ _ _).2 (by
          refine AWPB_two 0 2 _ _ (by kernel_rfl) rfl rfl ?_ ?_
          · skip
            refine AWPL_rn tab_ok 1 [2, 4, 5, 19, 20, 21, 22, 23, 24] fun c st' hr => ?_
            simp only [go_sem, reduceIte, reduceCtorEq, Nat.reduceEqDiff, Nat.reduceLT, Nat.reduceLeDiff, Nat.reduceBEq, Nat.reduceAdd, Nat.reduceMul, Nat.reduceSub, Nat.reducePow, Int.reduceLE, Int.reduceLT, Int.reduceNeg, Int.reduceToNat, Int.reduceAdd, Int.reduceSub] at hr
            obtain ⟨rfl, rfl⟩ := hr
            refine ⟨vc, ?_⟩
            refine AWPL_nil ?_
            refine QB_normal ?_
            exact AWPB_wk [0, 1, 2] mkWk ((hAA _ _ _).1 hn8)
          · skip
            refine AWPL_rn tab_ok 1 [2, 4, 5, 19, 20, 21, 22, 23, 24] fun c st' hr => ?_
            simp only [go_sem, reduceIte, reduceCtorEq, Nat.reduceEqDiff, Nat.reduceLT, Nat.reduceLeDiff, Nat.reduceBEq, Nat.reduceAdd, Nat.reduceMul, Nat.reduceSub, Nat.reducePow, Int.reduceLE, Int.reduceLT, Int.reduceNeg, Int.reduceToNat, Int.reduceAdd, Int.reduceSub] at hr
            obtain ⟨rfl, rfl⟩ := hr
            refine ⟨vc, ?_⟩
            refine AWPL_nil ?_
            refine QB_normal ?_
            exact AWPB_wk [0, 1, 2] mkWk ((hAA _ _ _).1 hn10))
        have hn12 : AA 8 #[false, false, false, false, false, false, false, false] ⟨25, [(1, .ints .i64 p), (2, .ptr 0 0 0), (4, .ptr 1 0 0)], [some (.gen 24 2 [[.int .i64 m_0, .ints .i64 m_1]]), some (.gen 24 2 [[.int .i64 0, .own 2 0]]), some (.ints 3 .i64 [])]⟩ := (hAA _ _ _).2 (by
          refine AWPB_take tab_ok [2, 4, 5, 19, 20, 21, 22, 23, 24] 3 _ rfl rfl (by kernel_rfl) fun c st' hr => ?_
          simp only [go_sem, reduceIte, reduceCtorEq, Nat.reduceEqDiff, Nat.reduceLT, Nat.reduceLeDiff, Nat.reduceBEq, Nat.reduceAdd, Nat.reduceMul, Nat.reduceSub, Nat.reducePow, Int.reduceLE, Int.reduceLT, Int.reduceNeg, Int.reduceToNat, Int.reduceAdd, Int.reduceSub] at hr
          obtain ⟨rfl, rfl⟩ := hr
          refine ⟨vc, ?_⟩
          exact AWPB_wk [0, 1, 2] mkWk ((hAA _ _ _).1 hn11))
        exact (hAA _ _ _).2 (AWPB_wk [0, 1, 2] mkWk ((hAA _ _ _).1 hn12))
      with_reducible refine thenC_normal ?_
      refine AWP_ret ?_
      cases hK
      refine EndsRW [3] (.inl rfl) (of_decide_eq_true rfl) (by simp) rfl (fun c x hr => ?_) endH
      simp only [go_sem, reduceIte, reduceCtorEq, Nat.reduceEqDiff, Nat.reduceLT, Nat.reduceLeDiff, Nat.reduceBEq, Nat.reduceAdd, Nat.reduceMul, Nat.reduceSub, Nat.reducePow, Int.reduceLE, Int.reduceLT, Int.reduceNeg, Int.reduceToNat, Int.reduceAdd, Int.reduceSub] at hr
      obtain ⟨rfl, rfl⟩ := hr
      exact ⟨rfl, endR⟩

end Go.SH
