/-
  That the code computes these functions: rotakeep_FlatsMobius. By a program of mine (shal.py). Conditions: none.
-/
import Derived.Test.YtdfclknhgpkghaaAxT
import Derived.Test.YtdfclknhgpkghaaAxR
import Derived.Test.YtdfclknhgpkghaaSkFlatsMobius
import Derived.Test.YtdfclknhgpkghaaWpaxioms
import Derived.Test.YtdfclknhgpkghaaWpflats
import Derived.Test.YtdfclknhgpkghaaWprotakeep
import Derived.Test.YtdfclknhgpkghaaWprotalaw
import Derived.Test.YtdfclknhgpkghaaWprotaref
import Derived.Test.YtdfclknhgpkghaaWpslices
set_option linter.unusedVariables false
set_option linter.unusedSimpArgs false
namespace Go.SH
open Go Go.AX Go.AX.Try Go.Proofs

set_option maxRecDepth 8000 in
set_option maxHeartbeats 4000000 in
theorem W_rotakeep_FlatsMobius {m_0 : Int} {m_1 : List Int} {a1 : Int} {r : Bool} (hK : rotakeep_FlatsMobius m_0 m_1 a1 = some r) : Pure Try.prog 4 [.agg [.int .i64 m_0, .ints .i64 m_1], .int .i64 a1] (.bool r) [] := by
  refine Pure_introF tab_ok (n := 182) (l := [.tmp 4]) Try.func4 rfl rfl rfl (by simp) fun hfact w0 => ?_
  simp only [factL1, fact1, fact0, factL0, lo, hi, maxLen, and_true] at hfact
  unfold rotakeep_FlatsMobius at hK
  refine AWP_seq ?_
  -- region 0
  refine AWP_rg tab_ok [1, 2] fun c st' hr => ?_
  simp only [go_sem, reduceIte, reduceCtorEq, Nat.reduceEqDiff, Nat.reduceLT, Nat.reduceLeDiff, Nat.reduceBEq, Nat.reduceAdd, Nat.reduceMul, Nat.reduceSub, Nat.reducePow, Int.reduceLE, Int.reduceLT, Int.reduceNeg, Int.reduceToNat, Int.reduceAdd, Int.reduceSub] at hr
  obtain ⟨rfl, rfl⟩ := hr
  refine ⟨vc, ?_⟩
  with_reducible refine thenC_normal ?_
  refine AWP_seq ?_
  refine AWP_seq ?_
  -- region 1
  refine AWP_rl ?_
  replace hK := bind_s hK
  obtain ⟨y, hy, hK⟩ := hK
  refine AWPL_callK [1, 2, 25] (W_rotakeep_two hy) rfl rfl pcT rfl Try.call21 .nil (hscG trivial) (of_decide_eq_true rfl) (by first | rfl | simp [nI, nI1, nI0]) (by first | rfl | simp [nIB, nI0]) fun st' hr => ?_
  simp only [go_sem, reduceIte, reduceCtorEq, Nat.reduceEqDiff, Nat.reduceLT, Nat.reduceLeDiff, Nat.reduceBEq, Nat.reduceAdd, Nat.reduceMul, Nat.reduceSub, Nat.reducePow, Int.reduceLE, Int.reduceLT, Int.reduceNeg, Int.reduceToNat, Int.reduceAdd, Int.reduceSub] at hr
  subst hr
  clear hy
  replace hK := bind_s hK
  obtain ⟨y1, hy, hK⟩ := hK
  refine AWPL_callK [1, 2, 26] (W_flats_Chains hy) rfl rfl pcT rfl Try.call20 (.cons (.agg _ _ rfl (ArgsOk.get (.cons (.atom _ rfl) (.cons (.ownI _ _ _ _ _ y.2 rfl (by simp) (by simp)) .nil))).2) .nil) (hscG trivial) (of_decide_eq_true rfl) (by first | rfl | simp [nI, nI1, nI0]) (by first | rfl | simp [nIB, nI0]) fun st' hr => ?_
  simp only [go_sem, reduceIte, reduceCtorEq, Nat.reduceEqDiff, Nat.reduceLT, Nat.reduceLeDiff, Nat.reduceBEq, Nat.reduceAdd, Nat.reduceMul, Nat.reduceSub, Nat.reducePow, Int.reduceLE, Int.reduceLT, Int.reduceNeg, Int.reduceToNat, Int.reduceAdd, Int.reduceSub] at hr
  subst hr
  clear hy
  refine AWPL_rn tab_ok 5 [1, 2, 5, 6] fun c st' hr => ?_
  simp only [go_sem, reduceIte, reduceCtorEq, Nat.reduceEqDiff, Nat.reduceLT, Nat.reduceLeDiff, Nat.reduceBEq, Nat.reduceAdd, Nat.reduceMul, Nat.reduceSub, Nat.reducePow, Int.reduceLE, Int.reduceLT, Int.reduceNeg, Int.reduceToNat, Int.reduceAdd, Int.reduceSub] at hr
  obtain ⟨rfl, rfl⟩ := hr
  refine ⟨vc, ?_⟩
  refine AWPL_nil ?_
  with_reducible refine thenC_normal ?_
  refine AWP_seq ?_
  -- region 2
  refine AWP_rg tab_ok [1, 2, 34] fun c st' hr => ?_
  simp only [go_sem, reduceIte, reduceCtorEq, Nat.reduceEqDiff, Nat.reduceLT, Nat.reduceLeDiff, Nat.reduceBEq, Nat.reduceAdd, Nat.reduceMul, Nat.reduceSub, Nat.reducePow, Int.reduceLE, Int.reduceLT, Int.reduceNeg, Int.reduceToNat, Int.reduceAdd, Int.reduceSub] at hr
  obtain ⟨rfl, rfl⟩ := hr
  refine ⟨vc, ?_⟩
  with_reducible refine thenC_normal ?_
  refine AWP_condP ((y1.2 ≠ 0 ∨ y1.1 ≠ 4)) rfl bd (fun hb => ?_) (fun hb => ?_)
  · replace hK := ite_t hK hb
    refine AWP_seq ?_
    -- region 3
    refine AWP_rg tab_ok [4] fun c st' hr => ?_
    simp only [go_sem, reduceIte, reduceCtorEq, Nat.reduceEqDiff, Nat.reduceLT, Nat.reduceLeDiff, Nat.reduceBEq, Nat.reduceAdd, Nat.reduceMul, Nat.reduceSub, Nat.reducePow, Int.reduceLE, Int.reduceLT, Int.reduceNeg, Int.reduceToNat, Int.reduceAdd, Int.reduceSub] at hr
    obtain ⟨rfl, rfl⟩ := hr
    refine ⟨vc, ?_⟩
    with_reducible refine thenC_normal ?_
    refine AWP_ret ?_
    with_reducible refine thenC_ret ?_
    cases hK
    refine EndsRW [] (.inl rfl) (of_decide_eq_true rfl) (by simp) rfl (fun c x hr => ?_) trivial
    simp only [go_sem, reduceIte, reduceCtorEq, Nat.reduceEqDiff, Nat.reduceLT, Nat.reduceLeDiff, Nat.reduceBEq, Nat.reduceAdd, Nat.reduceMul, Nat.reduceSub, Nat.reducePow, Int.reduceLE, Int.reduceLT, Int.reduceNeg, Int.reduceToNat, Int.reduceAdd, Int.reduceSub] at hr
    obtain ⟨rfl, rfl⟩ := hr
    exact ⟨rfl, endR⟩
  · replace hK := ite_f hK hb
    refine AWP_skip ?_
    with_reducible refine thenC_normal ?_
    refine AWP_seq ?_
    -- region 4
    refine AWP_rl ?_
    refine AWPL_rn tab_ok 1 [1, 2, 36] fun c st' hr => ?_
    simp only [go_sem, reduceIte, reduceCtorEq, Nat.reduceEqDiff, Nat.reduceLT, Nat.reduceLeDiff, Nat.reduceBEq, Nat.reduceAdd, Nat.reduceMul, Nat.reduceSub, Nat.reducePow, Int.reduceLE, Int.reduceLT, Int.reduceNeg, Int.reduceToNat, Int.reduceAdd, Int.reduceSub] at hr
    obtain ⟨rfl, rfl⟩ := hr
    refine ⟨vc, ?_⟩
    replace hK := bind_s hK
    obtain ⟨y2, hy, hK⟩ := hK
    refine AWPL_callK [1, 2, 37] (W_axioms_Flats hy) rfl rfl pcT rfl Try.call22 (.cons (.agg _ _ rfl (ArgsOk.get (.cons (.atom _ rfl) (.cons (.atom _ rfl) .nil))).2) .nil) (hscG trivial) (of_decide_eq_true rfl) (by first | rfl | simp [nI, nI1, nI0]) (by first | rfl | simp [nIB, nI0]) fun st' hr => ?_
    simp only [go_sem, reduceIte, reduceCtorEq, Nat.reduceEqDiff, Nat.reduceLT, Nat.reduceLeDiff, Nat.reduceBEq, Nat.reduceAdd, Nat.reduceMul, Nat.reduceSub, Nat.reducePow, Int.reduceLE, Int.reduceLT, Int.reduceNeg, Int.reduceToNat, Int.reduceAdd, Int.reduceSub] at hr
    subst hr
    clear hy
    refine AWPL_rn tab_ok 5 [1, 2, 7, 8] fun c st' hr => ?_
    simp only [go_sem, reduceIte, reduceCtorEq, Nat.reduceEqDiff, Nat.reduceLT, Nat.reduceLeDiff, Nat.reduceBEq, Nat.reduceAdd, Nat.reduceMul, Nat.reduceSub, Nat.reducePow, Int.reduceLE, Int.reduceLT, Int.reduceNeg, Int.reduceToNat, Int.reduceAdd, Int.reduceSub] at hr
    obtain ⟨rfl, rfl⟩ := hr
    refine ⟨vc, ?_⟩
    refine AWPL_nil ?_
    with_reducible refine thenC_normal ?_
    refine AWP_seq ?_
    -- region 5
    refine AWP_rl ?_
    refine AWPL_rn tab_ok 1 [1, 2, 7, 8, 41] fun c st' hr => ?_
    simp only [go_sem, reduceIte, reduceCtorEq, Nat.reduceEqDiff, Nat.reduceLT, Nat.reduceLeDiff, Nat.reduceBEq, Nat.reduceAdd, Nat.reduceMul, Nat.reduceSub, Nat.reducePow, Int.reduceLE, Int.reduceLT, Int.reduceNeg, Int.reduceToNat, Int.reduceAdd, Int.reduceSub] at hr
    obtain ⟨rfl, rfl⟩ := hr
    refine ⟨vc, ?_⟩
    replace hK := bind_s hK
    obtain ⟨y3, hy, hK⟩ := hK
    refine AWPL_callK [1, 2, 7, 8, 42] (W_flats_Mobius hy) rfl rfl pcT rfl Try.call23 (.cons (.agg _ _ rfl (ArgsOk.get (.cons (.atom _ rfl) (.cons (.atom _ rfl) .nil))).2) .nil) (hscG trivial) (of_decide_eq_true rfl) (by first | rfl | simp [nI, nI1, nI0]) (by first | rfl | simp [nIB, nI0]) fun st' hr => ?_
    simp only [go_sem, reduceIte, reduceCtorEq, Nat.reduceEqDiff, Nat.reduceLT, Nat.reduceLeDiff, Nat.reduceBEq, Nat.reduceAdd, Nat.reduceMul, Nat.reduceSub, Nat.reducePow, Int.reduceLE, Int.reduceLT, Int.reduceNeg, Int.reduceToNat, Int.reduceAdd, Int.reduceSub] at hr
    subst hr
    clear hy
    refine AWPL_rn tab_ok 5 [1, 2, 7, 8, 9, 10] fun c st' hr => ?_
    simp only [go_sem, reduceIte, reduceCtorEq, Nat.reduceEqDiff, Nat.reduceLT, Nat.reduceLeDiff, Nat.reduceBEq, Nat.reduceAdd, Nat.reduceMul, Nat.reduceSub, Nat.reducePow, Int.reduceLE, Int.reduceLT, Int.reduceNeg, Int.reduceToNat, Int.reduceAdd, Int.reduceSub] at hr
    obtain ⟨rfl, rfl⟩ := hr
    refine ⟨vc, ?_⟩
    refine AWPL_nil ?_
    with_reducible refine thenC_normal ?_
    refine AWP_seq ?_
    refine AWP_seq ?_
    -- region 6
    refine AWP_rg tab_ok [1, 2, 7, 8, 9, 10, 46] fun c st' hr => ?_
    simp only [go_sem, reduceIte, reduceCtorEq, Nat.reduceEqDiff, Nat.reduceLT, Nat.reduceLeDiff, Nat.reduceBEq, Nat.reduceAdd, Nat.reduceMul, Nat.reduceSub, Nat.reducePow, Int.reduceLE, Int.reduceLT, Int.reduceNeg, Int.reduceToNat, Int.reduceAdd, Int.reduceSub] at hr
    obtain ⟨rfl, rfl⟩ := hr
    refine ⟨vc, ?_⟩
    with_reducible refine thenC_normal ?_
    refine AWP_condP (y2.2 ≠ 0) rfl bd (fun hb1 => ?_) (fun hb1 => ?_)
    · replace hK := ite_t hK hb1
      refine AWP_seq ?_
      -- region 7
      refine AWP_rg tab_ok [4] fun c st' hr => ?_
      simp only [go_sem, reduceIte, reduceCtorEq, Nat.reduceEqDiff, Nat.reduceLT, Nat.reduceLeDiff, Nat.reduceBEq, Nat.reduceAdd, Nat.reduceMul, Nat.reduceSub, Nat.reducePow, Int.reduceLE, Int.reduceLT, Int.reduceNeg, Int.reduceToNat, Int.reduceAdd, Int.reduceSub] at hr
      obtain ⟨rfl, rfl⟩ := hr
      refine ⟨vc, ?_⟩
      with_reducible refine thenC_normal ?_
      refine AWP_ret ?_
      with_reducible refine thenC_ret ?_
      cases hK
      refine EndsRW [] (.inl rfl) (of_decide_eq_true rfl) (by simp) rfl (fun c x hr => ?_) trivial
      simp only [go_sem, reduceIte, reduceCtorEq, Nat.reduceEqDiff, Nat.reduceLT, Nat.reduceLeDiff, Nat.reduceBEq, Nat.reduceAdd, Nat.reduceMul, Nat.reduceSub, Nat.reducePow, Int.reduceLE, Int.reduceLT, Int.reduceNeg, Int.reduceToNat, Int.reduceAdd, Int.reduceSub] at hr
      obtain ⟨rfl, rfl⟩ := hr
      exact ⟨rfl, endR⟩
    · replace hK := ite_f hK hb1
      refine AWP_skip ?_
      with_reducible refine thenC_normal ?_
      refine AWP_seq ?_
      refine AWP_seq ?_
      -- region 8
      refine AWP_rg tab_ok [1, 2, 7, 9, 63] fun c st' hr => ?_
      simp only [go_sem, reduceIte, reduceCtorEq, Nat.reduceEqDiff, Nat.reduceLT, Nat.reduceLeDiff, Nat.reduceBEq, Nat.reduceAdd, Nat.reduceMul, Nat.reduceSub, Nat.reducePow, Int.reduceLE, Int.reduceLT, Int.reduceNeg, Int.reduceToNat, Int.reduceAdd, Int.reduceSub] at hr
      obtain ⟨rfl, rfl⟩ := hr
      refine ⟨vc, ?_⟩
      with_reducible refine thenC_normal ?_
      refine AWP_condP ((y3.2 ≠ 0 ∨ (y3.1.length : Int) ≠ (y2.1.length : Int))) rfl bd (fun hb2 => ?_) (fun hb2 => ?_)
      · replace hK := ite_t hK hb2
        refine AWP_seq ?_
        -- region 9
        refine AWP_rg tab_ok [4] fun c st' hr => ?_
        simp only [go_sem, reduceIte, reduceCtorEq, Nat.reduceEqDiff, Nat.reduceLT, Nat.reduceLeDiff, Nat.reduceBEq, Nat.reduceAdd, Nat.reduceMul, Nat.reduceSub, Nat.reducePow, Int.reduceLE, Int.reduceLT, Int.reduceNeg, Int.reduceToNat, Int.reduceAdd, Int.reduceSub] at hr
        obtain ⟨rfl, rfl⟩ := hr
        refine ⟨vc, ?_⟩
        with_reducible refine thenC_normal ?_
        refine AWP_ret ?_
        with_reducible refine thenC_ret ?_
        cases hK
        refine EndsRW [] (.inl rfl) (of_decide_eq_true rfl) (by simp) rfl (fun c x hr => ?_) trivial
        simp only [go_sem, reduceIte, reduceCtorEq, Nat.reduceEqDiff, Nat.reduceLT, Nat.reduceLeDiff, Nat.reduceBEq, Nat.reduceAdd, Nat.reduceMul, Nat.reduceSub, Nat.reducePow, Int.reduceLE, Int.reduceLT, Int.reduceNeg, Int.reduceToNat, Int.reduceAdd, Int.reduceSub] at hr
        obtain ⟨rfl, rfl⟩ := hr
        exact ⟨rfl, endR⟩
      · replace hK := ite_f hK hb2
        refine AWP_skip ?_
        with_reducible refine thenC_normal ?_
        refine AWP_seq ?_
        refine AWP_seq ?_
        -- region 10
        refine AWP_rg tab_ok [1, 2, 7, 9, 64, 65, 66] fun c st' hr => ?_
        simp only [go_sem, reduceIte, reduceCtorEq, Nat.reduceEqDiff, Nat.reduceLT, Nat.reduceLeDiff, Nat.reduceBEq, Nat.reduceAdd, Nat.reduceMul, Nat.reduceSub, Nat.reducePow, Int.reduceLE, Int.reduceLT, Int.reduceNeg, Int.reduceToNat, Int.reduceAdd, Int.reduceSub] at hr
        obtain ⟨rfl, rfl⟩ := hr
        refine ⟨vc, ?_⟩
        with_reducible refine thenC_normal ?_
        refine AWP_block ?_
        refine AWP_loopX 0 (fun (v : Int) => ⟨182, [(1, .int .i64 a1), (2, .ptr 0 0 0), (7, .own 1 y2.1.length), (9, .own 2 y3.1.length), (64, .own 1 y2.1.length), (65, .int .i64 (y2.1.length : Int)), (66, .int .i64 v)], [some (.gen 38 2 [[.int .i64 m_0, .ints .i64 m_1]]), some (.ints 3 .i64 y2.1), some (.ints 2 .i64 y3.1)]⟩) (fun (_ : Unit) => ⟨182, [(1, .int .i64 a1), (2, .ptr 0 0 0), (7, .own 1 y2.1.length), (9, .own 2 y3.1.length)], [some (.gen 38 2 [[.int .i64 m_0, .ints .i64 m_1]]), some (.ints 3 .i64 y2.1), some (.ints 2 .i64 y3.1)]⟩) Sum.inl 0 [0, 2, 3] hK mkWk ?_ ?_
        · clear hK; rintro v b hK hpost1
          try dsimp only at hK
          change AWP _ _ _ _ ⟨182, [(1, .int .i64 a1), (2, .ptr 0 0 0), (7, .own 1 y2.1.length), (9, .own 2 y3.1.length), (64, .own 1 y2.1.length), (65, .int .i64 (y2.1.length : Int)), (66, .int .i64 v)], [some (.gen 38 2 [[.int .i64 m_0, .ints .i64 m_1]]), some (.ints 3 .i64 y2.1), some (.ints 2 .i64 y3.1)]⟩
          refine AWP_seq ?_
          -- region 11
          refine AWP_rg tab_ok [1, 2, 7, 9, 64, 65, 66, 67] fun c st' hr => ?_
          simp only [go_sem, reduceIte, reduceCtorEq, Nat.reduceEqDiff, Nat.reduceLT, Nat.reduceLeDiff, Nat.reduceBEq, Nat.reduceAdd, Nat.reduceMul, Nat.reduceSub, Nat.reducePow, Int.reduceLE, Int.reduceLT, Int.reduceNeg, Int.reduceToNat, Int.reduceAdd, Int.reduceSub] at hr
          obtain ⟨rfl, rfl⟩ := hr
          refine ⟨vc, ?_⟩
          with_reducible refine thenC_normal ?_
          refine AWP_seq ?_
          refine AWP_condP (v < (y2.1.length : Int)) rfl bd (fun hb3 => ?_) (fun hb3 => ?_)
          · replace hK := ite_t hK hb3
            refine AWP_skip ?_
            with_reducible refine thenC_normal ?_
            refine AWP_seq ?_
            refine AWP_block ?_
            refine AWP_seq ?_
            -- region 12
            replace hK := chk_some hK
            obtain ⟨h, hK⟩ := hK
            refine AWP_rg tab_ok [1, 2, 7, 9, 12, 64, 65, 66] fun c st' hr => ?_
            simp only [go_sem, reduceIte, reduceCtorEq, Nat.reduceEqDiff, Nat.reduceLT, Nat.reduceLeDiff, Nat.reduceBEq, Nat.reduceAdd, Nat.reduceMul, Nat.reduceSub, Nat.reducePow, Int.reduceLE, Int.reduceLT, Int.reduceNeg, Int.reduceToNat, Int.reduceAdd, Int.reduceSub] at hr
            obtain ⟨rfl, rfl⟩ := hr
            refine ⟨vc, ?_⟩
            with_reducible refine thenC_normal ?_
            refine AWP_seq ?_
            -- region 13
            refine AWP_rg tab_ok [1, 2, 7, 9, 12, 13, 64, 65, 66] fun c st' hr => ?_
            simp only [go_sem, reduceIte, reduceCtorEq, Nat.reduceEqDiff, Nat.reduceLT, Nat.reduceLeDiff, Nat.reduceBEq, Nat.reduceAdd, Nat.reduceMul, Nat.reduceSub, Nat.reducePow, Int.reduceLE, Int.reduceLT, Int.reduceNeg, Int.reduceToNat, Int.reduceAdd, Int.reduceSub] at hr
            obtain ⟨rfl, rfl⟩ := hr
            refine ⟨vc, ?_⟩
            with_reducible refine thenC_normal ?_
            refine AWP_seq ?_
            refine AWP_seq ?_
            -- region 14
            refine AWP_rg tab_ok [1, 2, 7, 9, 12, 13, 64, 65, 66, 70, 71, 72] fun c st' hr => ?_
            simp only [go_sem, reduceIte, reduceCtorEq, Nat.reduceEqDiff, Nat.reduceLT, Nat.reduceLeDiff, Nat.reduceBEq, Nat.reduceAdd, Nat.reduceMul, Nat.reduceSub, Nat.reducePow, Int.reduceLE, Int.reduceLT, Int.reduceNeg, Int.reduceToNat, Int.reduceAdd, Int.reduceSub] at hr
            obtain ⟨rfl, rfl⟩ := hr
            refine ⟨vc, ?_⟩
            with_reducible refine thenC_normal ?_
            refine AWP_block ?_
            refine AWP_loopX 2 (fun ((v1, v2) : Int × Int) => ⟨182, [(1, .int .i64 a1), (2, .ptr 0 0 0), (7, .own 1 y2.1.length), (9, .own 2 y3.1.length), (12, .int .i64 (y2.1.getD v.toNat 0)), (13, .int .i64 v1), (64, .own 1 y2.1.length), (65, .int .i64 (y2.1.length : Int)), (66, .int .i64 v), (70, .own 1 y2.1.length), (71, .int .i64 (y2.1.length : Int)), (72, .int .i64 v2)], [some (.gen 38 2 [[.int .i64 m_0, .ints .i64 m_1]]), some (.ints 3 .i64 y2.1), some (.ints 2 .i64 y3.1)]⟩) (fun (v3 : Int) => ⟨182, [(1, .int .i64 a1), (2, .ptr 0 0 0), (7, .own 1 y2.1.length), (9, .own 2 y3.1.length), (12, .int .i64 (y2.1.getD v.toNat 0)), (13, .int .i64 v3), (64, .own 1 y2.1.length), (65, .int .i64 (y2.1.length : Int)), (66, .int .i64 v)], [some (.gen 38 2 [[.int .i64 m_0, .ints .i64 m_1]]), some (.ints 3 .i64 y2.1), some (.ints 2 .i64 y3.1)]⟩) (fun v => v) (0, 0) [0, 1, 2] hK mkWk ?_ ?_
            · clear hK; rintro ⟨v1, v2⟩ b1 hK hpost2
              try dsimp only at hK
              change AWP _ _ _ _ ⟨182, [(1, .int .i64 a1), (2, .ptr 0 0 0), (7, .own 1 y2.1.length), (9, .own 2 y3.1.length), (12, .int .i64 (y2.1.getD v.toNat 0)), (13, .int .i64 v1), (64, .own 1 y2.1.length), (65, .int .i64 (y2.1.length : Int)), (66, .int .i64 v), (70, .own 1 y2.1.length), (71, .int .i64 (y2.1.length : Int)), (72, .int .i64 v2)], [some (.gen 38 2 [[.int .i64 m_0, .ints .i64 m_1]]), some (.ints 3 .i64 y2.1), some (.ints 2 .i64 y3.1)]⟩
              refine AWP_seq ?_
              -- region 15
              refine AWP_rg tab_ok [1, 2, 7, 9, 12, 13, 64, 65, 66, 70, 71, 72, 73] fun c st' hr => ?_
              simp only [go_sem, reduceIte, reduceCtorEq, Nat.reduceEqDiff, Nat.reduceLT, Nat.reduceLeDiff, Nat.reduceBEq, Nat.reduceAdd, Nat.reduceMul, Nat.reduceSub, Nat.reducePow, Int.reduceLE, Int.reduceLT, Int.reduceNeg, Int.reduceToNat, Int.reduceAdd, Int.reduceSub] at hr
              obtain ⟨rfl, rfl⟩ := hr
              refine ⟨vc, ?_⟩
              with_reducible refine thenC_normal ?_
              refine AWP_seq ?_
              refine AWP_condP (v2 < (y2.1.length : Int)) rfl bd (fun hb4 => ?_) (fun hb4 => ?_)
              · replace hK := ite_t hK hb4
                refine AWP_skip ?_
                with_reducible refine thenC_normal ?_
                refine AWP_seq ?_
                refine AWP_block ?_
                refine AWP_seq ?_
                -- region 16
                replace hK := chk_some hK
                obtain ⟨h1, hK⟩ := hK
                refine AWP_rg tab_ok [1, 2, 7, 9, 12, 13, 14, 15, 64, 65, 66, 70, 71, 72] fun c st' hr => ?_
                simp only [go_sem, reduceIte, reduceCtorEq, Nat.reduceEqDiff, Nat.reduceLT, Nat.reduceLeDiff, Nat.reduceBEq, Nat.reduceAdd, Nat.reduceMul, Nat.reduceSub, Nat.reducePow, Int.reduceLE, Int.reduceLT, Int.reduceNeg, Int.reduceToNat, Int.reduceAdd, Int.reduceSub] at hr
                obtain ⟨rfl, rfl⟩ := hr
                refine ⟨vc, ?_⟩
                with_reducible refine thenC_normal ?_
                refine AWP_seq ?_
                -- region 17
                refine AWP_rl ?_
                refine AWPL_rn tab_ok 2 [1, 2, 7, 9, 12, 13, 14, 64, 65, 66, 70, 71, 72, 77, 78] fun c st' hr => ?_
                simp only [go_sem, reduceIte, reduceCtorEq, Nat.reduceEqDiff, Nat.reduceLT, Nat.reduceLeDiff, Nat.reduceBEq, Nat.reduceAdd, Nat.reduceMul, Nat.reduceSub, Nat.reducePow, Int.reduceLE, Int.reduceLT, Int.reduceNeg, Int.reduceToNat, Int.reduceAdd, Int.reduceSub] at hr
                obtain ⟨rfl, rfl⟩ := hr
                refine ⟨vc, ?_⟩
                replace hK := bind_s hK
                obtain ⟨y4, hy, hK⟩ := hK
                refine AWPL_callK [1, 2, 7, 9, 12, 13, 14, 64, 65, 66, 70, 71, 72, 79] (W_rotaref_Within hy) rfl rfl pcT rfl Try.call24 (.cons (.atom _ rfl) (.cons (.atom _ rfl) .nil)) (hscG trivial) (of_decide_eq_true rfl) (by first | rfl | simp [nI, nI1, nI0]) (by first | rfl | simp [nIB, nI0]) fun st' hr => ?_
                simp only [go_sem, reduceIte, reduceCtorEq, Nat.reduceEqDiff, Nat.reduceLT, Nat.reduceLeDiff, Nat.reduceBEq, Nat.reduceAdd, Nat.reduceMul, Nat.reduceSub, Nat.reducePow, Int.reduceLE, Int.reduceLT, Int.reduceNeg, Int.reduceToNat, Int.reduceAdd, Int.reduceSub] at hr
                subst hr
                clear hy
                refine AWPL_nil ?_
                with_reducible refine thenC_normal ?_
                refine AWP_condP (y4 = true) rfl bd (fun hb5 => ?_) (fun hb5 => ?_)
                · replace hK := ite_t hK hb5
                  -- region 18
                  replace hK := chk_some hK
                  obtain ⟨h2, hK⟩ := hK
                  refine AWP_rg tab_ok [1, 2, 7, 9, 12, 13, 64, 65, 66, 70, 71, 72] fun c st' hr => ?_
                  simp only [go_sem, reduceIte, reduceCtorEq, Nat.reduceEqDiff, Nat.reduceLT, Nat.reduceLeDiff, Nat.reduceBEq, Nat.reduceAdd, Nat.reduceMul, Nat.reduceSub, Nat.reducePow, Int.reduceLE, Int.reduceLT, Int.reduceNeg, Int.reduceToNat, Int.reduceAdd, Int.reduceSub] at hr
                  obtain ⟨rfl, rfl⟩ := hr
                  refine ⟨vc, ?_⟩
                  with_reducible refine inBlockA_normal (thenC_normal ?_)
                  -- region 19
                  refine AWP_facts (by simp) fun hfx => ?_
                  simp only [factS, factV, fact1, fact0, factL0, lo, hi, maxLen, and_true, true_and] at hfx
                  refine AWP_rg tab_ok [1, 2, 7, 9, 12, 13, 64, 65, 66, 70, 71, 72] fun c st' hr => ?_
                  simp only [go_sem, reduceIte, reduceCtorEq, Nat.reduceEqDiff, Nat.reduceLT, Nat.reduceLeDiff, Nat.reduceBEq, Nat.reduceAdd, Nat.reduceMul, Nat.reduceSub, Nat.reducePow, Int.reduceLE, Int.reduceLT, Int.reduceNeg, Int.reduceToNat, Int.reduceAdd, Int.reduceSub] at hr
                  obtain ⟨rfl, rfl⟩ := hr
                  refine ⟨vc, ?_⟩
                  clear hfx
                  refine again_n (v1 + (y3.1.getD v2.toNat 0), v2 + 1) [0, 1, 2] hK mkWk
                · replace hK := ite_f hK hb5
                  refine AWP_skip ?_
                  with_reducible refine inBlockA_normal (thenC_normal ?_)
                  -- region 19
                  refine AWP_facts (by simp) fun hfx => ?_
                  simp only [factS, factV, fact1, fact0, factL0, lo, hi, maxLen, and_true, true_and] at hfx
                  refine AWP_rg tab_ok [1, 2, 7, 9, 12, 13, 64, 65, 66, 70, 71, 72] fun c st' hr => ?_
                  simp only [go_sem, reduceIte, reduceCtorEq, Nat.reduceEqDiff, Nat.reduceLT, Nat.reduceLeDiff, Nat.reduceBEq, Nat.reduceAdd, Nat.reduceMul, Nat.reduceSub, Nat.reducePow, Int.reduceLE, Int.reduceLT, Int.reduceNeg, Int.reduceToNat, Int.reduceAdd, Int.reduceSub] at hr
                  obtain ⟨rfl, rfl⟩ := hr
                  refine ⟨vc, ?_⟩
                  clear hfx
                  refine again_n (v1, v2 + 1) [0, 1, 2] hK mkWk
              · replace hK := ite_f hK hb4
                refine AWP_exit ?_
                with_reducible refine thenC_exit (again_x ?_)
                refine cutX_here v1 [0, 1, 2] (hpost2 _ hK) mkWk
            · clear hK; rintro v3 hK
              try dsimp only at hK
              refine exS ⟨182, [(1, .int .i64 a1), (2, .ptr 0 0 0), (7, .own 1 y2.1.length), (9, .own 2 y3.1.length), (12, .int .i64 (y2.1.getD v.toNat 0)), (13, .int .i64 v3), (64, .own 1 y2.1.length), (65, .int .i64 (y2.1.length : Int)), (66, .int .i64 v)], [some (.gen 38 2 [[.int .i64 m_0, .ints .i64 m_1]]), some (.ints 3 .i64 y2.1), some (.ints 2 .i64 y3.1)]⟩ rfl ?_
              with_reducible refine inBlockA_exit (thenC_normal ?_)
              refine AWP_seq ?_
              -- region 20
              replace hK := chk_some hK
              obtain ⟨h3, hK⟩ := hK
              refine AWP_rg tab_ok [1, 2, 7, 9, 64, 65, 66, 102] fun c st' hr => ?_
              simp only [go_sem, reduceIte, reduceCtorEq, Nat.reduceEqDiff, Nat.reduceLT, Nat.reduceLeDiff, Nat.reduceBEq, Nat.reduceAdd, Nat.reduceMul, Nat.reduceSub, Nat.reducePow, Int.reduceLE, Int.reduceLT, Int.reduceNeg, Int.reduceToNat, Int.reduceAdd, Int.reduceSub] at hr
              obtain ⟨rfl, rfl⟩ := hr
              refine ⟨vc, ?_⟩
              with_reducible refine thenC_normal ?_
              refine AWP_condP ((¬ (v3 = 1 ↔ y2.1.getD v.toNat 0 = y2.1.getD 0 0) ∨ (v3 ≠ 0 ∧ v3 ≠ 1))) rfl bd (fun hb6 => ?_) (fun hb6 => ?_)
              · replace hK := ite_t hK hb6
                refine AWP_seq ?_
                -- region 21
                refine AWP_rg tab_ok [4] fun c st' hr => ?_
                simp only [go_sem, reduceIte, reduceCtorEq, Nat.reduceEqDiff, Nat.reduceLT, Nat.reduceLeDiff, Nat.reduceBEq, Nat.reduceAdd, Nat.reduceMul, Nat.reduceSub, Nat.reducePow, Int.reduceLE, Int.reduceLT, Int.reduceNeg, Int.reduceToNat, Int.reduceAdd, Int.reduceSub] at hr
                obtain ⟨rfl, rfl⟩ := hr
                refine ⟨vc, ?_⟩
                with_reducible refine thenC_normal ?_
                refine AWP_ret ?_
                with_reducible refine inBlockA_ret (thenC_ret (again_r (cutX_r (inBlockA_ret (thenC_ret ?_)))))
                replace hK := hpost1 _ hK
                try dsimp only at hK
                cases hK
                refine EndsRW [] (.inl rfl) (of_decide_eq_true rfl) (by simp) rfl (fun c x hr => ?_) trivial
                simp only [go_sem, reduceIte, reduceCtorEq, Nat.reduceEqDiff, Nat.reduceLT, Nat.reduceLeDiff, Nat.reduceBEq, Nat.reduceAdd, Nat.reduceMul, Nat.reduceSub, Nat.reducePow, Int.reduceLE, Int.reduceLT, Int.reduceNeg, Int.reduceToNat, Int.reduceAdd, Int.reduceSub] at hr
                obtain ⟨rfl, rfl⟩ := hr
                exact ⟨rfl, endR⟩
              · replace hK := ite_f hK hb6
                refine AWP_skip ?_
                with_reducible refine inBlockA_normal (thenC_normal ?_)
                -- region 22
                refine AWP_facts (by simp) fun hfx => ?_
                simp only [factS, factV, fact1, fact0, factL0, lo, hi, maxLen, and_true, true_and] at hfx
                refine AWP_rg tab_ok [1, 2, 7, 9, 64, 65, 66] fun c st' hr => ?_
                simp only [go_sem, reduceIte, reduceCtorEq, Nat.reduceEqDiff, Nat.reduceLT, Nat.reduceLeDiff, Nat.reduceBEq, Nat.reduceAdd, Nat.reduceMul, Nat.reduceSub, Nat.reducePow, Int.reduceLE, Int.reduceLT, Int.reduceNeg, Int.reduceToNat, Int.reduceAdd, Int.reduceSub] at hr
                obtain ⟨rfl, rfl⟩ := hr
                refine ⟨vc, ?_⟩
                clear hfx
                refine again_n (v + 1) [0, 1, 2] hK mkWk
          · replace hK := ite_f hK hb3
            refine AWP_exit ?_
            with_reducible refine thenC_exit (again_x ?_)
            refine cutX_here () [0, 1, 2] (hpost1 _ hK) mkWk
        · clear hK; rintro _ hK
          try dsimp only at hK
          refine exS ⟨182, [(1, .int .i64 a1), (2, .ptr 0 0 0), (7, .own 1 y2.1.length), (9, .own 2 y3.1.length)], [some (.gen 38 2 [[.int .i64 m_0, .ints .i64 m_1]]), some (.ints 3 .i64 y2.1), some (.ints 2 .i64 y3.1)]⟩ rfl ?_
          with_reducible refine inBlockA_exit (thenC_normal ?_)
          refine AWP_seq ?_
          -- region 23
          replace hK := chk_some hK
          obtain ⟨h4, hK⟩ := hK
          refine AWP_rg tab_ok [1, 2, 7, 9, 16] fun c st' hr => ?_
          simp only [go_sem, reduceIte, reduceCtorEq, Nat.reduceEqDiff, Nat.reduceLT, Nat.reduceLeDiff, Nat.reduceBEq, Nat.reduceAdd, Nat.reduceMul, Nat.reduceSub, Nat.reducePow, Int.reduceLE, Int.reduceLT, Int.reduceNeg, Int.reduceToNat, Int.reduceAdd, Int.reduceSub] at hr
          obtain ⟨rfl, rfl⟩ := hr
          refine ⟨vc, ?_⟩
          with_reducible refine thenC_normal ?_
          refine AWP_seq ?_
          refine AWP_seq ?_
          -- region 24
          refine AWP_rg tab_ok [1, 2, 7, 9, 16, 107, 108, 109] fun c st' hr => ?_
          simp only [go_sem, reduceIte, reduceCtorEq, Nat.reduceEqDiff, Nat.reduceLT, Nat.reduceLeDiff, Nat.reduceBEq, Nat.reduceAdd, Nat.reduceMul, Nat.reduceSub, Nat.reducePow, Int.reduceLE, Int.reduceLT, Int.reduceNeg, Int.reduceToNat, Int.reduceAdd, Int.reduceSub] at hr
          obtain ⟨rfl, rfl⟩ := hr
          refine ⟨vc, ?_⟩
          with_reducible refine thenC_normal ?_
          refine AWP_block ?_
          refine AWP_loopX 4 (fun ((v4, v5) : List Int × Int) => ⟨182, [(1, .int .i64 a1), (2, .ptr 0 0 0), (7, .own 1 y2.1.length), (9, .own 2 y3.1.length), (16, .own 3 v4.length), (107, .own 1 y2.1.length), (108, .int .i64 (y2.1.length : Int)), (109, .int .i64 v5)], [some (.gen 38 2 [[.int .i64 m_0, .ints .i64 m_1]]), some (.ints 3 .i64 y2.1), some (.ints 2 .i64 y3.1), some (.ints 2 .i64 v4)]⟩) (fun (v6 : List Int) => ⟨182, [(1, .int .i64 a1), (2, .ptr 0 0 0), (7, .own 1 y2.1.length), (9, .own 2 y3.1.length), (16, .own 3 v6.length)], [some (.gen 38 2 [[.int .i64 m_0, .ints .i64 m_1]]), some (.ints 3 .i64 y2.1), some (.ints 2 .i64 y3.1), some (.ints 2 .i64 v6)]⟩) (fun v => v) (List.replicate (y2.1.length : Int).toNat 0, 0) [0, 1, 2, 3] hK mkWk ?_ ?_
          · clear hK; rintro ⟨v4, v5⟩ b2 hK hpost2
            try dsimp only at hK
            change AWP _ _ _ _ ⟨182, [(1, .int .i64 a1), (2, .ptr 0 0 0), (7, .own 1 y2.1.length), (9, .own 2 y3.1.length), (16, .own 3 v4.length), (107, .own 1 y2.1.length), (108, .int .i64 (y2.1.length : Int)), (109, .int .i64 v5)], [some (.gen 38 2 [[.int .i64 m_0, .ints .i64 m_1]]), some (.ints 3 .i64 y2.1), some (.ints 2 .i64 y3.1), some (.ints 2 .i64 v4)]⟩
            refine AWP_seq ?_
            -- region 25
            refine AWP_rg tab_ok [1, 2, 7, 9, 16, 107, 108, 109, 110] fun c st' hr => ?_
            simp only [go_sem, reduceIte, reduceCtorEq, Nat.reduceEqDiff, Nat.reduceLT, Nat.reduceLeDiff, Nat.reduceBEq, Nat.reduceAdd, Nat.reduceMul, Nat.reduceSub, Nat.reducePow, Int.reduceLE, Int.reduceLT, Int.reduceNeg, Int.reduceToNat, Int.reduceAdd, Int.reduceSub] at hr
            obtain ⟨rfl, rfl⟩ := hr
            refine ⟨vc, ?_⟩
            with_reducible refine thenC_normal ?_
            refine AWP_seq ?_
            refine AWP_condP (v5 < (y2.1.length : Int)) rfl bd (fun hb7 => ?_) (fun hb7 => ?_)
            · replace hK := ite_t hK hb7
              refine AWP_skip ?_
              with_reducible refine thenC_normal ?_
              refine AWP_seq ?_
              refine AWP_block ?_
              refine AWP_seq ?_
              -- region 26
              replace hK := chk_some hK
              obtain ⟨h5, hK⟩ := hK
              refine AWP_rg tab_ok [1, 2, 7, 9, 16, 17, 18, 107, 108, 109] fun c st' hr => ?_
              simp only [go_sem, reduceIte, reduceCtorEq, Nat.reduceEqDiff, Nat.reduceLT, Nat.reduceLeDiff, Nat.reduceBEq, Nat.reduceAdd, Nat.reduceMul, Nat.reduceSub, Nat.reducePow, Int.reduceLE, Int.reduceLT, Int.reduceNeg, Int.reduceToNat, Int.reduceAdd, Int.reduceSub] at hr
              obtain ⟨rfl, rfl⟩ := hr
              refine ⟨vc, ?_⟩
              with_reducible refine thenC_normal ?_
              refine AWP_seqJ (fun v7 => ⟨182, [(1, .int .i64 a1), (2, .ptr 0 0 0), (7, .own 1 y2.1.length), (9, .own 2 y3.1.length), (16, .own 3 v7.length), (17, .int .i64 v5), (18, .int .i64 (y2.1.getD v5.toNat 0)), (107, .own 1 y2.1.length), (108, .int .i64 (y2.1.length : Int)), (109, .int .i64 v5)], [some (.gen 38 2 [[.int .i64 m_0, .ints .i64 m_1]]), some (.ints 3 .i64 y2.1), some (.ints 2 .i64 y3.1), some (.ints 2 .i64 v7)]⟩) hK ?_ ?_
              · clear hK; intro j hK; try dsimp only at hK
                refine AWP_seq ?_
                -- region 27
                refine AWP_rg tab_ok [1, 2, 7, 9, 16, 17, 18, 107, 108, 109, 115] fun c st' hr => ?_
                simp only [go_sem, reduceIte, reduceCtorEq, Nat.reduceEqDiff, Nat.reduceLT, Nat.reduceLeDiff, Nat.reduceBEq, Nat.reduceAdd, Nat.reduceMul, Nat.reduceSub, Nat.reducePow, Int.reduceLE, Int.reduceLT, Int.reduceNeg, Int.reduceToNat, Int.reduceAdd, Int.reduceSub] at hr
                obtain ⟨rfl, rfl⟩ := hr
                refine ⟨vc, ?_⟩
                with_reducible refine thenC_normal ?_
                refine AWP_condP (v5 = 0) rfl bd (fun hb8 => ?_) (fun hb8 => ?_)
                · replace hK := ite_t hK hb8
                  -- region 28
                  replace hK := chk_some hK
                  obtain ⟨h6, hK⟩ := hK
                  refine AWP_rg tab_ok [1, 2, 7, 9, 16, 17, 18, 107, 108, 109] fun c st' hr => ?_
                  simp only [go_sem, reduceIte, reduceCtorEq, Nat.reduceEqDiff, Nat.reduceLT, Nat.reduceLeDiff, Nat.reduceBEq, Nat.reduceAdd, Nat.reduceMul, Nat.reduceSub, Nat.reducePow, Int.reduceLE, Int.reduceLT, Int.reduceNeg, Int.reduceToNat, Int.reduceAdd, Int.reduceSub] at hr
                  obtain ⟨rfl, rfl⟩ := hr
                  refine ⟨vc, ?_⟩
                  refine join_n (v4.set 0 1) [0, 1, 2, 3] hK mkWk
                · replace hK := ite_f hK hb8
                  refine AWP_skip ?_
                  refine join_n v4 [0, 1, 2, 3] hK mkWk
              · clear hK; intro v7 hK
                try dsimp only at hK
                change AWP _ _ _ _ ⟨182, [(1, .int .i64 a1), (2, .ptr 0 0 0), (7, .own 1 y2.1.length), (9, .own 2 y3.1.length), (16, .own 3 v7.length), (17, .int .i64 v5), (18, .int .i64 (y2.1.getD v5.toNat 0)), (107, .own 1 y2.1.length), (108, .int .i64 (y2.1.length : Int)), (109, .int .i64 v5)], [some (.gen 38 2 [[.int .i64 m_0, .ints .i64 m_1]]), some (.ints 3 .i64 y2.1), some (.ints 2 .i64 y3.1), some (.ints 2 .i64 v7)]⟩
                refine AWP_seq ?_
                -- region 29
                refine AWP_rg tab_ok [1, 2, 7, 9, 16, 17, 18, 107, 108, 109, 118, 119] fun c st' hr => ?_
                simp only [go_sem, reduceIte, reduceCtorEq, Nat.reduceEqDiff, Nat.reduceLT, Nat.reduceLeDiff, Nat.reduceBEq, Nat.reduceAdd, Nat.reduceMul, Nat.reduceSub, Nat.reducePow, Int.reduceLE, Int.reduceLT, Int.reduceNeg, Int.reduceToNat, Int.reduceAdd, Int.reduceSub] at hr
                obtain ⟨rfl, rfl⟩ := hr
                refine ⟨vc, ?_⟩
                with_reducible refine thenC_normal ?_
                refine AWP_block ?_
                refine AWP_loopX 6 (fun ((v8, v9) : List Int × Int) => ⟨182, [(1, .int .i64 a1), (2, .ptr 0 0 0), (7, .own 1 y2.1.length), (9, .own 2 y3.1.length), (16, .own 3 v8.length), (17, .int .i64 v5), (18, .int .i64 (y2.1.getD v5.toNat 0)), (107, .own 1 y2.1.length), (108, .int .i64 (y2.1.length : Int)), (109, .int .i64 v5), (118, .int .i64 v5), (119, .int .i64 v9)], [some (.gen 38 2 [[.int .i64 m_0, .ints .i64 m_1]]), some (.ints 3 .i64 y2.1), some (.ints 2 .i64 y3.1), some (.ints 2 .i64 v8)]⟩) (fun (v10 : List Int) => ⟨182, [(1, .int .i64 a1), (2, .ptr 0 0 0), (7, .own 1 y2.1.length), (9, .own 2 y3.1.length), (16, .own 3 v10.length), (107, .own 1 y2.1.length), (108, .int .i64 (y2.1.length : Int)), (109, .int .i64 v5)], [some (.gen 38 2 [[.int .i64 m_0, .ints .i64 m_1]]), some (.ints 3 .i64 y2.1), some (.ints 2 .i64 y3.1), some (.ints 2 .i64 v10)]⟩) (fun v => v) (v7, 0) [0, 1, 2, 3] hK mkWk ?_ ?_
                · clear hK; rintro ⟨v8, v9⟩ b3 hK hpost3
                  try dsimp only at hK
                  change AWP _ _ _ _ ⟨182, [(1, .int .i64 a1), (2, .ptr 0 0 0), (7, .own 1 y2.1.length), (9, .own 2 y3.1.length), (16, .own 3 v8.length), (17, .int .i64 v5), (18, .int .i64 (y2.1.getD v5.toNat 0)), (107, .own 1 y2.1.length), (108, .int .i64 (y2.1.length : Int)), (109, .int .i64 v5), (118, .int .i64 v5), (119, .int .i64 v9)], [some (.gen 38 2 [[.int .i64 m_0, .ints .i64 m_1]]), some (.ints 3 .i64 y2.1), some (.ints 2 .i64 y3.1), some (.ints 2 .i64 v8)]⟩
                  refine AWP_seq ?_
                  -- region 30
                  refine AWP_rg tab_ok [1, 2, 7, 9, 16, 17, 18, 107, 108, 109, 118, 119, 120] fun c st' hr => ?_
                  simp only [go_sem, reduceIte, reduceCtorEq, Nat.reduceEqDiff, Nat.reduceLT, Nat.reduceLeDiff, Nat.reduceBEq, Nat.reduceAdd, Nat.reduceMul, Nat.reduceSub, Nat.reducePow, Int.reduceLE, Int.reduceLT, Int.reduceNeg, Int.reduceToNat, Int.reduceAdd, Int.reduceSub] at hr
                  obtain ⟨rfl, rfl⟩ := hr
                  refine ⟨vc, ?_⟩
                  with_reducible refine thenC_normal ?_
                  refine AWP_seq ?_
                  refine AWP_condP (v9 < v5) rfl bd (fun hb9 => ?_) (fun hb9 => ?_)
                  · replace hK := ite_t hK hb9
                    refine AWP_skip ?_
                    with_reducible refine thenC_normal ?_
                    refine AWP_seq ?_
                    refine AWP_block ?_
                    refine AWP_seq ?_
                    -- region 31
                    refine AWP_rg tab_ok [1, 2, 7, 9, 16, 17, 18, 19, 107, 108, 109, 118, 119] fun c st' hr => ?_
                    simp only [go_sem, reduceIte, reduceCtorEq, Nat.reduceEqDiff, Nat.reduceLT, Nat.reduceLeDiff, Nat.reduceBEq, Nat.reduceAdd, Nat.reduceMul, Nat.reduceSub, Nat.reducePow, Int.reduceLE, Int.reduceLT, Int.reduceNeg, Int.reduceToNat, Int.reduceAdd, Int.reduceSub] at hr
                    obtain ⟨rfl, rfl⟩ := hr
                    refine ⟨vc, ?_⟩
                    with_reducible refine thenC_normal ?_
                    refine AWP_seq ?_
                    -- region 32
                    refine AWP_rl ?_
                    replace hK := chk_some hK
                    obtain ⟨h7, hK⟩ := hK
                    refine AWPL_rn tab_ok 5 [1, 2, 7, 9, 16, 17, 18, 19, 107, 108, 109, 118, 119, 125, 126] fun c st' hr => ?_
                    simp only [go_sem, reduceIte, reduceCtorEq, Nat.reduceEqDiff, Nat.reduceLT, Nat.reduceLeDiff, Nat.reduceBEq, Nat.reduceAdd, Nat.reduceMul, Nat.reduceSub, Nat.reducePow, Int.reduceLE, Int.reduceLT, Int.reduceNeg, Int.reduceToNat, Int.reduceAdd, Int.reduceSub] at hr
                    obtain ⟨rfl, rfl⟩ := hr
                    refine ⟨vc, ?_⟩
                    replace hK := bind_s hK
                    obtain ⟨y5, hy, hK⟩ := hK
                    refine AWPL_callK [1, 2, 7, 9, 16, 17, 18, 19, 107, 108, 109, 118, 119, 127] (W_rotaref_Within hy) rfl rfl pcT rfl Try.call24 (.cons (.atom _ rfl) (.cons (.atom _ rfl) .nil)) (hscG trivial) (of_decide_eq_true rfl) (by first | rfl | simp [nI, nI1, nI0]) (by first | rfl | simp [nIB, nI0]) fun st' hr => ?_
                    simp only [go_sem, reduceIte, reduceCtorEq, Nat.reduceEqDiff, Nat.reduceLT, Nat.reduceLeDiff, Nat.reduceBEq, Nat.reduceAdd, Nat.reduceMul, Nat.reduceSub, Nat.reducePow, Int.reduceLE, Int.reduceLT, Int.reduceNeg, Int.reduceToNat, Int.reduceAdd, Int.reduceSub] at hr
                    subst hr
                    clear hy
                    refine AWPL_nil ?_
                    with_reducible refine thenC_normal ?_
                    refine AWP_condP (y5 = true) rfl bd (fun hb10 => ?_) (fun hb10 => ?_)
                    · replace hK := ite_t hK hb10
                      -- region 33
                      replace hK := chk_some hK
                      obtain ⟨h8, hK⟩ := hK
                      refine AWP_dt tab_ok 10 [1, 2, 7, 9, 16, 17, 18, 107, 108, 109, 118, 119] mixed (by kernel_rfl) fun c st' hr => ?_
                      simp only [go_sem, reduceIte, reduceCtorEq, Nat.reduceEqDiff, Nat.reduceLT, Nat.reduceLeDiff, Nat.reduceBEq, Nat.reduceAdd, Nat.reduceMul, Nat.reduceSub, Nat.reducePow, Int.reduceLE, Int.reduceLT, Int.reduceNeg, Int.reduceToNat, Int.reduceAdd, Int.reduceSub] at hr
                      obtain ⟨rfl, rfl⟩ := hr
                      refine ⟨vc, ?_⟩
                      with_reducible refine inBlockA_normal (thenC_normal ?_)
                      -- region 34
                      refine AWP_facts (by simp) fun hfx => ?_
                      simp only [factS, factV, fact1, fact0, factL0, lo, hi, maxLen, and_true, true_and] at hfx
                      refine AWP_rg tab_ok [1, 2, 7, 9, 16, 17, 18, 107, 108, 109, 118, 119] fun c st' hr => ?_
                      simp only [go_sem, reduceIte, reduceCtorEq, Nat.reduceEqDiff, Nat.reduceLT, Nat.reduceLeDiff, Nat.reduceBEq, Nat.reduceAdd, Nat.reduceMul, Nat.reduceSub, Nat.reducePow, Int.reduceLE, Int.reduceLT, Int.reduceNeg, Int.reduceToNat, Int.reduceAdd, Int.reduceSub] at hr
                      obtain ⟨rfl, rfl⟩ := hr
                      refine ⟨vc, ?_⟩
                      clear hfx
                      refine again_n (v8.set v5.toNat ((v8.getD v5.toNat 0) - (v8.getD v9.toNat 0)), v9 + 1) [0, 1, 2, 3] hK mkWk
                    · replace hK := ite_f hK hb10
                      refine AWP_skip ?_
                      with_reducible refine inBlockA_normal (thenC_normal ?_)
                      -- region 34
                      refine AWP_facts (by simp) fun hfx => ?_
                      simp only [factS, factV, fact1, fact0, factL0, lo, hi, maxLen, and_true, true_and] at hfx
                      refine AWP_rg tab_ok [1, 2, 7, 9, 16, 17, 18, 107, 108, 109, 118, 119] fun c st' hr => ?_
                      simp only [go_sem, reduceIte, reduceCtorEq, Nat.reduceEqDiff, Nat.reduceLT, Nat.reduceLeDiff, Nat.reduceBEq, Nat.reduceAdd, Nat.reduceMul, Nat.reduceSub, Nat.reducePow, Int.reduceLE, Int.reduceLT, Int.reduceNeg, Int.reduceToNat, Int.reduceAdd, Int.reduceSub] at hr
                      obtain ⟨rfl, rfl⟩ := hr
                      refine ⟨vc, ?_⟩
                      clear hfx
                      refine again_n (v8, v9 + 1) [0, 1, 2, 3] hK mkWk
                  · replace hK := ite_f hK hb9
                    refine AWP_exit ?_
                    with_reducible refine thenC_exit (again_x ?_)
                    refine cutX_here v8 [0, 1, 2, 3] (hpost3 _ hK) mkWk
                · clear hK; rintro v10 hK
                  try dsimp only at hK
                  refine exS ⟨182, [(1, .int .i64 a1), (2, .ptr 0 0 0), (7, .own 1 y2.1.length), (9, .own 2 y3.1.length), (16, .own 3 v10.length), (107, .own 1 y2.1.length), (108, .int .i64 (y2.1.length : Int)), (109, .int .i64 v5)], [some (.gen 38 2 [[.int .i64 m_0, .ints .i64 m_1]]), some (.ints 3 .i64 y2.1), some (.ints 2 .i64 y3.1), some (.ints 2 .i64 v10)]⟩ rfl ?_
                  with_reducible refine inBlockA_exit (inBlockA_normal (thenC_normal ?_))
                  -- region 35
                  refine AWP_facts (by simp) fun hfx => ?_
                  simp only [factS, factV, fact1, fact0, factL0, lo, hi, maxLen, and_true, true_and] at hfx
                  refine AWP_rg tab_ok [1, 2, 7, 9, 16, 107, 108, 109] fun c st' hr => ?_
                  simp only [go_sem, reduceIte, reduceCtorEq, Nat.reduceEqDiff, Nat.reduceLT, Nat.reduceLeDiff, Nat.reduceBEq, Nat.reduceAdd, Nat.reduceMul, Nat.reduceSub, Nat.reducePow, Int.reduceLE, Int.reduceLT, Int.reduceNeg, Int.reduceToNat, Int.reduceAdd, Int.reduceSub] at hr
                  obtain ⟨rfl, rfl⟩ := hr
                  refine ⟨vc, ?_⟩
                  clear hfx
                  refine again_n (v10, v5 + 1) [0, 1, 2, 3] hK mkWk
            · replace hK := ite_f hK hb7
              refine AWP_exit ?_
              with_reducible refine thenC_exit (again_x ?_)
              refine cutX_here v4 [0, 1, 2, 3] (hpost2 _ hK) mkWk
          · clear hK; rintro v6 hK
            try dsimp only at hK
            refine exS ⟨182, [(1, .int .i64 a1), (2, .ptr 0 0 0), (7, .own 1 y2.1.length), (9, .own 2 y3.1.length), (16, .own 3 v6.length)], [some (.gen 38 2 [[.int .i64 m_0, .ints .i64 m_1]]), some (.ints 3 .i64 y2.1), some (.ints 2 .i64 y3.1), some (.ints 2 .i64 v6)]⟩ rfl ?_
            with_reducible refine inBlockA_exit (thenC_normal ?_)
            refine AWP_seq ?_
            refine AWP_seq ?_
            -- region 36
            refine AWP_rl ?_
            refine AWPL_rn tab_ok 2 [1, 2, 7, 140, 141] fun c st' hr => ?_
            simp only [go_sem, reduceIte, reduceCtorEq, Nat.reduceEqDiff, Nat.reduceLT, Nat.reduceLeDiff, Nat.reduceBEq, Nat.reduceAdd, Nat.reduceMul, Nat.reduceSub, Nat.reducePow, Int.reduceLE, Int.reduceLT, Int.reduceNeg, Int.reduceToNat, Int.reduceAdd, Int.reduceSub] at hr
            obtain ⟨rfl, rfl⟩ := hr
            refine ⟨vc, ?_⟩
            replace hK := bind_s hK
            obtain ⟨y6, hy, hK⟩ := hK
            refine AWPL_callK [1, 2, 7, 142] (W_rotalaw_Same_int64 hy) rfl rfl pcT rfl Try.call25 (.cons (.ownI _ _ _ _ _ v6 rfl (by simp) (by simp)) (.cons (.ownI _ _ _ _ _ y3.1 rfl (by simp) (by simp)) .nil)) (hscG trivial) (of_decide_eq_true rfl) (by first | rfl | simp [nI, nI1, nI0]) (by first | rfl | simp [nIB, nI0]) fun st' hr => ?_
            simp only [go_sem, reduceIte, reduceCtorEq, Nat.reduceEqDiff, Nat.reduceLT, Nat.reduceLeDiff, Nat.reduceBEq, Nat.reduceAdd, Nat.reduceMul, Nat.reduceSub, Nat.reducePow, Int.reduceLE, Int.reduceLT, Int.reduceNeg, Int.reduceToNat, Int.reduceAdd, Int.reduceSub] at hr
            subst hr
            clear hy
            refine AWPL_rn tab_ok 1 [1, 2, 7, 143] fun c st' hr => ?_
            simp only [go_sem, reduceIte, reduceCtorEq, Nat.reduceEqDiff, Nat.reduceLT, Nat.reduceLeDiff, Nat.reduceBEq, Nat.reduceAdd, Nat.reduceMul, Nat.reduceSub, Nat.reducePow, Int.reduceLE, Int.reduceLT, Int.reduceNeg, Int.reduceToNat, Int.reduceAdd, Int.reduceSub] at hr
            obtain ⟨rfl, rfl⟩ := hr
            refine ⟨vc, ?_⟩
            refine AWPL_nil ?_
            with_reducible refine thenC_normal ?_
            refine AWP_condP (¬ (y6 = true)) rfl bd (fun hb11 => ?_) (fun hb11 => ?_)
            · replace hK := ite_t hK hb11
              refine AWP_seq ?_
              -- region 37
              refine AWP_rg tab_ok [4] fun c st' hr => ?_
              simp only [go_sem, reduceIte, reduceCtorEq, Nat.reduceEqDiff, Nat.reduceLT, Nat.reduceLeDiff, Nat.reduceBEq, Nat.reduceAdd, Nat.reduceMul, Nat.reduceSub, Nat.reducePow, Int.reduceLE, Int.reduceLT, Int.reduceNeg, Int.reduceToNat, Int.reduceAdd, Int.reduceSub] at hr
              obtain ⟨rfl, rfl⟩ := hr
              refine ⟨vc, ?_⟩
              with_reducible refine thenC_normal ?_
              refine AWP_ret ?_
              with_reducible refine thenC_ret ?_
              cases hK
              refine EndsRW [] (.inl rfl) (of_decide_eq_true rfl) (by simp) rfl (fun c x hr => ?_) trivial
              simp only [go_sem, reduceIte, reduceCtorEq, Nat.reduceEqDiff, Nat.reduceLT, Nat.reduceLeDiff, Nat.reduceBEq, Nat.reduceAdd, Nat.reduceMul, Nat.reduceSub, Nat.reducePow, Int.reduceLE, Int.reduceLT, Int.reduceNeg, Int.reduceToNat, Int.reduceAdd, Int.reduceSub] at hr
              obtain ⟨rfl, rfl⟩ := hr
              exact ⟨rfl, endR⟩
            · replace hK := ite_f hK hb11
              refine AWP_skip ?_
              with_reducible refine thenC_normal ?_
              refine AWP_seq ?_
              -- region 38
              refine AWP_rl ?_
              refine AWPL_rn tab_ok 2 [1, 2, 7, 145, 146] fun c st' hr => ?_
              simp only [go_sem, reduceIte, reduceCtorEq, Nat.reduceEqDiff, Nat.reduceLT, Nat.reduceLeDiff, Nat.reduceBEq, Nat.reduceAdd, Nat.reduceMul, Nat.reduceSub, Nat.reducePow, Int.reduceLE, Int.reduceLT, Int.reduceNeg, Int.reduceToNat, Int.reduceAdd, Int.reduceSub] at hr
              obtain ⟨rfl, rfl⟩ := hr
              refine ⟨vc, ?_⟩
              replace hK := bind_s hK
              obtain ⟨y7, hy, hK⟩ := hK
              refine AWPL_callK [1, 2, 7, 147] (W_flats_Covers hy) rfl rfl pcT rfl Try.call26 (.cons (.agg _ _ rfl (ArgsOk.get (.cons (.atom _ rfl) (.cons (.atom _ rfl) .nil))).2) (.cons (.atom _ rfl) .nil)) (hscG trivial) (of_decide_eq_true rfl) (by first | rfl | simp [nI, nI1, nI0]) (by first | rfl | simp [nIB, nI0]) fun st' hr => ?_
              simp only [go_sem, reduceIte, reduceCtorEq, Nat.reduceEqDiff, Nat.reduceLT, Nat.reduceLeDiff, Nat.reduceBEq, Nat.reduceAdd, Nat.reduceMul, Nat.reduceSub, Nat.reducePow, Int.reduceLE, Int.reduceLT, Int.reduceNeg, Int.reduceToNat, Int.reduceAdd, Int.reduceSub] at hr
              subst hr
              clear hy
              refine AWPL_rn tab_ok 5 [1, 2, 7, 8, 20] fun c st' hr => ?_
              simp only [go_sem, reduceIte, reduceCtorEq, Nat.reduceEqDiff, Nat.reduceLT, Nat.reduceLeDiff, Nat.reduceBEq, Nat.reduceAdd, Nat.reduceMul, Nat.reduceSub, Nat.reducePow, Int.reduceLE, Int.reduceLT, Int.reduceNeg, Int.reduceToNat, Int.reduceAdd, Int.reduceSub] at hr
              obtain ⟨rfl, rfl⟩ := hr
              refine ⟨vc, ?_⟩
              refine AWPL_nil ?_
              with_reducible refine thenC_normal ?_
              refine AWP_seq ?_
              refine AWP_seq ?_
              -- region 39
              refine AWP_rg tab_ok [1, 2, 7, 20, 151] fun c st' hr => ?_
              simp only [go_sem, reduceIte, reduceCtorEq, Nat.reduceEqDiff, Nat.reduceLT, Nat.reduceLeDiff, Nat.reduceBEq, Nat.reduceAdd, Nat.reduceMul, Nat.reduceSub, Nat.reducePow, Int.reduceLE, Int.reduceLT, Int.reduceNeg, Int.reduceToNat, Int.reduceAdd, Int.reduceSub] at hr
              obtain ⟨rfl, rfl⟩ := hr
              refine ⟨vc, ?_⟩
              with_reducible refine thenC_normal ?_
              refine AWP_condP (y7.2 ≠ 0) rfl bd (fun hb12 => ?_) (fun hb12 => ?_)
              · replace hK := ite_t hK hb12
                refine AWP_seq ?_
                -- region 40
                refine AWP_rg tab_ok [4] fun c st' hr => ?_
                simp only [go_sem, reduceIte, reduceCtorEq, Nat.reduceEqDiff, Nat.reduceLT, Nat.reduceLeDiff, Nat.reduceBEq, Nat.reduceAdd, Nat.reduceMul, Nat.reduceSub, Nat.reducePow, Int.reduceLE, Int.reduceLT, Int.reduceNeg, Int.reduceToNat, Int.reduceAdd, Int.reduceSub] at hr
                obtain ⟨rfl, rfl⟩ := hr
                refine ⟨vc, ?_⟩
                with_reducible refine thenC_normal ?_
                refine AWP_ret ?_
                with_reducible refine thenC_ret ?_
                cases hK
                refine EndsRW [] (.inl rfl) (of_decide_eq_true rfl) (by simp) rfl (fun c x hr => ?_) trivial
                simp only [go_sem, reduceIte, reduceCtorEq, Nat.reduceEqDiff, Nat.reduceLT, Nat.reduceLeDiff, Nat.reduceBEq, Nat.reduceAdd, Nat.reduceMul, Nat.reduceSub, Nat.reducePow, Int.reduceLE, Int.reduceLT, Int.reduceNeg, Int.reduceToNat, Int.reduceAdd, Int.reduceSub] at hr
                obtain ⟨rfl, rfl⟩ := hr
                exact ⟨rfl, endR⟩
              · replace hK := ite_f hK hb12
                refine AWP_skip ?_
                with_reducible refine thenC_normal ?_
                refine AWP_seq ?_
                -- region 41
                refine AWP_rg tab_ok [1, 2, 7, 20, 21] fun c st' hr => ?_
                simp only [go_sem, reduceIte, reduceCtorEq, Nat.reduceEqDiff, Nat.reduceLT, Nat.reduceLeDiff, Nat.reduceBEq, Nat.reduceAdd, Nat.reduceMul, Nat.reduceSub, Nat.reducePow, Int.reduceLE, Int.reduceLT, Int.reduceNeg, Int.reduceToNat, Int.reduceAdd, Int.reduceSub] at hr
                obtain ⟨rfl, rfl⟩ := hr
                refine ⟨vc, ?_⟩
                with_reducible refine thenC_normal ?_
                refine AWP_seq ?_
                refine AWP_seq ?_
                -- region 42
                refine AWP_rg tab_ok [1, 2, 7, 21, 156, 157, 158] fun c st' hr => ?_
                simp only [go_sem, reduceIte, reduceCtorEq, Nat.reduceEqDiff, Nat.reduceLT, Nat.reduceLeDiff, Nat.reduceBEq, Nat.reduceAdd, Nat.reduceMul, Nat.reduceSub, Nat.reducePow, Int.reduceLE, Int.reduceLT, Int.reduceNeg, Int.reduceToNat, Int.reduceAdd, Int.reduceSub] at hr
                obtain ⟨rfl, rfl⟩ := hr
                refine ⟨vc, ?_⟩
                with_reducible refine thenC_normal ?_
                refine AWP_block ?_
                refine AWP_loopX 8 (fun ((v11, v12) : Int × Int) => ⟨182, [(1, .int .i64 a1), (2, .ptr 0 0 0), (7, .own 1 y2.1.length), (21, .int .i64 v11), (156, .own 2 y7.1.length), (157, .int .i64 (y7.1.length : Int)), (158, .int .i64 v12)], [some (.gen 38 2 [[.int .i64 m_0, .ints .i64 m_1]]), some (.ints 3 .i64 y2.1), some (.ints 3 .i64 y7.1)]⟩) (fun (v13 : Int) => ⟨182, [(2, .ptr 0 0 0), (21, .int .i64 v13)], [some (.gen 38 2 [[.int .i64 m_0, .ints .i64 m_1]])]⟩) Sum.inl (a1, 0) [0, 1, 4] hK mkWk ?_ ?_
                · clear hK; rintro ⟨v11, v12⟩ b4 hK hpost3
                  try dsimp only at hK
                  change AWP _ _ _ _ ⟨182, [(1, .int .i64 a1), (2, .ptr 0 0 0), (7, .own 1 y2.1.length), (21, .int .i64 v11), (156, .own 2 y7.1.length), (157, .int .i64 (y7.1.length : Int)), (158, .int .i64 v12)], [some (.gen 38 2 [[.int .i64 m_0, .ints .i64 m_1]]), some (.ints 3 .i64 y2.1), some (.ints 3 .i64 y7.1)]⟩
                  refine AWP_seq ?_
                  -- region 43
                  refine AWP_rg tab_ok [1, 2, 7, 21, 156, 157, 158, 159] fun c st' hr => ?_
                  simp only [go_sem, reduceIte, reduceCtorEq, Nat.reduceEqDiff, Nat.reduceLT, Nat.reduceLeDiff, Nat.reduceBEq, Nat.reduceAdd, Nat.reduceMul, Nat.reduceSub, Nat.reducePow, Int.reduceLE, Int.reduceLT, Int.reduceNeg, Int.reduceToNat, Int.reduceAdd, Int.reduceSub] at hr
                  obtain ⟨rfl, rfl⟩ := hr
                  refine ⟨vc, ?_⟩
                  with_reducible refine thenC_normal ?_
                  refine AWP_seq ?_
                  refine AWP_condP (v12 < (y7.1.length : Int)) rfl bd (fun hb13 => ?_) (fun hb13 => ?_)
                  · replace hK := ite_t hK hb13
                    refine AWP_skip ?_
                    with_reducible refine thenC_normal ?_
                    refine AWP_seq ?_
                    refine AWP_block ?_
                    refine AWP_seq ?_
                    -- region 44
                    replace hK := chk_some hK
                    obtain ⟨h9, hK⟩ := hK
                    refine AWP_rg tab_ok [1, 2, 7, 21, 23, 156, 157, 158] fun c st' hr => ?_
                    simp only [go_sem, reduceIte, reduceCtorEq, Nat.reduceEqDiff, Nat.reduceLT, Nat.reduceLeDiff, Nat.reduceBEq, Nat.reduceAdd, Nat.reduceMul, Nat.reduceSub, Nat.reducePow, Int.reduceLE, Int.reduceLT, Int.reduceNeg, Int.reduceToNat, Int.reduceAdd, Int.reduceSub] at hr
                    obtain ⟨rfl, rfl⟩ := hr
                    refine ⟨vc, ?_⟩
                    with_reducible refine thenC_normal ?_
                    refine AWP_seq ?_
                    refine AWP_seq ?_
                    -- region 45
                    refine AWP_rl ?_
                    refine AWPL_rn tab_ok 8 [1, 2, 7, 21, 23, 156, 157, 158, 167, 168, 169] fun c st' hr => ?_
                    simp only [go_sem, reduceIte, reduceCtorEq, Nat.reduceEqDiff, Nat.reduceLT, Nat.reduceLeDiff, Nat.reduceBEq, Nat.reduceAdd, Nat.reduceMul, Nat.reduceSub, Nat.reducePow, Int.reduceLE, Int.reduceLT, Int.reduceNeg, Int.reduceToNat, Int.reduceAdd, Int.reduceSub] at hr
                    obtain ⟨rfl, rfl⟩ := hr
                    refine ⟨vc, ?_⟩
                    replace hK := bind_s hK
                    obtain ⟨y8, hy, hK⟩ := hK
                    refine AWPL_callGP [1, 2, 7, 21, 23, 156, 157, 158, 167, 170] (¬ (iand (y7.1.getD v12.toNat 0) v11 ≠ a1)) (fun hg => (W_slices_Contains_int_int (ite_t hy hg))) rfl rfl pcG rfl Try.call27 (.cons (.ownI _ _ _ _ _ y2.1 rfl (by simp) (by simp)) (.cons (.atom _ rfl) .nil)) (fun hg => hscG hg) (of_decide_eq_true rfl) (by first | rfl | simp [nI, nI1, nI0]) (by first | rfl | simp [sh, sh1, sh0]) fun st' hr => ?_
                    simp only [go_sem, reduceIte, reduceCtorEq, Nat.reduceEqDiff, Nat.reduceLT, Nat.reduceLeDiff, Nat.reduceBEq, Nat.reduceAdd, Nat.reduceMul, Nat.reduceSub, Nat.reducePow, Int.reduceLE, Int.reduceLT, Int.reduceNeg, Int.reduceToNat, Int.reduceAdd, Int.reduceSub] at hr
                    subst hr
                    clear hy
                    refine AWPL_rn tab_ok 2 [1, 2, 7, 21, 23, 156, 157, 158, 172] fun c st' hr => ?_
                    simp only [go_sem, reduceIte, reduceCtorEq, Nat.reduceEqDiff, Nat.reduceLT, Nat.reduceLeDiff, Nat.reduceBEq, Nat.reduceAdd, Nat.reduceMul, Nat.reduceSub, Nat.reducePow, Int.reduceLE, Int.reduceLT, Int.reduceNeg, Int.reduceToNat, Int.reduceAdd, Int.reduceSub] at hr
                    obtain ⟨rfl, rfl⟩ := hr
                    refine ⟨vc, ?_⟩
                    refine AWPL_nil ?_
                    with_reducible refine thenC_normal ?_
                    refine AWP_condP ((iand (y7.1.getD v12.toNat 0) v11 ≠ a1 ∨ ¬ (y8 = true))) rfl bd (fun hb14 => ?_) (fun hb14 => ?_)
                    · replace hK := ite_t hK hb14
                      refine AWP_seq ?_
                      -- region 46
                      refine AWP_rg tab_ok [4] fun c st' hr => ?_
                      simp only [go_sem, reduceIte, reduceCtorEq, Nat.reduceEqDiff, Nat.reduceLT, Nat.reduceLeDiff, Nat.reduceBEq, Nat.reduceAdd, Nat.reduceMul, Nat.reduceSub, Nat.reducePow, Int.reduceLE, Int.reduceLT, Int.reduceNeg, Int.reduceToNat, Int.reduceAdd, Int.reduceSub] at hr
                      obtain ⟨rfl, rfl⟩ := hr
                      refine ⟨vc, ?_⟩
                      with_reducible refine thenC_normal ?_
                      refine AWP_ret ?_
                      with_reducible refine thenC_ret (inBlockA_ret (thenC_ret (again_r (cutX_r (inBlockA_ret (thenC_ret ?_))))))
                      replace hK := hpost3 _ hK
                      try dsimp only at hK
                      cases hK
                      refine EndsRW [] (.inl rfl) (of_decide_eq_true rfl) (by simp) rfl (fun c x hr => ?_) trivial
                      simp only [go_sem, reduceIte, reduceCtorEq, Nat.reduceEqDiff, Nat.reduceLT, Nat.reduceLeDiff, Nat.reduceBEq, Nat.reduceAdd, Nat.reduceMul, Nat.reduceSub, Nat.reducePow, Int.reduceLE, Int.reduceLT, Int.reduceNeg, Int.reduceToNat, Int.reduceAdd, Int.reduceSub] at hr
                      obtain ⟨rfl, rfl⟩ := hr
                      exact ⟨rfl, endR⟩
                    · replace hK := ite_f hK hb14
                      refine AWP_skip ?_
                      with_reducible refine thenC_normal ?_
                      -- region 47
                      refine AWP_rg tab_ok [1, 2, 7, 21, 156, 157, 158] fun c st' hr => ?_
                      simp only [go_sem, reduceIte, reduceCtorEq, Nat.reduceEqDiff, Nat.reduceLT, Nat.reduceLeDiff, Nat.reduceBEq, Nat.reduceAdd, Nat.reduceMul, Nat.reduceSub, Nat.reducePow, Int.reduceLE, Int.reduceLT, Int.reduceNeg, Int.reduceToNat, Int.reduceAdd, Int.reduceSub] at hr
                      obtain ⟨rfl, rfl⟩ := hr
                      refine ⟨vc, ?_⟩
                      with_reducible refine inBlockA_normal (thenC_normal ?_)
                      -- region 48
                      refine AWP_facts (by simp) fun hfx => ?_
                      simp only [factS, factV, fact1, fact0, factL0, lo, hi, maxLen, and_true, true_and] at hfx
                      refine AWP_rg tab_ok [1, 2, 7, 21, 156, 157, 158] fun c st' hr => ?_
                      simp only [go_sem, reduceIte, reduceCtorEq, Nat.reduceEqDiff, Nat.reduceLT, Nat.reduceLeDiff, Nat.reduceBEq, Nat.reduceAdd, Nat.reduceMul, Nat.reduceSub, Nat.reducePow, Int.reduceLE, Int.reduceLT, Int.reduceNeg, Int.reduceToNat, Int.reduceAdd, Int.reduceSub] at hr
                      obtain ⟨rfl, rfl⟩ := hr
                      refine ⟨vc, ?_⟩
                      clear hfx
                      refine again_n (ior v11 (y7.1.getD v12.toNat 0), v12 + 1) [0, 1, 2] hK mkWk
                  · replace hK := ite_f hK hb13
                    refine AWP_exit ?_
                    with_reducible refine thenC_exit (again_x ?_)
                    refine cutX_here v11 [0] (hpost3 _ hK) mkWk
                · clear hK; rintro v13 hK
                  try dsimp only at hK
                  refine exS ⟨182, [(2, .ptr 0 0 0), (21, .int .i64 v13)], [some (.gen 38 2 [[.int .i64 m_0, .ints .i64 m_1]])]⟩ rfl ?_
                  with_reducible refine inBlockA_exit (thenC_normal ?_)
                  refine AWP_seq ?_
                  -- region 49
                  refine AWP_rl ?_
                  refine AWPL_rn tab_ok 3 [177, 179] fun c st' hr => ?_
                  simp only [go_sem, reduceIte, reduceCtorEq, Nat.reduceEqDiff, Nat.reduceLT, Nat.reduceLeDiff, Nat.reduceBEq, Nat.reduceAdd, Nat.reduceMul, Nat.reduceSub, Nat.reducePow, Int.reduceLE, Int.reduceLT, Int.reduceNeg, Int.reduceToNat, Int.reduceAdd, Int.reduceSub] at hr
                  obtain ⟨rfl, rfl⟩ := hr
                  refine ⟨vc, ?_⟩
                  replace hK := bind_s hK
                  obtain ⟨y9, hy, hK⟩ := hK
                  refine AWPL_callK [177, 180] (W_rotaref_All hy) rfl rfl pcT rfl Try.call28 (.cons (.atom _ rfl) .nil) (hscG trivial) (of_decide_eq_true rfl) (by first | rfl | simp [nI, nI1, nI0]) (by first | rfl | simp [nIB, nI0]) fun st' hr => ?_
                  simp only [go_sem, reduceIte, reduceCtorEq, Nat.reduceEqDiff, Nat.reduceLT, Nat.reduceLeDiff, Nat.reduceBEq, Nat.reduceAdd, Nat.reduceMul, Nat.reduceSub, Nat.reducePow, Int.reduceLE, Int.reduceLT, Int.reduceNeg, Int.reduceToNat, Int.reduceAdd, Int.reduceSub] at hr
                  subst hr
                  clear hy
                  refine AWPL_rn tab_ok 2 [4] fun c st' hr => ?_
                  simp only [go_sem, reduceIte, reduceCtorEq, Nat.reduceEqDiff, Nat.reduceLT, Nat.reduceLeDiff, Nat.reduceBEq, Nat.reduceAdd, Nat.reduceMul, Nat.reduceSub, Nat.reducePow, Int.reduceLE, Int.reduceLT, Int.reduceNeg, Int.reduceToNat, Int.reduceAdd, Int.reduceSub] at hr
                  obtain ⟨rfl, rfl⟩ := hr
                  refine ⟨vc, ?_⟩
                  refine AWPL_nil ?_
                  with_reducible refine thenC_normal ?_
                  refine AWP_ret ?_
                  cases hK
                  refine EndsRW [] (.inl rfl) (of_decide_eq_true rfl) (by simp) rfl (fun c x hr => ?_) trivial
                  simp only [go_sem, reduceIte, reduceCtorEq, Nat.reduceEqDiff, Nat.reduceLT, Nat.reduceLeDiff, Nat.reduceBEq, Nat.reduceAdd, Nat.reduceMul, Nat.reduceSub, Nat.reducePow, Int.reduceLE, Int.reduceLT, Int.reduceNeg, Int.reduceToNat, Int.reduceAdd, Int.reduceSub] at hr
                  obtain ⟨rfl, rfl⟩ := hr
                  exact ⟨rfl, endR⟩

end Go.SH
