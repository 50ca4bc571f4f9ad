/-
  That the code computes these functions: rotakeep_MeetMatches_2, rotakeep_MeetMatches_1, rotakeep_MeetMatches_3, rotakeep_ConvexOrders_1, rotakeep_ConvexOrders_2, rotakeep_ConvexOrders_3, rotakeep_ConvexOrders_4. By a program of mine (shal.py). Conditions: none.
-/
import Derived.Test.YtobpcecpfojpmaaDoorAxT
import Derived.Test.YtobpcecpfojpmaaDoorAxR
import Derived.Test.YtobpcecpfojpmaaDoorAxP
import Derived.Test.YtobpcecpfojpmaaDoorShelf
import Derived.Test.YtobpcecpfojpmaaDoorSprotakeep
import Derived.Test.YtobpcecpfojpmaaDoorWpconvex
import Derived.Test.YtobpcecpfojpmaaDoorWpkinds
set_option linter.unusedVariables false
set_option linter.unusedSimpArgs false
namespace Go.SH
open Go Go.AX Go.AX.Tryd Go.Proofs

set_option maxRecDepth 8000 in
set_option maxHeartbeats 4000000 in
theorem W_rotakeep_MeetMatches_2 {e_0 : Int} {e_1 : Int} {r : Int} (hK : rotakeep_MeetMatches_2 e_0 e_1 = some r) : Pure Tryd.prog 38 [.agg [.int .i64 e_0, .int .i64 e_1]] (.int .i64 r) [] := by
  refine Pure_introF tab_ok (n := 5) (l := [.tmp 2]) Tryd.func38 rfl rfl rfl (by simp) fun hfact w0 => ?_
  simp only [factL1, fact1, fact0, factL0, lo, hi, maxLen, and_true] at hfact
  unfold rotakeep_MeetMatches_2 at hK
  refine AWP_seq ?_
  -- region 0
  refine AWP_rg tab_ok [1] fun c st' hr => ?_
  simp only [go_sem, reduceIte, reduceCtorEq, Nat.reduceEqDiff, Nat.reduceLT, Nat.reduceLeDiff, Nat.reduceBEq, Nat.reduceAdd, Nat.reduceMul, Nat.reduceSub, Nat.reducePow, Int.reduceLE, Int.reduceLT, Int.reduceNeg, Int.reduceToNat, Int.reduceAdd, Int.reduceSub] at hr
  obtain ⟨rfl, rfl⟩ := hr
  refine ⟨vc, ?_⟩
  with_reducible refine thenC_normal ?_
  refine AWP_seq ?_
  -- region 1
  refine AWP_rg tab_ok [2] fun c st' hr => ?_
  simp only [go_sem, reduceIte, reduceCtorEq, Nat.reduceEqDiff, Nat.reduceLT, Nat.reduceLeDiff, Nat.reduceBEq, Nat.reduceAdd, Nat.reduceMul, Nat.reduceSub, Nat.reducePow, Int.reduceLE, Int.reduceLT, Int.reduceNeg, Int.reduceToNat, Int.reduceAdd, Int.reduceSub] at hr
  obtain ⟨rfl, rfl⟩ := hr
  refine ⟨vc, ?_⟩
  with_reducible refine thenC_normal ?_
  refine AWP_ret ?_
  cases hK
  refine EndsRW [] (.inl rfl) (of_decide_eq_true rfl) (by simp) rfl (fun c x hr => ?_) trivial
  simp only [go_sem, reduceIte, reduceCtorEq, Nat.reduceEqDiff, Nat.reduceLT, Nat.reduceLeDiff, Nat.reduceBEq, Nat.reduceAdd, Nat.reduceMul, Nat.reduceSub, Nat.reducePow, Int.reduceLE, Int.reduceLT, Int.reduceNeg, Int.reduceToNat, Int.reduceAdd, Int.reduceSub] at hr
  obtain ⟨rfl, rfl⟩ := hr
  exact ⟨rfl, endR⟩

set_option maxRecDepth 8000 in
set_option maxHeartbeats 4000000 in
theorem W_rotakeep_MeetMatches_1 {c0_0 : Int} {c0_1 : List (Int × Int)} {c1 : Int} {of : Int → Int → Option (Int)} {ofP : Nat} {ofC : List AVal} (hoff : ∀ args w, (callFunc ofP args).run Tryd.prog w = .ok (.enter ofP args) w) (hofa : ofC.all atomB = true) (hof : ∀ x0_0 x0_1 r, of x0_0 x0_1 = some r → Pure Tryd.prog ofP ([.agg [.int .i64 x0_0, .int .i64 x0_1]] ++ ofC) (.int .i64 r) []) {r : Int × List Int × Int} (hK : rotakeep_MeetMatches_1 c0_0 c0_1 c1 of = some r) : Pure Tryd.prog 35 [.func ofP ofC, .immp [.int .i64 c0_0, .fn 2 c0_1.length (fun i => [.int .i64 ((c0_1.getD i (0, 0)).1), .int .i64 ((c0_1.getD i (0, 0)).2)])], .intp .i64 c1] (.tup [.agg [.int .i64 r.1, .own 0 r.2.1.length], .int .i64 r.2.2]) [(.ints 3 .i64 r.2.1)] := by
  refine Pure_introF tab_ok (n := 53) (l := [.cell 4 51, .tmp 5]) Tryd.func35 rfl rfl rfl (by simp) fun hfact w0 => ?_
  have hofr : ∀ ρ, List.map (ren0 ρ) ofC = ofC := fun ρ => ren_atoms ρ hofa
  simp only [factL1, fact1, fact0, factL0, lo, hi, maxLen, and_true] at hfact
  unfold rotakeep_MeetMatches_1 at hK
  refine AWP_seq ?_
  -- region 0
  refine AWP_rg tab_ok [0, 1, 2, 4] fun c st' hr => ?_
  simp only [go_sem, reduceIte, reduceCtorEq, Nat.reduceEqDiff, Nat.reduceLT, Nat.reduceLeDiff, Nat.reduceBEq, Nat.reduceAdd, Nat.reduceMul, Nat.reduceSub, Nat.reducePow, Int.reduceLE, Int.reduceLT, Int.reduceNeg, Int.reduceToNat, Int.reduceAdd, Int.reduceSub] at hr
  obtain ⟨rfl, rfl⟩ := hr
  refine ⟨vc, ?_⟩
  with_reducible refine thenC_normal ?_
  refine AWP_ownH 0 1 (.ints 3 .i64 []) rfl rfl rfl fun st' hr => ?_
  simp only [go_sem, reduceIte, reduceCtorEq, Nat.reduceEqDiff, Nat.reduceLT, Nat.reduceLeDiff, Nat.reduceBEq, Nat.reduceAdd, Nat.reduceMul, Nat.reduceSub, Nat.reducePow, Int.reduceLE, Int.reduceLT, Int.reduceNeg, Int.reduceToNat, Int.reduceAdd, Int.reduceSub] at hr
  subst hr
  refine AWP_seq ?_
  -- region 1
  refine AWP_rg tab_ok [0, 1, 2, 4, 6, 7] fun c st' hr => ?_
  simp only [go_sem, reduceIte, reduceCtorEq, Nat.reduceEqDiff, Nat.reduceLT, Nat.reduceLeDiff, Nat.reduceBEq, Nat.reduceAdd, Nat.reduceMul, Nat.reduceSub, Nat.reducePow, Int.reduceLE, Int.reduceLT, Int.reduceNeg, Int.reduceToNat, Int.reduceAdd, Int.reduceSub] at hr
  obtain ⟨rfl, rfl⟩ := hr
  refine ⟨vc, ?_⟩
  with_reducible refine thenC_normal ?_
  refine AWP_own 6 (.ints 3 .i64 []) rfl rfl fun st' hr => ?_
  simp only [go_sem, reduceIte, reduceCtorEq, Nat.reduceEqDiff, Nat.reduceLT, Nat.reduceLeDiff, Nat.reduceBEq, Nat.reduceAdd, Nat.reduceMul, Nat.reduceSub, Nat.reducePow, Int.reduceLE, Int.reduceLT, Int.reduceNeg, Int.reduceToNat, Int.reduceAdd, Int.reduceSub] at hr
  subst hr
  refine AWP_own 7 (.ints 3 .i64 []) rfl rfl fun st' hr => ?_
  simp only [go_sem, reduceIte, reduceCtorEq, Nat.reduceEqDiff, Nat.reduceLT, Nat.reduceLeDiff, Nat.reduceBEq, Nat.reduceAdd, Nat.reduceMul, Nat.reduceSub, Nat.reducePow, Int.reduceLE, Int.reduceLT, Int.reduceNeg, Int.reduceToNat, Int.reduceAdd, Int.reduceSub] at hr
  subst hr
  refine AWP_seq ?_
  refine AWP_seq ?_
  -- region 2
  refine AWP_rg tab_ok [0, 1, 2, 4, 6, 7, 13, 14] fun c st' hr => ?_
  simp only [go_sem, reduceIte, reduceCtorEq, Nat.reduceEqDiff, Nat.reduceLT, Nat.reduceLeDiff, Nat.reduceBEq, Nat.reduceAdd, Nat.reduceMul, Nat.reduceSub, Nat.reducePow, Int.reduceLE, Int.reduceLT, Int.reduceNeg, Int.reduceToNat, Int.reduceAdd, Int.reduceSub] at hr
  obtain ⟨rfl, rfl⟩ := hr
  refine ⟨vc, ?_⟩
  with_reducible refine thenC_normal ?_
  refine AWP_block ?_
  refine AWP_loopX 0 (fun ((l, most, v) : List Int × List Int × Int) => ⟨53, [(0, .func ofP ofC), (1, .immp [.int .i64 c0_0, .fn 2 c0_1.length (fun i => [.int .i64 ((c0_1.getD i (0, 0)).1), .int .i64 ((c0_1.getD i (0, 0)).2)])]), (2, .intp .i64 c1), (4, .ptr 0 0 0), (6, .own 2 l.length), (7, .own 3 most.length), (13, .int .i64 c0_0), (14, .int .i64 v)], [some (.gen 51 2 [[.int .i64 0, .own 1 0]]), some (.ints 3 .i64 []), some (.ints 3 .i64 l), some (.ints 3 .i64 most)]⟩) (fun ((l1, most1) : List Int × List Int) => ⟨53, [(2, .intp .i64 c1), (4, .ptr 0 0 0), (6, .own 2 l1.length), (7, .own 3 most1.length)], [some (.gen 51 2 [[.int .i64 0, .own 1 0]]), some (.ints 3 .i64 []), some (.ints 3 .i64 l1), some (.ints 3 .i64 most1)]⟩) (fun v => v) ([], [], 0) [0, 1, 2, 3] hK mkWk ?_ ?_
  · clear hK; rintro ⟨l, most, v⟩ b hK hpost1
    try dsimp only at hK
    change AWP _ _ _ _ ⟨53, [(0, .func ofP ofC), (1, .immp [.int .i64 c0_0, .fn 2 c0_1.length (fun i => [.int .i64 ((c0_1.getD i (0, 0)).1), .int .i64 ((c0_1.getD i (0, 0)).2)])]), (2, .intp .i64 c1), (4, .ptr 0 0 0), (6, .own 2 l.length), (7, .own 3 most.length), (13, .int .i64 c0_0), (14, .int .i64 v)], [some (.gen 51 2 [[.int .i64 0, .own 1 0]]), some (.ints 3 .i64 []), some (.ints 3 .i64 l), some (.ints 3 .i64 most)]⟩
    refine AWP_seq ?_
    -- region 3
    refine AWP_rg tab_ok [0, 1, 2, 4, 6, 7, 13, 14, 15] fun c st' hr => ?_
    simp only [go_sem, reduceIte, reduceCtorEq, Nat.reduceEqDiff, Nat.reduceLT, Nat.reduceLeDiff, Nat.reduceBEq, Nat.reduceAdd, Nat.reduceMul, Nat.reduceSub, Nat.reducePow, Int.reduceLE, Int.reduceLT, Int.reduceNeg, Int.reduceToNat, Int.reduceAdd, Int.reduceSub] at hr
    obtain ⟨rfl, rfl⟩ := hr
    refine ⟨vc, ?_⟩
    with_reducible refine thenC_normal ?_
    refine AWP_seq ?_
    refine AWP_condP (v < c0_0) rfl bd (fun hb => ?_) (fun hb => ?_)
    · replace hK := ite_t hK hb
      refine AWP_skip ?_
      with_reducible refine thenC_normal ?_
      refine AWP_seq ?_
      refine AWP_block ?_
      refine AWP_seq ?_
      -- region 4
      refine AWP_rg tab_ok [0, 1, 2, 4, 6, 7, 8, 13, 14] fun c st' hr => ?_
      simp only [go_sem, reduceIte, reduceCtorEq, Nat.reduceEqDiff, Nat.reduceLT, Nat.reduceLeDiff, Nat.reduceBEq, Nat.reduceAdd, Nat.reduceMul, Nat.reduceSub, Nat.reducePow, Int.reduceLE, Int.reduceLT, Int.reduceNeg, Int.reduceToNat, Int.reduceAdd, Int.reduceSub] at hr
      obtain ⟨rfl, rfl⟩ := hr
      refine ⟨vc, ?_⟩
      with_reducible refine thenC_normal ?_
      refine AWP_seq ?_
      -- region 5
      refine AWP_rg tab_ok [0, 1, 2, 4, 6, 7, 8, 9, 13, 14] fun c st' hr => ?_
      simp only [go_sem, reduceIte, reduceCtorEq, Nat.reduceEqDiff, Nat.reduceLT, Nat.reduceLeDiff, Nat.reduceBEq, Nat.reduceAdd, Nat.reduceMul, Nat.reduceSub, Nat.reducePow, Int.reduceLE, Int.reduceLT, Int.reduceNeg, Int.reduceToNat, Int.reduceAdd, Int.reduceSub] at hr
      obtain ⟨rfl, rfl⟩ := hr
      refine ⟨vc, ?_⟩
      with_reducible refine thenC_normal ?_
      refine AWP_seq ?_
      refine AWP_seq ?_
      -- region 6
      refine AWP_rg tab_ok [0, 1, 2, 4, 6, 7, 8, 9, 13, 14, 18, 19, 20] fun c st' hr => ?_
      simp only [go_sem, reduceIte, reduceCtorEq, Nat.reduceEqDiff, Nat.reduceLT, Nat.reduceLeDiff, Nat.reduceBEq, Nat.reduceAdd, Nat.reduceMul, Nat.reduceSub, Nat.reducePow, Int.reduceLE, Int.reduceLT, Int.reduceNeg, Int.reduceToNat, Int.reduceAdd, Int.reduceSub] at hr
      obtain ⟨rfl, rfl⟩ := hr
      refine ⟨vc, ?_⟩
      with_reducible refine thenC_normal ?_
      refine AWP_block ?_
      refine AWP_loopX 2 (fun ((s, v1) : Int × Int) => ⟨53, [(0, .func ofP ofC), (1, .immp [.int .i64 c0_0, .fn 2 c0_1.length (fun i => [.int .i64 ((c0_1.getD i (0, 0)).1), .int .i64 ((c0_1.getD i (0, 0)).2)])]), (2, .intp .i64 c1), (4, .ptr 0 0 0), (6, .own 2 l.length), (7, .own 3 most.length), (8, .int .i64 v), (9, .int .i64 s), (13, .int .i64 c0_0), (14, .int .i64 v), (18, .fn 2 c0_1.length (fun i => [.int .i64 ((c0_1.getD i (0, 0)).1), .int .i64 ((c0_1.getD i (0, 0)).2)])), (19, .int .i64 (c0_1.length : Int)), (20, .int .i64 v1)], [some (.gen 51 2 [[.int .i64 0, .own 1 0]]), some (.ints 3 .i64 []), some (.ints 3 .i64 l), some (.ints 3 .i64 most)]⟩) (fun (s1 : Int) => ⟨53, [(0, .func ofP ofC), (1, .immp [.int .i64 c0_0, .fn 2 c0_1.length (fun i => [.int .i64 ((c0_1.getD i (0, 0)).1), .int .i64 ((c0_1.getD i (0, 0)).2)])]), (2, .intp .i64 c1), (4, .ptr 0 0 0), (6, .own 2 l.length), (7, .own 3 most.length), (9, .int .i64 s1), (13, .int .i64 c0_0), (14, .int .i64 v)], [some (.gen 51 2 [[.int .i64 0, .own 1 0]]), some (.ints 3 .i64 []), some (.ints 3 .i64 l), some (.ints 3 .i64 most)]⟩) (fun v => v) (0, 0) [0, 1, 2, 3] hK mkWk ?_ ?_
      · clear hK; rintro ⟨s, v1⟩ b1 hK hpost2
        try dsimp only at hK
        change AWP _ _ _ _ ⟨53, [(0, .func ofP ofC), (1, .immp [.int .i64 c0_0, .fn 2 c0_1.length (fun i => [.int .i64 ((c0_1.getD i (0, 0)).1), .int .i64 ((c0_1.getD i (0, 0)).2)])]), (2, .intp .i64 c1), (4, .ptr 0 0 0), (6, .own 2 l.length), (7, .own 3 most.length), (8, .int .i64 v), (9, .int .i64 s), (13, .int .i64 c0_0), (14, .int .i64 v), (18, .fn 2 c0_1.length (fun i => [.int .i64 ((c0_1.getD i (0, 0)).1), .int .i64 ((c0_1.getD i (0, 0)).2)])), (19, .int .i64 (c0_1.length : Int)), (20, .int .i64 v1)], [some (.gen 51 2 [[.int .i64 0, .own 1 0]]), some (.ints 3 .i64 []), some (.ints 3 .i64 l), some (.ints 3 .i64 most)]⟩
        refine AWP_seq ?_
        -- region 7
        refine AWP_rg tab_ok [0, 1, 2, 4, 6, 7, 8, 9, 13, 14, 18, 19, 20, 21] fun c st' hr => ?_
        simp only [go_sem, reduceIte, reduceCtorEq, Nat.reduceEqDiff, Nat.reduceLT, Nat.reduceLeDiff, Nat.reduceBEq, Nat.reduceAdd, Nat.reduceMul, Nat.reduceSub, Nat.reducePow, Int.reduceLE, Int.reduceLT, Int.reduceNeg, Int.reduceToNat, Int.reduceAdd, Int.reduceSub] at hr
        obtain ⟨rfl, rfl⟩ := hr
        refine ⟨vc, ?_⟩
        with_reducible refine thenC_normal ?_
        refine AWP_seq ?_
        refine AWP_condP (v1 < (c0_1.length : Int)) rfl bd (fun hb1 => ?_) (fun hb1 => ?_)
        · replace hK := ite_t hK hb1
          refine AWP_skip ?_
          with_reducible refine thenC_normal ?_
          refine AWP_seq ?_
          refine AWP_block ?_
          refine AWP_seq ?_
          -- region 8
          replace hK := chk_some hK
          obtain ⟨h, hK⟩ := hK
          refine AWP_rg tab_ok [0, 1, 2, 4, 6, 7, 8, 9, 10, 11, 13, 14, 18, 19, 20] fun c st' hr => ?_
          simp only [go_sem, reduceIte, reduceCtorEq, Nat.reduceEqDiff, Nat.reduceLT, Nat.reduceLeDiff, Nat.reduceBEq, Nat.reduceAdd, Nat.reduceMul, Nat.reduceSub, Nat.reducePow, Int.reduceLE, Int.reduceLT, Int.reduceNeg, Int.reduceToNat, Int.reduceAdd, Int.reduceSub] at hr
          obtain ⟨rfl, rfl⟩ := hr
          refine ⟨vc, ?_⟩
          with_reducible refine thenC_normal ?_
          refine AWP_seq ?_
          -- region 9
          refine AWP_rl ?_
          refine AWPL_rn tab_ok 2 [0, 1, 2, 4, 6, 7, 8, 9, 10, 13, 14, 18, 19, 20, 25, 26] fun c st' hr => ?_
          simp only [go_sem, reduceIte, reduceCtorEq, Nat.reduceEqDiff, Nat.reduceLT, Nat.reduceLeDiff, Nat.reduceBEq, Nat.reduceAdd, Nat.reduceMul, Nat.reduceSub, Nat.reducePow, Int.reduceLE, Int.reduceLT, Int.reduceNeg, Int.reduceToNat, Int.reduceAdd, Int.reduceSub] at hr
          obtain ⟨rfl, rfl⟩ := hr
          refine ⟨vc, ?_⟩
          replace hK := bind_s hK
          obtain ⟨y, hy, hK⟩ := hK
          refine AWPL_callK [0, 1, 2, 4, 6, 7, 8, 9, 10, 13, 14, 18, 19, 20, 27] (hof _ _ _ hy) rfl rfl pcT rfl hoff (.app (.cons (.agg _ _ rfl (ArgsOk.get (.cons (.atom _ rfl) (.cons (.atom _ rfl) .nil))).2) .nil) (.refl hofa)) (hscG trivial) (of_decide_eq_true rfl) (by first | rfl | simp [nI, nI1, nI0]) (by first | rfl | simp [nIB, nI0]) fun st' hr => ?_
          simp only [go_sem, reduceIte, reduceCtorEq, Nat.reduceEqDiff, Nat.reduceLT, Nat.reduceLeDiff, Nat.reduceBEq, Nat.reduceAdd, Nat.reduceMul, Nat.reduceSub, Nat.reducePow, Int.reduceLE, Int.reduceLT, Int.reduceNeg, Int.reduceToNat, Int.reduceAdd, Int.reduceSub] at hr
          subst hr
          clear hy
          refine AWPL_rn tab_ok 2 [0, 1, 2, 4, 6, 7, 8, 9, 10, 13, 14, 18, 19, 20, 29] fun c st' hr => ?_
          simp only [go_sem, reduceIte, reduceCtorEq, Nat.reduceEqDiff, Nat.reduceLT, Nat.reduceLeDiff, Nat.reduceBEq, Nat.reduceAdd, Nat.reduceMul, Nat.reduceSub, Nat.reducePow, Int.reduceLE, Int.reduceLT, Int.reduceNeg, Int.reduceToNat, Int.reduceAdd, Int.reduceSub] at hr
          obtain ⟨rfl, rfl⟩ := hr
          refine ⟨vc, ?_⟩
          refine AWPL_nil ?_
          with_reducible refine thenC_normal ?_
          refine AWP_condP (y = v) rfl bd (fun hb2 => ?_) (fun hb2 => ?_)
          · replace hK := ite_t hK hb2
            -- region 10
            replace hK := chk_some hK
            obtain ⟨h1, hK⟩ := hK
            refine AWP_rg tab_ok [0, 1, 2, 4, 6, 7, 8, 9, 13, 14, 18, 19, 20] fun c st' hr => ?_
            simp only [go_sem, reduceIte, reduceCtorEq, Nat.reduceEqDiff, Nat.reduceLT, Nat.reduceLeDiff, Nat.reduceBEq, Nat.reduceAdd, Nat.reduceMul, Nat.reduceSub, Nat.reducePow, Int.reduceLE, Int.reduceLT, Int.reduceNeg, Int.reduceToNat, Int.reduceAdd, Int.reduceSub] at hr
            obtain ⟨rfl, rfl⟩ := hr
            refine ⟨vc, ?_⟩
            with_reducible refine inBlockA_normal (thenC_normal ?_)
            -- region 11
            refine AWP_facts (by simp) fun hfx => ?_
            simp only [factS, factV, fact1, fact0, factL0, lo, hi, maxLen, and_true, true_and] at hfx
            refine AWP_rg tab_ok [0, 1, 2, 4, 6, 7, 8, 9, 13, 14, 18, 19, 20] fun c st' hr => ?_
            simp only [go_sem, reduceIte, reduceCtorEq, Nat.reduceEqDiff, Nat.reduceLT, Nat.reduceLeDiff, Nat.reduceBEq, Nat.reduceAdd, Nat.reduceMul, Nat.reduceSub, Nat.reducePow, Int.reduceLE, Int.reduceLT, Int.reduceNeg, Int.reduceToNat, Int.reduceAdd, Int.reduceSub] at hr
            obtain ⟨rfl, rfl⟩ := hr
            refine ⟨vc, ?_⟩
            clear hfx
            refine again_n (ior s (2 ^ v1.toNat : Int), v1 + 1) [0, 1, 2, 3] hK mkWk
          · replace hK := ite_f hK hb2
            refine AWP_skip ?_
            with_reducible refine inBlockA_normal (thenC_normal ?_)
            -- region 11
            refine AWP_facts (by simp) fun hfx => ?_
            simp only [factS, factV, fact1, fact0, factL0, lo, hi, maxLen, and_true, true_and] at hfx
            refine AWP_rg tab_ok [0, 1, 2, 4, 6, 7, 8, 9, 13, 14, 18, 19, 20] fun c st' hr => ?_
            simp only [go_sem, reduceIte, reduceCtorEq, Nat.reduceEqDiff, Nat.reduceLT, Nat.reduceLeDiff, Nat.reduceBEq, Nat.reduceAdd, Nat.reduceMul, Nat.reduceSub, Nat.reducePow, Int.reduceLE, Int.reduceLT, Int.reduceNeg, Int.reduceToNat, Int.reduceAdd, Int.reduceSub] at hr
            obtain ⟨rfl, rfl⟩ := hr
            refine ⟨vc, ?_⟩
            clear hfx
            refine again_n (s, v1 + 1) [0, 1, 2, 3] hK mkWk
        · replace hK := ite_f hK hb1
          refine AWP_exit ?_
          with_reducible refine thenC_exit (again_x ?_)
          refine cutX_here s [0, 1, 2, 3] (by have hq := hpost2 _ hK; exact hq) mkWk
      · clear hK; rintro s1 hK
        try dsimp only at hK
        refine exS ⟨53, [(0, .func ofP ofC), (1, .immp [.int .i64 c0_0, .fn 2 c0_1.length (fun i => [.int .i64 ((c0_1.getD i (0, 0)).1), .int .i64 ((c0_1.getD i (0, 0)).2)])]), (2, .intp .i64 c1), (4, .ptr 0 0 0), (6, .own 2 l.length), (7, .own 3 most.length), (9, .int .i64 s1), (13, .int .i64 c0_0), (14, .int .i64 v)], [some (.gen 51 2 [[.int .i64 0, .own 1 0]]), some (.ints 3 .i64 []), some (.ints 3 .i64 l), some (.ints 3 .i64 most)]⟩ rfl ?_
        with_reducible refine inBlockA_exit (thenC_normal ?_)
        refine AWP_seq ?_
        -- region 12
        refine AWP_rg tab_ok [0, 1, 2, 4, 6, 7, 9, 13, 14, 36] fun c st' hr => ?_
        simp only [go_sem, reduceIte, reduceCtorEq, Nat.reduceEqDiff, Nat.reduceLT, Nat.reduceLeDiff, Nat.reduceBEq, Nat.reduceAdd, Nat.reduceMul, Nat.reduceSub, Nat.reducePow, Int.reduceLE, Int.reduceLT, Int.reduceNeg, Int.reduceToNat, Int.reduceAdd, Int.reduceSub] at hr
        obtain ⟨rfl, rfl⟩ := hr
        refine ⟨vc, ?_⟩
        with_reducible refine thenC_normal ?_
        refine AWP_condP (0 < s1) rfl bd (fun hb3 => ?_) (fun hb3 => ?_)
        · replace hK := ite_t hK hb3
          -- region 13
          replace hK := chk_some hK
          obtain ⟨h2, hK⟩ := hK
          refine AWP_rg tab_ok [0, 1, 2, 4, 6, 7, 13, 14] fun c st' hr => ?_
          simp only [go_sem, reduceIte, reduceCtorEq, Nat.reduceEqDiff, Nat.reduceLT, Nat.reduceLeDiff, Nat.reduceBEq, Nat.reduceAdd, Nat.reduceMul, Nat.reduceSub, Nat.reducePow, Int.reduceLE, Int.reduceLT, Int.reduceNeg, Int.reduceToNat, Int.reduceAdd, Int.reduceSub] at hr
          obtain ⟨rfl, rfl⟩ := hr
          refine ⟨vc, ?_⟩
          with_reducible refine inBlockA_normal (thenC_normal ?_)
          -- region 14
          refine AWP_facts (by simp) fun hfx => ?_
          simp only [factS, factV, fact1, fact0, factL0, lo, hi, maxLen, and_true, true_and] at hfx
          refine AWP_rg tab_ok [0, 1, 2, 4, 6, 7, 13, 14] fun c st' hr => ?_
          simp only [go_sem, reduceIte, reduceCtorEq, Nat.reduceEqDiff, Nat.reduceLT, Nat.reduceLeDiff, Nat.reduceBEq, Nat.reduceAdd, Nat.reduceMul, Nat.reduceSub, Nat.reducePow, Int.reduceLE, Int.reduceLT, Int.reduceNeg, Int.reduceToNat, Int.reduceAdd, Int.reduceSub] at hr
          obtain ⟨rfl, rfl⟩ := hr
          refine ⟨vc, ?_⟩
          clear hfx
          refine again_n (l ++ [s1], most ++ [1], v + 1) [0, 1, 5, 7] hK mkWk
        · replace hK := ite_f hK hb3
          refine AWP_skip ?_
          with_reducible refine inBlockA_normal (thenC_normal ?_)
          -- region 14
          refine AWP_facts (by simp) fun hfx => ?_
          simp only [factS, factV, fact1, fact0, factL0, lo, hi, maxLen, and_true, true_and] at hfx
          refine AWP_rg tab_ok [0, 1, 2, 4, 6, 7, 13, 14] fun c st' hr => ?_
          simp only [go_sem, reduceIte, reduceCtorEq, Nat.reduceEqDiff, Nat.reduceLT, Nat.reduceLeDiff, Nat.reduceBEq, Nat.reduceAdd, Nat.reduceMul, Nat.reduceSub, Nat.reducePow, Int.reduceLE, Int.reduceLT, Int.reduceNeg, Int.reduceToNat, Int.reduceAdd, Int.reduceSub] at hr
          obtain ⟨rfl, rfl⟩ := hr
          refine ⟨vc, ?_⟩
          clear hfx
          refine again_n (l, most, v + 1) [0, 1, 2, 3] hK mkWk
    · replace hK := ite_f hK hb
      refine AWP_exit ?_
      with_reducible refine thenC_exit (again_x ?_)
      refine cutX_here (l, most) [0, 1, 2, 3] (by have hq := hpost1 _ hK; exact hq) mkWk
  · clear hK; rintro ⟨l1, most1⟩ hK
    try dsimp only at hK
    refine exS ⟨53, [(2, .intp .i64 c1), (4, .ptr 0 0 0), (6, .own 2 l1.length), (7, .own 3 most1.length)], [some (.gen 51 2 [[.int .i64 0, .own 1 0]]), some (.ints 3 .i64 []), some (.ints 3 .i64 l1), some (.ints 3 .i64 most1)]⟩ rfl ?_
    with_reducible refine inBlockA_exit (thenC_normal ?_)
    refine AWP_seq ?_
    -- region 15
    refine AWP_rl ?_
    refine AWPL_rn tab_ok 1 [2, 4, 6, 7, 45] fun c st' hr => ?_
    simp only [go_sem, reduceIte, reduceCtorEq, Nat.reduceEqDiff, Nat.reduceLT, Nat.reduceLeDiff, Nat.reduceBEq, Nat.reduceAdd, Nat.reduceMul, Nat.reduceSub, Nat.reducePow, Int.reduceLE, Int.reduceLT, Int.reduceNeg, Int.reduceToNat, Int.reduceAdd, Int.reduceSub] at hr
    obtain ⟨rfl, rfl⟩ := hr
    refine ⟨vc, ?_⟩
    replace hK := chk_some hK
    obtain ⟨h3, hK⟩ := hK
    refine AWPL_sort [2, 4, 6, 7] Tryd.lays189 rfl rfl pcT rfl Tryd.call36 (of_decide_eq_true rfl) rfl rfl h3 fun st' hr => ?_
    simp only [go_sem, reduceIte, reduceCtorEq, Nat.reduceEqDiff, Nat.reduceLT, Nat.reduceLeDiff, Nat.reduceBEq, Nat.reduceAdd, Nat.reduceMul, Nat.reduceSub, Nat.reducePow, Int.reduceLE, Int.reduceLT, Int.reduceNeg, Int.reduceToNat, Int.reduceAdd, Int.reduceSub] at hr
    subst hr
    refine AWPL_stP [(2, .intp .i64 c1), (4, .ptr 0 0 0), (6, .own 2 ((sortL l1).length)), (7, .own 3 most1.length)] (by simp [SameS, AX.look, sortL_len]) ?_
    refine AWPL_nil ?_
    with_reducible refine thenC_normal ?_
    refine AWP_seq ?_
    -- region 16
    refine AWP_rl ?_
    refine AWPL_rn tab_ok 3 [4, 47, 48, 49] fun c st' hr => ?_
    simp only [go_sem, reduceIte, reduceCtorEq, Nat.reduceEqDiff, Nat.reduceLT, Nat.reduceLeDiff, Nat.reduceBEq, Nat.reduceAdd, Nat.reduceMul, Nat.reduceSub, Nat.reducePow, Int.reduceLE, Int.reduceLT, Int.reduceNeg, Int.reduceToNat, Int.reduceAdd, Int.reduceSub] at hr
    obtain ⟨rfl, rfl⟩ := hr
    refine ⟨vc, ?_⟩
    replace hK := bind_s hK
    obtain ⟨y1, hy, hK⟩ := hK
    refine AWPL_callK [4, 50] (W_kinds_Laminar hy) rfl rfl pcT rfl Tryd.call37 (.cons (.atom _ rfl) (.cons (.ownI _ _ _ _ _ (sortL l1) rfl (by simp) (by simp)) (.cons (.ownI _ _ _ _ _ most1 rfl (by simp) (by simp)) .nil))) (hscG trivial) (of_decide_eq_true rfl) (by first | rfl | simp [nI, nI1, nI0]) (by first | rfl | simp [nIB, nI0]) fun st' hr => ?_
    simp only [go_sem, reduceIte, reduceCtorEq, Nat.reduceEqDiff, Nat.reduceLT, Nat.reduceLeDiff, Nat.reduceBEq, Nat.reduceAdd, Nat.reduceMul, Nat.reduceSub, Nat.reducePow, Int.reduceLE, Int.reduceLT, Int.reduceNeg, Int.reduceToNat, Int.reduceAdd, Int.reduceSub] at hr
    subst hr
    clear hy
    refine AWPL_rn tab_ok 4 [4, 5] fun c st' hr => ?_
    simp only [go_sem, reduceIte, reduceCtorEq, Nat.reduceEqDiff, Nat.reduceLT, Nat.reduceLeDiff, Nat.reduceBEq, Nat.reduceAdd, Nat.reduceMul, Nat.reduceSub, Nat.reducePow, Int.reduceLE, Int.reduceLT, Int.reduceNeg, Int.reduceToNat, Int.reduceAdd, Int.reduceSub] at hr
    obtain ⟨rfl, rfl⟩ := hr
    refine ⟨vc, ?_⟩
    refine AWPL_nil ?_
    with_reducible refine thenC_normal ?_
    refine AWP_ret ?_
    cases hK
    refine EndsRW [4] (.inl rfl) (of_decide_eq_true rfl) (by simp) rfl (fun c x hr => ?_) endH
    simp only [go_sem, reduceIte, reduceCtorEq, Nat.reduceEqDiff, Nat.reduceLT, Nat.reduceLeDiff, Nat.reduceBEq, Nat.reduceAdd, Nat.reduceMul, Nat.reduceSub, Nat.reducePow, Int.reduceLE, Int.reduceLT, Int.reduceNeg, Int.reduceToNat, Int.reduceAdd, Int.reduceSub] at hr
    obtain ⟨rfl, rfl⟩ := hr
    exact ⟨rfl, endR⟩

set_option maxRecDepth 8000 in
set_option maxHeartbeats 4000000 in
theorem W_rotakeep_MeetMatches_3 {e_0 : Int} {e_1 : Int} {r : Int} (hK : rotakeep_MeetMatches_3 e_0 e_1 = some r) : Pure Tryd.prog 39 [.agg [.int .i64 e_0, .int .i64 e_1]] (.int .i64 r) [] := by
  refine Pure_introF tab_ok (n := 5) (l := [.tmp 2]) Tryd.func39 rfl rfl rfl (by simp) fun hfact w0 => ?_
  simp only [factL1, fact1, fact0, factL0, lo, hi, maxLen, and_true] at hfact
  unfold rotakeep_MeetMatches_3 at hK
  refine AWP_seq ?_
  -- region 0
  refine AWP_rg tab_ok [1] fun c st' hr => ?_
  simp only [go_sem, reduceIte, reduceCtorEq, Nat.reduceEqDiff, Nat.reduceLT, Nat.reduceLeDiff, Nat.reduceBEq, Nat.reduceAdd, Nat.reduceMul, Nat.reduceSub, Nat.reducePow, Int.reduceLE, Int.reduceLT, Int.reduceNeg, Int.reduceToNat, Int.reduceAdd, Int.reduceSub] at hr
  obtain ⟨rfl, rfl⟩ := hr
  refine ⟨vc, ?_⟩
  with_reducible refine thenC_normal ?_
  refine AWP_seq ?_
  -- region 1
  refine AWP_rg tab_ok [2] fun c st' hr => ?_
  simp only [go_sem, reduceIte, reduceCtorEq, Nat.reduceEqDiff, Nat.reduceLT, Nat.reduceLeDiff, Nat.reduceBEq, Nat.reduceAdd, Nat.reduceMul, Nat.reduceSub, Nat.reducePow, Int.reduceLE, Int.reduceLT, Int.reduceNeg, Int.reduceToNat, Int.reduceAdd, Int.reduceSub] at hr
  obtain ⟨rfl, rfl⟩ := hr
  refine ⟨vc, ?_⟩
  with_reducible refine thenC_normal ?_
  refine AWP_ret ?_
  cases hK
  refine EndsRW [] (.inl rfl) (of_decide_eq_true rfl) (by simp) rfl (fun c x hr => ?_) trivial
  simp only [go_sem, reduceIte, reduceCtorEq, Nat.reduceEqDiff, Nat.reduceLT, Nat.reduceLeDiff, Nat.reduceBEq, Nat.reduceAdd, Nat.reduceMul, Nat.reduceSub, Nat.reducePow, Int.reduceLE, Int.reduceLT, Int.reduceNeg, Int.reduceToNat, Int.reduceAdd, Int.reduceSub] at hr
  obtain ⟨rfl, rfl⟩ := hr
  exact ⟨rfl, endR⟩

set_option maxRecDepth 8000 in
set_option maxHeartbeats 4000000 in
theorem W_rotakeep_ConvexOrders_1 {c0 : Int} {c1 : List (Int × Int)} {r : Int × List Int × Int} (hK : rotakeep_ConvexOrders_1 c0 c1 = some r) : Pure Tryd.prog 17 [.intp .i64 c0, .immp [.fn 2 c1.length (fun i => [.int .i64 ((c1.getD i (0, 0)).1), .int .i64 ((c1.getD i (0, 0)).2)])]] (.tup [.int .i64 r.1, .own 0 r.2.1.length, .int .i64 r.2.2]) [(.ints 3 .i64 r.2.1)] := by
  refine Pure_introF tab_ok (n := 16) (l := [.tmp 2, .tmp 3, .tmp 4]) Tryd.func17 rfl rfl rfl (by simp) fun hfact w0 => ?_
  simp only [factL1, fact1, fact0, factL0, lo, hi, maxLen, and_true] at hfact
  unfold rotakeep_ConvexOrders_1 at hK
  refine AWP_seq ?_
  -- region 0
  refine AWP_rg tab_ok [0, 1] fun c st' hr => ?_
  simp only [go_sem, reduceIte, reduceCtorEq, Nat.reduceEqDiff, Nat.reduceLT, Nat.reduceLeDiff, Nat.reduceBEq, Nat.reduceAdd, Nat.reduceMul, Nat.reduceSub, Nat.reducePow, Int.reduceLE, Int.reduceLT, Int.reduceNeg, Int.reduceToNat, Int.reduceAdd, Int.reduceSub] at hr
  obtain ⟨rfl, rfl⟩ := hr
  refine ⟨vc, ?_⟩
  with_reducible refine thenC_normal ?_
  refine AWP_seq ?_
  -- region 1
  refine AWP_rl ?_
  refine AWPL_rn tab_ok 2 [0, 8, 9] fun c st' hr => ?_
  simp only [go_sem, reduceIte, reduceCtorEq, Nat.reduceEqDiff, Nat.reduceLT, Nat.reduceLeDiff, Nat.reduceBEq, Nat.reduceAdd, Nat.reduceMul, Nat.reduceSub, Nat.reducePow, Int.reduceLE, Int.reduceLT, Int.reduceNeg, Int.reduceToNat, Int.reduceAdd, Int.reduceSub] at hr
  obtain ⟨rfl, rfl⟩ := hr
  refine ⟨vc, ?_⟩
  replace hK := bind_s hK
  obtain ⟨y, hy, hK⟩ := hK
  refine AWPL_callK [0, 10] (W_convex_Ordered hy) rfl rfl pcT rfl Tryd.call18 (.cons (.atom _ rfl) (.cons (.atom _ rfl) .nil)) (hscG trivial) (of_decide_eq_true rfl) (by first | rfl | simp [nI, nI1, nI0]) (by first | rfl | simp [nIB, nI0]) fun st' hr => ?_
  simp only [go_sem, reduceIte, reduceCtorEq, Nat.reduceEqDiff, Nat.reduceLT, Nat.reduceLeDiff, Nat.reduceBEq, Nat.reduceAdd, Nat.reduceMul, Nat.reduceSub, Nat.reducePow, Int.reduceLE, Int.reduceLT, Int.reduceNeg, Int.reduceToNat, Int.reduceAdd, Int.reduceSub] at hr
  subst hr
  clear hy
  refine AWPL_rn tab_ok 5 [0, 5, 6] fun c st' hr => ?_
  simp only [go_sem, reduceIte, reduceCtorEq, Nat.reduceEqDiff, Nat.reduceLT, Nat.reduceLeDiff, Nat.reduceBEq, Nat.reduceAdd, Nat.reduceMul, Nat.reduceSub, Nat.reducePow, Int.reduceLE, Int.reduceLT, Int.reduceNeg, Int.reduceToNat, Int.reduceAdd, Int.reduceSub] at hr
  obtain ⟨rfl, rfl⟩ := hr
  refine ⟨vc, ?_⟩
  refine AWPL_nil ?_
  with_reducible refine thenC_normal ?_
  refine AWP_seq ?_
  -- region 2
  refine AWP_rg tab_ok [2, 3, 4] fun c st' hr => ?_
  simp only [go_sem, reduceIte, reduceCtorEq, Nat.reduceEqDiff, Nat.reduceLT, Nat.reduceLeDiff, Nat.reduceBEq, Nat.reduceAdd, Nat.reduceMul, Nat.reduceSub, Nat.reducePow, Int.reduceLE, Int.reduceLT, Int.reduceNeg, Int.reduceToNat, Int.reduceAdd, Int.reduceSub] at hr
  obtain ⟨rfl, rfl⟩ := hr
  refine ⟨vc, ?_⟩
  with_reducible refine thenC_normal ?_
  refine AWP_ret ?_
  cases hK
  refine EndsRW [0] (.inl rfl) (of_decide_eq_true rfl) (by simp) rfl (fun c x hr => ?_) endH
  simp only [go_sem, reduceIte, reduceCtorEq, Nat.reduceEqDiff, Nat.reduceLT, Nat.reduceLeDiff, Nat.reduceBEq, Nat.reduceAdd, Nat.reduceMul, Nat.reduceSub, Nat.reducePow, Int.reduceLE, Int.reduceLT, Int.reduceNeg, Int.reduceToNat, Int.reduceAdd, Int.reduceSub] at hr
  obtain ⟨rfl, rfl⟩ := hr
  exact ⟨rfl, endR⟩

set_option maxRecDepth 8000 in
set_option maxHeartbeats 4000000 in
theorem W_rotakeep_ConvexOrders_2 {c0_0 : Int} {c0_1 : List (Int × Int)} {r : Int × List Int × Int} (hK : rotakeep_ConvexOrders_2 c0_0 c0_1 = some r) : Pure Tryd.prog 19 [.immp [.int .i64 c0_0, .fn 2 c0_1.length (fun i => [.int .i64 ((c0_1.getD i (0, 0)).1), .int .i64 ((c0_1.getD i (0, 0)).2)])]] (.tup [.int .i64 r.1, .own 0 r.2.1.length, .int .i64 r.2.2]) [(.ints 3 .i64 r.2.1)] := by
  refine Pure_introF tab_ok (n := 15) (l := [.tmp 1, .tmp 2, .tmp 3]) Tryd.func19 rfl rfl rfl (by simp) fun hfact w0 => ?_
  simp only [factL1, fact1, fact0, factL0, lo, hi, maxLen, and_true] at hfact
  unfold rotakeep_ConvexOrders_2 at hK
  refine AWP_seq ?_
  -- region 0
  refine AWP_rg tab_ok [0] fun c st' hr => ?_
  simp only [go_sem, reduceIte, reduceCtorEq, Nat.reduceEqDiff, Nat.reduceLT, Nat.reduceLeDiff, Nat.reduceBEq, Nat.reduceAdd, Nat.reduceMul, Nat.reduceSub, Nat.reducePow, Int.reduceLE, Int.reduceLT, Int.reduceNeg, Int.reduceToNat, Int.reduceAdd, Int.reduceSub] at hr
  obtain ⟨rfl, rfl⟩ := hr
  refine ⟨vc, ?_⟩
  with_reducible refine thenC_normal ?_
  refine AWP_seq ?_
  -- region 1
  refine AWP_rl ?_
  refine AWPL_rn tab_ok 1 [0, 7] fun c st' hr => ?_
  simp only [go_sem, reduceIte, reduceCtorEq, Nat.reduceEqDiff, Nat.reduceLT, Nat.reduceLeDiff, Nat.reduceBEq, Nat.reduceAdd, Nat.reduceMul, Nat.reduceSub, Nat.reducePow, Int.reduceLE, Int.reduceLT, Int.reduceNeg, Int.reduceToNat, Int.reduceAdd, Int.reduceSub] at hr
  obtain ⟨rfl, rfl⟩ := hr
  refine ⟨vc, ?_⟩
  replace hK := bind_s hK
  obtain ⟨y, hy, hK⟩ := hK
  refine AWPL_callK [0, 8] (W_convex_Tree hy) rfl rfl pcT rfl Tryd.call20 (.cons (.agg _ _ rfl (ArgsOk.get (.cons (.atom _ rfl) (.cons (.atom _ rfl) .nil))).2) .nil) (hscG trivial) (of_decide_eq_true rfl) (by first | rfl | simp [nI, nI1, nI0]) (by first | rfl | simp [nIB, nI0]) fun st' hr => ?_
  simp only [go_sem, reduceIte, reduceCtorEq, Nat.reduceEqDiff, Nat.reduceLT, Nat.reduceLeDiff, Nat.reduceBEq, Nat.reduceAdd, Nat.reduceMul, Nat.reduceSub, Nat.reducePow, Int.reduceLE, Int.reduceLT, Int.reduceNeg, Int.reduceToNat, Int.reduceAdd, Int.reduceSub] at hr
  subst hr
  clear hy
  refine AWPL_rn tab_ok 5 [0, 4, 5] fun c st' hr => ?_
  simp only [go_sem, reduceIte, reduceCtorEq, Nat.reduceEqDiff, Nat.reduceLT, Nat.reduceLeDiff, Nat.reduceBEq, Nat.reduceAdd, Nat.reduceMul, Nat.reduceSub, Nat.reducePow, Int.reduceLE, Int.reduceLT, Int.reduceNeg, Int.reduceToNat, Int.reduceAdd, Int.reduceSub] at hr
  obtain ⟨rfl, rfl⟩ := hr
  refine ⟨vc, ?_⟩
  refine AWPL_nil ?_
  with_reducible refine thenC_normal ?_
  refine AWP_seq ?_
  -- region 2
  refine AWP_rg tab_ok [1, 2, 3] fun c st' hr => ?_
  simp only [go_sem, reduceIte, reduceCtorEq, Nat.reduceEqDiff, Nat.reduceLT, Nat.reduceLeDiff, Nat.reduceBEq, Nat.reduceAdd, Nat.reduceMul, Nat.reduceSub, Nat.reducePow, Int.reduceLE, Int.reduceLT, Int.reduceNeg, Int.reduceToNat, Int.reduceAdd, Int.reduceSub] at hr
  obtain ⟨rfl, rfl⟩ := hr
  refine ⟨vc, ?_⟩
  with_reducible refine thenC_normal ?_
  refine AWP_ret ?_
  cases hK
  refine EndsRW [0] (.inl rfl) (of_decide_eq_true rfl) (by simp) rfl (fun c x hr => ?_) endH
  simp only [go_sem, reduceIte, reduceCtorEq, Nat.reduceEqDiff, Nat.reduceLT, Nat.reduceLeDiff, Nat.reduceBEq, Nat.reduceAdd, Nat.reduceMul, Nat.reduceSub, Nat.reducePow, Int.reduceLE, Int.reduceLT, Int.reduceNeg, Int.reduceToNat, Int.reduceAdd, Int.reduceSub] at hr
  obtain ⟨rfl, rfl⟩ := hr
  exact ⟨rfl, endR⟩

set_option maxRecDepth 8000 in
set_option maxHeartbeats 4000000 in
theorem W_rotakeep_ConvexOrders_3 {c0 : Int} {r : Int × List Int × Int} (hK : rotakeep_ConvexOrders_3 c0 = some r) : Pure Tryd.prog 21 [.intp .i64 c0] (.tup [.int .i64 r.1, .own 0 r.2.1.length, .int .i64 r.2.2]) [(.ints 3 .i64 r.2.1)] := by
  refine Pure_introF tab_ok (n := 14) (l := [.tmp 1, .tmp 2, .tmp 3]) Tryd.func21 rfl rfl rfl (by simp) fun hfact w0 => ?_
  simp only [factL1, fact1, fact0, factL0, lo, hi, maxLen, and_true] at hfact
  unfold rotakeep_ConvexOrders_3 at hK
  refine AWP_seq ?_
  -- region 0
  refine AWP_rg tab_ok [0] fun c st' hr => ?_
  simp only [go_sem, reduceIte, reduceCtorEq, Nat.reduceEqDiff, Nat.reduceLT, Nat.reduceLeDiff, Nat.reduceBEq, Nat.reduceAdd, Nat.reduceMul, Nat.reduceSub, Nat.reducePow, Int.reduceLE, Int.reduceLT, Int.reduceNeg, Int.reduceToNat, Int.reduceAdd, Int.reduceSub] at hr
  obtain ⟨rfl, rfl⟩ := hr
  refine ⟨vc, ?_⟩
  with_reducible refine thenC_normal ?_
  refine AWP_seq ?_
  -- region 1
  refine AWP_rl ?_
  refine AWPL_rn tab_ok 1 [0, 7] fun c st' hr => ?_
  simp only [go_sem, reduceIte, reduceCtorEq, Nat.reduceEqDiff, Nat.reduceLT, Nat.reduceLeDiff, Nat.reduceBEq, Nat.reduceAdd, Nat.reduceMul, Nat.reduceSub, Nat.reducePow, Int.reduceLE, Int.reduceLT, Int.reduceNeg, Int.reduceToNat, Int.reduceAdd, Int.reduceSub] at hr
  obtain ⟨rfl, rfl⟩ := hr
  refine ⟨vc, ?_⟩
  replace hK := bind_s hK
  obtain ⟨y, hy, hK⟩ := hK
  refine AWPL_callK [0, 8] (W_convex_Line hy) rfl rfl pcT rfl Tryd.call13 (.cons (.atom _ rfl) .nil) (hscG trivial) (of_decide_eq_true rfl) (by first | rfl | simp [nI, nI1, nI0]) (by first | rfl | simp [nIB, nI0]) fun st' hr => ?_
  simp only [go_sem, reduceIte, reduceCtorEq, Nat.reduceEqDiff, Nat.reduceLT, Nat.reduceLeDiff, Nat.reduceBEq, Nat.reduceAdd, Nat.reduceMul, Nat.reduceSub, Nat.reducePow, Int.reduceLE, Int.reduceLT, Int.reduceNeg, Int.reduceToNat, Int.reduceAdd, Int.reduceSub] at hr
  subst hr
  clear hy
  refine AWPL_rn tab_ok 5 [0, 4, 5] fun c st' hr => ?_
  simp only [go_sem, reduceIte, reduceCtorEq, Nat.reduceEqDiff, Nat.reduceLT, Nat.reduceLeDiff, Nat.reduceBEq, Nat.reduceAdd, Nat.reduceMul, Nat.reduceSub, Nat.reducePow, Int.reduceLE, Int.reduceLT, Int.reduceNeg, Int.reduceToNat, Int.reduceAdd, Int.reduceSub] at hr
  obtain ⟨rfl, rfl⟩ := hr
  refine ⟨vc, ?_⟩
  refine AWPL_nil ?_
  with_reducible refine thenC_normal ?_
  refine AWP_seq ?_
  -- region 2
  refine AWP_rg tab_ok [1, 2, 3] fun c st' hr => ?_
  simp only [go_sem, reduceIte, reduceCtorEq, Nat.reduceEqDiff, Nat.reduceLT, Nat.reduceLeDiff, Nat.reduceBEq, Nat.reduceAdd, Nat.reduceMul, Nat.reduceSub, Nat.reducePow, Int.reduceLE, Int.reduceLT, Int.reduceNeg, Int.reduceToNat, Int.reduceAdd, Int.reduceSub] at hr
  obtain ⟨rfl, rfl⟩ := hr
  refine ⟨vc, ?_⟩
  with_reducible refine thenC_normal ?_
  refine AWP_ret ?_
  cases hK
  refine EndsRW [0] (.inl rfl) (of_decide_eq_true rfl) (by simp) rfl (fun c x hr => ?_) endH
  simp only [go_sem, reduceIte, reduceCtorEq, Nat.reduceEqDiff, Nat.reduceLT, Nat.reduceLeDiff, Nat.reduceBEq, Nat.reduceAdd, Nat.reduceMul, Nat.reduceSub, Nat.reducePow, Int.reduceLE, Int.reduceLT, Int.reduceNeg, Int.reduceToNat, Int.reduceAdd, Int.reduceSub] at hr
  obtain ⟨rfl, rfl⟩ := hr
  exact ⟨rfl, endR⟩

set_option maxRecDepth 8000 in
set_option maxHeartbeats 4000000 in
theorem W_rotakeep_ConvexOrders_4 {c0 : Int} {c1 : List Int} {r : Int × List Int × Int} (hK : rotakeep_ConvexOrders_4 c0 c1 = some r) : Pure Tryd.prog 22 [.intp .i64 c0, .immp [.ints .i64 c1]] (.tup [.int .i64 r.1, .ints .i64 r.2.1, .int .i64 r.2.2]) [] := by
  refine Pure_introF tab_ok (n := 10) (l := [.tmp 2, .tmp 3, .tmp 4]) Tryd.func22 rfl rfl rfl (by simp) fun hfact w0 => ?_
  simp only [factL1, fact1, fact0, factL0, lo, hi, maxLen, and_true] at hfact
  unfold rotakeep_ConvexOrders_4 at hK
  refine AWP_seq ?_
  -- region 0
  refine AWP_rg tab_ok [0, 1] fun c st' hr => ?_
  simp only [go_sem, reduceIte, reduceCtorEq, Nat.reduceEqDiff, Nat.reduceLT, Nat.reduceLeDiff, Nat.reduceBEq, Nat.reduceAdd, Nat.reduceMul, Nat.reduceSub, Nat.reducePow, Int.reduceLE, Int.reduceLT, Int.reduceNeg, Int.reduceToNat, Int.reduceAdd, Int.reduceSub] at hr
  obtain ⟨rfl, rfl⟩ := hr
  refine ⟨vc, ?_⟩
  with_reducible refine thenC_normal ?_
  refine AWP_seq ?_
  -- region 1
  refine AWP_drawQ mixed (by kernel_rfl) ?_
  refine AWQL_rn tab_ok 4 [5, 6, 7, 8] fun c st' hr => ?_
  simp only [go_sem, reduceIte, reduceCtorEq, Nat.reduceEqDiff, Nat.reduceLT, Nat.reduceLeDiff, Nat.reduceBEq, Nat.reduceAdd, Nat.reduceMul, Nat.reduceSub, Nat.reducePow, Int.reduceLE, Int.reduceLT, Int.reduceNeg, Int.reduceToNat, Int.reduceAdd, Int.reduceSub] at hr
  obtain ⟨rfl, rfl⟩ := hr
  refine ⟨vc, ?_⟩
  replace hK := bind_s hK
  obtain ⟨y, hy, hK⟩ := hK
  refine AWQL_callK [5, 6, 9] (W_convex_Check hy) rfl rfl pcT rfl Tryd.call23 (.cons (.atom _ rfl) (.cons (.atom _ rfl) .nil)) (hscG trivial) (of_decide_eq_true rfl) rfl fun st' hr => ?_
  simp only [go_sem, reduceIte, reduceCtorEq, Nat.reduceEqDiff, Nat.reduceLT, Nat.reduceLeDiff, Nat.reduceBEq, Nat.reduceAdd, Nat.reduceMul, Nat.reduceSub, Nat.reducePow, Int.reduceLE, Int.reduceLT, Int.reduceNeg, Int.reduceToNat, Int.reduceAdd, Int.reduceSub] at hr
  subst hr
  clear hy
  refine AWQL_rn tab_ok 3 [2, 3, 4] fun c st' hr => ?_
  simp only [go_sem, reduceIte, reduceCtorEq, Nat.reduceEqDiff, Nat.reduceLT, Nat.reduceLeDiff, Nat.reduceBEq, Nat.reduceAdd, Nat.reduceMul, Nat.reduceSub, Nat.reducePow, Int.reduceLE, Int.reduceLT, Int.reduceNeg, Int.reduceToNat, Int.reduceAdd, Int.reduceSub] at hr
  obtain ⟨rfl, rfl⟩ := hr
  refine ⟨vc, ?_⟩
  refine AWQL_nil ?_
  with_reducible refine thenC_normal ?_
  refine AWP_ret ?_
  cases hK
  refine EndsRW [] (.inl rfl) (of_decide_eq_true rfl) (by simp) rfl (fun c x hr => ?_) trivial
  simp only [go_sem, reduceIte, reduceCtorEq, Nat.reduceEqDiff, Nat.reduceLT, Nat.reduceLeDiff, Nat.reduceBEq, Nat.reduceAdd, Nat.reduceMul, Nat.reduceSub, Nat.reducePow, Int.reduceLE, Int.reduceLT, Int.reduceNeg, Int.reduceToNat, Int.reduceAdd, Int.reduceSub] at hr
  obtain ⟨rfl, rfl⟩ := hr
  exact ⟨rfl, endR⟩

end Go.SH
