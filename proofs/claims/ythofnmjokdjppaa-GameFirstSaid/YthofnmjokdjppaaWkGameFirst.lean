/-
  That the code computes these functions: rotakeep_GameFirst. By a program of mine (shal.py). Conditions: none.
-/
import Derived.Test.YthofnmjokdjppaaAxT
import Derived.Test.YthofnmjokdjppaaAxR
import Derived.Test.YthofnmjokdjppaaAxJm
import Derived.Test.YthofnmjokdjppaaAxW
import Derived.Test.YthofnmjokdjppaaSkGameFirst
import Derived.Test.YthofnmjokdjppaaWpgame
import Derived.Test.YthofnmjokdjppaaWpclone
import Derived.Test.YthofnmjokdjppaaWjGameFirst
set_option linter.unusedVariables false
set_option linter.unusedSimpArgs false
namespace Go.SH
open Go Go.AX Go.AX.Try Go.Proofs

set_option maxRecDepth 8000 in
set_option maxHeartbeats 4000000 in
theorem J_hn42 {a1 a2 g_0 : Int} {g_1 y2 : List (Int × Int)} {y1 : Bool × Int} (hy : slices_Clone_api_Edge_api_Edge g_1 = some y2) (h : (y2 ++ [(a1, a2)]).length ≤ 8796093022208) {w0 : World} {Q : Exit → St → Prop} {AA : Nat → Array Bool → St → Prop} (hAA : ∀ g L st, AA g L st ↔ AWPB Try.prog w0 reg7.toArray Q g L st) (hn16 : AA 7 #[true, true, true, true, false, true, true, false, false, false, false, false, false] ⟨76, [(1, .int .i64 a1), (2, .int .i64 a2), (10, .bool y1.1), (54, .int .i64 g_0), (56, .fn 2 g_1.length (fun i => [.int .i64 ((g_1.getD i (0, 0)).1), .int .i64 ((g_1.getD i (0, 0)).2)])), (58, .int .i64 a1), (59, .int .i64 a2)], [some (.gen 48 2 [[.int .i64 g_0, .fn 2 g_1.length (fun i => [.int .i64 ((g_1.getD i (0, 0)).1), .int .i64 ((g_1.getD i (0, 0)).2)])]])]⟩) (hn36 : AA 7 #[true, false, true, true, true, true, true, false, false, false, false, false, false] ⟨76, [(1, .int .i64 a1), (2, .int .i64 a2), (10, .bool y1.1), (53, .ptr 0 0 0), (57, .own 1 y2.length), (58, .int .i64 a1), (59, .int .i64 a2)], [some (.gen 48 2 [[.int .i64 g_0, .fn 2 g_1.length (fun i => [.int .i64 ((g_1.getD i (0, 0)).1), .int .i64 ((g_1.getD i (0, 0)).2)])]]), some (.gen 52 2 (List.map (fun e => [.int .i64 e.1, .int .i64 e.2]) y2))]⟩) (hn40 : AA 7 #[true, false, true, true, false, true, true, true, false, false, false, false, false] ⟨76, [(1, .int .i64 a1), (2, .int .i64 a2), (10, .bool y1.1), (53, .ptr 0 0 0), (56, .fn 2 g_1.length (fun i => [.int .i64 ((g_1.getD i (0, 0)).1), .int .i64 ((g_1.getD i (0, 0)).2)])), (60, .agg [.int .i64 a1, .int .i64 a2])], [some (.gen 48 2 [[.int .i64 g_0, .fn 2 g_1.length (fun i => [.int .i64 ((g_1.getD i (0, 0)).1), .int .i64 ((g_1.getD i (0, 0)).2)])]])]⟩) (hn41 : AA 7 #[true, false, true, true, false, true, true, false, false, false, false, true, false] ⟨76, [(1, .int .i64 a1), (2, .int .i64 a2), (10, .bool y1.1), (12, .ptr 1 0 0), (53, .ptr 0 0 0), (56, .fn 2 g_1.length (fun i => [.int .i64 ((g_1.getD i (0, 0)).1), .int .i64 ((g_1.getD i (0, 0)).2)])), (58, .int .i64 a1), (59, .int .i64 a2)], [some (.gen 48 2 [[.int .i64 g_0, .fn 2 g_1.length (fun i => [.int .i64 ((g_1.getD i (0, 0)).1), .int .i64 ((g_1.getD i (0, 0)).2)])]]), some (.gen 48 2 [[.int .i64 0, .nil]])]⟩) : AA 8 #[true, false, true, true, false, true, true, false, false, false, false, false, false] ⟨76, [(1, .int .i64 a1), (2, .int .i64 a2), (10, .bool y1.1), (53, .ptr 0 0 0), (56, .fn 2 g_1.length (fun i => [.int .i64 ((g_1.getD i (0, 0)).1), .int .i64 ((g_1.getD i (0, 0)).2)])), (58, .int .i64 a1), (59, .int .i64 a2)], [some (.gen 48 2 [[.int .i64 g_0, .fn 2 g_1.length (fun i => [.int .i64 ((g_1.getD i (0, 0)).1), .int .i64 ((g_1.getD i (0, 0)).2)])]])]⟩ := (hAA _ _ _).2 (by
    refine AWPB_four 1 4 7 11 _ _ _ _ (by kernel_rfl) rfl rfl rfl rfl ?_ ?_ ?_ ?_
    · skip
      refine AWPL_rn tab_ok 1 [1, 2, 10, 12, 54, 56, 57, 58, 59, 60, 61, 62, 63] fun c st' hr => ?_
      simp only [go_sem, reduceIte, reduceCtorEq, Nat.reduceEqDiff, Nat.reduceLT, Nat.reduceLeDiff, Nat.reduceBEq, Nat.reduceAdd, Nat.reduceMul, Nat.reduceSub, Nat.reducePow, Int.reduceLE, Int.reduceLT, Int.reduceNeg, Int.reduceToNat, Int.reduceAdd, Int.reduceSub] at hr
      obtain ⟨rfl, rfl⟩ := hr
      refine ⟨vc, ?_⟩
      refine AWPL_nil ?_
      refine QB_normal ?_
      exact AWPB_wk [0] mkWk ((hAA _ _ _).1 hn16)
    · skip
      refine AWPL_callK [1, 2, 10, 12, 53, 54, 57, 58, 59, 60, 61, 62, 63] (W_slices_Clone_api_Edge_api_Edge hy) rfl rfl pcT rfl Try.call29 (.cons (.atom _ rfl) .nil) (hscG trivial) (of_decide_eq_true rfl) (by first | rfl | simp [nI, nI1, nI0]) (by first | rfl | simp [nIB, nI0]) fun st' hr => ?_
      simp only [go_sem, reduceIte, reduceCtorEq, Nat.reduceEqDiff, Nat.reduceLT, Nat.reduceLeDiff, Nat.reduceBEq, Nat.reduceAdd, Nat.reduceMul, Nat.reduceSub, Nat.reducePow, Int.reduceLE, Int.reduceLT, Int.reduceNeg, Int.reduceToNat, Int.reduceAdd, Int.reduceSub] at hr
      subst hr
      refine AWPL_nil ?_
      refine QB_normal ?_
      exact AWPB_wk [0, 1] mkWk ((hAA _ _ _).1 hn36)
    · skip
      refine AWPL_rn tab_ok 1 [1, 2, 10, 12, 53, 54, 56, 57, 60, 61, 62, 63] fun c st' hr => ?_
      simp only [go_sem, reduceIte, reduceCtorEq, Nat.reduceEqDiff, Nat.reduceLT, Nat.reduceLeDiff, Nat.reduceBEq, Nat.reduceAdd, Nat.reduceMul, Nat.reduceSub, Nat.reducePow, Int.reduceLE, Int.reduceLT, Int.reduceNeg, Int.reduceToNat, Int.reduceAdd, Int.reduceSub] at hr
      obtain ⟨rfl, rfl⟩ := hr
      refine ⟨vc, ?_⟩
      refine AWPL_nil ?_
      refine QB_normal ?_
      exact AWPB_wk [0] mkWk ((hAA _ _ _).1 hn40)
    · skip
      refine AWPL_rn tab_ok 1 [1, 2, 10, 12, 53, 54, 56, 57, 58, 59, 60, 61, 62, 63] fun c st' hr => ?_
      simp only [go_sem, reduceIte, reduceCtorEq, Nat.reduceEqDiff, Nat.reduceLT, Nat.reduceLeDiff, Nat.reduceBEq, Nat.reduceAdd, Nat.reduceMul, Nat.reduceSub, Nat.reducePow, Int.reduceLE, Int.reduceLT, Int.reduceNeg, Int.reduceToNat, Int.reduceAdd, Int.reduceSub] at hr
      obtain ⟨rfl, rfl⟩ := hr
      refine ⟨vc, ?_⟩
      refine AWPL_nil ?_
      refine QB_normal ?_
      exact AWPB_wk [0, 1] mkWk ((hAA _ _ _).1 hn41))
set_option maxRecDepth 8000 in
set_option maxHeartbeats 4000000 in
theorem J_hn43 {a1 a2 g_0 : Int} {g_1 y2 : List (Int × Int)} {y1 : Bool × Int} (hy : slices_Clone_api_Edge_api_Edge g_1 = some y2) (h : (y2 ++ [(a1, a2)]).length ≤ 8796093022208) {w0 : World} {Q : Exit → St → Prop} {AA : Nat → Array Bool → St → Prop} (hAA : ∀ g L st, AA g L st ↔ AWPB Try.prog w0 reg7.toArray Q g L st) (hn17 : AA 5 #[true, true, true, false, false, true, true, true, true, false, false, true, false] ⟨76, [(1, .int .i64 a1), (2, .int .i64 a2), (10, .bool y1.1), (12, .ptr 2 0 0), (54, .int .i64 g_0), (55, .ptr 0 0 1), (61, .own 1 1)], [some (.gen 48 2 [[.int .i64 g_0, .fn 2 g_1.length (fun i => [.int .i64 ((g_1.getD i (0, 0)).1), .int .i64 ((g_1.getD i (0, 0)).2)])]]), some (.gen 52 2 (List.map (fun e => [.int .i64 e.1, .int .i64 e.2]) [(a1, a2)])), some (.gen 48 2 [[.int .i64 0, .nil]])]⟩) (hn37 : AA 5 #[true, false, true, true, false, true, true, true, true, false, false, true, false] ⟨76, [(1, .int .i64 a1), (2, .int .i64 a2), (10, .bool y1.1), (12, .ptr 2 0 0), (53, .ptr 0 0 0), (56, .fn 2 g_1.length (fun i => [.int .i64 ((g_1.getD i (0, 0)).1), .int .i64 ((g_1.getD i (0, 0)).2)])), (61, .own 1 1)], [some (.gen 48 2 [[.int .i64 g_0, .fn 2 g_1.length (fun i => [.int .i64 ((g_1.getD i (0, 0)).1), .int .i64 ((g_1.getD i (0, 0)).2)])]]), some (.gen 52 2 (List.map (fun e => [.int .i64 e.1, .int .i64 e.2]) [(a1, a2)])), some (.gen 48 2 [[.int .i64 0, .nil]])]⟩) : AA 6 #[true, false, true, false, false, true, true, true, true, false, false, true, false] ⟨76, [(1, .int .i64 a1), (2, .int .i64 a2), (10, .bool y1.1), (12, .ptr 2 0 0), (53, .ptr 0 0 0), (55, .ptr 0 0 1), (61, .own 1 1)], [some (.gen 48 2 [[.int .i64 g_0, .fn 2 g_1.length (fun i => [.int .i64 ((g_1.getD i (0, 0)).1), .int .i64 ((g_1.getD i (0, 0)).2)])]]), some (.gen 52 2 (List.map (fun e => [.int .i64 e.1, .int .i64 e.2]) [(a1, a2)])), some (.gen 48 2 [[.int .i64 0, .nil]])]⟩ := (hAA _ _ _).2 (by
    refine AWPB_two 1 3 _ _ (by kernel_rfl) rfl rfl ?_ ?_
    · skip
      refine AWPL_rn tab_ok 1 [1, 2, 10, 12, 54, 55, 56, 57, 61, 62, 63] fun c st' hr => ?_
      simp only [go_sem, reduceIte, reduceCtorEq, Nat.reduceEqDiff, Nat.reduceLT, Nat.reduceLeDiff, Nat.reduceBEq, Nat.reduceAdd, Nat.reduceMul, Nat.reduceSub, Nat.reducePow, Int.reduceLE, Int.reduceLT, Int.reduceNeg, Int.reduceToNat, Int.reduceAdd, Int.reduceSub] at hr
      obtain ⟨rfl, rfl⟩ := hr
      refine ⟨vc, ?_⟩
      refine AWPL_nil ?_
      refine QB_normal ?_
      exact AWPB_wk [0, 1, 2] mkWk ((hAA _ _ _).1 hn17)
    · skip
      refine AWPL_rn tab_ok 1 [1, 2, 10, 12, 53, 54, 56, 57, 61, 62, 63] fun c st' hr => ?_
      simp only [go_sem, reduceIte, reduceCtorEq, Nat.reduceEqDiff, Nat.reduceLT, Nat.reduceLeDiff, Nat.reduceBEq, Nat.reduceAdd, Nat.reduceMul, Nat.reduceSub, Nat.reducePow, Int.reduceLE, Int.reduceLT, Int.reduceNeg, Int.reduceToNat, Int.reduceAdd, Int.reduceSub] at hr
      obtain ⟨rfl, rfl⟩ := hr
      refine ⟨vc, ?_⟩
      refine AWPL_nil ?_
      refine QB_normal ?_
      exact AWPB_wk [0, 1, 2] mkWk ((hAA _ _ _).1 hn37))
set_option maxRecDepth 8000 in
set_option maxHeartbeats 4000000 in
theorem J_hn44 {a1 a2 g_0 : Int} {g_1 y2 : List (Int × Int)} {y1 : Bool × Int} (hy : slices_Clone_api_Edge_api_Edge g_1 = some y2) (h : (y2 ++ [(a1, a2)]).length ≤ 8796093022208) {w0 : World} {Q : Exit → St → Prop} {AA : Nat → Array Bool → St → Prop} (hAA : ∀ g L st, AA g L st ↔ AWPB Try.prog w0 reg7.toArray Q g L st) (hn18 : AA 6 #[true, true, true, false, false, true, true, true, true, false, false, false, false] ⟨76, [(1, .int .i64 a1), (2, .int .i64 a2), (10, .bool y1.1), (54, .int .i64 g_0), (55, .ptr 0 0 1), (61, .own 1 1)], [some (.gen 48 2 [[.int .i64 g_0, .fn 2 g_1.length (fun i => [.int .i64 ((g_1.getD i (0, 0)).1), .int .i64 ((g_1.getD i (0, 0)).2)])]]), some (.gen 52 2 (List.map (fun e => [.int .i64 e.1, .int .i64 e.2]) [(a1, a2)]))]⟩) (hn38 : AA 6 #[true, false, true, true, false, true, true, true, true, false, false, false, false] ⟨76, [(1, .int .i64 a1), (2, .int .i64 a2), (10, .bool y1.1), (53, .ptr 0 0 0), (56, .fn 2 g_1.length (fun i => [.int .i64 ((g_1.getD i (0, 0)).1), .int .i64 ((g_1.getD i (0, 0)).2)])), (61, .own 1 1)], [some (.gen 48 2 [[.int .i64 g_0, .fn 2 g_1.length (fun i => [.int .i64 ((g_1.getD i (0, 0)).1), .int .i64 ((g_1.getD i (0, 0)).2)])]]), some (.gen 52 2 (List.map (fun e => [.int .i64 e.1, .int .i64 e.2]) [(a1, a2)]))]⟩) (hn43 : AA 6 #[true, false, true, false, false, true, true, true, true, false, false, true, false] ⟨76, [(1, .int .i64 a1), (2, .int .i64 a2), (10, .bool y1.1), (12, .ptr 2 0 0), (53, .ptr 0 0 0), (55, .ptr 0 0 1), (61, .own 1 1)], [some (.gen 48 2 [[.int .i64 g_0, .fn 2 g_1.length (fun i => [.int .i64 ((g_1.getD i (0, 0)).1), .int .i64 ((g_1.getD i (0, 0)).2)])]]), some (.gen 52 2 (List.map (fun e => [.int .i64 e.1, .int .i64 e.2]) [(a1, a2)])), some (.gen 48 2 [[.int .i64 0, .nil]])]⟩) : AA 7 #[true, false, true, false, false, true, true, true, true, false, false, false, false] ⟨76, [(1, .int .i64 a1), (2, .int .i64 a2), (10, .bool y1.1), (53, .ptr 0 0 0), (55, .ptr 0 0 1), (61, .own 1 1)], [some (.gen 48 2 [[.int .i64 g_0, .fn 2 g_1.length (fun i => [.int .i64 ((g_1.getD i (0, 0)).1), .int .i64 ((g_1.getD i (0, 0)).2)])]]), some (.gen 52 2 (List.map (fun e => [.int .i64 e.1, .int .i64 e.2]) [(a1, a2)]))]⟩ := (hAA _ _ _).2 (by
    refine AWPB_three 1 3 11 _ _ _ (by kernel_rfl) rfl rfl rfl ?_ ?_ ?_
    · skip
      refine AWPL_rn tab_ok 1 [1, 2, 10, 12, 54, 55, 56, 57, 61, 62, 63] fun c st' hr => ?_
      simp only [go_sem, reduceIte, reduceCtorEq, Nat.reduceEqDiff, Nat.reduceLT, Nat.reduceLeDiff, Nat.reduceBEq, Nat.reduceAdd, Nat.reduceMul, Nat.reduceSub, Nat.reducePow, Int.reduceLE, Int.reduceLT, Int.reduceNeg, Int.reduceToNat, Int.reduceAdd, Int.reduceSub] at hr
      obtain ⟨rfl, rfl⟩ := hr
      refine ⟨vc, ?_⟩
      refine AWPL_nil ?_
      refine QB_normal ?_
      exact AWPB_wk [0, 1] mkWk ((hAA _ _ _).1 hn18)
    · skip
      refine AWPL_rn tab_ok 1 [1, 2, 10, 12, 53, 54, 56, 57, 61, 62, 63] fun c st' hr => ?_
      simp only [go_sem, reduceIte, reduceCtorEq, Nat.reduceEqDiff, Nat.reduceLT, Nat.reduceLeDiff, Nat.reduceBEq, Nat.reduceAdd, Nat.reduceMul, Nat.reduceSub, Nat.reducePow, Int.reduceLE, Int.reduceLT, Int.reduceNeg, Int.reduceToNat, Int.reduceAdd, Int.reduceSub] at hr
      obtain ⟨rfl, rfl⟩ := hr
      refine ⟨vc, ?_⟩
      refine AWPL_nil ?_
      refine QB_normal ?_
      exact AWPB_wk [0, 1] mkWk ((hAA _ _ _).1 hn38)
    · skip
      refine AWPL_rn tab_ok 1 [1, 2, 10, 12, 53, 54, 55, 56, 57, 61, 62, 63] fun c st' hr => ?_
      simp only [go_sem, reduceIte, reduceCtorEq, Nat.reduceEqDiff, Nat.reduceLT, Nat.reduceLeDiff, Nat.reduceBEq, Nat.reduceAdd, Nat.reduceMul, Nat.reduceSub, Nat.reducePow, Int.reduceLE, Int.reduceLT, Int.reduceNeg, Int.reduceToNat, Int.reduceAdd, Int.reduceSub] at hr
      obtain ⟨rfl, rfl⟩ := hr
      refine ⟨vc, ?_⟩
      refine AWPL_nil ?_
      refine QB_normal ?_
      exact AWPB_wk [0, 1, 2] mkWk ((hAA _ _ _).1 hn43))
set_option maxRecDepth 8000 in
set_option maxHeartbeats 4000000 in
theorem J_hn45 {a1 a2 g_0 : Int} {g_1 y2 : List (Int × Int)} {y1 : Bool × Int} (hy : slices_Clone_api_Edge_api_Edge g_1 = some y2) (h : (y2 ++ [(a1, a2)]).length ≤ 8796093022208) {w0 : World} {Q : Exit → St → Prop} {AA : Nat → Array Bool → St → Prop} (hAA : ∀ g L st, AA g L st ↔ AWPB Try.prog w0 reg7.toArray Q g L st) (hn19 : AA 6 #[true, true, true, false, false, true, true, true, false, false, false, true, false] ⟨76, [(1, .int .i64 a1), (2, .int .i64 a2), (10, .bool y1.1), (12, .ptr 1 0 0), (54, .int .i64 g_0), (55, .ptr 0 0 1), (60, .agg [.int .i64 a1, .int .i64 a2])], [some (.gen 48 2 [[.int .i64 g_0, .fn 2 g_1.length (fun i => [.int .i64 ((g_1.getD i (0, 0)).1), .int .i64 ((g_1.getD i (0, 0)).2)])]]), some (.gen 48 2 [[.int .i64 0, .nil]])]⟩) (hn39 : AA 6 #[true, false, true, true, false, true, true, true, false, false, false, true, false] ⟨76, [(1, .int .i64 a1), (2, .int .i64 a2), (10, .bool y1.1), (12, .ptr 1 0 0), (53, .ptr 0 0 0), (56, .fn 2 g_1.length (fun i => [.int .i64 ((g_1.getD i (0, 0)).1), .int .i64 ((g_1.getD i (0, 0)).2)])), (60, .agg [.int .i64 a1, .int .i64 a2])], [some (.gen 48 2 [[.int .i64 g_0, .fn 2 g_1.length (fun i => [.int .i64 ((g_1.getD i (0, 0)).1), .int .i64 ((g_1.getD i (0, 0)).2)])]]), some (.gen 48 2 [[.int .i64 0, .nil]])]⟩) (hn43 : AA 6 #[true, false, true, false, false, true, true, true, true, false, false, true, false] ⟨76, [(1, .int .i64 a1), (2, .int .i64 a2), (10, .bool y1.1), (12, .ptr 2 0 0), (53, .ptr 0 0 0), (55, .ptr 0 0 1), (61, .own 1 1)], [some (.gen 48 2 [[.int .i64 g_0, .fn 2 g_1.length (fun i => [.int .i64 ((g_1.getD i (0, 0)).1), .int .i64 ((g_1.getD i (0, 0)).2)])]]), some (.gen 52 2 (List.map (fun e => [.int .i64 e.1, .int .i64 e.2]) [(a1, a2)])), some (.gen 48 2 [[.int .i64 0, .nil]])]⟩) : AA 7 #[true, false, true, false, false, true, true, true, false, false, false, true, false] ⟨76, [(1, .int .i64 a1), (2, .int .i64 a2), (10, .bool y1.1), (12, .ptr 1 0 0), (53, .ptr 0 0 0), (55, .ptr 0 0 1), (60, .agg [.int .i64 a1, .int .i64 a2])], [some (.gen 48 2 [[.int .i64 g_0, .fn 2 g_1.length (fun i => [.int .i64 ((g_1.getD i (0, 0)).1), .int .i64 ((g_1.getD i (0, 0)).2)])]]), some (.gen 48 2 [[.int .i64 0, .nil]])]⟩ := (hAA _ _ _).2 (by
    refine AWPB_three 1 3 8 _ _ _ (by kernel_rfl) rfl rfl rfl ?_ ?_ ?_
    · skip
      refine AWPL_rn tab_ok 1 [1, 2, 10, 12, 54, 55, 56, 57, 60, 61, 62, 63] fun c st' hr => ?_
      simp only [go_sem, reduceIte, reduceCtorEq, Nat.reduceEqDiff, Nat.reduceLT, Nat.reduceLeDiff, Nat.reduceBEq, Nat.reduceAdd, Nat.reduceMul, Nat.reduceSub, Nat.reducePow, Int.reduceLE, Int.reduceLT, Int.reduceNeg, Int.reduceToNat, Int.reduceAdd, Int.reduceSub] at hr
      obtain ⟨rfl, rfl⟩ := hr
      refine ⟨vc, ?_⟩
      refine AWPL_nil ?_
      refine QB_normal ?_
      exact AWPB_wk [0, 1] mkWk ((hAA _ _ _).1 hn19)
    · skip
      refine AWPL_rn tab_ok 1 [1, 2, 10, 12, 53, 54, 56, 57, 60, 61, 62, 63] fun c st' hr => ?_
      simp only [go_sem, reduceIte, reduceCtorEq, Nat.reduceEqDiff, Nat.reduceLT, Nat.reduceLeDiff, Nat.reduceBEq, Nat.reduceAdd, Nat.reduceMul, Nat.reduceSub, Nat.reducePow, Int.reduceLE, Int.reduceLT, Int.reduceNeg, Int.reduceToNat, Int.reduceAdd, Int.reduceSub] at hr
      obtain ⟨rfl, rfl⟩ := hr
      refine ⟨vc, ?_⟩
      refine AWPL_nil ?_
      refine QB_normal ?_
      exact AWPB_wk [0, 1] mkWk ((hAA _ _ _).1 hn39)
    · skip
      refine AWPL_rn tab_ok 1 [1, 2, 10, 12, 53, 54, 55, 56, 57, 61, 62, 63] fun c st' hr => ?_
      simp only [go_sem, reduceIte, reduceCtorEq, Nat.reduceEqDiff, Nat.reduceLT, Nat.reduceLeDiff, Nat.reduceBEq, Nat.reduceAdd, Nat.reduceMul, Nat.reduceSub, Nat.reducePow, Int.reduceLE, Int.reduceLT, Int.reduceNeg, Int.reduceToNat, Int.reduceAdd, Int.reduceSub] at hr
      obtain ⟨rfl, rfl⟩ := hr
      refine ⟨vc, ?_⟩
      refine AWPL_nil ?_
      refine QB_normal ?_
      exact AWPB_wk [0, 2, 1] mkWk ((hAA _ _ _).1 hn43))
set_option maxRecDepth 8000 in
set_option maxHeartbeats 4000000 in
theorem J_hn46 {a1 a2 g_0 : Int} {g_1 y2 : List (Int × Int)} {y1 : Bool × Int} (hy : slices_Clone_api_Edge_api_Edge g_1 = some y2) (h : (y2 ++ [(a1, a2)]).length ≤ 8796093022208) {w0 : World} {Q : Exit → St → Prop} {AA : Nat → Array Bool → St → Prop} (hAA : ∀ g L st, AA g L st ↔ AWPB Try.prog w0 reg7.toArray Q g L st) (hn20 : AA 7 #[true, true, true, false, false, true, true, true, false, false, false, false, false] ⟨76, [(1, .int .i64 a1), (2, .int .i64 a2), (10, .bool y1.1), (54, .int .i64 g_0), (55, .ptr 0 0 1), (60, .agg [.int .i64 a1, .int .i64 a2])], [some (.gen 48 2 [[.int .i64 g_0, .fn 2 g_1.length (fun i => [.int .i64 ((g_1.getD i (0, 0)).1), .int .i64 ((g_1.getD i (0, 0)).2)])]])]⟩) (hn40 : AA 7 #[true, false, true, true, false, true, true, true, false, false, false, false, false] ⟨76, [(1, .int .i64 a1), (2, .int .i64 a2), (10, .bool y1.1), (53, .ptr 0 0 0), (56, .fn 2 g_1.length (fun i => [.int .i64 ((g_1.getD i (0, 0)).1), .int .i64 ((g_1.getD i (0, 0)).2)])), (60, .agg [.int .i64 a1, .int .i64 a2])], [some (.gen 48 2 [[.int .i64 g_0, .fn 2 g_1.length (fun i => [.int .i64 ((g_1.getD i (0, 0)).1), .int .i64 ((g_1.getD i (0, 0)).2)])]])]⟩) (hn44 : AA 7 #[true, false, true, false, false, true, true, true, true, false, false, false, false] ⟨76, [(1, .int .i64 a1), (2, .int .i64 a2), (10, .bool y1.1), (53, .ptr 0 0 0), (55, .ptr 0 0 1), (61, .own 1 1)], [some (.gen 48 2 [[.int .i64 g_0, .fn 2 g_1.length (fun i => [.int .i64 ((g_1.getD i (0, 0)).1), .int .i64 ((g_1.getD i (0, 0)).2)])]]), some (.gen 52 2 (List.map (fun e => [.int .i64 e.1, .int .i64 e.2]) [(a1, a2)]))]⟩) (hn45 : AA 7 #[true, false, true, false, false, true, true, true, false, false, false, true, false] ⟨76, [(1, .int .i64 a1), (2, .int .i64 a2), (10, .bool y1.1), (12, .ptr 1 0 0), (53, .ptr 0 0 0), (55, .ptr 0 0 1), (60, .agg [.int .i64 a1, .int .i64 a2])], [some (.gen 48 2 [[.int .i64 g_0, .fn 2 g_1.length (fun i => [.int .i64 ((g_1.getD i (0, 0)).1), .int .i64 ((g_1.getD i (0, 0)).2)])]]), some (.gen 48 2 [[.int .i64 0, .nil]])]⟩) : AA 8 #[true, false, true, false, false, true, true, true, false, false, false, false, false] ⟨76, [(1, .int .i64 a1), (2, .int .i64 a2), (10, .bool y1.1), (53, .ptr 0 0 0), (55, .ptr 0 0 1), (60, .agg [.int .i64 a1, .int .i64 a2])], [some (.gen 48 2 [[.int .i64 g_0, .fn 2 g_1.length (fun i => [.int .i64 ((g_1.getD i (0, 0)).1), .int .i64 ((g_1.getD i (0, 0)).2)])]])]⟩ := (hAA _ _ _).2 (by
    refine AWPB_four 1 3 8 11 _ _ _ _ (by kernel_rfl) rfl rfl rfl rfl ?_ ?_ ?_ ?_
    · skip
      refine AWPL_rn tab_ok 1 [1, 2, 10, 12, 54, 55, 56, 57, 60, 61, 62, 63] fun c st' hr => ?_
      simp only [go_sem, reduceIte, reduceCtorEq, Nat.reduceEqDiff, Nat.reduceLT, Nat.reduceLeDiff, Nat.reduceBEq, Nat.reduceAdd, Nat.reduceMul, Nat.reduceSub, Nat.reducePow, Int.reduceLE, Int.reduceLT, Int.reduceNeg, Int.reduceToNat, Int.reduceAdd, Int.reduceSub] at hr
      obtain ⟨rfl, rfl⟩ := hr
      refine ⟨vc, ?_⟩
      refine AWPL_nil ?_
      refine QB_normal ?_
      exact AWPB_wk [0] mkWk ((hAA _ _ _).1 hn20)
    · skip
      refine AWPL_rn tab_ok 1 [1, 2, 10, 12, 53, 54, 56, 57, 60, 61, 62, 63] fun c st' hr => ?_
      simp only [go_sem, reduceIte, reduceCtorEq, Nat.reduceEqDiff, Nat.reduceLT, Nat.reduceLeDiff, Nat.reduceBEq, Nat.reduceAdd, Nat.reduceMul, Nat.reduceSub, Nat.reducePow, Int.reduceLE, Int.reduceLT, Int.reduceNeg, Int.reduceToNat, Int.reduceAdd, Int.reduceSub] at hr
      obtain ⟨rfl, rfl⟩ := hr
      refine ⟨vc, ?_⟩
      refine AWPL_nil ?_
      refine QB_normal ?_
      exact AWPB_wk [0] mkWk ((hAA _ _ _).1 hn40)
    · skip
      refine AWPL_rn tab_ok 1 [1, 2, 10, 12, 53, 54, 55, 56, 57, 61, 62, 63] fun c st' hr => ?_
      simp only [go_sem, reduceIte, reduceCtorEq, Nat.reduceEqDiff, Nat.reduceLT, Nat.reduceLeDiff, Nat.reduceBEq, Nat.reduceAdd, Nat.reduceMul, Nat.reduceSub, Nat.reducePow, Int.reduceLE, Int.reduceLT, Int.reduceNeg, Int.reduceToNat, Int.reduceAdd, Int.reduceSub] at hr
      obtain ⟨rfl, rfl⟩ := hr
      refine ⟨vc, ?_⟩
      refine AWPL_nil ?_
      refine QB_normal ?_
      exact AWPB_wk [0, 1] mkWk ((hAA _ _ _).1 hn44)
    · skip
      refine AWPL_rn tab_ok 1 [1, 2, 10, 12, 53, 54, 55, 56, 57, 60, 61, 62, 63] fun c st' hr => ?_
      simp only [go_sem, reduceIte, reduceCtorEq, Nat.reduceEqDiff, Nat.reduceLT, Nat.reduceLeDiff, Nat.reduceBEq, Nat.reduceAdd, Nat.reduceMul, Nat.reduceSub, Nat.reducePow, Int.reduceLE, Int.reduceLT, Int.reduceNeg, Int.reduceToNat, Int.reduceAdd, Int.reduceSub] at hr
      obtain ⟨rfl, rfl⟩ := hr
      refine ⟨vc, ?_⟩
      refine AWPL_nil ?_
      refine QB_normal ?_
      exact AWPB_wk [0, 1] mkWk ((hAA _ _ _).1 hn45))
set_option maxRecDepth 8000 in
set_option maxHeartbeats 4000000 in
theorem J_hn47 {a1 a2 g_0 : Int} {g_1 y2 : List (Int × Int)} {y1 : Bool × Int} (hy : slices_Clone_api_Edge_api_Edge g_1 = some y2) (h : (y2 ++ [(a1, a2)]).length ≤ 8796093022208) {w0 : World} {Q : Exit → St → Prop} {AA : Nat → Array Bool → St → Prop} (hAA : ∀ g L st, AA g L st ↔ AWPB Try.prog w0 reg7.toArray Q g L st) (hn21 : AA 7 #[true, true, true, false, false, true, true, false, false, false, false, true, false] ⟨76, [(1, .int .i64 a1), (2, .int .i64 a2), (10, .bool y1.1), (12, .ptr 1 0 0), (54, .int .i64 g_0), (55, .ptr 0 0 1), (58, .int .i64 a1), (59, .int .i64 a2)], [some (.gen 48 2 [[.int .i64 g_0, .fn 2 g_1.length (fun i => [.int .i64 ((g_1.getD i (0, 0)).1), .int .i64 ((g_1.getD i (0, 0)).2)])]]), some (.gen 48 2 [[.int .i64 0, .nil]])]⟩) (hn41 : AA 7 #[true, false, true, true, false, true, true, false, false, false, false, true, false] ⟨76, [(1, .int .i64 a1), (2, .int .i64 a2), (10, .bool y1.1), (12, .ptr 1 0 0), (53, .ptr 0 0 0), (56, .fn 2 g_1.length (fun i => [.int .i64 ((g_1.getD i (0, 0)).1), .int .i64 ((g_1.getD i (0, 0)).2)])), (58, .int .i64 a1), (59, .int .i64 a2)], [some (.gen 48 2 [[.int .i64 g_0, .fn 2 g_1.length (fun i => [.int .i64 ((g_1.getD i (0, 0)).1), .int .i64 ((g_1.getD i (0, 0)).2)])]]), some (.gen 48 2 [[.int .i64 0, .nil]])]⟩) (hn45 : AA 7 #[true, false, true, false, false, true, true, true, false, false, false, true, false] ⟨76, [(1, .int .i64 a1), (2, .int .i64 a2), (10, .bool y1.1), (12, .ptr 1 0 0), (53, .ptr 0 0 0), (55, .ptr 0 0 1), (60, .agg [.int .i64 a1, .int .i64 a2])], [some (.gen 48 2 [[.int .i64 g_0, .fn 2 g_1.length (fun i => [.int .i64 ((g_1.getD i (0, 0)).1), .int .i64 ((g_1.getD i (0, 0)).2)])]]), some (.gen 48 2 [[.int .i64 0, .nil]])]⟩) : AA 8 #[true, false, true, false, false, true, true, false, false, false, false, true, false] ⟨76, [(1, .int .i64 a1), (2, .int .i64 a2), (10, .bool y1.1), (12, .ptr 1 0 0), (53, .ptr 0 0 0), (55, .ptr 0 0 1), (58, .int .i64 a1), (59, .int .i64 a2)], [some (.gen 48 2 [[.int .i64 g_0, .fn 2 g_1.length (fun i => [.int .i64 ((g_1.getD i (0, 0)).1), .int .i64 ((g_1.getD i (0, 0)).2)])]]), some (.gen 48 2 [[.int .i64 0, .nil]])]⟩ := (hAA _ _ _).2 (by
    refine AWPB_three 1 3 7 _ _ _ (by kernel_rfl) rfl rfl rfl ?_ ?_ ?_
    · skip
      refine AWPL_rn tab_ok 1 [1, 2, 10, 12, 54, 55, 56, 57, 58, 59, 60, 61, 62, 63] fun c st' hr => ?_
      simp only [go_sem, reduceIte, reduceCtorEq, Nat.reduceEqDiff, Nat.reduceLT, Nat.reduceLeDiff, Nat.reduceBEq, Nat.reduceAdd, Nat.reduceMul, Nat.reduceSub, Nat.reducePow, Int.reduceLE, Int.reduceLT, Int.reduceNeg, Int.reduceToNat, Int.reduceAdd, Int.reduceSub] at hr
      obtain ⟨rfl, rfl⟩ := hr
      refine ⟨vc, ?_⟩
      refine AWPL_nil ?_
      refine QB_normal ?_
      exact AWPB_wk [0, 1] mkWk ((hAA _ _ _).1 hn21)
    · skip
      refine AWPL_rn tab_ok 1 [1, 2, 10, 12, 53, 54, 56, 57, 58, 59, 60, 61, 62, 63] fun c st' hr => ?_
      simp only [go_sem, reduceIte, reduceCtorEq, Nat.reduceEqDiff, Nat.reduceLT, Nat.reduceLeDiff, Nat.reduceBEq, Nat.reduceAdd, Nat.reduceMul, Nat.reduceSub, Nat.reducePow, Int.reduceLE, Int.reduceLT, Int.reduceNeg, Int.reduceToNat, Int.reduceAdd, Int.reduceSub] at hr
      obtain ⟨rfl, rfl⟩ := hr
      refine ⟨vc, ?_⟩
      refine AWPL_nil ?_
      refine QB_normal ?_
      exact AWPB_wk [0, 1] mkWk ((hAA _ _ _).1 hn41)
    · skip
      refine AWPL_rn tab_ok 1 [1, 2, 10, 12, 53, 54, 55, 56, 57, 60, 61, 62, 63] fun c st' hr => ?_
      simp only [go_sem, reduceIte, reduceCtorEq, Nat.reduceEqDiff, Nat.reduceLT, Nat.reduceLeDiff, Nat.reduceBEq, Nat.reduceAdd, Nat.reduceMul, Nat.reduceSub, Nat.reducePow, Int.reduceLE, Int.reduceLT, Int.reduceNeg, Int.reduceToNat, Int.reduceAdd, Int.reduceSub] at hr
      obtain ⟨rfl, rfl⟩ := hr
      refine ⟨vc, ?_⟩
      refine AWPL_nil ?_
      refine QB_normal ?_
      exact AWPB_wk [0, 1] mkWk ((hAA _ _ _).1 hn45))
set_option maxRecDepth 8000 in
set_option maxHeartbeats 4000000 in
theorem J_hn48 {a1 a2 g_0 : Int} {g_1 y2 : List (Int × Int)} {y1 : Bool × Int} (hy : slices_Clone_api_Edge_api_Edge g_1 = some y2) (h : (y2 ++ [(a1, a2)]).length ≤ 8796093022208) {w0 : World} {Q : Exit → St → Prop} {AA : Nat → Array Bool → St → Prop} (hAA : ∀ g L st, AA g L st ↔ AWPB Try.prog w0 reg7.toArray Q g L st) (hn22 : AA 8 #[true, true, true, false, false, true, true, false, false, false, false, false, false] ⟨76, [(1, .int .i64 a1), (2, .int .i64 a2), (10, .bool y1.1), (54, .int .i64 g_0), (55, .ptr 0 0 1), (58, .int .i64 a1), (59, .int .i64 a2)], [some (.gen 48 2 [[.int .i64 g_0, .fn 2 g_1.length (fun i => [.int .i64 ((g_1.getD i (0, 0)).1), .int .i64 ((g_1.getD i (0, 0)).2)])]])]⟩) (hn42 : AA 8 #[true, false, true, true, false, true, true, false, false, false, false, false, false] ⟨76, [(1, .int .i64 a1), (2, .int .i64 a2), (10, .bool y1.1), (53, .ptr 0 0 0), (56, .fn 2 g_1.length (fun i => [.int .i64 ((g_1.getD i (0, 0)).1), .int .i64 ((g_1.getD i (0, 0)).2)])), (58, .int .i64 a1), (59, .int .i64 a2)], [some (.gen 48 2 [[.int .i64 g_0, .fn 2 g_1.length (fun i => [.int .i64 ((g_1.getD i (0, 0)).1), .int .i64 ((g_1.getD i (0, 0)).2)])]])]⟩) (hn46 : AA 8 #[true, false, true, false, false, true, true, true, false, false, false, false, false] ⟨76, [(1, .int .i64 a1), (2, .int .i64 a2), (10, .bool y1.1), (53, .ptr 0 0 0), (55, .ptr 0 0 1), (60, .agg [.int .i64 a1, .int .i64 a2])], [some (.gen 48 2 [[.int .i64 g_0, .fn 2 g_1.length (fun i => [.int .i64 ((g_1.getD i (0, 0)).1), .int .i64 ((g_1.getD i (0, 0)).2)])]])]⟩) (hn47 : AA 8 #[true, false, true, false, false, true, true, false, false, false, false, true, false] ⟨76, [(1, .int .i64 a1), (2, .int .i64 a2), (10, .bool y1.1), (12, .ptr 1 0 0), (53, .ptr 0 0 0), (55, .ptr 0 0 1), (58, .int .i64 a1), (59, .int .i64 a2)], [some (.gen 48 2 [[.int .i64 g_0, .fn 2 g_1.length (fun i => [.int .i64 ((g_1.getD i (0, 0)).1), .int .i64 ((g_1.getD i (0, 0)).2)])]]), some (.gen 48 2 [[.int .i64 0, .nil]])]⟩) : AA 9 #[true, false, true, false, false, true, true, false, false, false, false, false, false] ⟨76, [(1, .int .i64 a1), (2, .int .i64 a2), (10, .bool y1.1), (53, .ptr 0 0 0), (55, .ptr 0 0 1), (58, .int .i64 a1), (59, .int .i64 a2)], [some (.gen 48 2 [[.int .i64 g_0, .fn 2 g_1.length (fun i => [.int .i64 ((g_1.getD i (0, 0)).1), .int .i64 ((g_1.getD i (0, 0)).2)])]])]⟩ := (hAA _ _ _).2 (by
    refine AWPB_four 1 3 7 11 _ _ _ _ (by kernel_rfl) rfl rfl rfl rfl ?_ ?_ ?_ ?_
    · skip
      refine AWPL_rn tab_ok 1 [1, 2, 10, 12, 54, 55, 56, 57, 58, 59, 60, 61, 62, 63] fun c st' hr => ?_
      simp only [go_sem, reduceIte, reduceCtorEq, Nat.reduceEqDiff, Nat.reduceLT, Nat.reduceLeDiff, Nat.reduceBEq, Nat.reduceAdd, Nat.reduceMul, Nat.reduceSub, Nat.reducePow, Int.reduceLE, Int.reduceLT, Int.reduceNeg, Int.reduceToNat, Int.reduceAdd, Int.reduceSub] at hr
      obtain ⟨rfl, rfl⟩ := hr
      refine ⟨vc, ?_⟩
      refine AWPL_nil ?_
      refine QB_normal ?_
      exact AWPB_wk [0] mkWk ((hAA _ _ _).1 hn22)
    · skip
      refine AWPL_rn tab_ok 1 [1, 2, 10, 12, 53, 54, 56, 57, 58, 59, 60, 61, 62, 63] fun c st' hr => ?_
      simp only [go_sem, reduceIte, reduceCtorEq, Nat.reduceEqDiff, Nat.reduceLT, Nat.reduceLeDiff, Nat.reduceBEq, Nat.reduceAdd, Nat.reduceMul, Nat.reduceSub, Nat.reducePow, Int.reduceLE, Int.reduceLT, Int.reduceNeg, Int.reduceToNat, Int.reduceAdd, Int.reduceSub] at hr
      obtain ⟨rfl, rfl⟩ := hr
      refine ⟨vc, ?_⟩
      refine AWPL_nil ?_
      refine QB_normal ?_
      exact AWPB_wk [0] mkWk ((hAA _ _ _).1 hn42)
    · skip
      refine AWPL_rn tab_ok 1 [1, 2, 10, 12, 53, 54, 55, 56, 57, 60, 61, 62, 63] fun c st' hr => ?_
      simp only [go_sem, reduceIte, reduceCtorEq, Nat.reduceEqDiff, Nat.reduceLT, Nat.reduceLeDiff, Nat.reduceBEq, Nat.reduceAdd, Nat.reduceMul, Nat.reduceSub, Nat.reducePow, Int.reduceLE, Int.reduceLT, Int.reduceNeg, Int.reduceToNat, Int.reduceAdd, Int.reduceSub] at hr
      obtain ⟨rfl, rfl⟩ := hr
      refine ⟨vc, ?_⟩
      refine AWPL_nil ?_
      refine QB_normal ?_
      exact AWPB_wk [0] mkWk ((hAA _ _ _).1 hn46)
    · skip
      refine AWPL_rn tab_ok 1 [1, 2, 10, 12, 53, 54, 55, 56, 57, 58, 59, 60, 61, 62, 63] fun c st' hr => ?_
      simp only [go_sem, reduceIte, reduceCtorEq, Nat.reduceEqDiff, Nat.reduceLT, Nat.reduceLeDiff, Nat.reduceBEq, Nat.reduceAdd, Nat.reduceMul, Nat.reduceSub, Nat.reducePow, Int.reduceLE, Int.reduceLT, Int.reduceNeg, Int.reduceToNat, Int.reduceAdd, Int.reduceSub] at hr
      obtain ⟨rfl, rfl⟩ := hr
      refine ⟨vc, ?_⟩
      refine AWPL_nil ?_
      refine QB_normal ?_
      exact AWPB_wk [0, 1] mkWk ((hAA _ _ _).1 hn47))
set_option maxRecDepth 8000 in
set_option maxHeartbeats 4000000 in
theorem J_hn49 {a1 a2 g_0 : Int} {g_1 y2 : List (Int × Int)} {y1 : Bool × Int} (hy : slices_Clone_api_Edge_api_Edge g_1 = some y2) (h : (y2 ++ [(a1, a2)]).length ≤ 8796093022208) {w0 : World} {Q : Exit → St → Prop} {AA : Nat → Array Bool → St → Prop} (hAA : ∀ g L st, AA g L st ↔ AWPB Try.prog w0 reg7.toArray Q g L st) (hn23 : AA 6 #[true, true, false, false, false, true, true, true, true, false, false, true, false] ⟨76, [(1, .int .i64 a1), (2, .int .i64 a2), (3, .ptr 0 0 0), (10, .bool y1.1), (12, .ptr 2 0 0), (54, .int .i64 g_0), (61, .own 1 1)], [some (.gen 48 2 [[.int .i64 g_0, .fn 2 g_1.length (fun i => [.int .i64 ((g_1.getD i (0, 0)).1), .int .i64 ((g_1.getD i (0, 0)).2)])]]), some (.gen 52 2 (List.map (fun e => [.int .i64 e.1, .int .i64 e.2]) [(a1, a2)])), some (.gen 48 2 [[.int .i64 0, .nil]])]⟩) (hn43 : AA 6 #[true, false, true, false, false, true, true, true, true, false, false, true, false] ⟨76, [(1, .int .i64 a1), (2, .int .i64 a2), (10, .bool y1.1), (12, .ptr 2 0 0), (53, .ptr 0 0 0), (55, .ptr 0 0 1), (61, .own 1 1)], [some (.gen 48 2 [[.int .i64 g_0, .fn 2 g_1.length (fun i => [.int .i64 ((g_1.getD i (0, 0)).1), .int .i64 ((g_1.getD i (0, 0)).2)])]]), some (.gen 52 2 (List.map (fun e => [.int .i64 e.1, .int .i64 e.2]) [(a1, a2)])), some (.gen 48 2 [[.int .i64 0, .nil]])]⟩) : AA 7 #[true, false, false, false, false, true, true, true, true, false, false, true, false] ⟨76, [(1, .int .i64 a1), (2, .int .i64 a2), (3, .ptr 0 0 0), (10, .bool y1.1), (12, .ptr 2 0 0), (53, .ptr 0 0 0), (61, .own 1 1)], [some (.gen 48 2 [[.int .i64 g_0, .fn 2 g_1.length (fun i => [.int .i64 ((g_1.getD i (0, 0)).1), .int .i64 ((g_1.getD i (0, 0)).2)])]]), some (.gen 52 2 (List.map (fun e => [.int .i64 e.1, .int .i64 e.2]) [(a1, a2)])), some (.gen 48 2 [[.int .i64 0, .nil]])]⟩ := (hAA _ _ _).2 (by
    refine AWPB_two 1 2 _ _ (by kernel_rfl) rfl rfl ?_ ?_
    · skip
      refine AWPL_rn tab_ok 1 [1, 2, 3, 10, 12, 54, 55, 56, 57, 61, 62, 63] fun c st' hr => ?_
      simp only [go_sem, reduceIte, reduceCtorEq, Nat.reduceEqDiff, Nat.reduceLT, Nat.reduceLeDiff, Nat.reduceBEq, Nat.reduceAdd, Nat.reduceMul, Nat.reduceSub, Nat.reducePow, Int.reduceLE, Int.reduceLT, Int.reduceNeg, Int.reduceToNat, Int.reduceAdd, Int.reduceSub] at hr
      obtain ⟨rfl, rfl⟩ := hr
      refine ⟨vc, ?_⟩
      refine AWPL_nil ?_
      refine QB_normal ?_
      exact AWPB_wk [0, 1, 2] mkWk ((hAA _ _ _).1 hn23)
    · skip
      refine AWPL_rn tab_ok 1 [1, 2, 10, 12, 53, 54, 55, 56, 57, 61, 62, 63] fun c st' hr => ?_
      simp only [go_sem, reduceIte, reduceCtorEq, Nat.reduceEqDiff, Nat.reduceLT, Nat.reduceLeDiff, Nat.reduceBEq, Nat.reduceAdd, Nat.reduceMul, Nat.reduceSub, Nat.reducePow, Int.reduceLE, Int.reduceLT, Int.reduceNeg, Int.reduceToNat, Int.reduceAdd, Int.reduceSub] at hr
      obtain ⟨rfl, rfl⟩ := hr
      refine ⟨vc, ?_⟩
      refine AWPL_nil ?_
      refine QB_normal ?_
      exact AWPB_wk [0, 1, 2] mkWk ((hAA _ _ _).1 hn43))
set_option maxRecDepth 8000 in
set_option maxHeartbeats 4000000 in
theorem J_hn50 {a1 a2 g_0 : Int} {g_1 y2 : List (Int × Int)} {y1 : Bool × Int} (hy : slices_Clone_api_Edge_api_Edge g_1 = some y2) (h : (y2 ++ [(a1, a2)]).length ≤ 8796093022208) {w0 : World} {Q : Exit → St → Prop} {AA : Nat → Array Bool → St → Prop} (hAA : ∀ g L st, AA g L st ↔ AWPB Try.prog w0 reg7.toArray Q g L st) (hn24 : AA 7 #[true, true, false, false, false, true, true, true, true, false, false, false, false] ⟨76, [(1, .int .i64 a1), (2, .int .i64 a2), (3, .ptr 0 0 0), (10, .bool y1.1), (54, .int .i64 g_0), (61, .own 1 1)], [some (.gen 48 2 [[.int .i64 g_0, .fn 2 g_1.length (fun i => [.int .i64 ((g_1.getD i (0, 0)).1), .int .i64 ((g_1.getD i (0, 0)).2)])]]), some (.gen 52 2 (List.map (fun e => [.int .i64 e.1, .int .i64 e.2]) [(a1, a2)]))]⟩) (hn44 : AA 7 #[true, false, true, false, false, true, true, true, true, false, false, false, false] ⟨76, [(1, .int .i64 a1), (2, .int .i64 a2), (10, .bool y1.1), (53, .ptr 0 0 0), (55, .ptr 0 0 1), (61, .own 1 1)], [some (.gen 48 2 [[.int .i64 g_0, .fn 2 g_1.length (fun i => [.int .i64 ((g_1.getD i (0, 0)).1), .int .i64 ((g_1.getD i (0, 0)).2)])]]), some (.gen 52 2 (List.map (fun e => [.int .i64 e.1, .int .i64 e.2]) [(a1, a2)]))]⟩) (hn49 : AA 7 #[true, false, false, false, false, true, true, true, true, false, false, true, false] ⟨76, [(1, .int .i64 a1), (2, .int .i64 a2), (3, .ptr 0 0 0), (10, .bool y1.1), (12, .ptr 2 0 0), (53, .ptr 0 0 0), (61, .own 1 1)], [some (.gen 48 2 [[.int .i64 g_0, .fn 2 g_1.length (fun i => [.int .i64 ((g_1.getD i (0, 0)).1), .int .i64 ((g_1.getD i (0, 0)).2)])]]), some (.gen 52 2 (List.map (fun e => [.int .i64 e.1, .int .i64 e.2]) [(a1, a2)])), some (.gen 48 2 [[.int .i64 0, .nil]])]⟩) : AA 8 #[true, false, false, false, false, true, true, true, true, false, false, false, false] ⟨76, [(1, .int .i64 a1), (2, .int .i64 a2), (3, .ptr 0 0 0), (10, .bool y1.1), (53, .ptr 0 0 0), (61, .own 1 1)], [some (.gen 48 2 [[.int .i64 g_0, .fn 2 g_1.length (fun i => [.int .i64 ((g_1.getD i (0, 0)).1), .int .i64 ((g_1.getD i (0, 0)).2)])]]), some (.gen 52 2 (List.map (fun e => [.int .i64 e.1, .int .i64 e.2]) [(a1, a2)]))]⟩ := (hAA _ _ _).2 (by
    refine AWPB_three 1 2 11 _ _ _ (by kernel_rfl) rfl rfl rfl ?_ ?_ ?_
    · skip
      refine AWPL_rn tab_ok 1 [1, 2, 3, 10, 12, 54, 55, 56, 57, 61, 62, 63] fun c st' hr => ?_
      simp only [go_sem, reduceIte, reduceCtorEq, Nat.reduceEqDiff, Nat.reduceLT, Nat.reduceLeDiff, Nat.reduceBEq, Nat.reduceAdd, Nat.reduceMul, Nat.reduceSub, Nat.reducePow, Int.reduceLE, Int.reduceLT, Int.reduceNeg, Int.reduceToNat, Int.reduceAdd, Int.reduceSub] at hr
      obtain ⟨rfl, rfl⟩ := hr
      refine ⟨vc, ?_⟩
      refine AWPL_nil ?_
      refine QB_normal ?_
      exact AWPB_wk [0, 1] mkWk ((hAA _ _ _).1 hn24)
    · skip
      refine AWPL_rn tab_ok 1 [1, 2, 10, 12, 53, 54, 55, 56, 57, 61, 62, 63] fun c st' hr => ?_
      simp only [go_sem, reduceIte, reduceCtorEq, Nat.reduceEqDiff, Nat.reduceLT, Nat.reduceLeDiff, Nat.reduceBEq, Nat.reduceAdd, Nat.reduceMul, Nat.reduceSub, Nat.reducePow, Int.reduceLE, Int.reduceLT, Int.reduceNeg, Int.reduceToNat, Int.reduceAdd, Int.reduceSub] at hr
      obtain ⟨rfl, rfl⟩ := hr
      refine ⟨vc, ?_⟩
      refine AWPL_nil ?_
      refine QB_normal ?_
      exact AWPB_wk [0, 1] mkWk ((hAA _ _ _).1 hn44)
    · skip
      refine AWPL_rn tab_ok 1 [1, 2, 3, 10, 12, 53, 54, 55, 56, 57, 61, 62, 63] fun c st' hr => ?_
      simp only [go_sem, reduceIte, reduceCtorEq, Nat.reduceEqDiff, Nat.reduceLT, Nat.reduceLeDiff, Nat.reduceBEq, Nat.reduceAdd, Nat.reduceMul, Nat.reduceSub, Nat.reducePow, Int.reduceLE, Int.reduceLT, Int.reduceNeg, Int.reduceToNat, Int.reduceAdd, Int.reduceSub] at hr
      obtain ⟨rfl, rfl⟩ := hr
      refine ⟨vc, ?_⟩
      refine AWPL_nil ?_
      refine QB_normal ?_
      exact AWPB_wk [0, 1, 2] mkWk ((hAA _ _ _).1 hn49))
set_option maxRecDepth 8000 in
set_option maxHeartbeats 4000000 in
theorem J_hn51 {a1 a2 g_0 : Int} {g_1 y2 : List (Int × Int)} {y1 : Bool × Int} (hy : slices_Clone_api_Edge_api_Edge g_1 = some y2) (h : (y2 ++ [(a1, a2)]).length ≤ 8796093022208) {w0 : World} {Q : Exit → St → Prop} {AA : Nat → Array Bool → St → Prop} (hAA : ∀ g L st, AA g L st ↔ AWPB Try.prog w0 reg7.toArray Q g L st) (hn25 : AA 7 #[true, true, false, false, false, true, true, true, false, false, false, true, false] ⟨76, [(1, .int .i64 a1), (2, .int .i64 a2), (3, .ptr 0 0 0), (10, .bool y1.1), (12, .ptr 1 0 0), (54, .int .i64 g_0), (60, .agg [.int .i64 a1, .int .i64 a2])], [some (.gen 48 2 [[.int .i64 g_0, .fn 2 g_1.length (fun i => [.int .i64 ((g_1.getD i (0, 0)).1), .int .i64 ((g_1.getD i (0, 0)).2)])]]), some (.gen 48 2 [[.int .i64 0, .nil]])]⟩) (hn45 : AA 7 #[true, false, true, false, false, true, true, true, false, false, false, true, false] ⟨76, [(1, .int .i64 a1), (2, .int .i64 a2), (10, .bool y1.1), (12, .ptr 1 0 0), (53, .ptr 0 0 0), (55, .ptr 0 0 1), (60, .agg [.int .i64 a1, .int .i64 a2])], [some (.gen 48 2 [[.int .i64 g_0, .fn 2 g_1.length (fun i => [.int .i64 ((g_1.getD i (0, 0)).1), .int .i64 ((g_1.getD i (0, 0)).2)])]]), some (.gen 48 2 [[.int .i64 0, .nil]])]⟩) (hn49 : AA 7 #[true, false, false, false, false, true, true, true, true, false, false, true, false] ⟨76, [(1, .int .i64 a1), (2, .int .i64 a2), (3, .ptr 0 0 0), (10, .bool y1.1), (12, .ptr 2 0 0), (53, .ptr 0 0 0), (61, .own 1 1)], [some (.gen 48 2 [[.int .i64 g_0, .fn 2 g_1.length (fun i => [.int .i64 ((g_1.getD i (0, 0)).1), .int .i64 ((g_1.getD i (0, 0)).2)])]]), some (.gen 52 2 (List.map (fun e => [.int .i64 e.1, .int .i64 e.2]) [(a1, a2)])), some (.gen 48 2 [[.int .i64 0, .nil]])]⟩) : AA 8 #[true, false, false, false, false, true, true, true, false, false, false, true, false] ⟨76, [(1, .int .i64 a1), (2, .int .i64 a2), (3, .ptr 0 0 0), (10, .bool y1.1), (12, .ptr 1 0 0), (53, .ptr 0 0 0), (60, .agg [.int .i64 a1, .int .i64 a2])], [some (.gen 48 2 [[.int .i64 g_0, .fn 2 g_1.length (fun i => [.int .i64 ((g_1.getD i (0, 0)).1), .int .i64 ((g_1.getD i (0, 0)).2)])]]), some (.gen 48 2 [[.int .i64 0, .nil]])]⟩ := (hAA _ _ _).2 (by
    refine AWPB_three 1 2 8 _ _ _ (by kernel_rfl) rfl rfl rfl ?_ ?_ ?_
    · skip
      refine AWPL_rn tab_ok 1 [1, 2, 3, 10, 12, 54, 55, 56, 57, 60, 61, 62, 63] fun c st' hr => ?_
      simp only [go_sem, reduceIte, reduceCtorEq, Nat.reduceEqDiff, Nat.reduceLT, Nat.reduceLeDiff, Nat.reduceBEq, Nat.reduceAdd, Nat.reduceMul, Nat.reduceSub, Nat.reducePow, Int.reduceLE, Int.reduceLT, Int.reduceNeg, Int.reduceToNat, Int.reduceAdd, Int.reduceSub] at hr
      obtain ⟨rfl, rfl⟩ := hr
      refine ⟨vc, ?_⟩
      refine AWPL_nil ?_
      refine QB_normal ?_
      exact AWPB_wk [0, 1] mkWk ((hAA _ _ _).1 hn25)
    · skip
      refine AWPL_rn tab_ok 1 [1, 2, 10, 12, 53, 54, 55, 56, 57, 60, 61, 62, 63] fun c st' hr => ?_
      simp only [go_sem, reduceIte, reduceCtorEq, Nat.reduceEqDiff, Nat.reduceLT, Nat.reduceLeDiff, Nat.reduceBEq, Nat.reduceAdd, Nat.reduceMul, Nat.reduceSub, Nat.reducePow, Int.reduceLE, Int.reduceLT, Int.reduceNeg, Int.reduceToNat, Int.reduceAdd, Int.reduceSub] at hr
      obtain ⟨rfl, rfl⟩ := hr
      refine ⟨vc, ?_⟩
      refine AWPL_nil ?_
      refine QB_normal ?_
      exact AWPB_wk [0, 1] mkWk ((hAA _ _ _).1 hn45)
    · skip
      refine AWPL_rn tab_ok 1 [1, 2, 3, 10, 12, 53, 54, 55, 56, 57, 61, 62, 63] fun c st' hr => ?_
      simp only [go_sem, reduceIte, reduceCtorEq, Nat.reduceEqDiff, Nat.reduceLT, Nat.reduceLeDiff, Nat.reduceBEq, Nat.reduceAdd, Nat.reduceMul, Nat.reduceSub, Nat.reducePow, Int.reduceLE, Int.reduceLT, Int.reduceNeg, Int.reduceToNat, Int.reduceAdd, Int.reduceSub] at hr
      obtain ⟨rfl, rfl⟩ := hr
      refine ⟨vc, ?_⟩
      refine AWPL_nil ?_
      refine QB_normal ?_
      exact AWPB_wk [0, 2, 1] mkWk ((hAA _ _ _).1 hn49))
set_option maxRecDepth 8000 in
set_option maxHeartbeats 4000000 in
theorem J_hn52 {a1 a2 g_0 : Int} {g_1 y2 : List (Int × Int)} {y1 : Bool × Int} (hy : slices_Clone_api_Edge_api_Edge g_1 = some y2) (h : (y2 ++ [(a1, a2)]).length ≤ 8796093022208) {w0 : World} {Q : Exit → St → Prop} {AA : Nat → Array Bool → St → Prop} (hAA : ∀ g L st, AA g L st ↔ AWPB Try.prog w0 reg7.toArray Q g L st) (hn26 : AA 8 #[true, true, false, false, false, true, true, true, false, false, false, false, false] ⟨76, [(1, .int .i64 a1), (2, .int .i64 a2), (3, .ptr 0 0 0), (10, .bool y1.1), (54, .int .i64 g_0), (60, .agg [.int .i64 a1, .int .i64 a2])], [some (.gen 48 2 [[.int .i64 g_0, .fn 2 g_1.length (fun i => [.int .i64 ((g_1.getD i (0, 0)).1), .int .i64 ((g_1.getD i (0, 0)).2)])]])]⟩) (hn46 : AA 8 #[true, false, true, false, false, true, true, true, false, false, false, false, false] ⟨76, [(1, .int .i64 a1), (2, .int .i64 a2), (10, .bool y1.1), (53, .ptr 0 0 0), (55, .ptr 0 0 1), (60, .agg [.int .i64 a1, .int .i64 a2])], [some (.gen 48 2 [[.int .i64 g_0, .fn 2 g_1.length (fun i => [.int .i64 ((g_1.getD i (0, 0)).1), .int .i64 ((g_1.getD i (0, 0)).2)])]])]⟩) (hn50 : AA 8 #[true, false, false, false, false, true, true, true, true, false, false, false, false] ⟨76, [(1, .int .i64 a1), (2, .int .i64 a2), (3, .ptr 0 0 0), (10, .bool y1.1), (53, .ptr 0 0 0), (61, .own 1 1)], [some (.gen 48 2 [[.int .i64 g_0, .fn 2 g_1.length (fun i => [.int .i64 ((g_1.getD i (0, 0)).1), .int .i64 ((g_1.getD i (0, 0)).2)])]]), some (.gen 52 2 (List.map (fun e => [.int .i64 e.1, .int .i64 e.2]) [(a1, a2)]))]⟩) (hn51 : AA 8 #[true, false, false, false, false, true, true, true, false, false, false, true, false] ⟨76, [(1, .int .i64 a1), (2, .int .i64 a2), (3, .ptr 0 0 0), (10, .bool y1.1), (12, .ptr 1 0 0), (53, .ptr 0 0 0), (60, .agg [.int .i64 a1, .int .i64 a2])], [some (.gen 48 2 [[.int .i64 g_0, .fn 2 g_1.length (fun i => [.int .i64 ((g_1.getD i (0, 0)).1), .int .i64 ((g_1.getD i (0, 0)).2)])]]), some (.gen 48 2 [[.int .i64 0, .nil]])]⟩) : AA 9 #[true, false, false, false, false, true, true, true, false, false, false, false, false] ⟨76, [(1, .int .i64 a1), (2, .int .i64 a2), (3, .ptr 0 0 0), (10, .bool y1.1), (53, .ptr 0 0 0), (60, .agg [.int .i64 a1, .int .i64 a2])], [some (.gen 48 2 [[.int .i64 g_0, .fn 2 g_1.length (fun i => [.int .i64 ((g_1.getD i (0, 0)).1), .int .i64 ((g_1.getD i (0, 0)).2)])]])]⟩ := (hAA _ _ _).2 (by
    refine AWPB_four 1 2 8 11 _ _ _ _ (by kernel_rfl) rfl rfl rfl rfl ?_ ?_ ?_ ?_
    · skip
      refine AWPL_rn tab_ok 1 [1, 2, 3, 10, 12, 54, 55, 56, 57, 60, 61, 62, 63] fun c st' hr => ?_
      simp only [go_sem, reduceIte, reduceCtorEq, Nat.reduceEqDiff, Nat.reduceLT, Nat.reduceLeDiff, Nat.reduceBEq, Nat.reduceAdd, Nat.reduceMul, Nat.reduceSub, Nat.reducePow, Int.reduceLE, Int.reduceLT, Int.reduceNeg, Int.reduceToNat, Int.reduceAdd, Int.reduceSub] at hr
      obtain ⟨rfl, rfl⟩ := hr
      refine ⟨vc, ?_⟩
      refine AWPL_nil ?_
      refine QB_normal ?_
      exact AWPB_wk [0] mkWk ((hAA _ _ _).1 hn26)
    · skip
      refine AWPL_rn tab_ok 1 [1, 2, 10, 12, 53, 54, 55, 56, 57, 60, 61, 62, 63] fun c st' hr => ?_
      simp only [go_sem, reduceIte, reduceCtorEq, Nat.reduceEqDiff, Nat.reduceLT, Nat.reduceLeDiff, Nat.reduceBEq, Nat.reduceAdd, Nat.reduceMul, Nat.reduceSub, Nat.reducePow, Int.reduceLE, Int.reduceLT, Int.reduceNeg, Int.reduceToNat, Int.reduceAdd, Int.reduceSub] at hr
      obtain ⟨rfl, rfl⟩ := hr
      refine ⟨vc, ?_⟩
      refine AWPL_nil ?_
      refine QB_normal ?_
      exact AWPB_wk [0] mkWk ((hAA _ _ _).1 hn46)
    · skip
      refine AWPL_rn tab_ok 1 [1, 2, 3, 10, 12, 53, 54, 55, 56, 57, 61, 62, 63] fun c st' hr => ?_
      simp only [go_sem, reduceIte, reduceCtorEq, Nat.reduceEqDiff, Nat.reduceLT, Nat.reduceLeDiff, Nat.reduceBEq, Nat.reduceAdd, Nat.reduceMul, Nat.reduceSub, Nat.reducePow, Int.reduceLE, Int.reduceLT, Int.reduceNeg, Int.reduceToNat, Int.reduceAdd, Int.reduceSub] at hr
      obtain ⟨rfl, rfl⟩ := hr
      refine ⟨vc, ?_⟩
      refine AWPL_nil ?_
      refine QB_normal ?_
      exact AWPB_wk [0, 1] mkWk ((hAA _ _ _).1 hn50)
    · skip
      refine AWPL_rn tab_ok 1 [1, 2, 3, 10, 12, 53, 54, 55, 56, 57, 60, 61, 62, 63] fun c st' hr => ?_
      simp only [go_sem, reduceIte, reduceCtorEq, Nat.reduceEqDiff, Nat.reduceLT, Nat.reduceLeDiff, Nat.reduceBEq, Nat.reduceAdd, Nat.reduceMul, Nat.reduceSub, Nat.reducePow, Int.reduceLE, Int.reduceLT, Int.reduceNeg, Int.reduceToNat, Int.reduceAdd, Int.reduceSub] at hr
      obtain ⟨rfl, rfl⟩ := hr
      refine ⟨vc, ?_⟩
      refine AWPL_nil ?_
      refine QB_normal ?_
      exact AWPB_wk [0, 1] mkWk ((hAA _ _ _).1 hn51))
set_option maxRecDepth 8000 in
set_option maxHeartbeats 4000000 in
theorem J_hn53 {a1 a2 g_0 : Int} {g_1 y2 : List (Int × Int)} {y1 : Bool × Int} (hy : slices_Clone_api_Edge_api_Edge g_1 = some y2) (h : (y2 ++ [(a1, a2)]).length ≤ 8796093022208) {w0 : World} {Q : Exit → St → Prop} {AA : Nat → Array Bool → St → Prop} (hAA : ∀ g L st, AA g L st ↔ AWPB Try.prog w0 reg7.toArray Q g L st) (hn27 : AA 8 #[true, true, false, false, false, true, true, false, false, false, false, true, false] ⟨76, [(1, .int .i64 a1), (2, .int .i64 a2), (3, .ptr 0 0 0), (10, .bool y1.1), (12, .ptr 1 0 0), (54, .int .i64 g_0), (58, .int .i64 a1), (59, .int .i64 a2)], [some (.gen 48 2 [[.int .i64 g_0, .fn 2 g_1.length (fun i => [.int .i64 ((g_1.getD i (0, 0)).1), .int .i64 ((g_1.getD i (0, 0)).2)])]]), some (.gen 48 2 [[.int .i64 0, .nil]])]⟩) (hn47 : AA 8 #[true, false, true, false, false, true, true, false, false, false, false, true, false] ⟨76, [(1, .int .i64 a1), (2, .int .i64 a2), (10, .bool y1.1), (12, .ptr 1 0 0), (53, .ptr 0 0 0), (55, .ptr 0 0 1), (58, .int .i64 a1), (59, .int .i64 a2)], [some (.gen 48 2 [[.int .i64 g_0, .fn 2 g_1.length (fun i => [.int .i64 ((g_1.getD i (0, 0)).1), .int .i64 ((g_1.getD i (0, 0)).2)])]]), some (.gen 48 2 [[.int .i64 0, .nil]])]⟩) (hn51 : AA 8 #[true, false, false, false, false, true, true, true, false, false, false, true, false] ⟨76, [(1, .int .i64 a1), (2, .int .i64 a2), (3, .ptr 0 0 0), (10, .bool y1.1), (12, .ptr 1 0 0), (53, .ptr 0 0 0), (60, .agg [.int .i64 a1, .int .i64 a2])], [some (.gen 48 2 [[.int .i64 g_0, .fn 2 g_1.length (fun i => [.int .i64 ((g_1.getD i (0, 0)).1), .int .i64 ((g_1.getD i (0, 0)).2)])]]), some (.gen 48 2 [[.int .i64 0, .nil]])]⟩) : AA 9 #[true, false, false, false, false, true, true, false, false, false, false, true, false] ⟨76, [(1, .int .i64 a1), (2, .int .i64 a2), (3, .ptr 0 0 0), (10, .bool y1.1), (12, .ptr 1 0 0), (53, .ptr 0 0 0), (58, .int .i64 a1), (59, .int .i64 a2)], [some (.gen 48 2 [[.int .i64 g_0, .fn 2 g_1.length (fun i => [.int .i64 ((g_1.getD i (0, 0)).1), .int .i64 ((g_1.getD i (0, 0)).2)])]]), some (.gen 48 2 [[.int .i64 0, .nil]])]⟩ := (hAA _ _ _).2 (by
    refine AWPB_three 1 2 7 _ _ _ (by kernel_rfl) rfl rfl rfl ?_ ?_ ?_
    · skip
      refine AWPL_rn tab_ok 1 [1, 2, 3, 10, 12, 54, 55, 56, 57, 58, 59, 60, 61, 62, 63] fun c st' hr => ?_
      simp only [go_sem, reduceIte, reduceCtorEq, Nat.reduceEqDiff, Nat.reduceLT, Nat.reduceLeDiff, Nat.reduceBEq, Nat.reduceAdd, Nat.reduceMul, Nat.reduceSub, Nat.reducePow, Int.reduceLE, Int.reduceLT, Int.reduceNeg, Int.reduceToNat, Int.reduceAdd, Int.reduceSub] at hr
      obtain ⟨rfl, rfl⟩ := hr
      refine ⟨vc, ?_⟩
      refine AWPL_nil ?_
      refine QB_normal ?_
      exact AWPB_wk [0, 1] mkWk ((hAA _ _ _).1 hn27)
    · skip
      refine AWPL_rn tab_ok 1 [1, 2, 10, 12, 53, 54, 55, 56, 57, 58, 59, 60, 61, 62, 63] fun c st' hr => ?_
      simp only [go_sem, reduceIte, reduceCtorEq, Nat.reduceEqDiff, Nat.reduceLT, Nat.reduceLeDiff, Nat.reduceBEq, Nat.reduceAdd, Nat.reduceMul, Nat.reduceSub, Nat.reducePow, Int.reduceLE, Int.reduceLT, Int.reduceNeg, Int.reduceToNat, Int.reduceAdd, Int.reduceSub] at hr
      obtain ⟨rfl, rfl⟩ := hr
      refine ⟨vc, ?_⟩
      refine AWPL_nil ?_
      refine QB_normal ?_
      exact AWPB_wk [0, 1] mkWk ((hAA _ _ _).1 hn47)
    · skip
      refine AWPL_rn tab_ok 1 [1, 2, 3, 10, 12, 53, 54, 55, 56, 57, 60, 61, 62, 63] fun c st' hr => ?_
      simp only [go_sem, reduceIte, reduceCtorEq, Nat.reduceEqDiff, Nat.reduceLT, Nat.reduceLeDiff, Nat.reduceBEq, Nat.reduceAdd, Nat.reduceMul, Nat.reduceSub, Nat.reducePow, Int.reduceLE, Int.reduceLT, Int.reduceNeg, Int.reduceToNat, Int.reduceAdd, Int.reduceSub] at hr
      obtain ⟨rfl, rfl⟩ := hr
      refine ⟨vc, ?_⟩
      refine AWPL_nil ?_
      refine QB_normal ?_
      exact AWPB_wk [0, 1] mkWk ((hAA _ _ _).1 hn51))
set_option maxRecDepth 8000 in
set_option maxHeartbeats 4000000 in
theorem J_hn54 {a1 a2 g_0 : Int} {g_1 y2 : List (Int × Int)} {y1 : Bool × Int} (hy : slices_Clone_api_Edge_api_Edge g_1 = some y2) (h : (y2 ++ [(a1, a2)]).length ≤ 8796093022208) {w0 : World} {Q : Exit → St → Prop} {AA : Nat → Array Bool → St → Prop} (hAA : ∀ g L st, AA g L st ↔ AWPB Try.prog w0 reg7.toArray Q g L st) (hn28 : AA 9 #[true, true, false, false, false, true, true, false, false, false, false, false, false] ⟨76, [(1, .int .i64 a1), (2, .int .i64 a2), (3, .ptr 0 0 0), (10, .bool y1.1), (54, .int .i64 g_0), (58, .int .i64 a1), (59, .int .i64 a2)], [some (.gen 48 2 [[.int .i64 g_0, .fn 2 g_1.length (fun i => [.int .i64 ((g_1.getD i (0, 0)).1), .int .i64 ((g_1.getD i (0, 0)).2)])]])]⟩) (hn48 : AA 9 #[true, false, true, false, false, true, true, false, false, false, false, false, false] ⟨76, [(1, .int .i64 a1), (2, .int .i64 a2), (10, .bool y1.1), (53, .ptr 0 0 0), (55, .ptr 0 0 1), (58, .int .i64 a1), (59, .int .i64 a2)], [some (.gen 48 2 [[.int .i64 g_0, .fn 2 g_1.length (fun i => [.int .i64 ((g_1.getD i (0, 0)).1), .int .i64 ((g_1.getD i (0, 0)).2)])]])]⟩) (hn52 : AA 9 #[true, false, false, false, false, true, true, true, false, false, false, false, false] ⟨76, [(1, .int .i64 a1), (2, .int .i64 a2), (3, .ptr 0 0 0), (10, .bool y1.1), (53, .ptr 0 0 0), (60, .agg [.int .i64 a1, .int .i64 a2])], [some (.gen 48 2 [[.int .i64 g_0, .fn 2 g_1.length (fun i => [.int .i64 ((g_1.getD i (0, 0)).1), .int .i64 ((g_1.getD i (0, 0)).2)])]])]⟩) (hn53 : AA 9 #[true, false, false, false, false, true, true, false, false, false, false, true, false] ⟨76, [(1, .int .i64 a1), (2, .int .i64 a2), (3, .ptr 0 0 0), (10, .bool y1.1), (12, .ptr 1 0 0), (53, .ptr 0 0 0), (58, .int .i64 a1), (59, .int .i64 a2)], [some (.gen 48 2 [[.int .i64 g_0, .fn 2 g_1.length (fun i => [.int .i64 ((g_1.getD i (0, 0)).1), .int .i64 ((g_1.getD i (0, 0)).2)])]]), some (.gen 48 2 [[.int .i64 0, .nil]])]⟩) : AA 10 #[true, false, false, false, false, true, true, false, false, false, false, false, false] ⟨76, [(1, .int .i64 a1), (2, .int .i64 a2), (3, .ptr 0 0 0), (10, .bool y1.1), (53, .ptr 0 0 0), (58, .int .i64 a1), (59, .int .i64 a2)], [some (.gen 48 2 [[.int .i64 g_0, .fn 2 g_1.length (fun i => [.int .i64 ((g_1.getD i (0, 0)).1), .int .i64 ((g_1.getD i (0, 0)).2)])]])]⟩ := (hAA _ _ _).2 (by
    refine AWPB_four 1 2 7 11 _ _ _ _ (by kernel_rfl) rfl rfl rfl rfl ?_ ?_ ?_ ?_
    · skip
      refine AWPL_rn tab_ok 1 [1, 2, 3, 10, 12, 54, 55, 56, 57, 58, 59, 60, 61, 62, 63] fun c st' hr => ?_
      simp only [go_sem, reduceIte, reduceCtorEq, Nat.reduceEqDiff, Nat.reduceLT, Nat.reduceLeDiff, Nat.reduceBEq, Nat.reduceAdd, Nat.reduceMul, Nat.reduceSub, Nat.reducePow, Int.reduceLE, Int.reduceLT, Int.reduceNeg, Int.reduceToNat, Int.reduceAdd, Int.reduceSub] at hr
      obtain ⟨rfl, rfl⟩ := hr
      refine ⟨vc, ?_⟩
      refine AWPL_nil ?_
      refine QB_normal ?_
      exact AWPB_wk [0] mkWk ((hAA _ _ _).1 hn28)
    · skip
      refine AWPL_rn tab_ok 1 [1, 2, 10, 12, 53, 54, 55, 56, 57, 58, 59, 60, 61, 62, 63] fun c st' hr => ?_
      simp only [go_sem, reduceIte, reduceCtorEq, Nat.reduceEqDiff, Nat.reduceLT, Nat.reduceLeDiff, Nat.reduceBEq, Nat.reduceAdd, Nat.reduceMul, Nat.reduceSub, Nat.reducePow, Int.reduceLE, Int.reduceLT, Int.reduceNeg, Int.reduceToNat, Int.reduceAdd, Int.reduceSub] at hr
      obtain ⟨rfl, rfl⟩ := hr
      refine ⟨vc, ?_⟩
      refine AWPL_nil ?_
      refine QB_normal ?_
      exact AWPB_wk [0] mkWk ((hAA _ _ _).1 hn48)
    · skip
      refine AWPL_rn tab_ok 1 [1, 2, 3, 10, 12, 53, 54, 55, 56, 57, 60, 61, 62, 63] fun c st' hr => ?_
      simp only [go_sem, reduceIte, reduceCtorEq, Nat.reduceEqDiff, Nat.reduceLT, Nat.reduceLeDiff, Nat.reduceBEq, Nat.reduceAdd, Nat.reduceMul, Nat.reduceSub, Nat.reducePow, Int.reduceLE, Int.reduceLT, Int.reduceNeg, Int.reduceToNat, Int.reduceAdd, Int.reduceSub] at hr
      obtain ⟨rfl, rfl⟩ := hr
      refine ⟨vc, ?_⟩
      refine AWPL_nil ?_
      refine QB_normal ?_
      exact AWPB_wk [0] mkWk ((hAA _ _ _).1 hn52)
    · skip
      refine AWPL_rn tab_ok 1 [1, 2, 3, 10, 12, 53, 54, 55, 56, 57, 58, 59, 60, 61, 62, 63] fun c st' hr => ?_
      simp only [go_sem, reduceIte, reduceCtorEq, Nat.reduceEqDiff, Nat.reduceLT, Nat.reduceLeDiff, Nat.reduceBEq, Nat.reduceAdd, Nat.reduceMul, Nat.reduceSub, Nat.reducePow, Int.reduceLE, Int.reduceLT, Int.reduceNeg, Int.reduceToNat, Int.reduceAdd, Int.reduceSub] at hr
      obtain ⟨rfl, rfl⟩ := hr
      refine ⟨vc, ?_⟩
      refine AWPL_nil ?_
      refine QB_normal ?_
      exact AWPB_wk [0, 1] mkWk ((hAA _ _ _).1 hn53))
set_option maxRecDepth 8000 in
set_option maxHeartbeats 4000000 in
theorem J_hn55 {a1 a2 g_0 : Int} {g_1 y2 : List (Int × Int)} {y1 : Bool × Int} (hy : slices_Clone_api_Edge_api_Edge g_1 = some y2) (h : (y2 ++ [(a1, a2)]).length ≤ 8796093022208) {w0 : World} {Q : Exit → St → Prop} {AA : Nat → Array Bool → St → Prop} (hAA : ∀ g L st, AA g L st ↔ AWPB Try.prog w0 reg7.toArray Q g L st) (hn29 : AA 3 #[true, false, true, true, true, true, true, true, true, true, false, true, false] ⟨76, [(1, .int .i64 a1), (2, .int .i64 a2), (10, .bool y1.1), (12, .ptr 4 0 0), (53, .ptr 0 0 0), (62, .own 3 ((y2 ++ [(a1, a2)]).length))], [some (.gen 48 2 [[.int .i64 g_0, .fn 2 g_1.length (fun i => [.int .i64 ((g_1.getD i (0, 0)).1), .int .i64 ((g_1.getD i (0, 0)).2)])]]), none, some (.gen 52 2 (List.map (fun e => [.int .i64 e.1, .int .i64 e.2]) [(a1, a2)])), some (.gen 52 2 (List.map (fun e => [.int .i64 e.1, .int .i64 e.2]) (y2 ++ [(a1, a2)]))), some (.gen 48 2 [[.int .i64 0, .nil]])]⟩) : AA 4 #[false, false, true, true, true, true, true, true, true, true, false, true, false] ⟨76, [(1, .int .i64 a1), (2, .int .i64 a2), (3, .ptr 0 0 0), (10, .bool y1.1), (12, .ptr 4 0 0), (62, .own 3 ((y2 ++ [(a1, a2)]).length))], [some (.gen 48 2 [[.int .i64 g_0, .fn 2 g_1.length (fun i => [.int .i64 ((g_1.getD i (0, 0)).1), .int .i64 ((g_1.getD i (0, 0)).2)])]]), none, some (.gen 52 2 (List.map (fun e => [.int .i64 e.1, .int .i64 e.2]) [(a1, a2)])), some (.gen 52 2 (List.map (fun e => [.int .i64 e.1, .int .i64 e.2]) (y2 ++ [(a1, a2)]))), some (.gen 48 2 [[.int .i64 0, .nil]])]⟩ := (hAA _ _ _).2 (by
    refine AWPB_one 0 _ (by kernel_rfl) rfl ?_
    refine AWPL_rn tab_ok 1 [1, 2, 10, 12, 53, 54, 62, 63] fun c st' hr => ?_
    simp only [go_sem, reduceIte, reduceCtorEq, Nat.reduceEqDiff, Nat.reduceLT, Nat.reduceLeDiff, Nat.reduceBEq, Nat.reduceAdd, Nat.reduceMul, Nat.reduceSub, Nat.reducePow, Int.reduceLE, Int.reduceLT, Int.reduceNeg, Int.reduceToNat, Int.reduceAdd, Int.reduceSub] at hr
    obtain ⟨rfl, rfl⟩ := hr
    refine ⟨vc, ?_⟩
    refine AWPL_nil ?_
    refine QB_normal ?_
    exact AWPB_wk [0, 1, 2, 3, 4] mkWk ((hAA _ _ _).1 hn29))
set_option maxRecDepth 8000 in
set_option maxHeartbeats 4000000 in
theorem J_hn56 {a1 a2 g_0 : Int} {g_1 y2 : List (Int × Int)} {y1 : Bool × Int} (hy : slices_Clone_api_Edge_api_Edge g_1 = some y2) (h : (y2 ++ [(a1, a2)]).length ≤ 8796093022208) {w0 : World} {Q : Exit → St → Prop} {AA : Nat → Array Bool → St → Prop} (hAA : ∀ g L st, AA g L st ↔ AWPB Try.prog w0 reg7.toArray Q g L st) (hn30 : AA 4 #[true, false, true, true, true, true, true, true, true, true, false, false, false] ⟨76, [(1, .int .i64 a1), (2, .int .i64 a2), (10, .bool y1.1), (53, .ptr 0 0 0), (62, .own 3 ((y2 ++ [(a1, a2)]).length))], [some (.gen 48 2 [[.int .i64 g_0, .fn 2 g_1.length (fun i => [.int .i64 ((g_1.getD i (0, 0)).1), .int .i64 ((g_1.getD i (0, 0)).2)])]]), none, some (.gen 52 2 (List.map (fun e => [.int .i64 e.1, .int .i64 e.2]) [(a1, a2)])), some (.gen 52 2 (List.map (fun e => [.int .i64 e.1, .int .i64 e.2]) (y2 ++ [(a1, a2)])))]⟩) (hn55 : AA 4 #[false, false, true, true, true, true, true, true, true, true, false, true, false] ⟨76, [(1, .int .i64 a1), (2, .int .i64 a2), (3, .ptr 0 0 0), (10, .bool y1.1), (12, .ptr 4 0 0), (62, .own 3 ((y2 ++ [(a1, a2)]).length))], [some (.gen 48 2 [[.int .i64 g_0, .fn 2 g_1.length (fun i => [.int .i64 ((g_1.getD i (0, 0)).1), .int .i64 ((g_1.getD i (0, 0)).2)])]]), none, some (.gen 52 2 (List.map (fun e => [.int .i64 e.1, .int .i64 e.2]) [(a1, a2)])), some (.gen 52 2 (List.map (fun e => [.int .i64 e.1, .int .i64 e.2]) (y2 ++ [(a1, a2)]))), some (.gen 48 2 [[.int .i64 0, .nil]])]⟩) : AA 5 #[false, false, true, true, true, true, true, true, true, true, false, false, false] ⟨76, [(1, .int .i64 a1), (2, .int .i64 a2), (3, .ptr 0 0 0), (10, .bool y1.1), (62, .own 3 ((y2 ++ [(a1, a2)]).length))], [some (.gen 48 2 [[.int .i64 g_0, .fn 2 g_1.length (fun i => [.int .i64 ((g_1.getD i (0, 0)).1), .int .i64 ((g_1.getD i (0, 0)).2)])]]), none, some (.gen 52 2 (List.map (fun e => [.int .i64 e.1, .int .i64 e.2]) [(a1, a2)])), some (.gen 52 2 (List.map (fun e => [.int .i64 e.1, .int .i64 e.2]) (y2 ++ [(a1, a2)])))]⟩ := (hAA _ _ _).2 (by
    refine AWPB_two 0 11 _ _ (by kernel_rfl) rfl rfl ?_ ?_
    · skip
      refine AWPL_rn tab_ok 1 [1, 2, 10, 12, 53, 54, 62, 63] fun c st' hr => ?_
      simp only [go_sem, reduceIte, reduceCtorEq, Nat.reduceEqDiff, Nat.reduceLT, Nat.reduceLeDiff, Nat.reduceBEq, Nat.reduceAdd, Nat.reduceMul, Nat.reduceSub, Nat.reducePow, Int.reduceLE, Int.reduceLT, Int.reduceNeg, Int.reduceToNat, Int.reduceAdd, Int.reduceSub] at hr
      obtain ⟨rfl, rfl⟩ := hr
      refine ⟨vc, ?_⟩
      refine AWPL_nil ?_
      refine QB_normal ?_
      exact AWPB_wk [0, 1, 2, 3] mkWk ((hAA _ _ _).1 hn30)
    · skip
      refine AWPL_rn tab_ok 1 [1, 2, 3, 10, 12, 53, 54, 62, 63] fun c st' hr => ?_
      simp only [go_sem, reduceIte, reduceCtorEq, Nat.reduceEqDiff, Nat.reduceLT, Nat.reduceLeDiff, Nat.reduceBEq, Nat.reduceAdd, Nat.reduceMul, Nat.reduceSub, Nat.reducePow, Int.reduceLE, Int.reduceLT, Int.reduceNeg, Int.reduceToNat, Int.reduceAdd, Int.reduceSub] at hr
      obtain ⟨rfl, rfl⟩ := hr
      refine ⟨vc, ?_⟩
      refine AWPL_nil ?_
      refine QB_normal ?_
      exact AWPB_wk [0, 1, 2, 3, 4] mkWk ((hAA _ _ _).1 hn55))
set_option maxRecDepth 8000 in
set_option maxHeartbeats 4000000 in
theorem J_hn57 {a1 a2 g_0 : Int} {g_1 y2 : List (Int × Int)} {y1 : Bool × Int} (hy : slices_Clone_api_Edge_api_Edge g_1 = some y2) (h : (y2 ++ [(a1, a2)]).length ≤ 8796093022208) {w0 : World} {Q : Exit → St → Prop} {AA : Nat → Array Bool → St → Prop} (hAA : ∀ g L st, AA g L st ↔ AWPB Try.prog w0 reg7.toArray Q g L st) (hn31 : AA 4 #[true, false, true, true, true, true, true, true, true, false, false, true, false] ⟨76, [(1, .int .i64 a1), (2, .int .i64 a2), (10, .bool y1.1), (12, .ptr 3 0 0), (53, .ptr 0 0 0), (57, .own 1 y2.length), (61, .own 2 1)], [some (.gen 48 2 [[.int .i64 g_0, .fn 2 g_1.length (fun i => [.int .i64 ((g_1.getD i (0, 0)).1), .int .i64 ((g_1.getD i (0, 0)).2)])]]), some (.gen 52 2 (List.map (fun e => [.int .i64 e.1, .int .i64 e.2]) y2)), some (.gen 52 2 (List.map (fun e => [.int .i64 e.1, .int .i64 e.2]) [(a1, a2)])), some (.gen 48 2 [[.int .i64 0, .nil]])]⟩) (hn55 : AA 4 #[false, false, true, true, true, true, true, true, true, true, false, true, false] ⟨76, [(1, .int .i64 a1), (2, .int .i64 a2), (3, .ptr 0 0 0), (10, .bool y1.1), (12, .ptr 4 0 0), (62, .own 3 ((y2 ++ [(a1, a2)]).length))], [some (.gen 48 2 [[.int .i64 g_0, .fn 2 g_1.length (fun i => [.int .i64 ((g_1.getD i (0, 0)).1), .int .i64 ((g_1.getD i (0, 0)).2)])]]), none, some (.gen 52 2 (List.map (fun e => [.int .i64 e.1, .int .i64 e.2]) [(a1, a2)])), some (.gen 52 2 (List.map (fun e => [.int .i64 e.1, .int .i64 e.2]) (y2 ++ [(a1, a2)]))), some (.gen 48 2 [[.int .i64 0, .nil]])]⟩) : AA 5 #[false, false, true, true, true, true, true, true, true, false, false, true, false] ⟨76, [(1, .int .i64 a1), (2, .int .i64 a2), (3, .ptr 0 0 0), (10, .bool y1.1), (12, .ptr 3 0 0), (57, .own 1 y2.length), (61, .own 2 1)], [some (.gen 48 2 [[.int .i64 g_0, .fn 2 g_1.length (fun i => [.int .i64 ((g_1.getD i (0, 0)).1), .int .i64 ((g_1.getD i (0, 0)).2)])]]), some (.gen 52 2 (List.map (fun e => [.int .i64 e.1, .int .i64 e.2]) y2)), some (.gen 52 2 (List.map (fun e => [.int .i64 e.1, .int .i64 e.2]) [(a1, a2)])), some (.gen 48 2 [[.int .i64 0, .nil]])]⟩ := (hAA _ _ _).2 (by
    refine AWPB_two 0 9 _ _ (by kernel_rfl) rfl rfl ?_ ?_
    · skip
      refine AWPL_rn tab_ok 1 [1, 2, 10, 12, 53, 54, 57, 61, 62, 63] fun c st' hr => ?_
      simp only [go_sem, reduceIte, reduceCtorEq, Nat.reduceEqDiff, Nat.reduceLT, Nat.reduceLeDiff, Nat.reduceBEq, Nat.reduceAdd, Nat.reduceMul, Nat.reduceSub, Nat.reducePow, Int.reduceLE, Int.reduceLT, Int.reduceNeg, Int.reduceToNat, Int.reduceAdd, Int.reduceSub] at hr
      obtain ⟨rfl, rfl⟩ := hr
      refine ⟨vc, ?_⟩
      refine AWPL_nil ?_
      refine QB_normal ?_
      exact AWPB_wk [0, 1, 2, 3] mkWk ((hAA _ _ _).1 hn31)
    · skip
      refine AWPL_rn tab_ok 1 [1, 2, 3, 10, 12, 53, 54, 62, 63] fun c st' hr => ?_
      simp only [go_sem, reduceIte, reduceCtorEq, Nat.reduceEqDiff, Nat.reduceLT, Nat.reduceLeDiff, Nat.reduceBEq, Nat.reduceAdd, Nat.reduceMul, Nat.reduceSub, Nat.reducePow, Int.reduceLE, Int.reduceLT, Int.reduceNeg, Int.reduceToNat, Int.reduceAdd, Int.reduceSub] at hr
      obtain ⟨rfl, rfl⟩ := hr
      refine ⟨vc, ?_⟩
      refine AWPL_nil ?_
      refine QB_normal ?_
      exact AWPB_wk [0, 1, 2, 4, 3] mkWk ((hAA _ _ _).1 hn55))
set_option maxRecDepth 8000 in
set_option maxHeartbeats 4000000 in
theorem J_hn58 {a1 a2 g_0 : Int} {g_1 y2 : List (Int × Int)} {y1 : Bool × Int} (hy : slices_Clone_api_Edge_api_Edge g_1 = some y2) (h : (y2 ++ [(a1, a2)]).length ≤ 8796093022208) {w0 : World} {Q : Exit → St → Prop} {AA : Nat → Array Bool → St → Prop} (hAA : ∀ g L st, AA g L st ↔ AWPB Try.prog w0 reg7.toArray Q g L st) (hn32 : AA 5 #[true, false, true, true, true, true, true, true, true, false, false, false, false] ⟨76, [(1, .int .i64 a1), (2, .int .i64 a2), (10, .bool y1.1), (53, .ptr 0 0 0), (57, .own 1 y2.length), (61, .own 2 1)], [some (.gen 48 2 [[.int .i64 g_0, .fn 2 g_1.length (fun i => [.int .i64 ((g_1.getD i (0, 0)).1), .int .i64 ((g_1.getD i (0, 0)).2)])]]), some (.gen 52 2 (List.map (fun e => [.int .i64 e.1, .int .i64 e.2]) y2)), some (.gen 52 2 (List.map (fun e => [.int .i64 e.1, .int .i64 e.2]) [(a1, a2)]))]⟩) (hn56 : AA 5 #[false, false, true, true, true, true, true, true, true, true, false, false, false] ⟨76, [(1, .int .i64 a1), (2, .int .i64 a2), (3, .ptr 0 0 0), (10, .bool y1.1), (62, .own 3 ((y2 ++ [(a1, a2)]).length))], [some (.gen 48 2 [[.int .i64 g_0, .fn 2 g_1.length (fun i => [.int .i64 ((g_1.getD i (0, 0)).1), .int .i64 ((g_1.getD i (0, 0)).2)])]]), none, some (.gen 52 2 (List.map (fun e => [.int .i64 e.1, .int .i64 e.2]) [(a1, a2)])), some (.gen 52 2 (List.map (fun e => [.int .i64 e.1, .int .i64 e.2]) (y2 ++ [(a1, a2)])))]⟩) (hn57 : AA 5 #[false, false, true, true, true, true, true, true, true, false, false, true, false] ⟨76, [(1, .int .i64 a1), (2, .int .i64 a2), (3, .ptr 0 0 0), (10, .bool y1.1), (12, .ptr 3 0 0), (57, .own 1 y2.length), (61, .own 2 1)], [some (.gen 48 2 [[.int .i64 g_0, .fn 2 g_1.length (fun i => [.int .i64 ((g_1.getD i (0, 0)).1), .int .i64 ((g_1.getD i (0, 0)).2)])]]), some (.gen 52 2 (List.map (fun e => [.int .i64 e.1, .int .i64 e.2]) y2)), some (.gen 52 2 (List.map (fun e => [.int .i64 e.1, .int .i64 e.2]) [(a1, a2)])), some (.gen 48 2 [[.int .i64 0, .nil]])]⟩) : AA 6 #[false, false, true, true, true, true, true, true, true, false, false, false, false] ⟨76, [(1, .int .i64 a1), (2, .int .i64 a2), (3, .ptr 0 0 0), (10, .bool y1.1), (57, .own 1 y2.length), (61, .own 2 1)], [some (.gen 48 2 [[.int .i64 g_0, .fn 2 g_1.length (fun i => [.int .i64 ((g_1.getD i (0, 0)).1), .int .i64 ((g_1.getD i (0, 0)).2)])]]), some (.gen 52 2 (List.map (fun e => [.int .i64 e.1, .int .i64 e.2]) y2)), some (.gen 52 2 (List.map (fun e => [.int .i64 e.1, .int .i64 e.2]) [(a1, a2)]))]⟩ := (hAA _ _ _).2 (by
    refine AWPB_three 0 9 11 _ _ _ (by kernel_rfl) rfl rfl rfl ?_ ?_ ?_
    · skip
      refine AWPL_rn tab_ok 1 [1, 2, 10, 12, 53, 54, 57, 61, 62, 63] fun c st' hr => ?_
      simp only [go_sem, reduceIte, reduceCtorEq, Nat.reduceEqDiff, Nat.reduceLT, Nat.reduceLeDiff, Nat.reduceBEq, Nat.reduceAdd, Nat.reduceMul, Nat.reduceSub, Nat.reducePow, Int.reduceLE, Int.reduceLT, Int.reduceNeg, Int.reduceToNat, Int.reduceAdd, Int.reduceSub] at hr
      obtain ⟨rfl, rfl⟩ := hr
      refine ⟨vc, ?_⟩
      refine AWPL_nil ?_
      refine QB_normal ?_
      exact AWPB_wk [0, 1, 2] mkWk ((hAA _ _ _).1 hn32)
    · skip
      refine AWPL_rn tab_ok 1 [1, 2, 3, 10, 12, 53, 54, 62, 63] fun c st' hr => ?_
      simp only [go_sem, reduceIte, reduceCtorEq, Nat.reduceEqDiff, Nat.reduceLT, Nat.reduceLeDiff, Nat.reduceBEq, Nat.reduceAdd, Nat.reduceMul, Nat.reduceSub, Nat.reducePow, Int.reduceLE, Int.reduceLT, Int.reduceNeg, Int.reduceToNat, Int.reduceAdd, Int.reduceSub] at hr
      obtain ⟨rfl, rfl⟩ := hr
      refine ⟨vc, ?_⟩
      refine AWPL_nil ?_
      refine QB_normal ?_
      exact AWPB_wk [0, 1, 2, 3] mkWk ((hAA _ _ _).1 hn56)
    · skip
      refine AWPL_rn tab_ok 1 [1, 2, 3, 10, 12, 53, 54, 57, 61, 62, 63] fun c st' hr => ?_
      simp only [go_sem, reduceIte, reduceCtorEq, Nat.reduceEqDiff, Nat.reduceLT, Nat.reduceLeDiff, Nat.reduceBEq, Nat.reduceAdd, Nat.reduceMul, Nat.reduceSub, Nat.reducePow, Int.reduceLE, Int.reduceLT, Int.reduceNeg, Int.reduceToNat, Int.reduceAdd, Int.reduceSub] at hr
      obtain ⟨rfl, rfl⟩ := hr
      refine ⟨vc, ?_⟩
      refine AWPL_nil ?_
      refine QB_normal ?_
      exact AWPB_wk [0, 1, 2, 3] mkWk ((hAA _ _ _).1 hn57))
set_option maxRecDepth 8000 in
set_option maxHeartbeats 4000000 in
theorem J_hn59 {a1 a2 g_0 : Int} {g_1 y2 : List (Int × Int)} {y1 : Bool × Int} (hy : slices_Clone_api_Edge_api_Edge g_1 = some y2) (h : (y2 ++ [(a1, a2)]).length ≤ 8796093022208) {w0 : World} {Q : Exit → St → Prop} {AA : Nat → Array Bool → St → Prop} (hAA : ∀ g L st, AA g L st ↔ AWPB Try.prog w0 reg7.toArray Q g L st) (hn33 : AA 5 #[true, false, true, true, true, true, true, true, false, false, false, true, false] ⟨76, [(1, .int .i64 a1), (2, .int .i64 a2), (10, .bool y1.1), (12, .ptr 2 0 0), (53, .ptr 0 0 0), (57, .own 1 y2.length), (60, .agg [.int .i64 a1, .int .i64 a2])], [some (.gen 48 2 [[.int .i64 g_0, .fn 2 g_1.length (fun i => [.int .i64 ((g_1.getD i (0, 0)).1), .int .i64 ((g_1.getD i (0, 0)).2)])]]), some (.gen 52 2 (List.map (fun e => [.int .i64 e.1, .int .i64 e.2]) y2)), some (.gen 48 2 [[.int .i64 0, .nil]])]⟩) (hn57 : AA 5 #[false, false, true, true, true, true, true, true, true, false, false, true, false] ⟨76, [(1, .int .i64 a1), (2, .int .i64 a2), (3, .ptr 0 0 0), (10, .bool y1.1), (12, .ptr 3 0 0), (57, .own 1 y2.length), (61, .own 2 1)], [some (.gen 48 2 [[.int .i64 g_0, .fn 2 g_1.length (fun i => [.int .i64 ((g_1.getD i (0, 0)).1), .int .i64 ((g_1.getD i (0, 0)).2)])]]), some (.gen 52 2 (List.map (fun e => [.int .i64 e.1, .int .i64 e.2]) y2)), some (.gen 52 2 (List.map (fun e => [.int .i64 e.1, .int .i64 e.2]) [(a1, a2)])), some (.gen 48 2 [[.int .i64 0, .nil]])]⟩) : AA 6 #[false, false, true, true, true, true, true, true, false, false, false, true, false] ⟨76, [(1, .int .i64 a1), (2, .int .i64 a2), (3, .ptr 0 0 0), (10, .bool y1.1), (12, .ptr 2 0 0), (57, .own 1 y2.length), (60, .agg [.int .i64 a1, .int .i64 a2])], [some (.gen 48 2 [[.int .i64 g_0, .fn 2 g_1.length (fun i => [.int .i64 ((g_1.getD i (0, 0)).1), .int .i64 ((g_1.getD i (0, 0)).2)])]]), some (.gen 52 2 (List.map (fun e => [.int .i64 e.1, .int .i64 e.2]) y2)), some (.gen 48 2 [[.int .i64 0, .nil]])]⟩ := (hAA _ _ _).2 (by
    refine AWPB_two 0 8 _ _ (by kernel_rfl) rfl rfl ?_ ?_
    · skip
      refine AWPL_rn tab_ok 1 [1, 2, 10, 12, 53, 54, 57, 60, 61, 62, 63] fun c st' hr => ?_
      simp only [go_sem, reduceIte, reduceCtorEq, Nat.reduceEqDiff, Nat.reduceLT, Nat.reduceLeDiff, Nat.reduceBEq, Nat.reduceAdd, Nat.reduceMul, Nat.reduceSub, Nat.reducePow, Int.reduceLE, Int.reduceLT, Int.reduceNeg, Int.reduceToNat, Int.reduceAdd, Int.reduceSub] at hr
      obtain ⟨rfl, rfl⟩ := hr
      refine ⟨vc, ?_⟩
      refine AWPL_nil ?_
      refine QB_normal ?_
      exact AWPB_wk [0, 1, 2] mkWk ((hAA _ _ _).1 hn33)
    · skip
      refine AWPL_rn tab_ok 1 [1, 2, 3, 10, 12, 53, 54, 57, 61, 62, 63] fun c st' hr => ?_
      simp only [go_sem, reduceIte, reduceCtorEq, Nat.reduceEqDiff, Nat.reduceLT, Nat.reduceLeDiff, Nat.reduceBEq, Nat.reduceAdd, Nat.reduceMul, Nat.reduceSub, Nat.reducePow, Int.reduceLE, Int.reduceLT, Int.reduceNeg, Int.reduceToNat, Int.reduceAdd, Int.reduceSub] at hr
      obtain ⟨rfl, rfl⟩ := hr
      refine ⟨vc, ?_⟩
      refine AWPL_nil ?_
      refine QB_normal ?_
      exact AWPB_wk [0, 1, 3, 2] mkWk ((hAA _ _ _).1 hn57))
set_option maxRecDepth 8000 in
set_option maxHeartbeats 4000000 in
theorem J_hn60 {a1 a2 g_0 : Int} {g_1 y2 : List (Int × Int)} {y1 : Bool × Int} (hy : slices_Clone_api_Edge_api_Edge g_1 = some y2) (h : (y2 ++ [(a1, a2)]).length ≤ 8796093022208) {w0 : World} {Q : Exit → St → Prop} {AA : Nat → Array Bool → St → Prop} (hAA : ∀ g L st, AA g L st ↔ AWPB Try.prog w0 reg7.toArray Q g L st) (hn34 : AA 6 #[true, false, true, true, true, true, true, true, false, false, false, false, false] ⟨76, [(1, .int .i64 a1), (2, .int .i64 a2), (10, .bool y1.1), (53, .ptr 0 0 0), (57, .own 1 y2.length), (60, .agg [.int .i64 a1, .int .i64 a2])], [some (.gen 48 2 [[.int .i64 g_0, .fn 2 g_1.length (fun i => [.int .i64 ((g_1.getD i (0, 0)).1), .int .i64 ((g_1.getD i (0, 0)).2)])]]), some (.gen 52 2 (List.map (fun e => [.int .i64 e.1, .int .i64 e.2]) y2))]⟩) (hn58 : AA 6 #[false, false, true, true, true, true, true, true, true, false, false, false, false] ⟨76, [(1, .int .i64 a1), (2, .int .i64 a2), (3, .ptr 0 0 0), (10, .bool y1.1), (57, .own 1 y2.length), (61, .own 2 1)], [some (.gen 48 2 [[.int .i64 g_0, .fn 2 g_1.length (fun i => [.int .i64 ((g_1.getD i (0, 0)).1), .int .i64 ((g_1.getD i (0, 0)).2)])]]), some (.gen 52 2 (List.map (fun e => [.int .i64 e.1, .int .i64 e.2]) y2)), some (.gen 52 2 (List.map (fun e => [.int .i64 e.1, .int .i64 e.2]) [(a1, a2)]))]⟩) (hn59 : AA 6 #[false, false, true, true, true, true, true, true, false, false, false, true, false] ⟨76, [(1, .int .i64 a1), (2, .int .i64 a2), (3, .ptr 0 0 0), (10, .bool y1.1), (12, .ptr 2 0 0), (57, .own 1 y2.length), (60, .agg [.int .i64 a1, .int .i64 a2])], [some (.gen 48 2 [[.int .i64 g_0, .fn 2 g_1.length (fun i => [.int .i64 ((g_1.getD i (0, 0)).1), .int .i64 ((g_1.getD i (0, 0)).2)])]]), some (.gen 52 2 (List.map (fun e => [.int .i64 e.1, .int .i64 e.2]) y2)), some (.gen 48 2 [[.int .i64 0, .nil]])]⟩) : AA 7 #[false, false, true, true, true, true, true, true, false, false, false, false, false] ⟨76, [(1, .int .i64 a1), (2, .int .i64 a2), (3, .ptr 0 0 0), (10, .bool y1.1), (57, .own 1 y2.length), (60, .agg [.int .i64 a1, .int .i64 a2])], [some (.gen 48 2 [[.int .i64 g_0, .fn 2 g_1.length (fun i => [.int .i64 ((g_1.getD i (0, 0)).1), .int .i64 ((g_1.getD i (0, 0)).2)])]]), some (.gen 52 2 (List.map (fun e => [.int .i64 e.1, .int .i64 e.2]) y2))]⟩ := (hAA _ _ _).2 (by
    refine AWPB_three 0 8 11 _ _ _ (by kernel_rfl) rfl rfl rfl ?_ ?_ ?_
    · skip
      refine AWPL_rn tab_ok 1 [1, 2, 10, 12, 53, 54, 57, 60, 61, 62, 63] fun c st' hr => ?_
      simp only [go_sem, reduceIte, reduceCtorEq, Nat.reduceEqDiff, Nat.reduceLT, Nat.reduceLeDiff, Nat.reduceBEq, Nat.reduceAdd, Nat.reduceMul, Nat.reduceSub, Nat.reducePow, Int.reduceLE, Int.reduceLT, Int.reduceNeg, Int.reduceToNat, Int.reduceAdd, Int.reduceSub] at hr
      obtain ⟨rfl, rfl⟩ := hr
      refine ⟨vc, ?_⟩
      refine AWPL_nil ?_
      refine QB_normal ?_
      exact AWPB_wk [0, 1] mkWk ((hAA _ _ _).1 hn34)
    · skip
      refine AWPL_rn tab_ok 1 [1, 2, 3, 10, 12, 53, 54, 57, 61, 62, 63] fun c st' hr => ?_
      simp only [go_sem, reduceIte, reduceCtorEq, Nat.reduceEqDiff, Nat.reduceLT, Nat.reduceLeDiff, Nat.reduceBEq, Nat.reduceAdd, Nat.reduceMul, Nat.reduceSub, Nat.reducePow, Int.reduceLE, Int.reduceLT, Int.reduceNeg, Int.reduceToNat, Int.reduceAdd, Int.reduceSub] at hr
      obtain ⟨rfl, rfl⟩ := hr
      refine ⟨vc, ?_⟩
      refine AWPL_nil ?_
      refine QB_normal ?_
      exact AWPB_wk [0, 1, 2] mkWk ((hAA _ _ _).1 hn58)
    · skip
      refine AWPL_rn tab_ok 1 [1, 2, 3, 10, 12, 53, 54, 57, 60, 61, 62, 63] fun c st' hr => ?_
      simp only [go_sem, reduceIte, reduceCtorEq, Nat.reduceEqDiff, Nat.reduceLT, Nat.reduceLeDiff, Nat.reduceBEq, Nat.reduceAdd, Nat.reduceMul, Nat.reduceSub, Nat.reducePow, Int.reduceLE, Int.reduceLT, Int.reduceNeg, Int.reduceToNat, Int.reduceAdd, Int.reduceSub] at hr
      obtain ⟨rfl, rfl⟩ := hr
      refine ⟨vc, ?_⟩
      refine AWPL_nil ?_
      refine QB_normal ?_
      exact AWPB_wk [0, 1, 2] mkWk ((hAA _ _ _).1 hn59))
set_option maxRecDepth 8000 in
set_option maxHeartbeats 4000000 in
theorem J_hn61 {a1 a2 g_0 : Int} {g_1 y2 : List (Int × Int)} {y1 : Bool × Int} (hy : slices_Clone_api_Edge_api_Edge g_1 = some y2) (h : (y2 ++ [(a1, a2)]).length ≤ 8796093022208) {w0 : World} {Q : Exit → St → Prop} {AA : Nat → Array Bool → St → Prop} (hAA : ∀ g L st, AA g L st ↔ AWPB Try.prog w0 reg7.toArray Q g L st) (hn35 : AA 6 #[true, false, true, true, true, true, true, false, false, false, false, true, false] ⟨76, [(1, .int .i64 a1), (2, .int .i64 a2), (10, .bool y1.1), (12, .ptr 2 0 0), (53, .ptr 0 0 0), (57, .own 1 y2.length), (58, .int .i64 a1), (59, .int .i64 a2)], [some (.gen 48 2 [[.int .i64 g_0, .fn 2 g_1.length (fun i => [.int .i64 ((g_1.getD i (0, 0)).1), .int .i64 ((g_1.getD i (0, 0)).2)])]]), some (.gen 52 2 (List.map (fun e => [.int .i64 e.1, .int .i64 e.2]) y2)), some (.gen 48 2 [[.int .i64 0, .nil]])]⟩) (hn59 : AA 6 #[false, false, true, true, true, true, true, true, false, false, false, true, false] ⟨76, [(1, .int .i64 a1), (2, .int .i64 a2), (3, .ptr 0 0 0), (10, .bool y1.1), (12, .ptr 2 0 0), (57, .own 1 y2.length), (60, .agg [.int .i64 a1, .int .i64 a2])], [some (.gen 48 2 [[.int .i64 g_0, .fn 2 g_1.length (fun i => [.int .i64 ((g_1.getD i (0, 0)).1), .int .i64 ((g_1.getD i (0, 0)).2)])]]), some (.gen 52 2 (List.map (fun e => [.int .i64 e.1, .int .i64 e.2]) y2)), some (.gen 48 2 [[.int .i64 0, .nil]])]⟩) : AA 7 #[false, false, true, true, true, true, true, false, false, false, false, true, false] ⟨76, [(1, .int .i64 a1), (2, .int .i64 a2), (3, .ptr 0 0 0), (10, .bool y1.1), (12, .ptr 2 0 0), (57, .own 1 y2.length), (58, .int .i64 a1), (59, .int .i64 a2)], [some (.gen 48 2 [[.int .i64 g_0, .fn 2 g_1.length (fun i => [.int .i64 ((g_1.getD i (0, 0)).1), .int .i64 ((g_1.getD i (0, 0)).2)])]]), some (.gen 52 2 (List.map (fun e => [.int .i64 e.1, .int .i64 e.2]) y2)), some (.gen 48 2 [[.int .i64 0, .nil]])]⟩ := (hAA _ _ _).2 (by
    refine AWPB_two 0 7 _ _ (by kernel_rfl) rfl rfl ?_ ?_
    · skip
      refine AWPL_rn tab_ok 1 [1, 2, 10, 12, 53, 54, 57, 58, 59, 60, 61, 62, 63] fun c st' hr => ?_
      simp only [go_sem, reduceIte, reduceCtorEq, Nat.reduceEqDiff, Nat.reduceLT, Nat.reduceLeDiff, Nat.reduceBEq, Nat.reduceAdd, Nat.reduceMul, Nat.reduceSub, Nat.reducePow, Int.reduceLE, Int.reduceLT, Int.reduceNeg, Int.reduceToNat, Int.reduceAdd, Int.reduceSub] at hr
      obtain ⟨rfl, rfl⟩ := hr
      refine ⟨vc, ?_⟩
      refine AWPL_nil ?_
      refine QB_normal ?_
      exact AWPB_wk [0, 1, 2] mkWk ((hAA _ _ _).1 hn35)
    · skip
      refine AWPL_rn tab_ok 1 [1, 2, 3, 10, 12, 53, 54, 57, 60, 61, 62, 63] fun c st' hr => ?_
      simp only [go_sem, reduceIte, reduceCtorEq, Nat.reduceEqDiff, Nat.reduceLT, Nat.reduceLeDiff, Nat.reduceBEq, Nat.reduceAdd, Nat.reduceMul, Nat.reduceSub, Nat.reducePow, Int.reduceLE, Int.reduceLT, Int.reduceNeg, Int.reduceToNat, Int.reduceAdd, Int.reduceSub] at hr
      obtain ⟨rfl, rfl⟩ := hr
      refine ⟨vc, ?_⟩
      refine AWPL_nil ?_
      refine QB_normal ?_
      exact AWPB_wk [0, 1, 2] mkWk ((hAA _ _ _).1 hn59))
set_option maxRecDepth 8000 in
set_option maxHeartbeats 4000000 in
theorem J_hn62 {a1 a2 g_0 : Int} {g_1 y2 : List (Int × Int)} {y1 : Bool × Int} (hy : slices_Clone_api_Edge_api_Edge g_1 = some y2) (h : (y2 ++ [(a1, a2)]).length ≤ 8796093022208) {w0 : World} {Q : Exit → St → Prop} {AA : Nat → Array Bool → St → Prop} (hAA : ∀ g L st, AA g L st ↔ AWPB Try.prog w0 reg7.toArray Q g L st) (hn36 : AA 7 #[true, false, true, true, true, true, true, false, false, false, false, false, false] ⟨76, [(1, .int .i64 a1), (2, .int .i64 a2), (10, .bool y1.1), (53, .ptr 0 0 0), (57, .own 1 y2.length), (58, .int .i64 a1), (59, .int .i64 a2)], [some (.gen 48 2 [[.int .i64 g_0, .fn 2 g_1.length (fun i => [.int .i64 ((g_1.getD i (0, 0)).1), .int .i64 ((g_1.getD i (0, 0)).2)])]]), some (.gen 52 2 (List.map (fun e => [.int .i64 e.1, .int .i64 e.2]) y2))]⟩) (hn60 : AA 7 #[false, false, true, true, true, true, true, true, false, false, false, false, false] ⟨76, [(1, .int .i64 a1), (2, .int .i64 a2), (3, .ptr 0 0 0), (10, .bool y1.1), (57, .own 1 y2.length), (60, .agg [.int .i64 a1, .int .i64 a2])], [some (.gen 48 2 [[.int .i64 g_0, .fn 2 g_1.length (fun i => [.int .i64 ((g_1.getD i (0, 0)).1), .int .i64 ((g_1.getD i (0, 0)).2)])]]), some (.gen 52 2 (List.map (fun e => [.int .i64 e.1, .int .i64 e.2]) y2))]⟩) (hn61 : AA 7 #[false, false, true, true, true, true, true, false, false, false, false, true, false] ⟨76, [(1, .int .i64 a1), (2, .int .i64 a2), (3, .ptr 0 0 0), (10, .bool y1.1), (12, .ptr 2 0 0), (57, .own 1 y2.length), (58, .int .i64 a1), (59, .int .i64 a2)], [some (.gen 48 2 [[.int .i64 g_0, .fn 2 g_1.length (fun i => [.int .i64 ((g_1.getD i (0, 0)).1), .int .i64 ((g_1.getD i (0, 0)).2)])]]), some (.gen 52 2 (List.map (fun e => [.int .i64 e.1, .int .i64 e.2]) y2)), some (.gen 48 2 [[.int .i64 0, .nil]])]⟩) : AA 8 #[false, false, true, true, true, true, true, false, false, false, false, false, false] ⟨76, [(1, .int .i64 a1), (2, .int .i64 a2), (3, .ptr 0 0 0), (10, .bool y1.1), (57, .own 1 y2.length), (58, .int .i64 a1), (59, .int .i64 a2)], [some (.gen 48 2 [[.int .i64 g_0, .fn 2 g_1.length (fun i => [.int .i64 ((g_1.getD i (0, 0)).1), .int .i64 ((g_1.getD i (0, 0)).2)])]]), some (.gen 52 2 (List.map (fun e => [.int .i64 e.1, .int .i64 e.2]) y2))]⟩ := (hAA _ _ _).2 (by
    refine AWPB_three 0 7 11 _ _ _ (by kernel_rfl) rfl rfl rfl ?_ ?_ ?_
    · skip
      refine AWPL_rn tab_ok 1 [1, 2, 10, 12, 53, 54, 57, 58, 59, 60, 61, 62, 63] fun c st' hr => ?_
      simp only [go_sem, reduceIte, reduceCtorEq, Nat.reduceEqDiff, Nat.reduceLT, Nat.reduceLeDiff, Nat.reduceBEq, Nat.reduceAdd, Nat.reduceMul, Nat.reduceSub, Nat.reducePow, Int.reduceLE, Int.reduceLT, Int.reduceNeg, Int.reduceToNat, Int.reduceAdd, Int.reduceSub] at hr
      obtain ⟨rfl, rfl⟩ := hr
      refine ⟨vc, ?_⟩
      refine AWPL_nil ?_
      refine QB_normal ?_
      exact AWPB_wk [0, 1] mkWk ((hAA _ _ _).1 hn36)
    · skip
      refine AWPL_rn tab_ok 1 [1, 2, 3, 10, 12, 53, 54, 57, 60, 61, 62, 63] fun c st' hr => ?_
      simp only [go_sem, reduceIte, reduceCtorEq, Nat.reduceEqDiff, Nat.reduceLT, Nat.reduceLeDiff, Nat.reduceBEq, Nat.reduceAdd, Nat.reduceMul, Nat.reduceSub, Nat.reducePow, Int.reduceLE, Int.reduceLT, Int.reduceNeg, Int.reduceToNat, Int.reduceAdd, Int.reduceSub] at hr
      obtain ⟨rfl, rfl⟩ := hr
      refine ⟨vc, ?_⟩
      refine AWPL_nil ?_
      refine QB_normal ?_
      exact AWPB_wk [0, 1] mkWk ((hAA _ _ _).1 hn60)
    · skip
      refine AWPL_rn tab_ok 1 [1, 2, 3, 10, 12, 53, 54, 57, 58, 59, 60, 61, 62, 63] fun c st' hr => ?_
      simp only [go_sem, reduceIte, reduceCtorEq, Nat.reduceEqDiff, Nat.reduceLT, Nat.reduceLeDiff, Nat.reduceBEq, Nat.reduceAdd, Nat.reduceMul, Nat.reduceSub, Nat.reducePow, Int.reduceLE, Int.reduceLT, Int.reduceNeg, Int.reduceToNat, Int.reduceAdd, Int.reduceSub] at hr
      obtain ⟨rfl, rfl⟩ := hr
      refine ⟨vc, ?_⟩
      refine AWPL_nil ?_
      refine QB_normal ?_
      exact AWPB_wk [0, 1, 2] mkWk ((hAA _ _ _).1 hn61))
set_option maxRecDepth 8000 in
set_option maxHeartbeats 4000000 in
theorem J_hn63 {a1 a2 g_0 : Int} {g_1 y2 : List (Int × Int)} {y1 : Bool × Int} (hy : slices_Clone_api_Edge_api_Edge g_1 = some y2) (h : (y2 ++ [(a1, a2)]).length ≤ 8796093022208) {w0 : World} {Q : Exit → St → Prop} {AA : Nat → Array Bool → St → Prop} (hAA : ∀ g L st, AA g L st ↔ AWPB Try.prog w0 reg7.toArray Q g L st) (hn37 : AA 5 #[true, false, true, true, false, true, true, true, true, false, false, true, false] ⟨76, [(1, .int .i64 a1), (2, .int .i64 a2), (10, .bool y1.1), (12, .ptr 2 0 0), (53, .ptr 0 0 0), (56, .fn 2 g_1.length (fun i => [.int .i64 ((g_1.getD i (0, 0)).1), .int .i64 ((g_1.getD i (0, 0)).2)])), (61, .own 1 1)], [some (.gen 48 2 [[.int .i64 g_0, .fn 2 g_1.length (fun i => [.int .i64 ((g_1.getD i (0, 0)).1), .int .i64 ((g_1.getD i (0, 0)).2)])]]), some (.gen 52 2 (List.map (fun e => [.int .i64 e.1, .int .i64 e.2]) [(a1, a2)])), some (.gen 48 2 [[.int .i64 0, .nil]])]⟩) (hn57 : AA 5 #[false, false, true, true, true, true, true, true, true, false, false, true, false] ⟨76, [(1, .int .i64 a1), (2, .int .i64 a2), (3, .ptr 0 0 0), (10, .bool y1.1), (12, .ptr 3 0 0), (57, .own 1 y2.length), (61, .own 2 1)], [some (.gen 48 2 [[.int .i64 g_0, .fn 2 g_1.length (fun i => [.int .i64 ((g_1.getD i (0, 0)).1), .int .i64 ((g_1.getD i (0, 0)).2)])]]), some (.gen 52 2 (List.map (fun e => [.int .i64 e.1, .int .i64 e.2]) y2)), some (.gen 52 2 (List.map (fun e => [.int .i64 e.1, .int .i64 e.2]) [(a1, a2)])), some (.gen 48 2 [[.int .i64 0, .nil]])]⟩) : AA 6 #[false, false, true, true, false, true, true, true, true, false, false, true, false] ⟨76, [(1, .int .i64 a1), (2, .int .i64 a2), (3, .ptr 0 0 0), (10, .bool y1.1), (12, .ptr 2 0 0), (56, .fn 2 g_1.length (fun i => [.int .i64 ((g_1.getD i (0, 0)).1), .int .i64 ((g_1.getD i (0, 0)).2)])), (61, .own 1 1)], [some (.gen 48 2 [[.int .i64 g_0, .fn 2 g_1.length (fun i => [.int .i64 ((g_1.getD i (0, 0)).1), .int .i64 ((g_1.getD i (0, 0)).2)])]]), some (.gen 52 2 (List.map (fun e => [.int .i64 e.1, .int .i64 e.2]) [(a1, a2)])), some (.gen 48 2 [[.int .i64 0, .nil]])]⟩ := (hAA _ _ _).2 (by
    refine AWPB_two 0 4 _ _ (by kernel_rfl) rfl rfl ?_ ?_
    · skip
      refine AWPL_rn tab_ok 1 [1, 2, 10, 12, 53, 54, 56, 57, 61, 62, 63] fun c st' hr => ?_
      simp only [go_sem, reduceIte, reduceCtorEq, Nat.reduceEqDiff, Nat.reduceLT, Nat.reduceLeDiff, Nat.reduceBEq, Nat.reduceAdd, Nat.reduceMul, Nat.reduceSub, Nat.reducePow, Int.reduceLE, Int.reduceLT, Int.reduceNeg, Int.reduceToNat, Int.reduceAdd, Int.reduceSub] at hr
      obtain ⟨rfl, rfl⟩ := hr
      refine ⟨vc, ?_⟩
      refine AWPL_nil ?_
      refine QB_normal ?_
      exact AWPB_wk [0, 1, 2] mkWk ((hAA _ _ _).1 hn37)
    · skip
      refine AWPL_callK [1, 2, 3, 10, 12, 53, 54, 57, 61, 62, 63] (W_slices_Clone_api_Edge_api_Edge hy) rfl rfl pcT rfl Try.call29 (.cons (.atom _ rfl) .nil) (hscG trivial) (of_decide_eq_true rfl) (by first | rfl | simp [nI, nI1, nI0]) (by first | rfl | simp [nIB, nI0]) fun st' hr => ?_
      simp only [go_sem, reduceIte, reduceCtorEq, Nat.reduceEqDiff, Nat.reduceLT, Nat.reduceLeDiff, Nat.reduceBEq, Nat.reduceAdd, Nat.reduceMul, Nat.reduceSub, Nat.reducePow, Int.reduceLE, Int.reduceLT, Int.reduceNeg, Int.reduceToNat, Int.reduceAdd, Int.reduceSub] at hr
      subst hr
      refine AWPL_nil ?_
      refine QB_normal ?_
      exact AWPB_wk [0, 3, 1, 2] mkWk ((hAA _ _ _).1 hn57))
set_option maxRecDepth 8000 in
set_option maxHeartbeats 4000000 in
theorem J_hn64 {a1 a2 g_0 : Int} {g_1 y2 : List (Int × Int)} {y1 : Bool × Int} (hy : slices_Clone_api_Edge_api_Edge g_1 = some y2) (h : (y2 ++ [(a1, a2)]).length ≤ 8796093022208) {w0 : World} {Q : Exit → St → Prop} {AA : Nat → Array Bool → St → Prop} (hAA : ∀ g L st, AA g L st ↔ AWPB Try.prog w0 reg7.toArray Q g L st) (hn38 : AA 6 #[true, false, true, true, false, true, true, true, true, false, false, false, false] ⟨76, [(1, .int .i64 a1), (2, .int .i64 a2), (10, .bool y1.1), (53, .ptr 0 0 0), (56, .fn 2 g_1.length (fun i => [.int .i64 ((g_1.getD i (0, 0)).1), .int .i64 ((g_1.getD i (0, 0)).2)])), (61, .own 1 1)], [some (.gen 48 2 [[.int .i64 g_0, .fn 2 g_1.length (fun i => [.int .i64 ((g_1.getD i (0, 0)).1), .int .i64 ((g_1.getD i (0, 0)).2)])]]), some (.gen 52 2 (List.map (fun e => [.int .i64 e.1, .int .i64 e.2]) [(a1, a2)]))]⟩) (hn58 : AA 6 #[false, false, true, true, true, true, true, true, true, false, false, false, false] ⟨76, [(1, .int .i64 a1), (2, .int .i64 a2), (3, .ptr 0 0 0), (10, .bool y1.1), (57, .own 1 y2.length), (61, .own 2 1)], [some (.gen 48 2 [[.int .i64 g_0, .fn 2 g_1.length (fun i => [.int .i64 ((g_1.getD i (0, 0)).1), .int .i64 ((g_1.getD i (0, 0)).2)])]]), some (.gen 52 2 (List.map (fun e => [.int .i64 e.1, .int .i64 e.2]) y2)), some (.gen 52 2 (List.map (fun e => [.int .i64 e.1, .int .i64 e.2]) [(a1, a2)]))]⟩) (hn63 : AA 6 #[false, false, true, true, false, true, true, true, true, false, false, true, false] ⟨76, [(1, .int .i64 a1), (2, .int .i64 a2), (3, .ptr 0 0 0), (10, .bool y1.1), (12, .ptr 2 0 0), (56, .fn 2 g_1.length (fun i => [.int .i64 ((g_1.getD i (0, 0)).1), .int .i64 ((g_1.getD i (0, 0)).2)])), (61, .own 1 1)], [some (.gen 48 2 [[.int .i64 g_0, .fn 2 g_1.length (fun i => [.int .i64 ((g_1.getD i (0, 0)).1), .int .i64 ((g_1.getD i (0, 0)).2)])]]), some (.gen 52 2 (List.map (fun e => [.int .i64 e.1, .int .i64 e.2]) [(a1, a2)])), some (.gen 48 2 [[.int .i64 0, .nil]])]⟩) : AA 7 #[false, false, true, true, false, true, true, true, true, false, false, false, false] ⟨76, [(1, .int .i64 a1), (2, .int .i64 a2), (3, .ptr 0 0 0), (10, .bool y1.1), (56, .fn 2 g_1.length (fun i => [.int .i64 ((g_1.getD i (0, 0)).1), .int .i64 ((g_1.getD i (0, 0)).2)])), (61, .own 1 1)], [some (.gen 48 2 [[.int .i64 g_0, .fn 2 g_1.length (fun i => [.int .i64 ((g_1.getD i (0, 0)).1), .int .i64 ((g_1.getD i (0, 0)).2)])]]), some (.gen 52 2 (List.map (fun e => [.int .i64 e.1, .int .i64 e.2]) [(a1, a2)]))]⟩ := (hAA _ _ _).2 (by
    refine AWPB_three 0 4 11 _ _ _ (by kernel_rfl) rfl rfl rfl ?_ ?_ ?_
    · skip
      refine AWPL_rn tab_ok 1 [1, 2, 10, 12, 53, 54, 56, 57, 61, 62, 63] fun c st' hr => ?_
      simp only [go_sem, reduceIte, reduceCtorEq, Nat.reduceEqDiff, Nat.reduceLT, Nat.reduceLeDiff, Nat.reduceBEq, Nat.reduceAdd, Nat.reduceMul, Nat.reduceSub, Nat.reducePow, Int.reduceLE, Int.reduceLT, Int.reduceNeg, Int.reduceToNat, Int.reduceAdd, Int.reduceSub] at hr
      obtain ⟨rfl, rfl⟩ := hr
      refine ⟨vc, ?_⟩
      refine AWPL_nil ?_
      refine QB_normal ?_
      exact AWPB_wk [0, 1] mkWk ((hAA _ _ _).1 hn38)
    · skip
      refine AWPL_callK [1, 2, 3, 10, 12, 53, 54, 57, 61, 62, 63] (W_slices_Clone_api_Edge_api_Edge hy) rfl rfl pcT rfl Try.call29 (.cons (.atom _ rfl) .nil) (hscG trivial) (of_decide_eq_true rfl) (by first | rfl | simp [nI, nI1, nI0]) (by first | rfl | simp [nIB, nI0]) fun st' hr => ?_
      simp only [go_sem, reduceIte, reduceCtorEq, Nat.reduceEqDiff, Nat.reduceLT, Nat.reduceLeDiff, Nat.reduceBEq, Nat.reduceAdd, Nat.reduceMul, Nat.reduceSub, Nat.reducePow, Int.reduceLE, Int.reduceLT, Int.reduceNeg, Int.reduceToNat, Int.reduceAdd, Int.reduceSub] at hr
      subst hr
      refine AWPL_nil ?_
      refine QB_normal ?_
      exact AWPB_wk [0, 2, 1] mkWk ((hAA _ _ _).1 hn58)
    · skip
      refine AWPL_rn tab_ok 1 [1, 2, 3, 10, 12, 53, 54, 56, 57, 61, 62, 63] fun c st' hr => ?_
      simp only [go_sem, reduceIte, reduceCtorEq, Nat.reduceEqDiff, Nat.reduceLT, Nat.reduceLeDiff, Nat.reduceBEq, Nat.reduceAdd, Nat.reduceMul, Nat.reduceSub, Nat.reducePow, Int.reduceLE, Int.reduceLT, Int.reduceNeg, Int.reduceToNat, Int.reduceAdd, Int.reduceSub] at hr
      obtain ⟨rfl, rfl⟩ := hr
      refine ⟨vc, ?_⟩
      refine AWPL_nil ?_
      refine QB_normal ?_
      exact AWPB_wk [0, 1, 2] mkWk ((hAA _ _ _).1 hn63))
set_option maxRecDepth 8000 in
set_option maxHeartbeats 4000000 in
theorem J_hn65 {a1 a2 g_0 : Int} {g_1 y2 : List (Int × Int)} {y1 : Bool × Int} (hy : slices_Clone_api_Edge_api_Edge g_1 = some y2) (h : (y2 ++ [(a1, a2)]).length ≤ 8796093022208) {w0 : World} {Q : Exit → St → Prop} {AA : Nat → Array Bool → St → Prop} (hAA : ∀ g L st, AA g L st ↔ AWPB Try.prog w0 reg7.toArray Q g L st) (hn39 : AA 6 #[true, false, true, true, false, true, true, true, false, false, false, true, false] ⟨76, [(1, .int .i64 a1), (2, .int .i64 a2), (10, .bool y1.1), (12, .ptr 1 0 0), (53, .ptr 0 0 0), (56, .fn 2 g_1.length (fun i => [.int .i64 ((g_1.getD i (0, 0)).1), .int .i64 ((g_1.getD i (0, 0)).2)])), (60, .agg [.int .i64 a1, .int .i64 a2])], [some (.gen 48 2 [[.int .i64 g_0, .fn 2 g_1.length (fun i => [.int .i64 ((g_1.getD i (0, 0)).1), .int .i64 ((g_1.getD i (0, 0)).2)])]]), some (.gen 48 2 [[.int .i64 0, .nil]])]⟩) (hn59 : AA 6 #[false, false, true, true, true, true, true, true, false, false, false, true, false] ⟨76, [(1, .int .i64 a1), (2, .int .i64 a2), (3, .ptr 0 0 0), (10, .bool y1.1), (12, .ptr 2 0 0), (57, .own 1 y2.length), (60, .agg [.int .i64 a1, .int .i64 a2])], [some (.gen 48 2 [[.int .i64 g_0, .fn 2 g_1.length (fun i => [.int .i64 ((g_1.getD i (0, 0)).1), .int .i64 ((g_1.getD i (0, 0)).2)])]]), some (.gen 52 2 (List.map (fun e => [.int .i64 e.1, .int .i64 e.2]) y2)), some (.gen 48 2 [[.int .i64 0, .nil]])]⟩) (hn63 : AA 6 #[false, false, true, true, false, true, true, true, true, false, false, true, false] ⟨76, [(1, .int .i64 a1), (2, .int .i64 a2), (3, .ptr 0 0 0), (10, .bool y1.1), (12, .ptr 2 0 0), (56, .fn 2 g_1.length (fun i => [.int .i64 ((g_1.getD i (0, 0)).1), .int .i64 ((g_1.getD i (0, 0)).2)])), (61, .own 1 1)], [some (.gen 48 2 [[.int .i64 g_0, .fn 2 g_1.length (fun i => [.int .i64 ((g_1.getD i (0, 0)).1), .int .i64 ((g_1.getD i (0, 0)).2)])]]), some (.gen 52 2 (List.map (fun e => [.int .i64 e.1, .int .i64 e.2]) [(a1, a2)])), some (.gen 48 2 [[.int .i64 0, .nil]])]⟩) : AA 7 #[false, false, true, true, false, true, true, true, false, false, false, true, false] ⟨76, [(1, .int .i64 a1), (2, .int .i64 a2), (3, .ptr 0 0 0), (10, .bool y1.1), (12, .ptr 1 0 0), (56, .fn 2 g_1.length (fun i => [.int .i64 ((g_1.getD i (0, 0)).1), .int .i64 ((g_1.getD i (0, 0)).2)])), (60, .agg [.int .i64 a1, .int .i64 a2])], [some (.gen 48 2 [[.int .i64 g_0, .fn 2 g_1.length (fun i => [.int .i64 ((g_1.getD i (0, 0)).1), .int .i64 ((g_1.getD i (0, 0)).2)])]]), some (.gen 48 2 [[.int .i64 0, .nil]])]⟩ := (hAA _ _ _).2 (by
    refine AWPB_three 0 4 8 _ _ _ (by kernel_rfl) rfl rfl rfl ?_ ?_ ?_
    · skip
      refine AWPL_rn tab_ok 1 [1, 2, 10, 12, 53, 54, 56, 57, 60, 61, 62, 63] fun c st' hr => ?_
      simp only [go_sem, reduceIte, reduceCtorEq, Nat.reduceEqDiff, Nat.reduceLT, Nat.reduceLeDiff, Nat.reduceBEq, Nat.reduceAdd, Nat.reduceMul, Nat.reduceSub, Nat.reducePow, Int.reduceLE, Int.reduceLT, Int.reduceNeg, Int.reduceToNat, Int.reduceAdd, Int.reduceSub] at hr
      obtain ⟨rfl, rfl⟩ := hr
      refine ⟨vc, ?_⟩
      refine AWPL_nil ?_
      refine QB_normal ?_
      exact AWPB_wk [0, 1] mkWk ((hAA _ _ _).1 hn39)
    · skip
      refine AWPL_callK [1, 2, 3, 10, 12, 53, 54, 57, 60, 61, 62, 63] (W_slices_Clone_api_Edge_api_Edge hy) rfl rfl pcT rfl Try.call29 (.cons (.atom _ rfl) .nil) (hscG trivial) (of_decide_eq_true rfl) (by first | rfl | simp [nI, nI1, nI0]) (by first | rfl | simp [nIB, nI0]) fun st' hr => ?_
      simp only [go_sem, reduceIte, reduceCtorEq, Nat.reduceEqDiff, Nat.reduceLT, Nat.reduceLeDiff, Nat.reduceBEq, Nat.reduceAdd, Nat.reduceMul, Nat.reduceSub, Nat.reducePow, Int.reduceLE, Int.reduceLT, Int.reduceNeg, Int.reduceToNat, Int.reduceAdd, Int.reduceSub] at hr
      subst hr
      refine AWPL_nil ?_
      refine QB_normal ?_
      exact AWPB_wk [0, 2, 1] mkWk ((hAA _ _ _).1 hn59)
    · skip
      refine AWPL_rn tab_ok 1 [1, 2, 3, 10, 12, 53, 54, 56, 57, 61, 62, 63] fun c st' hr => ?_
      simp only [go_sem, reduceIte, reduceCtorEq, Nat.reduceEqDiff, Nat.reduceLT, Nat.reduceLeDiff, Nat.reduceBEq, Nat.reduceAdd, Nat.reduceMul, Nat.reduceSub, Nat.reducePow, Int.reduceLE, Int.reduceLT, Int.reduceNeg, Int.reduceToNat, Int.reduceAdd, Int.reduceSub] at hr
      obtain ⟨rfl, rfl⟩ := hr
      refine ⟨vc, ?_⟩
      refine AWPL_nil ?_
      refine QB_normal ?_
      exact AWPB_wk [0, 2, 1] mkWk ((hAA _ _ _).1 hn63))
set_option maxRecDepth 8000 in
set_option maxHeartbeats 4000000 in
theorem J_hn66 {a1 a2 g_0 : Int} {g_1 y2 : List (Int × Int)} {y1 : Bool × Int} (hy : slices_Clone_api_Edge_api_Edge g_1 = some y2) (h : (y2 ++ [(a1, a2)]).length ≤ 8796093022208) {w0 : World} {Q : Exit → St → Prop} {AA : Nat → Array Bool → St → Prop} (hAA : ∀ g L st, AA g L st ↔ AWPB Try.prog w0 reg7.toArray Q g L st) (hn40 : AA 7 #[true, false, true, true, false, true, true, true, false, false, false, false, false] ⟨76, [(1, .int .i64 a1), (2, .int .i64 a2), (10, .bool y1.1), (53, .ptr 0 0 0), (56, .fn 2 g_1.length (fun i => [.int .i64 ((g_1.getD i (0, 0)).1), .int .i64 ((g_1.getD i (0, 0)).2)])), (60, .agg [.int .i64 a1, .int .i64 a2])], [some (.gen 48 2 [[.int .i64 g_0, .fn 2 g_1.length (fun i => [.int .i64 ((g_1.getD i (0, 0)).1), .int .i64 ((g_1.getD i (0, 0)).2)])]])]⟩) (hn60 : AA 7 #[false, false, true, true, true, true, true, true, false, false, false, false, false] ⟨76, [(1, .int .i64 a1), (2, .int .i64 a2), (3, .ptr 0 0 0), (10, .bool y1.1), (57, .own 1 y2.length), (60, .agg [.int .i64 a1, .int .i64 a2])], [some (.gen 48 2 [[.int .i64 g_0, .fn 2 g_1.length (fun i => [.int .i64 ((g_1.getD i (0, 0)).1), .int .i64 ((g_1.getD i (0, 0)).2)])]]), some (.gen 52 2 (List.map (fun e => [.int .i64 e.1, .int .i64 e.2]) y2))]⟩) (hn64 : AA 7 #[false, false, true, true, false, true, true, true, true, false, false, false, false] ⟨76, [(1, .int .i64 a1), (2, .int .i64 a2), (3, .ptr 0 0 0), (10, .bool y1.1), (56, .fn 2 g_1.length (fun i => [.int .i64 ((g_1.getD i (0, 0)).1), .int .i64 ((g_1.getD i (0, 0)).2)])), (61, .own 1 1)], [some (.gen 48 2 [[.int .i64 g_0, .fn 2 g_1.length (fun i => [.int .i64 ((g_1.getD i (0, 0)).1), .int .i64 ((g_1.getD i (0, 0)).2)])]]), some (.gen 52 2 (List.map (fun e => [.int .i64 e.1, .int .i64 e.2]) [(a1, a2)]))]⟩) (hn65 : AA 7 #[false, false, true, true, false, true, true, true, false, false, false, true, false] ⟨76, [(1, .int .i64 a1), (2, .int .i64 a2), (3, .ptr 0 0 0), (10, .bool y1.1), (12, .ptr 1 0 0), (56, .fn 2 g_1.length (fun i => [.int .i64 ((g_1.getD i (0, 0)).1), .int .i64 ((g_1.getD i (0, 0)).2)])), (60, .agg [.int .i64 a1, .int .i64 a2])], [some (.gen 48 2 [[.int .i64 g_0, .fn 2 g_1.length (fun i => [.int .i64 ((g_1.getD i (0, 0)).1), .int .i64 ((g_1.getD i (0, 0)).2)])]]), some (.gen 48 2 [[.int .i64 0, .nil]])]⟩) : AA 8 #[false, false, true, true, false, true, true, true, false, false, false, false, false] ⟨76, [(1, .int .i64 a1), (2, .int .i64 a2), (3, .ptr 0 0 0), (10, .bool y1.1), (56, .fn 2 g_1.length (fun i => [.int .i64 ((g_1.getD i (0, 0)).1), .int .i64 ((g_1.getD i (0, 0)).2)])), (60, .agg [.int .i64 a1, .int .i64 a2])], [some (.gen 48 2 [[.int .i64 g_0, .fn 2 g_1.length (fun i => [.int .i64 ((g_1.getD i (0, 0)).1), .int .i64 ((g_1.getD i (0, 0)).2)])]])]⟩ := (hAA _ _ _).2 (by
    refine AWPB_four 0 4 8 11 _ _ _ _ (by kernel_rfl) rfl rfl rfl rfl ?_ ?_ ?_ ?_
    · skip
      refine AWPL_rn tab_ok 1 [1, 2, 10, 12, 53, 54, 56, 57, 60, 61, 62, 63] fun c st' hr => ?_
      simp only [go_sem, reduceIte, reduceCtorEq, Nat.reduceEqDiff, Nat.reduceLT, Nat.reduceLeDiff, Nat.reduceBEq, Nat.reduceAdd, Nat.reduceMul, Nat.reduceSub, Nat.reducePow, Int.reduceLE, Int.reduceLT, Int.reduceNeg, Int.reduceToNat, Int.reduceAdd, Int.reduceSub] at hr
      obtain ⟨rfl, rfl⟩ := hr
      refine ⟨vc, ?_⟩
      refine AWPL_nil ?_
      refine QB_normal ?_
      exact AWPB_wk [0] mkWk ((hAA _ _ _).1 hn40)
    · skip
      refine AWPL_callK [1, 2, 3, 10, 12, 53, 54, 57, 60, 61, 62, 63] (W_slices_Clone_api_Edge_api_Edge hy) rfl rfl pcT rfl Try.call29 (.cons (.atom _ rfl) .nil) (hscG trivial) (of_decide_eq_true rfl) (by first | rfl | simp [nI, nI1, nI0]) (by first | rfl | simp [nIB, nI0]) fun st' hr => ?_
      simp only [go_sem, reduceIte, reduceCtorEq, Nat.reduceEqDiff, Nat.reduceLT, Nat.reduceLeDiff, Nat.reduceBEq, Nat.reduceAdd, Nat.reduceMul, Nat.reduceSub, Nat.reducePow, Int.reduceLE, Int.reduceLT, Int.reduceNeg, Int.reduceToNat, Int.reduceAdd, Int.reduceSub] at hr
      subst hr
      refine AWPL_nil ?_
      refine QB_normal ?_
      exact AWPB_wk [0, 1] mkWk ((hAA _ _ _).1 hn60)
    · skip
      refine AWPL_rn tab_ok 1 [1, 2, 3, 10, 12, 53, 54, 56, 57, 61, 62, 63] fun c st' hr => ?_
      simp only [go_sem, reduceIte, reduceCtorEq, Nat.reduceEqDiff, Nat.reduceLT, Nat.reduceLeDiff, Nat.reduceBEq, Nat.reduceAdd, Nat.reduceMul, Nat.reduceSub, Nat.reducePow, Int.reduceLE, Int.reduceLT, Int.reduceNeg, Int.reduceToNat, Int.reduceAdd, Int.reduceSub] at hr
      obtain ⟨rfl, rfl⟩ := hr
      refine ⟨vc, ?_⟩
      refine AWPL_nil ?_
      refine QB_normal ?_
      exact AWPB_wk [0, 1] mkWk ((hAA _ _ _).1 hn64)
    · skip
      refine AWPL_rn tab_ok 1 [1, 2, 3, 10, 12, 53, 54, 56, 57, 60, 61, 62, 63] fun c st' hr => ?_
      simp only [go_sem, reduceIte, reduceCtorEq, Nat.reduceEqDiff, Nat.reduceLT, Nat.reduceLeDiff, Nat.reduceBEq, Nat.reduceAdd, Nat.reduceMul, Nat.reduceSub, Nat.reducePow, Int.reduceLE, Int.reduceLT, Int.reduceNeg, Int.reduceToNat, Int.reduceAdd, Int.reduceSub] at hr
      obtain ⟨rfl, rfl⟩ := hr
      refine ⟨vc, ?_⟩
      refine AWPL_nil ?_
      refine QB_normal ?_
      exact AWPB_wk [0, 1] mkWk ((hAA _ _ _).1 hn65))
set_option maxRecDepth 8000 in
set_option maxHeartbeats 4000000 in
theorem J_hn67 {a1 a2 g_0 : Int} {g_1 y2 : List (Int × Int)} {y1 : Bool × Int} (hy : slices_Clone_api_Edge_api_Edge g_1 = some y2) (h : (y2 ++ [(a1, a2)]).length ≤ 8796093022208) {w0 : World} {Q : Exit → St → Prop} {AA : Nat → Array Bool → St → Prop} (hAA : ∀ g L st, AA g L st ↔ AWPB Try.prog w0 reg7.toArray Q g L st) (hn41 : AA 7 #[true, false, true, true, false, true, true, false, false, false, false, true, false] ⟨76, [(1, .int .i64 a1), (2, .int .i64 a2), (10, .bool y1.1), (12, .ptr 1 0 0), (53, .ptr 0 0 0), (56, .fn 2 g_1.length (fun i => [.int .i64 ((g_1.getD i (0, 0)).1), .int .i64 ((g_1.getD i (0, 0)).2)])), (58, .int .i64 a1), (59, .int .i64 a2)], [some (.gen 48 2 [[.int .i64 g_0, .fn 2 g_1.length (fun i => [.int .i64 ((g_1.getD i (0, 0)).1), .int .i64 ((g_1.getD i (0, 0)).2)])]]), some (.gen 48 2 [[.int .i64 0, .nil]])]⟩) (hn61 : AA 7 #[false, false, true, true, true, true, true, false, false, false, false, true, false] ⟨76, [(1, .int .i64 a1), (2, .int .i64 a2), (3, .ptr 0 0 0), (10, .bool y1.1), (12, .ptr 2 0 0), (57, .own 1 y2.length), (58, .int .i64 a1), (59, .int .i64 a2)], [some (.gen 48 2 [[.int .i64 g_0, .fn 2 g_1.length (fun i => [.int .i64 ((g_1.getD i (0, 0)).1), .int .i64 ((g_1.getD i (0, 0)).2)])]]), some (.gen 52 2 (List.map (fun e => [.int .i64 e.1, .int .i64 e.2]) y2)), some (.gen 48 2 [[.int .i64 0, .nil]])]⟩) (hn65 : AA 7 #[false, false, true, true, false, true, true, true, false, false, false, true, false] ⟨76, [(1, .int .i64 a1), (2, .int .i64 a2), (3, .ptr 0 0 0), (10, .bool y1.1), (12, .ptr 1 0 0), (56, .fn 2 g_1.length (fun i => [.int .i64 ((g_1.getD i (0, 0)).1), .int .i64 ((g_1.getD i (0, 0)).2)])), (60, .agg [.int .i64 a1, .int .i64 a2])], [some (.gen 48 2 [[.int .i64 g_0, .fn 2 g_1.length (fun i => [.int .i64 ((g_1.getD i (0, 0)).1), .int .i64 ((g_1.getD i (0, 0)).2)])]]), some (.gen 48 2 [[.int .i64 0, .nil]])]⟩) : AA 8 #[false, false, true, true, false, true, true, false, false, false, false, true, false] ⟨76, [(1, .int .i64 a1), (2, .int .i64 a2), (3, .ptr 0 0 0), (10, .bool y1.1), (12, .ptr 1 0 0), (56, .fn 2 g_1.length (fun i => [.int .i64 ((g_1.getD i (0, 0)).1), .int .i64 ((g_1.getD i (0, 0)).2)])), (58, .int .i64 a1), (59, .int .i64 a2)], [some (.gen 48 2 [[.int .i64 g_0, .fn 2 g_1.length (fun i => [.int .i64 ((g_1.getD i (0, 0)).1), .int .i64 ((g_1.getD i (0, 0)).2)])]]), some (.gen 48 2 [[.int .i64 0, .nil]])]⟩ := (hAA _ _ _).2 (by
    refine AWPB_three 0 4 7 _ _ _ (by kernel_rfl) rfl rfl rfl ?_ ?_ ?_
    · skip
      refine AWPL_rn tab_ok 1 [1, 2, 10, 12, 53, 54, 56, 57, 58, 59, 60, 61, 62, 63] fun c st' hr => ?_
      simp only [go_sem, reduceIte, reduceCtorEq, Nat.reduceEqDiff, Nat.reduceLT, Nat.reduceLeDiff, Nat.reduceBEq, Nat.reduceAdd, Nat.reduceMul, Nat.reduceSub, Nat.reducePow, Int.reduceLE, Int.reduceLT, Int.reduceNeg, Int.reduceToNat, Int.reduceAdd, Int.reduceSub] at hr
      obtain ⟨rfl, rfl⟩ := hr
      refine ⟨vc, ?_⟩
      refine AWPL_nil ?_
      refine QB_normal ?_
      exact AWPB_wk [0, 1] mkWk ((hAA _ _ _).1 hn41)
    · skip
      refine AWPL_callK [1, 2, 3, 10, 12, 53, 54, 57, 58, 59, 60, 61, 62, 63] (W_slices_Clone_api_Edge_api_Edge hy) rfl rfl pcT rfl Try.call29 (.cons (.atom _ rfl) .nil) (hscG trivial) (of_decide_eq_true rfl) (by first | rfl | simp [nI, nI1, nI0]) (by first | rfl | simp [nIB, nI0]) fun st' hr => ?_
      simp only [go_sem, reduceIte, reduceCtorEq, Nat.reduceEqDiff, Nat.reduceLT, Nat.reduceLeDiff, Nat.reduceBEq, Nat.reduceAdd, Nat.reduceMul, Nat.reduceSub, Nat.reducePow, Int.reduceLE, Int.reduceLT, Int.reduceNeg, Int.reduceToNat, Int.reduceAdd, Int.reduceSub] at hr
      subst hr
      refine AWPL_nil ?_
      refine QB_normal ?_
      exact AWPB_wk [0, 2, 1] mkWk ((hAA _ _ _).1 hn61)
    · skip
      refine AWPL_rn tab_ok 1 [1, 2, 3, 10, 12, 53, 54, 56, 57, 60, 61, 62, 63] fun c st' hr => ?_
      simp only [go_sem, reduceIte, reduceCtorEq, Nat.reduceEqDiff, Nat.reduceLT, Nat.reduceLeDiff, Nat.reduceBEq, Nat.reduceAdd, Nat.reduceMul, Nat.reduceSub, Nat.reducePow, Int.reduceLE, Int.reduceLT, Int.reduceNeg, Int.reduceToNat, Int.reduceAdd, Int.reduceSub] at hr
      obtain ⟨rfl, rfl⟩ := hr
      refine ⟨vc, ?_⟩
      refine AWPL_nil ?_
      refine QB_normal ?_
      exact AWPB_wk [0, 1] mkWk ((hAA _ _ _).1 hn65))
set_option maxRecDepth 8000 in
set_option maxHeartbeats 4000000 in
theorem J_hn68 {a1 a2 g_0 : Int} {g_1 y2 : List (Int × Int)} {y1 : Bool × Int} (hy : slices_Clone_api_Edge_api_Edge g_1 = some y2) (h : (y2 ++ [(a1, a2)]).length ≤ 8796093022208) {w0 : World} {Q : Exit → St → Prop} {AA : Nat → Array Bool → St → Prop} (hAA : ∀ g L st, AA g L st ↔ AWPB Try.prog w0 reg7.toArray Q g L st) (hn42 : AA 8 #[true, false, true, true, false, true, true, false, false, false, false, false, false] ⟨76, [(1, .int .i64 a1), (2, .int .i64 a2), (10, .bool y1.1), (53, .ptr 0 0 0), (56, .fn 2 g_1.length (fun i => [.int .i64 ((g_1.getD i (0, 0)).1), .int .i64 ((g_1.getD i (0, 0)).2)])), (58, .int .i64 a1), (59, .int .i64 a2)], [some (.gen 48 2 [[.int .i64 g_0, .fn 2 g_1.length (fun i => [.int .i64 ((g_1.getD i (0, 0)).1), .int .i64 ((g_1.getD i (0, 0)).2)])]])]⟩) (hn62 : AA 8 #[false, false, true, true, true, true, true, false, false, false, false, false, false] ⟨76, [(1, .int .i64 a1), (2, .int .i64 a2), (3, .ptr 0 0 0), (10, .bool y1.1), (57, .own 1 y2.length), (58, .int .i64 a1), (59, .int .i64 a2)], [some (.gen 48 2 [[.int .i64 g_0, .fn 2 g_1.length (fun i => [.int .i64 ((g_1.getD i (0, 0)).1), .int .i64 ((g_1.getD i (0, 0)).2)])]]), some (.gen 52 2 (List.map (fun e => [.int .i64 e.1, .int .i64 e.2]) y2))]⟩) (hn66 : AA 8 #[false, false, true, true, false, true, true, true, false, false, false, false, false] ⟨76, [(1, .int .i64 a1), (2, .int .i64 a2), (3, .ptr 0 0 0), (10, .bool y1.1), (56, .fn 2 g_1.length (fun i => [.int .i64 ((g_1.getD i (0, 0)).1), .int .i64 ((g_1.getD i (0, 0)).2)])), (60, .agg [.int .i64 a1, .int .i64 a2])], [some (.gen 48 2 [[.int .i64 g_0, .fn 2 g_1.length (fun i => [.int .i64 ((g_1.getD i (0, 0)).1), .int .i64 ((g_1.getD i (0, 0)).2)])]])]⟩) (hn67 : AA 8 #[false, false, true, true, false, true, true, false, false, false, false, true, false] ⟨76, [(1, .int .i64 a1), (2, .int .i64 a2), (3, .ptr 0 0 0), (10, .bool y1.1), (12, .ptr 1 0 0), (56, .fn 2 g_1.length (fun i => [.int .i64 ((g_1.getD i (0, 0)).1), .int .i64 ((g_1.getD i (0, 0)).2)])), (58, .int .i64 a1), (59, .int .i64 a2)], [some (.gen 48 2 [[.int .i64 g_0, .fn 2 g_1.length (fun i => [.int .i64 ((g_1.getD i (0, 0)).1), .int .i64 ((g_1.getD i (0, 0)).2)])]]), some (.gen 48 2 [[.int .i64 0, .nil]])]⟩) : AA 9 #[false, false, true, true, false, true, true, false, false, false, false, false, false] ⟨76, [(1, .int .i64 a1), (2, .int .i64 a2), (3, .ptr 0 0 0), (10, .bool y1.1), (56, .fn 2 g_1.length (fun i => [.int .i64 ((g_1.getD i (0, 0)).1), .int .i64 ((g_1.getD i (0, 0)).2)])), (58, .int .i64 a1), (59, .int .i64 a2)], [some (.gen 48 2 [[.int .i64 g_0, .fn 2 g_1.length (fun i => [.int .i64 ((g_1.getD i (0, 0)).1), .int .i64 ((g_1.getD i (0, 0)).2)])]])]⟩ := (hAA _ _ _).2 (by
    refine AWPB_four 0 4 7 11 _ _ _ _ (by kernel_rfl) rfl rfl rfl rfl ?_ ?_ ?_ ?_
    · skip
      refine AWPL_rn tab_ok 1 [1, 2, 10, 12, 53, 54, 56, 57, 58, 59, 60, 61, 62, 63] fun c st' hr => ?_
      simp only [go_sem, reduceIte, reduceCtorEq, Nat.reduceEqDiff, Nat.reduceLT, Nat.reduceLeDiff, Nat.reduceBEq, Nat.reduceAdd, Nat.reduceMul, Nat.reduceSub, Nat.reducePow, Int.reduceLE, Int.reduceLT, Int.reduceNeg, Int.reduceToNat, Int.reduceAdd, Int.reduceSub] at hr
      obtain ⟨rfl, rfl⟩ := hr
      refine ⟨vc, ?_⟩
      refine AWPL_nil ?_
      refine QB_normal ?_
      exact AWPB_wk [0] mkWk ((hAA _ _ _).1 hn42)
    · skip
      refine AWPL_callK [1, 2, 3, 10, 12, 53, 54, 57, 58, 59, 60, 61, 62, 63] (W_slices_Clone_api_Edge_api_Edge hy) rfl rfl pcT rfl Try.call29 (.cons (.atom _ rfl) .nil) (hscG trivial) (of_decide_eq_true rfl) (by first | rfl | simp [nI, nI1, nI0]) (by first | rfl | simp [nIB, nI0]) fun st' hr => ?_
      simp only [go_sem, reduceIte, reduceCtorEq, Nat.reduceEqDiff, Nat.reduceLT, Nat.reduceLeDiff, Nat.reduceBEq, Nat.reduceAdd, Nat.reduceMul, Nat.reduceSub, Nat.reducePow, Int.reduceLE, Int.reduceLT, Int.reduceNeg, Int.reduceToNat, Int.reduceAdd, Int.reduceSub] at hr
      subst hr
      refine AWPL_nil ?_
      refine QB_normal ?_
      exact AWPB_wk [0, 1] mkWk ((hAA _ _ _).1 hn62)
    · skip
      refine AWPL_rn tab_ok 1 [1, 2, 3, 10, 12, 53, 54, 56, 57, 60, 61, 62, 63] fun c st' hr => ?_
      simp only [go_sem, reduceIte, reduceCtorEq, Nat.reduceEqDiff, Nat.reduceLT, Nat.reduceLeDiff, Nat.reduceBEq, Nat.reduceAdd, Nat.reduceMul, Nat.reduceSub, Nat.reducePow, Int.reduceLE, Int.reduceLT, Int.reduceNeg, Int.reduceToNat, Int.reduceAdd, Int.reduceSub] at hr
      obtain ⟨rfl, rfl⟩ := hr
      refine ⟨vc, ?_⟩
      refine AWPL_nil ?_
      refine QB_normal ?_
      exact AWPB_wk [0] mkWk ((hAA _ _ _).1 hn66)
    · skip
      refine AWPL_rn tab_ok 1 [1, 2, 3, 10, 12, 53, 54, 56, 57, 58, 59, 60, 61, 62, 63] fun c st' hr => ?_
      simp only [go_sem, reduceIte, reduceCtorEq, Nat.reduceEqDiff, Nat.reduceLT, Nat.reduceLeDiff, Nat.reduceBEq, Nat.reduceAdd, Nat.reduceMul, Nat.reduceSub, Nat.reducePow, Int.reduceLE, Int.reduceLT, Int.reduceNeg, Int.reduceToNat, Int.reduceAdd, Int.reduceSub] at hr
      obtain ⟨rfl, rfl⟩ := hr
      refine ⟨vc, ?_⟩
      refine AWPL_nil ?_
      refine QB_normal ?_
      exact AWPB_wk [0, 1] mkWk ((hAA _ _ _).1 hn67))
set_option maxRecDepth 8000 in
set_option maxHeartbeats 4000000 in
theorem J_hn69 {a1 a2 g_0 : Int} {g_1 y2 : List (Int × Int)} {y1 : Bool × Int} (hy : slices_Clone_api_Edge_api_Edge g_1 = some y2) (h : (y2 ++ [(a1, a2)]).length ≤ 8796093022208) {w0 : World} {Q : Exit → St → Prop} {AA : Nat → Array Bool → St → Prop} (hAA : ∀ g L st, AA g L st ↔ AWPB Try.prog w0 reg7.toArray Q g L st) (hn43 : AA 6 #[true, false, true, false, false, true, true, true, true, false, false, true, false] ⟨76, [(1, .int .i64 a1), (2, .int .i64 a2), (10, .bool y1.1), (12, .ptr 2 0 0), (53, .ptr 0 0 0), (55, .ptr 0 0 1), (61, .own 1 1)], [some (.gen 48 2 [[.int .i64 g_0, .fn 2 g_1.length (fun i => [.int .i64 ((g_1.getD i (0, 0)).1), .int .i64 ((g_1.getD i (0, 0)).2)])]]), some (.gen 52 2 (List.map (fun e => [.int .i64 e.1, .int .i64 e.2]) [(a1, a2)])), some (.gen 48 2 [[.int .i64 0, .nil]])]⟩) (hn63 : AA 6 #[false, false, true, true, false, true, true, true, true, false, false, true, false] ⟨76, [(1, .int .i64 a1), (2, .int .i64 a2), (3, .ptr 0 0 0), (10, .bool y1.1), (12, .ptr 2 0 0), (56, .fn 2 g_1.length (fun i => [.int .i64 ((g_1.getD i (0, 0)).1), .int .i64 ((g_1.getD i (0, 0)).2)])), (61, .own 1 1)], [some (.gen 48 2 [[.int .i64 g_0, .fn 2 g_1.length (fun i => [.int .i64 ((g_1.getD i (0, 0)).1), .int .i64 ((g_1.getD i (0, 0)).2)])]]), some (.gen 52 2 (List.map (fun e => [.int .i64 e.1, .int .i64 e.2]) [(a1, a2)])), some (.gen 48 2 [[.int .i64 0, .nil]])]⟩) : AA 7 #[false, false, true, false, false, true, true, true, true, false, false, true, false] ⟨76, [(1, .int .i64 a1), (2, .int .i64 a2), (3, .ptr 0 0 0), (10, .bool y1.1), (12, .ptr 2 0 0), (55, .ptr 0 0 1), (61, .own 1 1)], [some (.gen 48 2 [[.int .i64 g_0, .fn 2 g_1.length (fun i => [.int .i64 ((g_1.getD i (0, 0)).1), .int .i64 ((g_1.getD i (0, 0)).2)])]]), some (.gen 52 2 (List.map (fun e => [.int .i64 e.1, .int .i64 e.2]) [(a1, a2)])), some (.gen 48 2 [[.int .i64 0, .nil]])]⟩ := (hAA _ _ _).2 (by
    refine AWPB_two 0 3 _ _ (by kernel_rfl) rfl rfl ?_ ?_
    · skip
      refine AWPL_rn tab_ok 1 [1, 2, 10, 12, 53, 54, 55, 56, 57, 61, 62, 63] fun c st' hr => ?_
      simp only [go_sem, reduceIte, reduceCtorEq, Nat.reduceEqDiff, Nat.reduceLT, Nat.reduceLeDiff, Nat.reduceBEq, Nat.reduceAdd, Nat.reduceMul, Nat.reduceSub, Nat.reducePow, Int.reduceLE, Int.reduceLT, Int.reduceNeg, Int.reduceToNat, Int.reduceAdd, Int.reduceSub] at hr
      obtain ⟨rfl, rfl⟩ := hr
      refine ⟨vc, ?_⟩
      refine AWPL_nil ?_
      refine QB_normal ?_
      exact AWPB_wk [0, 1, 2] mkWk ((hAA _ _ _).1 hn43)
    · skip
      refine AWPL_rn tab_ok 1 [1, 2, 3, 10, 12, 53, 54, 56, 57, 61, 62, 63] fun c st' hr => ?_
      simp only [go_sem, reduceIte, reduceCtorEq, Nat.reduceEqDiff, Nat.reduceLT, Nat.reduceLeDiff, Nat.reduceBEq, Nat.reduceAdd, Nat.reduceMul, Nat.reduceSub, Nat.reducePow, Int.reduceLE, Int.reduceLT, Int.reduceNeg, Int.reduceToNat, Int.reduceAdd, Int.reduceSub] at hr
      obtain ⟨rfl, rfl⟩ := hr
      refine ⟨vc, ?_⟩
      refine AWPL_nil ?_
      refine QB_normal ?_
      exact AWPB_wk [0, 1, 2] mkWk ((hAA _ _ _).1 hn63))
set_option maxRecDepth 8000 in
set_option maxHeartbeats 4000000 in
theorem J_hn70 {a1 a2 g_0 : Int} {g_1 y2 : List (Int × Int)} {y1 : Bool × Int} (hy : slices_Clone_api_Edge_api_Edge g_1 = some y2) (h : (y2 ++ [(a1, a2)]).length ≤ 8796093022208) {w0 : World} {Q : Exit → St → Prop} {AA : Nat → Array Bool → St → Prop} (hAA : ∀ g L st, AA g L st ↔ AWPB Try.prog w0 reg7.toArray Q g L st) (hn44 : AA 7 #[true, false, true, false, false, true, true, true, true, false, false, false, false] ⟨76, [(1, .int .i64 a1), (2, .int .i64 a2), (10, .bool y1.1), (53, .ptr 0 0 0), (55, .ptr 0 0 1), (61, .own 1 1)], [some (.gen 48 2 [[.int .i64 g_0, .fn 2 g_1.length (fun i => [.int .i64 ((g_1.getD i (0, 0)).1), .int .i64 ((g_1.getD i (0, 0)).2)])]]), some (.gen 52 2 (List.map (fun e => [.int .i64 e.1, .int .i64 e.2]) [(a1, a2)]))]⟩) (hn64 : AA 7 #[false, false, true, true, false, true, true, true, true, false, false, false, false] ⟨76, [(1, .int .i64 a1), (2, .int .i64 a2), (3, .ptr 0 0 0), (10, .bool y1.1), (56, .fn 2 g_1.length (fun i => [.int .i64 ((g_1.getD i (0, 0)).1), .int .i64 ((g_1.getD i (0, 0)).2)])), (61, .own 1 1)], [some (.gen 48 2 [[.int .i64 g_0, .fn 2 g_1.length (fun i => [.int .i64 ((g_1.getD i (0, 0)).1), .int .i64 ((g_1.getD i (0, 0)).2)])]]), some (.gen 52 2 (List.map (fun e => [.int .i64 e.1, .int .i64 e.2]) [(a1, a2)]))]⟩) (hn69 : AA 7 #[false, false, true, false, false, true, true, true, true, false, false, true, false] ⟨76, [(1, .int .i64 a1), (2, .int .i64 a2), (3, .ptr 0 0 0), (10, .bool y1.1), (12, .ptr 2 0 0), (55, .ptr 0 0 1), (61, .own 1 1)], [some (.gen 48 2 [[.int .i64 g_0, .fn 2 g_1.length (fun i => [.int .i64 ((g_1.getD i (0, 0)).1), .int .i64 ((g_1.getD i (0, 0)).2)])]]), some (.gen 52 2 (List.map (fun e => [.int .i64 e.1, .int .i64 e.2]) [(a1, a2)])), some (.gen 48 2 [[.int .i64 0, .nil]])]⟩) : AA 8 #[false, false, true, false, false, true, true, true, true, false, false, false, false] ⟨76, [(1, .int .i64 a1), (2, .int .i64 a2), (3, .ptr 0 0 0), (10, .bool y1.1), (55, .ptr 0 0 1), (61, .own 1 1)], [some (.gen 48 2 [[.int .i64 g_0, .fn 2 g_1.length (fun i => [.int .i64 ((g_1.getD i (0, 0)).1), .int .i64 ((g_1.getD i (0, 0)).2)])]]), some (.gen 52 2 (List.map (fun e => [.int .i64 e.1, .int .i64 e.2]) [(a1, a2)]))]⟩ := (hAA _ _ _).2 (by
    refine AWPB_three 0 3 11 _ _ _ (by kernel_rfl) rfl rfl rfl ?_ ?_ ?_
    · skip
      refine AWPL_rn tab_ok 1 [1, 2, 10, 12, 53, 54, 55, 56, 57, 61, 62, 63] fun c st' hr => ?_
      simp only [go_sem, reduceIte, reduceCtorEq, Nat.reduceEqDiff, Nat.reduceLT, Nat.reduceLeDiff, Nat.reduceBEq, Nat.reduceAdd, Nat.reduceMul, Nat.reduceSub, Nat.reducePow, Int.reduceLE, Int.reduceLT, Int.reduceNeg, Int.reduceToNat, Int.reduceAdd, Int.reduceSub] at hr
      obtain ⟨rfl, rfl⟩ := hr
      refine ⟨vc, ?_⟩
      refine AWPL_nil ?_
      refine QB_normal ?_
      exact AWPB_wk [0, 1] mkWk ((hAA _ _ _).1 hn44)
    · skip
      refine AWPL_rn tab_ok 1 [1, 2, 3, 10, 12, 53, 54, 56, 57, 61, 62, 63] fun c st' hr => ?_
      simp only [go_sem, reduceIte, reduceCtorEq, Nat.reduceEqDiff, Nat.reduceLT, Nat.reduceLeDiff, Nat.reduceBEq, Nat.reduceAdd, Nat.reduceMul, Nat.reduceSub, Nat.reducePow, Int.reduceLE, Int.reduceLT, Int.reduceNeg, Int.reduceToNat, Int.reduceAdd, Int.reduceSub] at hr
      obtain ⟨rfl, rfl⟩ := hr
      refine ⟨vc, ?_⟩
      refine AWPL_nil ?_
      refine QB_normal ?_
      exact AWPB_wk [0, 1] mkWk ((hAA _ _ _).1 hn64)
    · skip
      refine AWPL_rn tab_ok 1 [1, 2, 3, 10, 12, 53, 54, 55, 56, 57, 61, 62, 63] fun c st' hr => ?_
      simp only [go_sem, reduceIte, reduceCtorEq, Nat.reduceEqDiff, Nat.reduceLT, Nat.reduceLeDiff, Nat.reduceBEq, Nat.reduceAdd, Nat.reduceMul, Nat.reduceSub, Nat.reducePow, Int.reduceLE, Int.reduceLT, Int.reduceNeg, Int.reduceToNat, Int.reduceAdd, Int.reduceSub] at hr
      obtain ⟨rfl, rfl⟩ := hr
      refine ⟨vc, ?_⟩
      refine AWPL_nil ?_
      refine QB_normal ?_
      exact AWPB_wk [0, 1, 2] mkWk ((hAA _ _ _).1 hn69))
set_option maxRecDepth 8000 in
set_option maxHeartbeats 4000000 in
theorem J_hn71 {a1 a2 g_0 : Int} {g_1 y2 : List (Int × Int)} {y1 : Bool × Int} (hy : slices_Clone_api_Edge_api_Edge g_1 = some y2) (h : (y2 ++ [(a1, a2)]).length ≤ 8796093022208) {w0 : World} {Q : Exit → St → Prop} {AA : Nat → Array Bool → St → Prop} (hAA : ∀ g L st, AA g L st ↔ AWPB Try.prog w0 reg7.toArray Q g L st) (hn45 : AA 7 #[true, false, true, false, false, true, true, true, false, false, false, true, false] ⟨76, [(1, .int .i64 a1), (2, .int .i64 a2), (10, .bool y1.1), (12, .ptr 1 0 0), (53, .ptr 0 0 0), (55, .ptr 0 0 1), (60, .agg [.int .i64 a1, .int .i64 a2])], [some (.gen 48 2 [[.int .i64 g_0, .fn 2 g_1.length (fun i => [.int .i64 ((g_1.getD i (0, 0)).1), .int .i64 ((g_1.getD i (0, 0)).2)])]]), some (.gen 48 2 [[.int .i64 0, .nil]])]⟩) (hn65 : AA 7 #[false, false, true, true, false, true, true, true, false, false, false, true, false] ⟨76, [(1, .int .i64 a1), (2, .int .i64 a2), (3, .ptr 0 0 0), (10, .bool y1.1), (12, .ptr 1 0 0), (56, .fn 2 g_1.length (fun i => [.int .i64 ((g_1.getD i (0, 0)).1), .int .i64 ((g_1.getD i (0, 0)).2)])), (60, .agg [.int .i64 a1, .int .i64 a2])], [some (.gen 48 2 [[.int .i64 g_0, .fn 2 g_1.length (fun i => [.int .i64 ((g_1.getD i (0, 0)).1), .int .i64 ((g_1.getD i (0, 0)).2)])]]), some (.gen 48 2 [[.int .i64 0, .nil]])]⟩) (hn69 : AA 7 #[false, false, true, false, false, true, true, true, true, false, false, true, false] ⟨76, [(1, .int .i64 a1), (2, .int .i64 a2), (3, .ptr 0 0 0), (10, .bool y1.1), (12, .ptr 2 0 0), (55, .ptr 0 0 1), (61, .own 1 1)], [some (.gen 48 2 [[.int .i64 g_0, .fn 2 g_1.length (fun i => [.int .i64 ((g_1.getD i (0, 0)).1), .int .i64 ((g_1.getD i (0, 0)).2)])]]), some (.gen 52 2 (List.map (fun e => [.int .i64 e.1, .int .i64 e.2]) [(a1, a2)])), some (.gen 48 2 [[.int .i64 0, .nil]])]⟩) : AA 8 #[false, false, true, false, false, true, true, true, false, false, false, true, false] ⟨76, [(1, .int .i64 a1), (2, .int .i64 a2), (3, .ptr 0 0 0), (10, .bool y1.1), (12, .ptr 1 0 0), (55, .ptr 0 0 1), (60, .agg [.int .i64 a1, .int .i64 a2])], [some (.gen 48 2 [[.int .i64 g_0, .fn 2 g_1.length (fun i => [.int .i64 ((g_1.getD i (0, 0)).1), .int .i64 ((g_1.getD i (0, 0)).2)])]]), some (.gen 48 2 [[.int .i64 0, .nil]])]⟩ := (hAA _ _ _).2 (by
    refine AWPB_three 0 3 8 _ _ _ (by kernel_rfl) rfl rfl rfl ?_ ?_ ?_
    · skip
      refine AWPL_rn tab_ok 1 [1, 2, 10, 12, 53, 54, 55, 56, 57, 60, 61, 62, 63] fun c st' hr => ?_
      simp only [go_sem, reduceIte, reduceCtorEq, Nat.reduceEqDiff, Nat.reduceLT, Nat.reduceLeDiff, Nat.reduceBEq, Nat.reduceAdd, Nat.reduceMul, Nat.reduceSub, Nat.reducePow, Int.reduceLE, Int.reduceLT, Int.reduceNeg, Int.reduceToNat, Int.reduceAdd, Int.reduceSub] at hr
      obtain ⟨rfl, rfl⟩ := hr
      refine ⟨vc, ?_⟩
      refine AWPL_nil ?_
      refine QB_normal ?_
      exact AWPB_wk [0, 1] mkWk ((hAA _ _ _).1 hn45)
    · skip
      refine AWPL_rn tab_ok 1 [1, 2, 3, 10, 12, 53, 54, 56, 57, 60, 61, 62, 63] fun c st' hr => ?_
      simp only [go_sem, reduceIte, reduceCtorEq, Nat.reduceEqDiff, Nat.reduceLT, Nat.reduceLeDiff, Nat.reduceBEq, Nat.reduceAdd, Nat.reduceMul, Nat.reduceSub, Nat.reducePow, Int.reduceLE, Int.reduceLT, Int.reduceNeg, Int.reduceToNat, Int.reduceAdd, Int.reduceSub] at hr
      obtain ⟨rfl, rfl⟩ := hr
      refine ⟨vc, ?_⟩
      refine AWPL_nil ?_
      refine QB_normal ?_
      exact AWPB_wk [0, 1] mkWk ((hAA _ _ _).1 hn65)
    · skip
      refine AWPL_rn tab_ok 1 [1, 2, 3, 10, 12, 53, 54, 55, 56, 57, 61, 62, 63] fun c st' hr => ?_
      simp only [go_sem, reduceIte, reduceCtorEq, Nat.reduceEqDiff, Nat.reduceLT, Nat.reduceLeDiff, Nat.reduceBEq, Nat.reduceAdd, Nat.reduceMul, Nat.reduceSub, Nat.reducePow, Int.reduceLE, Int.reduceLT, Int.reduceNeg, Int.reduceToNat, Int.reduceAdd, Int.reduceSub] at hr
      obtain ⟨rfl, rfl⟩ := hr
      refine ⟨vc, ?_⟩
      refine AWPL_nil ?_
      refine QB_normal ?_
      exact AWPB_wk [0, 2, 1] mkWk ((hAA _ _ _).1 hn69))
set_option maxRecDepth 8000 in
set_option maxHeartbeats 4000000 in
theorem J_hn72 {a1 a2 g_0 : Int} {g_1 y2 : List (Int × Int)} {y1 : Bool × Int} (hy : slices_Clone_api_Edge_api_Edge g_1 = some y2) (h : (y2 ++ [(a1, a2)]).length ≤ 8796093022208) {w0 : World} {Q : Exit → St → Prop} {AA : Nat → Array Bool → St → Prop} (hAA : ∀ g L st, AA g L st ↔ AWPB Try.prog w0 reg7.toArray Q g L st) (hn46 : AA 8 #[true, false, true, false, false, true, true, true, false, false, false, false, false] ⟨76, [(1, .int .i64 a1), (2, .int .i64 a2), (10, .bool y1.1), (53, .ptr 0 0 0), (55, .ptr 0 0 1), (60, .agg [.int .i64 a1, .int .i64 a2])], [some (.gen 48 2 [[.int .i64 g_0, .fn 2 g_1.length (fun i => [.int .i64 ((g_1.getD i (0, 0)).1), .int .i64 ((g_1.getD i (0, 0)).2)])]])]⟩) (hn66 : AA 8 #[false, false, true, true, false, true, true, true, false, false, false, false, false] ⟨76, [(1, .int .i64 a1), (2, .int .i64 a2), (3, .ptr 0 0 0), (10, .bool y1.1), (56, .fn 2 g_1.length (fun i => [.int .i64 ((g_1.getD i (0, 0)).1), .int .i64 ((g_1.getD i (0, 0)).2)])), (60, .agg [.int .i64 a1, .int .i64 a2])], [some (.gen 48 2 [[.int .i64 g_0, .fn 2 g_1.length (fun i => [.int .i64 ((g_1.getD i (0, 0)).1), .int .i64 ((g_1.getD i (0, 0)).2)])]])]⟩) (hn70 : AA 8 #[false, false, true, false, false, true, true, true, true, false, false, false, false] ⟨76, [(1, .int .i64 a1), (2, .int .i64 a2), (3, .ptr 0 0 0), (10, .bool y1.1), (55, .ptr 0 0 1), (61, .own 1 1)], [some (.gen 48 2 [[.int .i64 g_0, .fn 2 g_1.length (fun i => [.int .i64 ((g_1.getD i (0, 0)).1), .int .i64 ((g_1.getD i (0, 0)).2)])]]), some (.gen 52 2 (List.map (fun e => [.int .i64 e.1, .int .i64 e.2]) [(a1, a2)]))]⟩) (hn71 : AA 8 #[false, false, true, false, false, true, true, true, false, false, false, true, false] ⟨76, [(1, .int .i64 a1), (2, .int .i64 a2), (3, .ptr 0 0 0), (10, .bool y1.1), (12, .ptr 1 0 0), (55, .ptr 0 0 1), (60, .agg [.int .i64 a1, .int .i64 a2])], [some (.gen 48 2 [[.int .i64 g_0, .fn 2 g_1.length (fun i => [.int .i64 ((g_1.getD i (0, 0)).1), .int .i64 ((g_1.getD i (0, 0)).2)])]]), some (.gen 48 2 [[.int .i64 0, .nil]])]⟩) : AA 9 #[false, false, true, false, false, true, true, true, false, false, false, false, false] ⟨76, [(1, .int .i64 a1), (2, .int .i64 a2), (3, .ptr 0 0 0), (10, .bool y1.1), (55, .ptr 0 0 1), (60, .agg [.int .i64 a1, .int .i64 a2])], [some (.gen 48 2 [[.int .i64 g_0, .fn 2 g_1.length (fun i => [.int .i64 ((g_1.getD i (0, 0)).1), .int .i64 ((g_1.getD i (0, 0)).2)])]])]⟩ := (hAA _ _ _).2 (by
    refine AWPB_four 0 3 8 11 _ _ _ _ (by kernel_rfl) rfl rfl rfl rfl ?_ ?_ ?_ ?_
    · skip
      refine AWPL_rn tab_ok 1 [1, 2, 10, 12, 53, 54, 55, 56, 57, 60, 61, 62, 63] fun c st' hr => ?_
      simp only [go_sem, reduceIte, reduceCtorEq, Nat.reduceEqDiff, Nat.reduceLT, Nat.reduceLeDiff, Nat.reduceBEq, Nat.reduceAdd, Nat.reduceMul, Nat.reduceSub, Nat.reducePow, Int.reduceLE, Int.reduceLT, Int.reduceNeg, Int.reduceToNat, Int.reduceAdd, Int.reduceSub] at hr
      obtain ⟨rfl, rfl⟩ := hr
      refine ⟨vc, ?_⟩
      refine AWPL_nil ?_
      refine QB_normal ?_
      exact AWPB_wk [0] mkWk ((hAA _ _ _).1 hn46)
    · skip
      refine AWPL_rn tab_ok 1 [1, 2, 3, 10, 12, 53, 54, 56, 57, 60, 61, 62, 63] fun c st' hr => ?_
      simp only [go_sem, reduceIte, reduceCtorEq, Nat.reduceEqDiff, Nat.reduceLT, Nat.reduceLeDiff, Nat.reduceBEq, Nat.reduceAdd, Nat.reduceMul, Nat.reduceSub, Nat.reducePow, Int.reduceLE, Int.reduceLT, Int.reduceNeg, Int.reduceToNat, Int.reduceAdd, Int.reduceSub] at hr
      obtain ⟨rfl, rfl⟩ := hr
      refine ⟨vc, ?_⟩
      refine AWPL_nil ?_
      refine QB_normal ?_
      exact AWPB_wk [0] mkWk ((hAA _ _ _).1 hn66)
    · skip
      refine AWPL_rn tab_ok 1 [1, 2, 3, 10, 12, 53, 54, 55, 56, 57, 61, 62, 63] fun c st' hr => ?_
      simp only [go_sem, reduceIte, reduceCtorEq, Nat.reduceEqDiff, Nat.reduceLT, Nat.reduceLeDiff, Nat.reduceBEq, Nat.reduceAdd, Nat.reduceMul, Nat.reduceSub, Nat.reducePow, Int.reduceLE, Int.reduceLT, Int.reduceNeg, Int.reduceToNat, Int.reduceAdd, Int.reduceSub] at hr
      obtain ⟨rfl, rfl⟩ := hr
      refine ⟨vc, ?_⟩
      refine AWPL_nil ?_
      refine QB_normal ?_
      exact AWPB_wk [0, 1] mkWk ((hAA _ _ _).1 hn70)
    · skip
      refine AWPL_rn tab_ok 1 [1, 2, 3, 10, 12, 53, 54, 55, 56, 57, 60, 61, 62, 63] fun c st' hr => ?_
      simp only [go_sem, reduceIte, reduceCtorEq, Nat.reduceEqDiff, Nat.reduceLT, Nat.reduceLeDiff, Nat.reduceBEq, Nat.reduceAdd, Nat.reduceMul, Nat.reduceSub, Nat.reducePow, Int.reduceLE, Int.reduceLT, Int.reduceNeg, Int.reduceToNat, Int.reduceAdd, Int.reduceSub] at hr
      obtain ⟨rfl, rfl⟩ := hr
      refine ⟨vc, ?_⟩
      refine AWPL_nil ?_
      refine QB_normal ?_
      exact AWPB_wk [0, 1] mkWk ((hAA _ _ _).1 hn71))
set_option maxRecDepth 8000 in
set_option maxHeartbeats 4000000 in
theorem J_hn73 {a1 a2 g_0 : Int} {g_1 y2 : List (Int × Int)} {y1 : Bool × Int} (hy : slices_Clone_api_Edge_api_Edge g_1 = some y2) (h : (y2 ++ [(a1, a2)]).length ≤ 8796093022208) {w0 : World} {Q : Exit → St → Prop} {AA : Nat → Array Bool → St → Prop} (hAA : ∀ g L st, AA g L st ↔ AWPB Try.prog w0 reg7.toArray Q g L st) (hn47 : AA 8 #[true, false, true, false, false, true, true, false, false, false, false, true, false] ⟨76, [(1, .int .i64 a1), (2, .int .i64 a2), (10, .bool y1.1), (12, .ptr 1 0 0), (53, .ptr 0 0 0), (55, .ptr 0 0 1), (58, .int .i64 a1), (59, .int .i64 a2)], [some (.gen 48 2 [[.int .i64 g_0, .fn 2 g_1.length (fun i => [.int .i64 ((g_1.getD i (0, 0)).1), .int .i64 ((g_1.getD i (0, 0)).2)])]]), some (.gen 48 2 [[.int .i64 0, .nil]])]⟩) (hn67 : AA 8 #[false, false, true, true, false, true, true, false, false, false, false, true, false] ⟨76, [(1, .int .i64 a1), (2, .int .i64 a2), (3, .ptr 0 0 0), (10, .bool y1.1), (12, .ptr 1 0 0), (56, .fn 2 g_1.length (fun i => [.int .i64 ((g_1.getD i (0, 0)).1), .int .i64 ((g_1.getD i (0, 0)).2)])), (58, .int .i64 a1), (59, .int .i64 a2)], [some (.gen 48 2 [[.int .i64 g_0, .fn 2 g_1.length (fun i => [.int .i64 ((g_1.getD i (0, 0)).1), .int .i64 ((g_1.getD i (0, 0)).2)])]]), some (.gen 48 2 [[.int .i64 0, .nil]])]⟩) (hn71 : AA 8 #[false, false, true, false, false, true, true, true, false, false, false, true, false] ⟨76, [(1, .int .i64 a1), (2, .int .i64 a2), (3, .ptr 0 0 0), (10, .bool y1.1), (12, .ptr 1 0 0), (55, .ptr 0 0 1), (60, .agg [.int .i64 a1, .int .i64 a2])], [some (.gen 48 2 [[.int .i64 g_0, .fn 2 g_1.length (fun i => [.int .i64 ((g_1.getD i (0, 0)).1), .int .i64 ((g_1.getD i (0, 0)).2)])]]), some (.gen 48 2 [[.int .i64 0, .nil]])]⟩) : AA 9 #[false, false, true, false, false, true, true, false, false, false, false, true, false] ⟨76, [(1, .int .i64 a1), (2, .int .i64 a2), (3, .ptr 0 0 0), (10, .bool y1.1), (12, .ptr 1 0 0), (55, .ptr 0 0 1), (58, .int .i64 a1), (59, .int .i64 a2)], [some (.gen 48 2 [[.int .i64 g_0, .fn 2 g_1.length (fun i => [.int .i64 ((g_1.getD i (0, 0)).1), .int .i64 ((g_1.getD i (0, 0)).2)])]]), some (.gen 48 2 [[.int .i64 0, .nil]])]⟩ := (hAA _ _ _).2 (by
    refine AWPB_three 0 3 7 _ _ _ (by kernel_rfl) rfl rfl rfl ?_ ?_ ?_
    · skip
      refine AWPL_rn tab_ok 1 [1, 2, 10, 12, 53, 54, 55, 56, 57, 58, 59, 60, 61, 62, 63] fun c st' hr => ?_
      simp only [go_sem, reduceIte, reduceCtorEq, Nat.reduceEqDiff, Nat.reduceLT, Nat.reduceLeDiff, Nat.reduceBEq, Nat.reduceAdd, Nat.reduceMul, Nat.reduceSub, Nat.reducePow, Int.reduceLE, Int.reduceLT, Int.reduceNeg, Int.reduceToNat, Int.reduceAdd, Int.reduceSub] at hr
      obtain ⟨rfl, rfl⟩ := hr
      refine ⟨vc, ?_⟩
      refine AWPL_nil ?_
      refine QB_normal ?_
      exact AWPB_wk [0, 1] mkWk ((hAA _ _ _).1 hn47)
    · skip
      refine AWPL_rn tab_ok 1 [1, 2, 3, 10, 12, 53, 54, 56, 57, 58, 59, 60, 61, 62, 63] fun c st' hr => ?_
      simp only [go_sem, reduceIte, reduceCtorEq, Nat.reduceEqDiff, Nat.reduceLT, Nat.reduceLeDiff, Nat.reduceBEq, Nat.reduceAdd, Nat.reduceMul, Nat.reduceSub, Nat.reducePow, Int.reduceLE, Int.reduceLT, Int.reduceNeg, Int.reduceToNat, Int.reduceAdd, Int.reduceSub] at hr
      obtain ⟨rfl, rfl⟩ := hr
      refine ⟨vc, ?_⟩
      refine AWPL_nil ?_
      refine QB_normal ?_
      exact AWPB_wk [0, 1] mkWk ((hAA _ _ _).1 hn67)
    · skip
      refine AWPL_rn tab_ok 1 [1, 2, 3, 10, 12, 53, 54, 55, 56, 57, 60, 61, 62, 63] fun c st' hr => ?_
      simp only [go_sem, reduceIte, reduceCtorEq, Nat.reduceEqDiff, Nat.reduceLT, Nat.reduceLeDiff, Nat.reduceBEq, Nat.reduceAdd, Nat.reduceMul, Nat.reduceSub, Nat.reducePow, Int.reduceLE, Int.reduceLT, Int.reduceNeg, Int.reduceToNat, Int.reduceAdd, Int.reduceSub] at hr
      obtain ⟨rfl, rfl⟩ := hr
      refine ⟨vc, ?_⟩
      refine AWPL_nil ?_
      refine QB_normal ?_
      exact AWPB_wk [0, 1] mkWk ((hAA _ _ _).1 hn71))
set_option maxRecDepth 8000 in
set_option maxHeartbeats 4000000 in
theorem J_hn74 {a1 a2 g_0 : Int} {g_1 y2 : List (Int × Int)} {y1 : Bool × Int} (hy : slices_Clone_api_Edge_api_Edge g_1 = some y2) (h : (y2 ++ [(a1, a2)]).length ≤ 8796093022208) {w0 : World} {Q : Exit → St → Prop} {AA : Nat → Array Bool → St → Prop} (hAA : ∀ g L st, AA g L st ↔ AWPB Try.prog w0 reg7.toArray Q g L st) (hn48 : AA 9 #[true, false, true, false, false, true, true, false, false, false, false, false, false] ⟨76, [(1, .int .i64 a1), (2, .int .i64 a2), (10, .bool y1.1), (53, .ptr 0 0 0), (55, .ptr 0 0 1), (58, .int .i64 a1), (59, .int .i64 a2)], [some (.gen 48 2 [[.int .i64 g_0, .fn 2 g_1.length (fun i => [.int .i64 ((g_1.getD i (0, 0)).1), .int .i64 ((g_1.getD i (0, 0)).2)])]])]⟩) (hn68 : AA 9 #[false, false, true, true, false, true, true, false, false, false, false, false, false] ⟨76, [(1, .int .i64 a1), (2, .int .i64 a2), (3, .ptr 0 0 0), (10, .bool y1.1), (56, .fn 2 g_1.length (fun i => [.int .i64 ((g_1.getD i (0, 0)).1), .int .i64 ((g_1.getD i (0, 0)).2)])), (58, .int .i64 a1), (59, .int .i64 a2)], [some (.gen 48 2 [[.int .i64 g_0, .fn 2 g_1.length (fun i => [.int .i64 ((g_1.getD i (0, 0)).1), .int .i64 ((g_1.getD i (0, 0)).2)])]])]⟩) (hn72 : AA 9 #[false, false, true, false, false, true, true, true, false, false, false, false, false] ⟨76, [(1, .int .i64 a1), (2, .int .i64 a2), (3, .ptr 0 0 0), (10, .bool y1.1), (55, .ptr 0 0 1), (60, .agg [.int .i64 a1, .int .i64 a2])], [some (.gen 48 2 [[.int .i64 g_0, .fn 2 g_1.length (fun i => [.int .i64 ((g_1.getD i (0, 0)).1), .int .i64 ((g_1.getD i (0, 0)).2)])]])]⟩) (hn73 : AA 9 #[false, false, true, false, false, true, true, false, false, false, false, true, false] ⟨76, [(1, .int .i64 a1), (2, .int .i64 a2), (3, .ptr 0 0 0), (10, .bool y1.1), (12, .ptr 1 0 0), (55, .ptr 0 0 1), (58, .int .i64 a1), (59, .int .i64 a2)], [some (.gen 48 2 [[.int .i64 g_0, .fn 2 g_1.length (fun i => [.int .i64 ((g_1.getD i (0, 0)).1), .int .i64 ((g_1.getD i (0, 0)).2)])]]), some (.gen 48 2 [[.int .i64 0, .nil]])]⟩) : AA 10 #[false, false, true, false, false, true, true, false, false, false, false, false, false] ⟨76, [(1, .int .i64 a1), (2, .int .i64 a2), (3, .ptr 0 0 0), (10, .bool y1.1), (55, .ptr 0 0 1), (58, .int .i64 a1), (59, .int .i64 a2)], [some (.gen 48 2 [[.int .i64 g_0, .fn 2 g_1.length (fun i => [.int .i64 ((g_1.getD i (0, 0)).1), .int .i64 ((g_1.getD i (0, 0)).2)])]])]⟩ := (hAA _ _ _).2 (by
    refine AWPB_four 0 3 7 11 _ _ _ _ (by kernel_rfl) rfl rfl rfl rfl ?_ ?_ ?_ ?_
    · skip
      refine AWPL_rn tab_ok 1 [1, 2, 10, 12, 53, 54, 55, 56, 57, 58, 59, 60, 61, 62, 63] fun c st' hr => ?_
      simp only [go_sem, reduceIte, reduceCtorEq, Nat.reduceEqDiff, Nat.reduceLT, Nat.reduceLeDiff, Nat.reduceBEq, Nat.reduceAdd, Nat.reduceMul, Nat.reduceSub, Nat.reducePow, Int.reduceLE, Int.reduceLT, Int.reduceNeg, Int.reduceToNat, Int.reduceAdd, Int.reduceSub] at hr
      obtain ⟨rfl, rfl⟩ := hr
      refine ⟨vc, ?_⟩
      refine AWPL_nil ?_
      refine QB_normal ?_
      exact AWPB_wk [0] mkWk ((hAA _ _ _).1 hn48)
    · skip
      refine AWPL_rn tab_ok 1 [1, 2, 3, 10, 12, 53, 54, 56, 57, 58, 59, 60, 61, 62, 63] fun c st' hr => ?_
      simp only [go_sem, reduceIte, reduceCtorEq, Nat.reduceEqDiff, Nat.reduceLT, Nat.reduceLeDiff, Nat.reduceBEq, Nat.reduceAdd, Nat.reduceMul, Nat.reduceSub, Nat.reducePow, Int.reduceLE, Int.reduceLT, Int.reduceNeg, Int.reduceToNat, Int.reduceAdd, Int.reduceSub] at hr
      obtain ⟨rfl, rfl⟩ := hr
      refine ⟨vc, ?_⟩
      refine AWPL_nil ?_
      refine QB_normal ?_
      exact AWPB_wk [0] mkWk ((hAA _ _ _).1 hn68)
    · skip
      refine AWPL_rn tab_ok 1 [1, 2, 3, 10, 12, 53, 54, 55, 56, 57, 60, 61, 62, 63] fun c st' hr => ?_
      simp only [go_sem, reduceIte, reduceCtorEq, Nat.reduceEqDiff, Nat.reduceLT, Nat.reduceLeDiff, Nat.reduceBEq, Nat.reduceAdd, Nat.reduceMul, Nat.reduceSub, Nat.reducePow, Int.reduceLE, Int.reduceLT, Int.reduceNeg, Int.reduceToNat, Int.reduceAdd, Int.reduceSub] at hr
      obtain ⟨rfl, rfl⟩ := hr
      refine ⟨vc, ?_⟩
      refine AWPL_nil ?_
      refine QB_normal ?_
      exact AWPB_wk [0] mkWk ((hAA _ _ _).1 hn72)
    · skip
      refine AWPL_rn tab_ok 1 [1, 2, 3, 10, 12, 53, 54, 55, 56, 57, 58, 59, 60, 61, 62, 63] fun c st' hr => ?_
      simp only [go_sem, reduceIte, reduceCtorEq, Nat.reduceEqDiff, Nat.reduceLT, Nat.reduceLeDiff, Nat.reduceBEq, Nat.reduceAdd, Nat.reduceMul, Nat.reduceSub, Nat.reducePow, Int.reduceLE, Int.reduceLT, Int.reduceNeg, Int.reduceToNat, Int.reduceAdd, Int.reduceSub] at hr
      obtain ⟨rfl, rfl⟩ := hr
      refine ⟨vc, ?_⟩
      refine AWPL_nil ?_
      refine QB_normal ?_
      exact AWPB_wk [0, 1] mkWk ((hAA _ _ _).1 hn73))
set_option maxRecDepth 8000 in
set_option maxHeartbeats 4000000 in
theorem J_hn75 {a1 a2 g_0 : Int} {g_1 y2 : List (Int × Int)} {y1 : Bool × Int} (hy : slices_Clone_api_Edge_api_Edge g_1 = some y2) (h : (y2 ++ [(a1, a2)]).length ≤ 8796093022208) {w0 : World} {Q : Exit → St → Prop} {AA : Nat → Array Bool → St → Prop} (hAA : ∀ g L st, AA g L st ↔ AWPB Try.prog w0 reg7.toArray Q g L st) (hn49 : AA 7 #[true, false, false, false, false, true, true, true, true, false, false, true, false] ⟨76, [(1, .int .i64 a1), (2, .int .i64 a2), (3, .ptr 0 0 0), (10, .bool y1.1), (12, .ptr 2 0 0), (53, .ptr 0 0 0), (61, .own 1 1)], [some (.gen 48 2 [[.int .i64 g_0, .fn 2 g_1.length (fun i => [.int .i64 ((g_1.getD i (0, 0)).1), .int .i64 ((g_1.getD i (0, 0)).2)])]]), some (.gen 52 2 (List.map (fun e => [.int .i64 e.1, .int .i64 e.2]) [(a1, a2)])), some (.gen 48 2 [[.int .i64 0, .nil]])]⟩) (hn69 : AA 7 #[false, false, true, false, false, true, true, true, true, false, false, true, false] ⟨76, [(1, .int .i64 a1), (2, .int .i64 a2), (3, .ptr 0 0 0), (10, .bool y1.1), (12, .ptr 2 0 0), (55, .ptr 0 0 1), (61, .own 1 1)], [some (.gen 48 2 [[.int .i64 g_0, .fn 2 g_1.length (fun i => [.int .i64 ((g_1.getD i (0, 0)).1), .int .i64 ((g_1.getD i (0, 0)).2)])]]), some (.gen 52 2 (List.map (fun e => [.int .i64 e.1, .int .i64 e.2]) [(a1, a2)])), some (.gen 48 2 [[.int .i64 0, .nil]])]⟩) : AA 8 #[false, false, false, false, false, true, true, true, true, false, false, true, false] ⟨76, [(1, .int .i64 a1), (2, .int .i64 a2), (3, .ptr 0 0 0), (10, .bool y1.1), (12, .ptr 2 0 0), (61, .own 1 1)], [some (.gen 48 2 [[.int .i64 g_0, .fn 2 g_1.length (fun i => [.int .i64 ((g_1.getD i (0, 0)).1), .int .i64 ((g_1.getD i (0, 0)).2)])]]), some (.gen 52 2 (List.map (fun e => [.int .i64 e.1, .int .i64 e.2]) [(a1, a2)])), some (.gen 48 2 [[.int .i64 0, .nil]])]⟩ := (hAA _ _ _).2 (by
    refine AWPB_two 0 2 _ _ (by kernel_rfl) rfl rfl ?_ ?_
    · skip
      refine AWPL_rn tab_ok 1 [1, 2, 3, 10, 12, 53, 54, 55, 56, 57, 61, 62, 63] fun c st' hr => ?_
      simp only [go_sem, reduceIte, reduceCtorEq, Nat.reduceEqDiff, Nat.reduceLT, Nat.reduceLeDiff, Nat.reduceBEq, Nat.reduceAdd, Nat.reduceMul, Nat.reduceSub, Nat.reducePow, Int.reduceLE, Int.reduceLT, Int.reduceNeg, Int.reduceToNat, Int.reduceAdd, Int.reduceSub] at hr
      obtain ⟨rfl, rfl⟩ := hr
      refine ⟨vc, ?_⟩
      refine AWPL_nil ?_
      refine QB_normal ?_
      exact AWPB_wk [0, 1, 2] mkWk ((hAA _ _ _).1 hn49)
    · skip
      refine AWPL_rn tab_ok 1 [1, 2, 3, 10, 12, 53, 54, 55, 56, 57, 61, 62, 63] fun c st' hr => ?_
      simp only [go_sem, reduceIte, reduceCtorEq, Nat.reduceEqDiff, Nat.reduceLT, Nat.reduceLeDiff, Nat.reduceBEq, Nat.reduceAdd, Nat.reduceMul, Nat.reduceSub, Nat.reducePow, Int.reduceLE, Int.reduceLT, Int.reduceNeg, Int.reduceToNat, Int.reduceAdd, Int.reduceSub] at hr
      obtain ⟨rfl, rfl⟩ := hr
      refine ⟨vc, ?_⟩
      refine AWPL_nil ?_
      refine QB_normal ?_
      exact AWPB_wk [0, 1, 2] mkWk ((hAA _ _ _).1 hn69))
set_option maxRecDepth 8000 in
set_option maxHeartbeats 4000000 in
theorem J_hn76 {a1 a2 g_0 : Int} {g_1 y2 : List (Int × Int)} {y1 : Bool × Int} (hy : slices_Clone_api_Edge_api_Edge g_1 = some y2) (h : (y2 ++ [(a1, a2)]).length ≤ 8796093022208) {w0 : World} {Q : Exit → St → Prop} {AA : Nat → Array Bool → St → Prop} (hAA : ∀ g L st, AA g L st ↔ AWPB Try.prog w0 reg7.toArray Q g L st) (hn50 : AA 8 #[true, false, false, false, false, true, true, true, true, false, false, false, false] ⟨76, [(1, .int .i64 a1), (2, .int .i64 a2), (3, .ptr 0 0 0), (10, .bool y1.1), (53, .ptr 0 0 0), (61, .own 1 1)], [some (.gen 48 2 [[.int .i64 g_0, .fn 2 g_1.length (fun i => [.int .i64 ((g_1.getD i (0, 0)).1), .int .i64 ((g_1.getD i (0, 0)).2)])]]), some (.gen 52 2 (List.map (fun e => [.int .i64 e.1, .int .i64 e.2]) [(a1, a2)]))]⟩) (hn70 : AA 8 #[false, false, true, false, false, true, true, true, true, false, false, false, false] ⟨76, [(1, .int .i64 a1), (2, .int .i64 a2), (3, .ptr 0 0 0), (10, .bool y1.1), (55, .ptr 0 0 1), (61, .own 1 1)], [some (.gen 48 2 [[.int .i64 g_0, .fn 2 g_1.length (fun i => [.int .i64 ((g_1.getD i (0, 0)).1), .int .i64 ((g_1.getD i (0, 0)).2)])]]), some (.gen 52 2 (List.map (fun e => [.int .i64 e.1, .int .i64 e.2]) [(a1, a2)]))]⟩) (hn75 : AA 8 #[false, false, false, false, false, true, true, true, true, false, false, true, false] ⟨76, [(1, .int .i64 a1), (2, .int .i64 a2), (3, .ptr 0 0 0), (10, .bool y1.1), (12, .ptr 2 0 0), (61, .own 1 1)], [some (.gen 48 2 [[.int .i64 g_0, .fn 2 g_1.length (fun i => [.int .i64 ((g_1.getD i (0, 0)).1), .int .i64 ((g_1.getD i (0, 0)).2)])]]), some (.gen 52 2 (List.map (fun e => [.int .i64 e.1, .int .i64 e.2]) [(a1, a2)])), some (.gen 48 2 [[.int .i64 0, .nil]])]⟩) : AA 9 #[false, false, false, false, false, true, true, true, true, false, false, false, false] ⟨76, [(1, .int .i64 a1), (2, .int .i64 a2), (3, .ptr 0 0 0), (10, .bool y1.1), (61, .own 1 1)], [some (.gen 48 2 [[.int .i64 g_0, .fn 2 g_1.length (fun i => [.int .i64 ((g_1.getD i (0, 0)).1), .int .i64 ((g_1.getD i (0, 0)).2)])]]), some (.gen 52 2 (List.map (fun e => [.int .i64 e.1, .int .i64 e.2]) [(a1, a2)]))]⟩ := (hAA _ _ _).2 (by
    refine AWPB_three 0 2 11 _ _ _ (by kernel_rfl) rfl rfl rfl ?_ ?_ ?_
    · skip
      refine AWPL_rn tab_ok 1 [1, 2, 3, 10, 12, 53, 54, 55, 56, 57, 61, 62, 63] fun c st' hr => ?_
      simp only [go_sem, reduceIte, reduceCtorEq, Nat.reduceEqDiff, Nat.reduceLT, Nat.reduceLeDiff, Nat.reduceBEq, Nat.reduceAdd, Nat.reduceMul, Nat.reduceSub, Nat.reducePow, Int.reduceLE, Int.reduceLT, Int.reduceNeg, Int.reduceToNat, Int.reduceAdd, Int.reduceSub] at hr
      obtain ⟨rfl, rfl⟩ := hr
      refine ⟨vc, ?_⟩
      refine AWPL_nil ?_
      refine QB_normal ?_
      exact AWPB_wk [0, 1] mkWk ((hAA _ _ _).1 hn50)
    · skip
      refine AWPL_rn tab_ok 1 [1, 2, 3, 10, 12, 53, 54, 55, 56, 57, 61, 62, 63] fun c st' hr => ?_
      simp only [go_sem, reduceIte, reduceCtorEq, Nat.reduceEqDiff, Nat.reduceLT, Nat.reduceLeDiff, Nat.reduceBEq, Nat.reduceAdd, Nat.reduceMul, Nat.reduceSub, Nat.reducePow, Int.reduceLE, Int.reduceLT, Int.reduceNeg, Int.reduceToNat, Int.reduceAdd, Int.reduceSub] at hr
      obtain ⟨rfl, rfl⟩ := hr
      refine ⟨vc, ?_⟩
      refine AWPL_nil ?_
      refine QB_normal ?_
      exact AWPB_wk [0, 1] mkWk ((hAA _ _ _).1 hn70)
    · skip
      refine AWPL_rn tab_ok 1 [1, 2, 3, 10, 12, 53, 54, 55, 56, 57, 61, 62, 63] fun c st' hr => ?_
      simp only [go_sem, reduceIte, reduceCtorEq, Nat.reduceEqDiff, Nat.reduceLT, Nat.reduceLeDiff, Nat.reduceBEq, Nat.reduceAdd, Nat.reduceMul, Nat.reduceSub, Nat.reducePow, Int.reduceLE, Int.reduceLT, Int.reduceNeg, Int.reduceToNat, Int.reduceAdd, Int.reduceSub] at hr
      obtain ⟨rfl, rfl⟩ := hr
      refine ⟨vc, ?_⟩
      refine AWPL_nil ?_
      refine QB_normal ?_
      exact AWPB_wk [0, 1, 2] mkWk ((hAA _ _ _).1 hn75))
set_option maxRecDepth 8000 in
set_option maxHeartbeats 4000000 in
theorem J_hn77 {a1 a2 g_0 : Int} {g_1 y2 : List (Int × Int)} {y1 : Bool × Int} (hy : slices_Clone_api_Edge_api_Edge g_1 = some y2) (h : (y2 ++ [(a1, a2)]).length ≤ 8796093022208) {w0 : World} {Q : Exit → St → Prop} {AA : Nat → Array Bool → St → Prop} (hAA : ∀ g L st, AA g L st ↔ AWPB Try.prog w0 reg7.toArray Q g L st) (hn51 : AA 8 #[true, false, false, false, false, true, true, true, false, false, false, true, false] ⟨76, [(1, .int .i64 a1), (2, .int .i64 a2), (3, .ptr 0 0 0), (10, .bool y1.1), (12, .ptr 1 0 0), (53, .ptr 0 0 0), (60, .agg [.int .i64 a1, .int .i64 a2])], [some (.gen 48 2 [[.int .i64 g_0, .fn 2 g_1.length (fun i => [.int .i64 ((g_1.getD i (0, 0)).1), .int .i64 ((g_1.getD i (0, 0)).2)])]]), some (.gen 48 2 [[.int .i64 0, .nil]])]⟩) (hn71 : AA 8 #[false, false, true, false, false, true, true, true, false, false, false, true, false] ⟨76, [(1, .int .i64 a1), (2, .int .i64 a2), (3, .ptr 0 0 0), (10, .bool y1.1), (12, .ptr 1 0 0), (55, .ptr 0 0 1), (60, .agg [.int .i64 a1, .int .i64 a2])], [some (.gen 48 2 [[.int .i64 g_0, .fn 2 g_1.length (fun i => [.int .i64 ((g_1.getD i (0, 0)).1), .int .i64 ((g_1.getD i (0, 0)).2)])]]), some (.gen 48 2 [[.int .i64 0, .nil]])]⟩) (hn75 : AA 8 #[false, false, false, false, false, true, true, true, true, false, false, true, false] ⟨76, [(1, .int .i64 a1), (2, .int .i64 a2), (3, .ptr 0 0 0), (10, .bool y1.1), (12, .ptr 2 0 0), (61, .own 1 1)], [some (.gen 48 2 [[.int .i64 g_0, .fn 2 g_1.length (fun i => [.int .i64 ((g_1.getD i (0, 0)).1), .int .i64 ((g_1.getD i (0, 0)).2)])]]), some (.gen 52 2 (List.map (fun e => [.int .i64 e.1, .int .i64 e.2]) [(a1, a2)])), some (.gen 48 2 [[.int .i64 0, .nil]])]⟩) : AA 9 #[false, false, false, false, false, true, true, true, false, false, false, true, false] ⟨76, [(1, .int .i64 a1), (2, .int .i64 a2), (3, .ptr 0 0 0), (10, .bool y1.1), (12, .ptr 1 0 0), (60, .agg [.int .i64 a1, .int .i64 a2])], [some (.gen 48 2 [[.int .i64 g_0, .fn 2 g_1.length (fun i => [.int .i64 ((g_1.getD i (0, 0)).1), .int .i64 ((g_1.getD i (0, 0)).2)])]]), some (.gen 48 2 [[.int .i64 0, .nil]])]⟩ := (hAA _ _ _).2 (by
    refine AWPB_three 0 2 8 _ _ _ (by kernel_rfl) rfl rfl rfl ?_ ?_ ?_
    · skip
      refine AWPL_rn tab_ok 1 [1, 2, 3, 10, 12, 53, 54, 55, 56, 57, 60, 61, 62, 63] fun c st' hr => ?_
      simp only [go_sem, reduceIte, reduceCtorEq, Nat.reduceEqDiff, Nat.reduceLT, Nat.reduceLeDiff, Nat.reduceBEq, Nat.reduceAdd, Nat.reduceMul, Nat.reduceSub, Nat.reducePow, Int.reduceLE, Int.reduceLT, Int.reduceNeg, Int.reduceToNat, Int.reduceAdd, Int.reduceSub] at hr
      obtain ⟨rfl, rfl⟩ := hr
      refine ⟨vc, ?_⟩
      refine AWPL_nil ?_
      refine QB_normal ?_
      exact AWPB_wk [0, 1] mkWk ((hAA _ _ _).1 hn51)
    · skip
      refine AWPL_rn tab_ok 1 [1, 2, 3, 10, 12, 53, 54, 55, 56, 57, 60, 61, 62, 63] fun c st' hr => ?_
      simp only [go_sem, reduceIte, reduceCtorEq, Nat.reduceEqDiff, Nat.reduceLT, Nat.reduceLeDiff, Nat.reduceBEq, Nat.reduceAdd, Nat.reduceMul, Nat.reduceSub, Nat.reducePow, Int.reduceLE, Int.reduceLT, Int.reduceNeg, Int.reduceToNat, Int.reduceAdd, Int.reduceSub] at hr
      obtain ⟨rfl, rfl⟩ := hr
      refine ⟨vc, ?_⟩
      refine AWPL_nil ?_
      refine QB_normal ?_
      exact AWPB_wk [0, 1] mkWk ((hAA _ _ _).1 hn71)
    · skip
      refine AWPL_rn tab_ok 1 [1, 2, 3, 10, 12, 53, 54, 55, 56, 57, 61, 62, 63] fun c st' hr => ?_
      simp only [go_sem, reduceIte, reduceCtorEq, Nat.reduceEqDiff, Nat.reduceLT, Nat.reduceLeDiff, Nat.reduceBEq, Nat.reduceAdd, Nat.reduceMul, Nat.reduceSub, Nat.reducePow, Int.reduceLE, Int.reduceLT, Int.reduceNeg, Int.reduceToNat, Int.reduceAdd, Int.reduceSub] at hr
      obtain ⟨rfl, rfl⟩ := hr
      refine ⟨vc, ?_⟩
      refine AWPL_nil ?_
      refine QB_normal ?_
      exact AWPB_wk [0, 2, 1] mkWk ((hAA _ _ _).1 hn75))
set_option maxRecDepth 8000 in
set_option maxHeartbeats 4000000 in
theorem J_hn78 {a1 a2 g_0 : Int} {g_1 y2 : List (Int × Int)} {y1 : Bool × Int} (hy : slices_Clone_api_Edge_api_Edge g_1 = some y2) (h : (y2 ++ [(a1, a2)]).length ≤ 8796093022208) {w0 : World} {Q : Exit → St → Prop} {AA : Nat → Array Bool → St → Prop} (hAA : ∀ g L st, AA g L st ↔ AWPB Try.prog w0 reg7.toArray Q g L st) (hn52 : AA 9 #[true, false, false, false, false, true, true, true, false, false, false, false, false] ⟨76, [(1, .int .i64 a1), (2, .int .i64 a2), (3, .ptr 0 0 0), (10, .bool y1.1), (53, .ptr 0 0 0), (60, .agg [.int .i64 a1, .int .i64 a2])], [some (.gen 48 2 [[.int .i64 g_0, .fn 2 g_1.length (fun i => [.int .i64 ((g_1.getD i (0, 0)).1), .int .i64 ((g_1.getD i (0, 0)).2)])]])]⟩) (hn72 : AA 9 #[false, false, true, false, false, true, true, true, false, false, false, false, false] ⟨76, [(1, .int .i64 a1), (2, .int .i64 a2), (3, .ptr 0 0 0), (10, .bool y1.1), (55, .ptr 0 0 1), (60, .agg [.int .i64 a1, .int .i64 a2])], [some (.gen 48 2 [[.int .i64 g_0, .fn 2 g_1.length (fun i => [.int .i64 ((g_1.getD i (0, 0)).1), .int .i64 ((g_1.getD i (0, 0)).2)])]])]⟩) (hn76 : AA 9 #[false, false, false, false, false, true, true, true, true, false, false, false, false] ⟨76, [(1, .int .i64 a1), (2, .int .i64 a2), (3, .ptr 0 0 0), (10, .bool y1.1), (61, .own 1 1)], [some (.gen 48 2 [[.int .i64 g_0, .fn 2 g_1.length (fun i => [.int .i64 ((g_1.getD i (0, 0)).1), .int .i64 ((g_1.getD i (0, 0)).2)])]]), some (.gen 52 2 (List.map (fun e => [.int .i64 e.1, .int .i64 e.2]) [(a1, a2)]))]⟩) (hn77 : AA 9 #[false, false, false, false, false, true, true, true, false, false, false, true, false] ⟨76, [(1, .int .i64 a1), (2, .int .i64 a2), (3, .ptr 0 0 0), (10, .bool y1.1), (12, .ptr 1 0 0), (60, .agg [.int .i64 a1, .int .i64 a2])], [some (.gen 48 2 [[.int .i64 g_0, .fn 2 g_1.length (fun i => [.int .i64 ((g_1.getD i (0, 0)).1), .int .i64 ((g_1.getD i (0, 0)).2)])]]), some (.gen 48 2 [[.int .i64 0, .nil]])]⟩) : AA 10 #[false, false, false, false, false, true, true, true, false, false, false, false, false] ⟨76, [(1, .int .i64 a1), (2, .int .i64 a2), (3, .ptr 0 0 0), (10, .bool y1.1), (60, .agg [.int .i64 a1, .int .i64 a2])], [some (.gen 48 2 [[.int .i64 g_0, .fn 2 g_1.length (fun i => [.int .i64 ((g_1.getD i (0, 0)).1), .int .i64 ((g_1.getD i (0, 0)).2)])]])]⟩ := (hAA _ _ _).2 (by
    refine AWPB_four 0 2 8 11 _ _ _ _ (by kernel_rfl) rfl rfl rfl rfl ?_ ?_ ?_ ?_
    · skip
      refine AWPL_rn tab_ok 1 [1, 2, 3, 10, 12, 53, 54, 55, 56, 57, 60, 61, 62, 63] fun c st' hr => ?_
      simp only [go_sem, reduceIte, reduceCtorEq, Nat.reduceEqDiff, Nat.reduceLT, Nat.reduceLeDiff, Nat.reduceBEq, Nat.reduceAdd, Nat.reduceMul, Nat.reduceSub, Nat.reducePow, Int.reduceLE, Int.reduceLT, Int.reduceNeg, Int.reduceToNat, Int.reduceAdd, Int.reduceSub] at hr
      obtain ⟨rfl, rfl⟩ := hr
      refine ⟨vc, ?_⟩
      refine AWPL_nil ?_
      refine QB_normal ?_
      exact AWPB_wk [0] mkWk ((hAA _ _ _).1 hn52)
    · skip
      refine AWPL_rn tab_ok 1 [1, 2, 3, 10, 12, 53, 54, 55, 56, 57, 60, 61, 62, 63] fun c st' hr => ?_
      simp only [go_sem, reduceIte, reduceCtorEq, Nat.reduceEqDiff, Nat.reduceLT, Nat.reduceLeDiff, Nat.reduceBEq, Nat.reduceAdd, Nat.reduceMul, Nat.reduceSub, Nat.reducePow, Int.reduceLE, Int.reduceLT, Int.reduceNeg, Int.reduceToNat, Int.reduceAdd, Int.reduceSub] at hr
      obtain ⟨rfl, rfl⟩ := hr
      refine ⟨vc, ?_⟩
      refine AWPL_nil ?_
      refine QB_normal ?_
      exact AWPB_wk [0] mkWk ((hAA _ _ _).1 hn72)
    · skip
      refine AWPL_rn tab_ok 1 [1, 2, 3, 10, 12, 53, 54, 55, 56, 57, 61, 62, 63] fun c st' hr => ?_
      simp only [go_sem, reduceIte, reduceCtorEq, Nat.reduceEqDiff, Nat.reduceLT, Nat.reduceLeDiff, Nat.reduceBEq, Nat.reduceAdd, Nat.reduceMul, Nat.reduceSub, Nat.reducePow, Int.reduceLE, Int.reduceLT, Int.reduceNeg, Int.reduceToNat, Int.reduceAdd, Int.reduceSub] at hr
      obtain ⟨rfl, rfl⟩ := hr
      refine ⟨vc, ?_⟩
      refine AWPL_nil ?_
      refine QB_normal ?_
      exact AWPB_wk [0, 1] mkWk ((hAA _ _ _).1 hn76)
    · skip
      refine AWPL_rn tab_ok 1 [1, 2, 3, 10, 12, 53, 54, 55, 56, 57, 60, 61, 62, 63] fun c st' hr => ?_
      simp only [go_sem, reduceIte, reduceCtorEq, Nat.reduceEqDiff, Nat.reduceLT, Nat.reduceLeDiff, Nat.reduceBEq, Nat.reduceAdd, Nat.reduceMul, Nat.reduceSub, Nat.reducePow, Int.reduceLE, Int.reduceLT, Int.reduceNeg, Int.reduceToNat, Int.reduceAdd, Int.reduceSub] at hr
      obtain ⟨rfl, rfl⟩ := hr
      refine ⟨vc, ?_⟩
      refine AWPL_nil ?_
      refine QB_normal ?_
      exact AWPB_wk [0, 1] mkWk ((hAA _ _ _).1 hn77))
set_option maxRecDepth 8000 in
set_option maxHeartbeats 4000000 in
theorem J_hn79 {a1 a2 g_0 : Int} {g_1 y2 : List (Int × Int)} {y1 : Bool × Int} (hy : slices_Clone_api_Edge_api_Edge g_1 = some y2) (h : (y2 ++ [(a1, a2)]).length ≤ 8796093022208) {w0 : World} {Q : Exit → St → Prop} {AA : Nat → Array Bool → St → Prop} (hAA : ∀ g L st, AA g L st ↔ AWPB Try.prog w0 reg7.toArray Q g L st) (hn53 : AA 9 #[true, false, false, false, false, true, true, false, false, false, false, true, false] ⟨76, [(1, .int .i64 a1), (2, .int .i64 a2), (3, .ptr 0 0 0), (10, .bool y1.1), (12, .ptr 1 0 0), (53, .ptr 0 0 0), (58, .int .i64 a1), (59, .int .i64 a2)], [some (.gen 48 2 [[.int .i64 g_0, .fn 2 g_1.length (fun i => [.int .i64 ((g_1.getD i (0, 0)).1), .int .i64 ((g_1.getD i (0, 0)).2)])]]), some (.gen 48 2 [[.int .i64 0, .nil]])]⟩) (hn73 : AA 9 #[false, false, true, false, false, true, true, false, false, false, false, true, false] ⟨76, [(1, .int .i64 a1), (2, .int .i64 a2), (3, .ptr 0 0 0), (10, .bool y1.1), (12, .ptr 1 0 0), (55, .ptr 0 0 1), (58, .int .i64 a1), (59, .int .i64 a2)], [some (.gen 48 2 [[.int .i64 g_0, .fn 2 g_1.length (fun i => [.int .i64 ((g_1.getD i (0, 0)).1), .int .i64 ((g_1.getD i (0, 0)).2)])]]), some (.gen 48 2 [[.int .i64 0, .nil]])]⟩) (hn77 : AA 9 #[false, false, false, false, false, true, true, true, false, false, false, true, false] ⟨76, [(1, .int .i64 a1), (2, .int .i64 a2), (3, .ptr 0 0 0), (10, .bool y1.1), (12, .ptr 1 0 0), (60, .agg [.int .i64 a1, .int .i64 a2])], [some (.gen 48 2 [[.int .i64 g_0, .fn 2 g_1.length (fun i => [.int .i64 ((g_1.getD i (0, 0)).1), .int .i64 ((g_1.getD i (0, 0)).2)])]]), some (.gen 48 2 [[.int .i64 0, .nil]])]⟩) : AA 10 #[false, false, false, false, false, true, true, false, false, false, false, true, false] ⟨76, [(1, .int .i64 a1), (2, .int .i64 a2), (3, .ptr 0 0 0), (10, .bool y1.1), (12, .ptr 1 0 0), (58, .int .i64 a1), (59, .int .i64 a2)], [some (.gen 48 2 [[.int .i64 g_0, .fn 2 g_1.length (fun i => [.int .i64 ((g_1.getD i (0, 0)).1), .int .i64 ((g_1.getD i (0, 0)).2)])]]), some (.gen 48 2 [[.int .i64 0, .nil]])]⟩ := (hAA _ _ _).2 (by
    refine AWPB_three 0 2 7 _ _ _ (by kernel_rfl) rfl rfl rfl ?_ ?_ ?_
    · skip
      refine AWPL_rn tab_ok 1 [1, 2, 3, 10, 12, 53, 54, 55, 56, 57, 58, 59, 60, 61, 62, 63] fun c st' hr => ?_
      simp only [go_sem, reduceIte, reduceCtorEq, Nat.reduceEqDiff, Nat.reduceLT, Nat.reduceLeDiff, Nat.reduceBEq, Nat.reduceAdd, Nat.reduceMul, Nat.reduceSub, Nat.reducePow, Int.reduceLE, Int.reduceLT, Int.reduceNeg, Int.reduceToNat, Int.reduceAdd, Int.reduceSub] at hr
      obtain ⟨rfl, rfl⟩ := hr
      refine ⟨vc, ?_⟩
      refine AWPL_nil ?_
      refine QB_normal ?_
      exact AWPB_wk [0, 1] mkWk ((hAA _ _ _).1 hn53)
    · skip
      refine AWPL_rn tab_ok 1 [1, 2, 3, 10, 12, 53, 54, 55, 56, 57, 58, 59, 60, 61, 62, 63] fun c st' hr => ?_
      simp only [go_sem, reduceIte, reduceCtorEq, Nat.reduceEqDiff, Nat.reduceLT, Nat.reduceLeDiff, Nat.reduceBEq, Nat.reduceAdd, Nat.reduceMul, Nat.reduceSub, Nat.reducePow, Int.reduceLE, Int.reduceLT, Int.reduceNeg, Int.reduceToNat, Int.reduceAdd, Int.reduceSub] at hr
      obtain ⟨rfl, rfl⟩ := hr
      refine ⟨vc, ?_⟩
      refine AWPL_nil ?_
      refine QB_normal ?_
      exact AWPB_wk [0, 1] mkWk ((hAA _ _ _).1 hn73)
    · skip
      refine AWPL_rn tab_ok 1 [1, 2, 3, 10, 12, 53, 54, 55, 56, 57, 60, 61, 62, 63] fun c st' hr => ?_
      simp only [go_sem, reduceIte, reduceCtorEq, Nat.reduceEqDiff, Nat.reduceLT, Nat.reduceLeDiff, Nat.reduceBEq, Nat.reduceAdd, Nat.reduceMul, Nat.reduceSub, Nat.reducePow, Int.reduceLE, Int.reduceLT, Int.reduceNeg, Int.reduceToNat, Int.reduceAdd, Int.reduceSub] at hr
      obtain ⟨rfl, rfl⟩ := hr
      refine ⟨vc, ?_⟩
      refine AWPL_nil ?_
      refine QB_normal ?_
      exact AWPB_wk [0, 1] mkWk ((hAA _ _ _).1 hn77))
set_option maxRecDepth 8000 in
set_option maxHeartbeats 4000000 in
theorem J_hn80 {a1 a2 g_0 : Int} {g_1 y2 : List (Int × Int)} {y1 : Bool × Int} (hy : slices_Clone_api_Edge_api_Edge g_1 = some y2) (h : (y2 ++ [(a1, a2)]).length ≤ 8796093022208) {w0 : World} {Q : Exit → St → Prop} {AA : Nat → Array Bool → St → Prop} (hAA : ∀ g L st, AA g L st ↔ AWPB Try.prog w0 reg7.toArray Q g L st) (hn54 : AA 10 #[true, false, false, false, false, true, true, false, false, false, false, false, false] ⟨76, [(1, .int .i64 a1), (2, .int .i64 a2), (3, .ptr 0 0 0), (10, .bool y1.1), (53, .ptr 0 0 0), (58, .int .i64 a1), (59, .int .i64 a2)], [some (.gen 48 2 [[.int .i64 g_0, .fn 2 g_1.length (fun i => [.int .i64 ((g_1.getD i (0, 0)).1), .int .i64 ((g_1.getD i (0, 0)).2)])]])]⟩) (hn74 : AA 10 #[false, false, true, false, false, true, true, false, false, false, false, false, false] ⟨76, [(1, .int .i64 a1), (2, .int .i64 a2), (3, .ptr 0 0 0), (10, .bool y1.1), (55, .ptr 0 0 1), (58, .int .i64 a1), (59, .int .i64 a2)], [some (.gen 48 2 [[.int .i64 g_0, .fn 2 g_1.length (fun i => [.int .i64 ((g_1.getD i (0, 0)).1), .int .i64 ((g_1.getD i (0, 0)).2)])]])]⟩) (hn78 : AA 10 #[false, false, false, false, false, true, true, true, false, false, false, false, false] ⟨76, [(1, .int .i64 a1), (2, .int .i64 a2), (3, .ptr 0 0 0), (10, .bool y1.1), (60, .agg [.int .i64 a1, .int .i64 a2])], [some (.gen 48 2 [[.int .i64 g_0, .fn 2 g_1.length (fun i => [.int .i64 ((g_1.getD i (0, 0)).1), .int .i64 ((g_1.getD i (0, 0)).2)])]])]⟩) (hn79 : AA 10 #[false, false, false, false, false, true, true, false, false, false, false, true, false] ⟨76, [(1, .int .i64 a1), (2, .int .i64 a2), (3, .ptr 0 0 0), (10, .bool y1.1), (12, .ptr 1 0 0), (58, .int .i64 a1), (59, .int .i64 a2)], [some (.gen 48 2 [[.int .i64 g_0, .fn 2 g_1.length (fun i => [.int .i64 ((g_1.getD i (0, 0)).1), .int .i64 ((g_1.getD i (0, 0)).2)])]]), some (.gen 48 2 [[.int .i64 0, .nil]])]⟩) : AA 11 #[false, false, false, false, false, true, true, false, false, false, false, false, false] ⟨76, [(1, .int .i64 a1), (2, .int .i64 a2), (3, .ptr 0 0 0), (10, .bool y1.1), (58, .int .i64 a1), (59, .int .i64 a2)], [some (.gen 48 2 [[.int .i64 g_0, .fn 2 g_1.length (fun i => [.int .i64 ((g_1.getD i (0, 0)).1), .int .i64 ((g_1.getD i (0, 0)).2)])]])]⟩ := (hAA _ _ _).2 (by
    refine AWPB_four 0 2 7 11 _ _ _ _ (by kernel_rfl) rfl rfl rfl rfl ?_ ?_ ?_ ?_
    · skip
      refine AWPL_rn tab_ok 1 [1, 2, 3, 10, 12, 53, 54, 55, 56, 57, 58, 59, 60, 61, 62, 63] fun c st' hr => ?_
      simp only [go_sem, reduceIte, reduceCtorEq, Nat.reduceEqDiff, Nat.reduceLT, Nat.reduceLeDiff, Nat.reduceBEq, Nat.reduceAdd, Nat.reduceMul, Nat.reduceSub, Nat.reducePow, Int.reduceLE, Int.reduceLT, Int.reduceNeg, Int.reduceToNat, Int.reduceAdd, Int.reduceSub] at hr
      obtain ⟨rfl, rfl⟩ := hr
      refine ⟨vc, ?_⟩
      refine AWPL_nil ?_
      refine QB_normal ?_
      exact AWPB_wk [0] mkWk ((hAA _ _ _).1 hn54)
    · skip
      refine AWPL_rn tab_ok 1 [1, 2, 3, 10, 12, 53, 54, 55, 56, 57, 58, 59, 60, 61, 62, 63] fun c st' hr => ?_
      simp only [go_sem, reduceIte, reduceCtorEq, Nat.reduceEqDiff, Nat.reduceLT, Nat.reduceLeDiff, Nat.reduceBEq, Nat.reduceAdd, Nat.reduceMul, Nat.reduceSub, Nat.reducePow, Int.reduceLE, Int.reduceLT, Int.reduceNeg, Int.reduceToNat, Int.reduceAdd, Int.reduceSub] at hr
      obtain ⟨rfl, rfl⟩ := hr
      refine ⟨vc, ?_⟩
      refine AWPL_nil ?_
      refine QB_normal ?_
      exact AWPB_wk [0] mkWk ((hAA _ _ _).1 hn74)
    · skip
      refine AWPL_rn tab_ok 1 [1, 2, 3, 10, 12, 53, 54, 55, 56, 57, 60, 61, 62, 63] fun c st' hr => ?_
      simp only [go_sem, reduceIte, reduceCtorEq, Nat.reduceEqDiff, Nat.reduceLT, Nat.reduceLeDiff, Nat.reduceBEq, Nat.reduceAdd, Nat.reduceMul, Nat.reduceSub, Nat.reducePow, Int.reduceLE, Int.reduceLT, Int.reduceNeg, Int.reduceToNat, Int.reduceAdd, Int.reduceSub] at hr
      obtain ⟨rfl, rfl⟩ := hr
      refine ⟨vc, ?_⟩
      refine AWPL_nil ?_
      refine QB_normal ?_
      exact AWPB_wk [0] mkWk ((hAA _ _ _).1 hn78)
    · skip
      refine AWPL_rn tab_ok 1 [1, 2, 3, 10, 12, 53, 54, 55, 56, 57, 58, 59, 60, 61, 62, 63] fun c st' hr => ?_
      simp only [go_sem, reduceIte, reduceCtorEq, Nat.reduceEqDiff, Nat.reduceLT, Nat.reduceLeDiff, Nat.reduceBEq, Nat.reduceAdd, Nat.reduceMul, Nat.reduceSub, Nat.reducePow, Int.reduceLE, Int.reduceLT, Int.reduceNeg, Int.reduceToNat, Int.reduceAdd, Int.reduceSub] at hr
      obtain ⟨rfl, rfl⟩ := hr
      refine ⟨vc, ?_⟩
      refine AWPL_nil ?_
      refine QB_normal ?_
      exact AWPB_wk [0, 1] mkWk ((hAA _ _ _).1 hn79))
set_option maxRecDepth 8000 in
set_option maxHeartbeats 4000000 in
theorem J_hn81 {a1 a2 g_0 : Int} {g_1 y2 : List (Int × Int)} {y1 : Bool × Int} (hy : slices_Clone_api_Edge_api_Edge g_1 = some y2) (h : (y2 ++ [(a1, a2)]).length ≤ 8796093022208) {w0 : World} {Q : Exit → St → Prop} {AA : Nat → Array Bool → St → Prop} (hAA : ∀ g L st, AA g L st ↔ AWPB Try.prog w0 reg7.toArray Q g L st) (hn80 : AA 11 #[false, false, false, false, false, true, true, false, false, false, false, false, false] ⟨76, [(1, .int .i64 a1), (2, .int .i64 a2), (3, .ptr 0 0 0), (10, .bool y1.1), (58, .int .i64 a1), (59, .int .i64 a2)], [some (.gen 48 2 [[.int .i64 g_0, .fn 2 g_1.length (fun i => [.int .i64 ((g_1.getD i (0, 0)).1), .int .i64 ((g_1.getD i (0, 0)).2)])]])]⟩) : AA 12 #[false, false, false, false, false, true, false, false, false, false, false, false, false] ⟨76, [(1, .int .i64 a1), (2, .int .i64 a2), (3, .ptr 0 0 0), (10, .bool y1.1), (58, .int .i64 a1)], [some (.gen 48 2 [[.int .i64 g_0, .fn 2 g_1.length (fun i => [.int .i64 ((g_1.getD i (0, 0)).1), .int .i64 ((g_1.getD i (0, 0)).2)])]])]⟩ := (hAA _ _ _).2 (by
    refine AWPB_take tab_ok [1, 2, 3, 10, 12, 53, 54, 55, 56, 57, 58, 59, 60, 61, 62, 63] 6 _ rfl rfl (by kernel_rfl) fun c st' hr => ?_
    simp only [go_sem, reduceIte, reduceCtorEq, Nat.reduceEqDiff, Nat.reduceLT, Nat.reduceLeDiff, Nat.reduceBEq, Nat.reduceAdd, Nat.reduceMul, Nat.reduceSub, Nat.reducePow, Int.reduceLE, Int.reduceLT, Int.reduceNeg, Int.reduceToNat, Int.reduceAdd, Int.reduceSub] at hr
    obtain ⟨rfl, rfl⟩ := hr
    refine ⟨vc, ?_⟩
    exact AWPB_wk [0] mkWk ((hAA _ _ _).1 hn80))
set_option maxRecDepth 8000 in
set_option maxHeartbeats 4000000 in
theorem J_hn82 {a1 a2 g_0 : Int} {g_1 y2 : List (Int × Int)} {y1 : Bool × Int} (hy : slices_Clone_api_Edge_api_Edge g_1 = some y2) (h : (y2 ++ [(a1, a2)]).length ≤ 8796093022208) {w0 : World} {Q : Exit → St → Prop} {AA : Nat → Array Bool → St → Prop} (hAA : ∀ g L st, AA g L st ↔ AWPB Try.prog w0 reg7.toArray Q g L st) (hn81 : AA 12 #[false, false, false, false, false, true, false, false, false, false, false, false, false] ⟨76, [(1, .int .i64 a1), (2, .int .i64 a2), (3, .ptr 0 0 0), (10, .bool y1.1), (58, .int .i64 a1)], [some (.gen 48 2 [[.int .i64 g_0, .fn 2 g_1.length (fun i => [.int .i64 ((g_1.getD i (0, 0)).1), .int .i64 ((g_1.getD i (0, 0)).2)])]])]⟩) : AA 13 #[false, false, false, false, false, false, false, false, false, false, false, false, false] ⟨76, [(1, .int .i64 a1), (2, .int .i64 a2), (3, .ptr 0 0 0), (10, .bool y1.1)], [some (.gen 48 2 [[.int .i64 g_0, .fn 2 g_1.length (fun i => [.int .i64 ((g_1.getD i (0, 0)).1), .int .i64 ((g_1.getD i (0, 0)).2)])]])]⟩ := (hAA _ _ _).2 (by
    refine AWPB_take tab_ok [1, 2, 3, 10, 12, 53, 54, 55, 56, 57, 58, 59, 60, 61, 62, 63] 5 _ rfl rfl (by kernel_rfl) fun c st' hr => ?_
    simp only [go_sem, reduceIte, reduceCtorEq, Nat.reduceEqDiff, Nat.reduceLT, Nat.reduceLeDiff, Nat.reduceBEq, Nat.reduceAdd, Nat.reduceMul, Nat.reduceSub, Nat.reducePow, Int.reduceLE, Int.reduceLT, Int.reduceNeg, Int.reduceToNat, Int.reduceAdd, Int.reduceSub] at hr
    obtain ⟨rfl, rfl⟩ := hr
    refine ⟨vc, ?_⟩
    exact AWPB_wk [0] mkWk ((hAA _ _ _).1 hn81))
set_option maxRecDepth 8000 in
set_option maxHeartbeats 4000000 in
theorem W_rotakeep_GameFirst {g_0 : Int} {g_1 : List (Int × Int)} {a1 : Int} {a2 : Int} {r : Bool} (hK : rotakeep_GameFirst g_0 g_1 a1 a2 = some r) : Pure Try.prog 7 [.agg [.int .i64 g_0, .fn 2 g_1.length (fun i => [.int .i64 ((g_1.getD i (0, 0)).1), .int .i64 ((g_1.getD i (0, 0)).2)])], .int .i64 a1, .int .i64 a2] (.bool r) [] := by
  refine Pure_introF tab_ok (n := 76) (l := [.tmp 6]) Try.func7 rfl rfl rfl (by simp) fun hfact w0 => ?_
  simp only [factL1, fact1, fact0, factL0, lo, hi, maxLen, and_true] at hfact
  unfold rotakeep_GameFirst at hK
  refine AWP_seq ?_
  -- region 0
  refine AWP_rg tab_ok [1, 2, 3] fun c st' hr => ?_
  simp only [go_sem, reduceIte, reduceCtorEq, Nat.reduceEqDiff, Nat.reduceLT, Nat.reduceLeDiff, Nat.reduceBEq, Nat.reduceAdd, Nat.reduceMul, Nat.reduceSub, Nat.reducePow, Int.reduceLE, Int.reduceLT, Int.reduceNeg, Int.reduceToNat, Int.reduceAdd, Int.reduceSub] at hr
  obtain ⟨rfl, rfl⟩ := hr
  refine ⟨vc, ?_⟩
  with_reducible refine thenC_normal ?_
  refine AWP_seq ?_
  refine AWP_seq ?_
  -- region 1
  refine AWP_rl ?_
  refine AWPL_rn tab_ok 1 [1, 2, 3, 17] fun c st' hr => ?_
  simp only [go_sem, reduceIte, reduceCtorEq, Nat.reduceEqDiff, Nat.reduceLT, Nat.reduceLeDiff, Nat.reduceBEq, Nat.reduceAdd, Nat.reduceMul, Nat.reduceSub, Nat.reducePow, Int.reduceLE, Int.reduceLT, Int.reduceNeg, Int.reduceToNat, Int.reduceAdd, Int.reduceSub] at hr
  obtain ⟨rfl, rfl⟩ := hr
  refine ⟨vc, ?_⟩
  replace hK := bind_s hK
  obtain ⟨y, hy, hK⟩ := hK
  refine AWPL_callK [1, 2, 3, 18] (W_game_Twins hy) rfl rfl pcT rfl Try.call28 (.cons (.agg _ _ rfl (ArgsOk.get (.cons (.atom _ rfl) (.cons (by first | exact .nilI _ | exact .fnOf _ _ _ _ (.nilM _)) .nil))).2) (.cons (.atom _ rfl) (.cons (.atom _ rfl) .nil))) (hscG trivial) (of_decide_eq_true rfl) (by first | rfl | simp [nI, nI1, nI0]) (by first | rfl | simp [nIB, nI0]) fun st' hr => ?_
  simp only [go_sem, reduceIte, reduceCtorEq, Nat.reduceEqDiff, Nat.reduceLT, Nat.reduceLeDiff, Nat.reduceBEq, Nat.reduceAdd, Nat.reduceMul, Nat.reduceSub, Nat.reducePow, Int.reduceLE, Int.reduceLT, Int.reduceNeg, Int.reduceToNat, Int.reduceAdd, Int.reduceSub] at hr
  subst hr
  clear hy
  refine AWPL_rn tab_ok 7 [1, 2, 3, 7, 8, 9] fun c st' hr => ?_
  simp only [go_sem, reduceIte, reduceCtorEq, Nat.reduceEqDiff, Nat.reduceLT, Nat.reduceLeDiff, Nat.reduceBEq, Nat.reduceAdd, Nat.reduceMul, Nat.reduceSub, Nat.reducePow, Int.reduceLE, Int.reduceLT, Int.reduceNeg, Int.reduceToNat, Int.reduceAdd, Int.reduceSub] at hr
  obtain ⟨rfl, rfl⟩ := hr
  refine ⟨vc, ?_⟩
  refine AWPL_nil ?_
  with_reducible refine thenC_normal ?_
  refine AWP_seq ?_
  -- region 2
  refine AWP_rg tab_ok [1, 2, 3, 31] fun c st' hr => ?_
  simp only [go_sem, reduceIte, reduceCtorEq, Nat.reduceEqDiff, Nat.reduceLT, Nat.reduceLeDiff, Nat.reduceBEq, Nat.reduceAdd, Nat.reduceMul, Nat.reduceSub, Nat.reducePow, Int.reduceLE, Int.reduceLT, Int.reduceNeg, Int.reduceToNat, Int.reduceAdd, Int.reduceSub] at hr
  obtain ⟨rfl, rfl⟩ := hr
  refine ⟨vc, ?_⟩
  with_reducible refine thenC_normal ?_
  refine AWP_condP (((y.2.2 ≠ 0 ∨ y.1 ≠ 0) ∨ y.2.1 ≠ 0)) rfl bd (fun hb => ?_) (fun hb => ?_)
  · replace hK := ite_t hK hb
    refine AWP_seq ?_
    -- region 3
    refine AWP_rg tab_ok [6] fun c st' hr => ?_
    simp only [go_sem, reduceIte, reduceCtorEq, Nat.reduceEqDiff, Nat.reduceLT, Nat.reduceLeDiff, Nat.reduceBEq, Nat.reduceAdd, Nat.reduceMul, Nat.reduceSub, Nat.reducePow, Int.reduceLE, Int.reduceLT, Int.reduceNeg, Int.reduceToNat, Int.reduceAdd, Int.reduceSub] at hr
    obtain ⟨rfl, rfl⟩ := hr
    refine ⟨vc, ?_⟩
    with_reducible refine thenC_normal ?_
    refine AWP_ret ?_
    with_reducible refine thenC_ret ?_
    cases hK
    refine EndsRW [] (.inl rfl) (of_decide_eq_true rfl) (by simp) rfl (fun c x hr => ?_) trivial
    simp only [go_sem, reduceIte, reduceCtorEq, Nat.reduceEqDiff, Nat.reduceLT, Nat.reduceLeDiff, Nat.reduceBEq, Nat.reduceAdd, Nat.reduceMul, Nat.reduceSub, Nat.reducePow, Int.reduceLE, Int.reduceLT, Int.reduceNeg, Int.reduceToNat, Int.reduceAdd, Int.reduceSub] at hr
    obtain ⟨rfl, rfl⟩ := hr
    exact ⟨rfl, endR⟩
  · replace hK := ite_f hK hb
    refine AWP_skip ?_
    with_reducible refine thenC_normal ?_
    refine AWP_seq ?_
    -- region 4
    refine AWP_rl ?_
    refine AWPL_rn tab_ok 3 [1, 2, 3, 33, 34, 35] fun c st' hr => ?_
    simp only [go_sem, reduceIte, reduceCtorEq, Nat.reduceEqDiff, Nat.reduceLT, Nat.reduceLeDiff, Nat.reduceBEq, Nat.reduceAdd, Nat.reduceMul, Nat.reduceSub, Nat.reducePow, Int.reduceLE, Int.reduceLT, Int.reduceNeg, Int.reduceToNat, Int.reduceAdd, Int.reduceSub] at hr
    obtain ⟨rfl, rfl⟩ := hr
    refine ⟨vc, ?_⟩
    replace hK := bind_s hK
    obtain ⟨y1, hy, hK⟩ := hK
    refine AWPL_callK [1, 2, 3, 36] (W_game_Joins hy) rfl rfl pcT rfl Try.call25 (.cons (.agg _ _ rfl (ArgsOk.get (.cons (.atom _ rfl) (.cons (.atom _ rfl) .nil))).2) (.cons (.atom _ rfl) (.cons (.atom _ rfl) (.cons (.atom _ rfl) (.cons (.atom _ rfl) (.cons (.atom _ rfl) .nil)))))) (hscG trivial) (of_decide_eq_true rfl) (by first | rfl | simp [nI, nI1, nI0]) (by first | rfl | simp [nIB, nI0]) fun st' hr => ?_
    simp only [go_sem, reduceIte, reduceCtorEq, Nat.reduceEqDiff, Nat.reduceLT, Nat.reduceLeDiff, Nat.reduceBEq, Nat.reduceAdd, Nat.reduceMul, Nat.reduceSub, Nat.reducePow, Int.reduceLE, Int.reduceLT, Int.reduceNeg, Int.reduceToNat, Int.reduceAdd, Int.reduceSub] at hr
    subst hr
    clear hy
    refine AWPL_rn tab_ok 5 [1, 2, 3, 10, 11] fun c st' hr => ?_
    simp only [go_sem, reduceIte, reduceCtorEq, Nat.reduceEqDiff, Nat.reduceLT, Nat.reduceLeDiff, Nat.reduceBEq, Nat.reduceAdd, Nat.reduceMul, Nat.reduceSub, Nat.reducePow, Int.reduceLE, Int.reduceLT, Int.reduceNeg, Int.reduceToNat, Int.reduceAdd, Int.reduceSub] at hr
    obtain ⟨rfl, rfl⟩ := hr
    refine ⟨vc, ?_⟩
    refine AWPL_nil ?_
    with_reducible refine thenC_normal ?_
    refine AWP_seq ?_
    refine AWP_seq ?_
    -- region 5
    refine AWP_rg tab_ok [1, 2, 3, 10, 11, 46] fun c st' hr => ?_
    simp only [go_sem, reduceIte, reduceCtorEq, Nat.reduceEqDiff, Nat.reduceLT, Nat.reduceLeDiff, Nat.reduceBEq, Nat.reduceAdd, Nat.reduceMul, Nat.reduceSub, Nat.reducePow, Int.reduceLE, Int.reduceLT, Int.reduceNeg, Int.reduceToNat, Int.reduceAdd, Int.reduceSub] at hr
    obtain ⟨rfl, rfl⟩ := hr
    refine ⟨vc, ?_⟩
    with_reducible refine thenC_normal ?_
    refine AWP_condP ((y1.2 ≠ 0 ∨ (g_1.length : Int) = 8)) rfl bd (fun hb1 => ?_) (fun hb1 => ?_)
    · replace hK := ite_t hK hb1
      refine AWP_seq ?_
      -- region 6
      refine AWP_rg tab_ok [6] fun c st' hr => ?_
      simp only [go_sem, reduceIte, reduceCtorEq, Nat.reduceEqDiff, Nat.reduceLT, Nat.reduceLeDiff, Nat.reduceBEq, Nat.reduceAdd, Nat.reduceMul, Nat.reduceSub, Nat.reducePow, Int.reduceLE, Int.reduceLT, Int.reduceNeg, Int.reduceToNat, Int.reduceAdd, Int.reduceSub] at hr
      obtain ⟨rfl, rfl⟩ := hr
      refine ⟨vc, ?_⟩
      with_reducible refine thenC_normal ?_
      refine AWP_ret ?_
      with_reducible refine thenC_ret ?_
      cases hK
      refine EndsRW [] (.inl rfl) (of_decide_eq_true rfl) (by simp) rfl (fun c x hr => ?_) trivial
      simp only [go_sem, reduceIte, reduceCtorEq, Nat.reduceEqDiff, Nat.reduceLT, Nat.reduceLeDiff, Nat.reduceBEq, Nat.reduceAdd, Nat.reduceMul, Nat.reduceSub, Nat.reducePow, Int.reduceLE, Int.reduceLT, Int.reduceNeg, Int.reduceToNat, Int.reduceAdd, Int.reduceSub] at hr
      obtain ⟨rfl, rfl⟩ := hr
      exact ⟨rfl, endR⟩
    · replace hK := ite_f hK hb1
      refine AWP_skip ?_
      with_reducible refine thenC_normal ?_
      refine AWP_seq ?_
      -- region 7
      replace hK := bind_s hK
      obtain ⟨y2, hy, hK⟩ := hK
      replace hK := chk_some hK
      obtain ⟨h, hK⟩ := hK
      refine AWP_drawJ ⟨76, [(1, .int .i64 a1), (2, .int .i64 a2), (10, .bool y1.1), (12, .ptr 4 0 0)], [some (.gen 48 2 [[.int .i64 g_0, .fn 2 g_1.length (fun i => [.int .i64 ((g_1.getD i (0, 0)).1), .int .i64 ((g_1.getD i (0, 0)).2)])]]), none, some (.gen 52 2 (List.map (fun e => [.int .i64 e.1, .int .i64 e.2]) [(a1, a2)])), some (.gen 52 2 (List.map (fun e => [.int .i64 e.1, .int .i64 e.2]) (y2 ++ [(a1, a2)]))), some (.gen 48 2 [[.int .i64 g_0, .own 3 ((y2 ++ [(a1, a2)]).length)]])]⟩ mixed ?_ ?_
      · change AWPB _ _ reg7.toArray _ _ _ _
        refine AWPB_memo fun AA hAA => ?_
        have hn : AA 0 #[true, true, true, true, true, true, true, true, true, true, true, true, true] ⟨76, [(1, .int .i64 a1), (2, .int .i64 a2), (10, .bool y1.1), (12, .ptr 4 0 0)], [some (.gen 48 2 [[.int .i64 g_0, .fn 2 g_1.length (fun i => [.int .i64 ((g_1.getD i (0, 0)).1), .int .i64 ((g_1.getD i (0, 0)).2)])]]), none, some (.gen 52 2 (List.map (fun e => [.int .i64 e.1, .int .i64 e.2]) [(a1, a2)])), some (.gen 52 2 (List.map (fun e => [.int .i64 e.1, .int .i64 e.2]) (y2 ++ [(a1, a2)]))), some (.gen 48 2 [[.int .i64 g_0, .own 3 ((y2 ++ [(a1, a2)]).length)]])]⟩ := (hAA _ _ _).2 (by
          exact AWPB_end [0, 1, 2, 3, 4] (by kernel_rfl) mkWk)
        have hn1 := J_hn1 hy h hAA hn
        have hn2 := J_hn2 hy h hAA hn1
        have hn3 := J_hn3 hy h hAA hn1
        have hn4 := J_hn4 hy h hAA hn2 hn3
        have hn5 := J_hn5 hy h hAA hn3
        have hn6 := J_hn6 hy h hAA hn4 hn5
        have hn7 := J_hn7 hy h hAA hn5
        have hn8 := J_hn8 hy h hAA hn6 hn7
        have hn9 := J_hn9 hy h hAA hn7
        have hn10 := J_hn10 hy h hAA hn8 hn9
        have hn11 := J_hn11 hy h hAA hn5
        have hn12 := J_hn12 hy h hAA hn6 hn11
        have hn13 := J_hn13 hy h hAA hn7 hn11
        have hn14 := J_hn14 hy h hAA hn8 hn12 hn13
        have hn15 := J_hn15 hy h hAA hn9 hn13
        have hn16 := J_hn16 hy h hAA hn10 hn14 hn15
        have hn17 := J_hn17 hy h hAA hn11
        have hn18 := J_hn18 hy h hAA hn12 hn17
        have hn19 := J_hn19 hy h hAA hn13 hn17
        have hn20 := J_hn20 hy h hAA hn14 hn18 hn19
        have hn21 := J_hn21 hy h hAA hn15 hn19
        have hn22 := J_hn22 hy h hAA hn16 hn20 hn21
        have hn23 := J_hn23 hy h hAA hn17
        have hn24 := J_hn24 hy h hAA hn18 hn23
        have hn25 := J_hn25 hy h hAA hn19 hn23
        have hn26 := J_hn26 hy h hAA hn20 hn24 hn25
        have hn27 := J_hn27 hy h hAA hn21 hn25
        have hn28 := J_hn28 hy h hAA hn22 hn26 hn27
        have hn29 := J_hn29 hy h hAA hn3
        have hn30 := J_hn30 hy h hAA hn4 hn29
        have hn31 := J_hn31 hy h hAA hn5 hn29
        have hn32 := J_hn32 hy h hAA hn6 hn30 hn31
        have hn33 := J_hn33 hy h hAA hn7 hn31
        have hn34 := J_hn34 hy h hAA hn8 hn32 hn33
        have hn35 := J_hn35 hy h hAA hn9 hn33
        have hn36 := J_hn36 hy h hAA hn10 hn34 hn35
        have hn37 := J_hn37 hy h hAA hn11 hn31
        have hn38 := J_hn38 hy h hAA hn12 hn32 hn37
        have hn39 := J_hn39 hy h hAA hn13 hn33 hn37
        have hn40 := J_hn40 hy h hAA hn14 hn34 hn38 hn39
        have hn41 := J_hn41 hy h hAA hn15 hn35 hn39
        have hn42 := J_hn42 hy h hAA hn16 hn36 hn40 hn41
        have hn43 := J_hn43 hy h hAA hn17 hn37
        have hn44 := J_hn44 hy h hAA hn18 hn38 hn43
        have hn45 := J_hn45 hy h hAA hn19 hn39 hn43
        have hn46 := J_hn46 hy h hAA hn20 hn40 hn44 hn45
        have hn47 := J_hn47 hy h hAA hn21 hn41 hn45
        have hn48 := J_hn48 hy h hAA hn22 hn42 hn46 hn47
        have hn49 := J_hn49 hy h hAA hn23 hn43
        have hn50 := J_hn50 hy h hAA hn24 hn44 hn49
        have hn51 := J_hn51 hy h hAA hn25 hn45 hn49
        have hn52 := J_hn52 hy h hAA hn26 hn46 hn50 hn51
        have hn53 := J_hn53 hy h hAA hn27 hn47 hn51
        have hn54 := J_hn54 hy h hAA hn28 hn48 hn52 hn53
        have hn55 := J_hn55 hy h hAA hn29
        have hn56 := J_hn56 hy h hAA hn30 hn55
        have hn57 := J_hn57 hy h hAA hn31 hn55
        have hn58 := J_hn58 hy h hAA hn32 hn56 hn57
        have hn59 := J_hn59 hy h hAA hn33 hn57
        have hn60 := J_hn60 hy h hAA hn34 hn58 hn59
        have hn61 := J_hn61 hy h hAA hn35 hn59
        have hn62 := J_hn62 hy h hAA hn36 hn60 hn61
        have hn63 := J_hn63 hy h hAA hn37 hn57
        have hn64 := J_hn64 hy h hAA hn38 hn58 hn63
        have hn65 := J_hn65 hy h hAA hn39 hn59 hn63
        have hn66 := J_hn66 hy h hAA hn40 hn60 hn64 hn65
        have hn67 := J_hn67 hy h hAA hn41 hn61 hn65
        have hn68 := J_hn68 hy h hAA hn42 hn62 hn66 hn67
        have hn69 := J_hn69 hy h hAA hn43 hn63
        have hn70 := J_hn70 hy h hAA hn44 hn64 hn69
        have hn71 := J_hn71 hy h hAA hn45 hn65 hn69
        have hn72 := J_hn72 hy h hAA hn46 hn66 hn70 hn71
        have hn73 := J_hn73 hy h hAA hn47 hn67 hn71
        have hn74 := J_hn74 hy h hAA hn48 hn68 hn72 hn73
        have hn75 := J_hn75 hy h hAA hn49 hn69
        have hn76 := J_hn76 hy h hAA hn50 hn70 hn75
        have hn77 := J_hn77 hy h hAA hn51 hn71 hn75
        have hn78 := J_hn78 hy h hAA hn52 hn72 hn76 hn77
        have hn79 := J_hn79 hy h hAA hn53 hn73 hn77
        have hn80 := J_hn80 hy h hAA hn54 hn74 hn78 hn79
        have hn81 := J_hn81 hy h hAA hn80
        have hn82 := J_hn82 hy h hAA hn81
        exact (hAA _ _ _).2 (AWPB_wk [0] mkWk ((hAA _ _ _).1 hn82))
      with_reducible refine thenC_normal ?_
      refine AWP_seq ?_
      -- region 8
      refine AWP_rl ?_
      refine AWPL_rn tab_ok 3 [10, 65, 66, 67] fun c st' hr => ?_
      simp only [go_sem, reduceIte, reduceCtorEq, Nat.reduceEqDiff, Nat.reduceLT, Nat.reduceLeDiff, Nat.reduceBEq, Nat.reduceAdd, Nat.reduceMul, Nat.reduceSub, Nat.reducePow, Int.reduceLE, Int.reduceLT, Int.reduceNeg, Int.reduceToNat, Int.reduceAdd, Int.reduceSub] at hr
      obtain ⟨rfl, rfl⟩ := hr
      refine ⟨vc, ?_⟩
      replace hK := bind_s hK
      obtain ⟨y3, hy, hK⟩ := hK
      refine AWPL_callK [10, 68] (W_game_Twins hy) rfl rfl pcT rfl Try.call28 (.cons (.agg _ _ rfl (ArgsOk.get (.cons (.atom _ rfl) (.cons (.ownEnc (fun e => [.int .i64 e.1, .int .i64 e.2]) (0, 0) (y2 ++ [(a1, a2)]) (by first | rfl | (simp only [List.map_append, List.map_cons, List.map_nil]; rfl) | (simp [getB]; done)) (by first | rfl | (simp; done)) (fun _ => rfl) (fun _ => rfl)) .nil))).2) (.cons (.atom _ rfl) (.cons (.atom _ rfl) .nil))) (hscG trivial) (of_decide_eq_true rfl) (by first | rfl | simp [nI, nI1, nI0]) (by first | rfl | simp [nIB, nI0]) fun st' hr => ?_
      simp only [go_sem, reduceIte, reduceCtorEq, Nat.reduceEqDiff, Nat.reduceLT, Nat.reduceLeDiff, Nat.reduceBEq, Nat.reduceAdd, Nat.reduceMul, Nat.reduceSub, Nat.reducePow, Int.reduceLE, Int.reduceLT, Int.reduceNeg, Int.reduceToNat, Int.reduceAdd, Int.reduceSub] at hr
      subst hr
      clear hy
      refine AWPL_rn tab_ok 7 [10, 15] fun c st' hr => ?_
      simp only [go_sem, reduceIte, reduceCtorEq, Nat.reduceEqDiff, Nat.reduceLT, Nat.reduceLeDiff, Nat.reduceBEq, Nat.reduceAdd, Nat.reduceMul, Nat.reduceSub, Nat.reducePow, Int.reduceLE, Int.reduceLT, Int.reduceNeg, Int.reduceToNat, Int.reduceAdd, Int.reduceSub] at hr
      obtain ⟨rfl, rfl⟩ := hr
      refine ⟨vc, ?_⟩
      refine AWPL_nil ?_
      with_reducible refine thenC_normal ?_
      refine AWP_seq ?_
      -- region 9
      refine AWP_rg tab_ok [6] fun c st' hr => ?_
      simp only [go_sem, reduceIte, reduceCtorEq, Nat.reduceEqDiff, Nat.reduceLT, Nat.reduceLeDiff, Nat.reduceBEq, Nat.reduceAdd, Nat.reduceMul, Nat.reduceSub, Nat.reducePow, Int.reduceLE, Int.reduceLT, Int.reduceNeg, Int.reduceToNat, Int.reduceAdd, Int.reduceSub] at hr
      obtain ⟨rfl, rfl⟩ := hr
      refine ⟨vc, ?_⟩
      with_reducible refine thenC_normal ?_
      refine AWP_ret ?_
      cases hK
      refine EndsRW [] (.inl rfl) (of_decide_eq_true rfl) (by simp) rfl (fun c x hr => ?_) trivial
      simp only [go_sem, reduceIte, reduceCtorEq, Nat.reduceEqDiff, Nat.reduceLT, Nat.reduceLeDiff, Nat.reduceBEq, Nat.reduceAdd, Nat.reduceMul, Nat.reduceSub, Nat.reducePow, Int.reduceLE, Int.reduceLT, Int.reduceNeg, Int.reduceToNat, Int.reduceAdd, Int.reduceSub] at hr
      obtain ⟨rfl, rfl⟩ := hr
      exact ⟨rfl, endR⟩

end Go.SH
