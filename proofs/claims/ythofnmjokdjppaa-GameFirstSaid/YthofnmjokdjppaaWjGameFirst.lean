/-
  That the code computes these functions: rotakeep_GameFirst. By a program of mine (shal.py). Conditions: none.
-/
import Derived.Test.YthofnmjokdjppaaAxT
import Derived.Test.YthofnmjokdjppaaAxR
import Derived.Test.YthofnmjokdjppaaAxJm
import Derived.Test.YthofnmjokdjppaaAxW
import Derived.Test.YthofnmjokdjppaaSkGameFirst
import Derived.Test.YthofnmjokdjppaaWpgame
import Derived.Test.YthofnmjokdjppaaWpclone
set_option linter.unusedVariables false
set_option linter.unusedSimpArgs false
namespace Go.SH
open Go Go.AX Go.AX.Try Go.Proofs

def regIn (k : Nat) : Code → Option (List Oper)
  | .region id ops _ => if id = k then some ops.toList else none
  | .seq a b => (regIn k a).or (regIn k b)
  | .cond _ a b => (regIn k a).or (regIn k b)
  | .block _ a => regIn k a
  | .loop a => regIn k a
  | _ => none
/-- The operations of the drawn region. -/
def reg7 : List Oper := (⟨_, rfl⟩ : { l : List Oper // (Try.f7.body.bind (regIn 7)) = some l }).1

set_option maxRecDepth 8000 in
set_option maxHeartbeats 4000000 in
theorem J_hn1 {a1 a2 g_0 : Int} {g_1 y2 : List (Int × Int)} {y1 : Bool × Int} (hy : slices_Clone_api_Edge_api_Edge g_1 = some y2) (h : (y2 ++ [(a1, a2)]).length ≤ 8796093022208) {w0 : World} {Q : Exit → St → Prop} {AA : Nat → Array Bool → St → Prop} (hAA : ∀ g L st, AA g L st ↔ AWPB Try.prog w0 reg7.toArray Q g L st) (hn : AA 0 #[true, true, true, true, true, true, true, true, true, true, true, true, true] ⟨76, [(1, .int .i64 a1), (2, .int .i64 a2), (10, .bool y1.1), (12, .ptr 4 0 0)], [some (.gen 48 2 [[.int .i64 g_0, .fn 2 g_1.length (fun i => [.int .i64 ((g_1.getD i (0, 0)).1), .int .i64 ((g_1.getD i (0, 0)).2)])]]), none, some (.gen 52 2 (List.map (fun e => [.int .i64 e.1, .int .i64 e.2]) [(a1, a2)])), some (.gen 52 2 (List.map (fun e => [.int .i64 e.1, .int .i64 e.2]) (y2 ++ [(a1, a2)]))), some (.gen 48 2 [[.int .i64 g_0, .own 3 ((y2 ++ [(a1, a2)]).length)]])]⟩) : AA 1 #[true, true, true, true, true, true, true, true, true, true, true, true, false] ⟨76, [(1, .int .i64 a1), (2, .int .i64 a2), (10, .bool y1.1), (12, .ptr 4 0 0), (63, .agg [.int .i64 g_0, .own 3 ((y2 ++ [(a1, a2)]).length)])], [some (.gen 48 2 [[.int .i64 g_0, .fn 2 g_1.length (fun i => [.int .i64 ((g_1.getD i (0, 0)).1), .int .i64 ((g_1.getD i (0, 0)).2)])]]), none, some (.gen 52 2 (List.map (fun e => [.int .i64 e.1, .int .i64 e.2]) [(a1, a2)])), some (.gen 52 2 (List.map (fun e => [.int .i64 e.1, .int .i64 e.2]) (y2 ++ [(a1, a2)]))), some (.gen 48 2 [[.int .i64 0, .nil]])]⟩ := (hAA _ _ _).2 (by
    refine AWPB_one 12 _ (by kernel_rfl) rfl ?_
    refine AWPL_rn tab_ok 1 [1, 2, 10, 12] fun c st' hr => ?_
    simp only [go_sem, reduceIte, reduceCtorEq, Nat.reduceEqDiff, Nat.reduceLT, Nat.reduceLeDiff, Nat.reduceBEq, Nat.reduceAdd, Nat.reduceMul, Nat.reduceSub, Nat.reducePow, Int.reduceLE, Int.reduceLT, Int.reduceNeg, Int.reduceToNat, Int.reduceAdd, Int.reduceSub] at hr
    obtain ⟨rfl, rfl⟩ := hr
    refine ⟨vc, ?_⟩
    refine AWPL_nil ?_
    refine QB_normal ?_
    exact AWPB_wk [0, 1, 2, 3, 4] mkWk ((hAA _ _ _).1 hn))
set_option maxRecDepth 8000 in
set_option maxHeartbeats 4000000 in
theorem J_hn2 {a1 a2 g_0 : Int} {g_1 y2 : List (Int × Int)} {y1 : Bool × Int} (hy : slices_Clone_api_Edge_api_Edge g_1 = some y2) (h : (y2 ++ [(a1, a2)]).length ≤ 8796093022208) {w0 : World} {Q : Exit → St → Prop} {AA : Nat → Array Bool → St → Prop} (hAA : ∀ g L st, AA g L st ↔ AWPB Try.prog w0 reg7.toArray Q g L st) (hn1 : AA 1 #[true, true, true, true, true, true, true, true, true, true, true, true, false] ⟨76, [(1, .int .i64 a1), (2, .int .i64 a2), (10, .bool y1.1), (12, .ptr 4 0 0), (63, .agg [.int .i64 g_0, .own 3 ((y2 ++ [(a1, a2)]).length)])], [some (.gen 48 2 [[.int .i64 g_0, .fn 2 g_1.length (fun i => [.int .i64 ((g_1.getD i (0, 0)).1), .int .i64 ((g_1.getD i (0, 0)).2)])]]), none, some (.gen 52 2 (List.map (fun e => [.int .i64 e.1, .int .i64 e.2]) [(a1, a2)])), some (.gen 52 2 (List.map (fun e => [.int .i64 e.1, .int .i64 e.2]) (y2 ++ [(a1, a2)]))), some (.gen 48 2 [[.int .i64 0, .nil]])]⟩) : AA 2 #[true, true, true, true, true, true, true, true, true, true, true, false, false] ⟨76, [(1, .int .i64 a1), (2, .int .i64 a2), (10, .bool y1.1), (63, .agg [.int .i64 g_0, .own 3 ((y2 ++ [(a1, a2)]).length)])], [some (.gen 48 2 [[.int .i64 g_0, .fn 2 g_1.length (fun i => [.int .i64 ((g_1.getD i (0, 0)).1), .int .i64 ((g_1.getD i (0, 0)).2)])]]), none, some (.gen 52 2 (List.map (fun e => [.int .i64 e.1, .int .i64 e.2]) [(a1, a2)])), some (.gen 52 2 (List.map (fun e => [.int .i64 e.1, .int .i64 e.2]) (y2 ++ [(a1, a2)])))]⟩ := (hAA _ _ _).2 (by
    refine AWPB_one 11 _ (by kernel_rfl) rfl ?_
    refine AWPL_rn tab_ok 1 [1, 2, 10, 12, 63] fun c st' hr => ?_
    simp only [go_sem, reduceIte, reduceCtorEq, Nat.reduceEqDiff, Nat.reduceLT, Nat.reduceLeDiff, Nat.reduceBEq, Nat.reduceAdd, Nat.reduceMul, Nat.reduceSub, Nat.reducePow, Int.reduceLE, Int.reduceLT, Int.reduceNeg, Int.reduceToNat, Int.reduceAdd, Int.reduceSub] at hr
    obtain ⟨rfl, rfl⟩ := hr
    refine ⟨vc, ?_⟩
    refine AWPL_nil ?_
    refine QB_normal ?_
    exact AWPB_wk [0, 1, 2, 3, 4] mkWk ((hAA _ _ _).1 hn1))
set_option maxRecDepth 8000 in
set_option maxHeartbeats 4000000 in
theorem J_hn3 {a1 a2 g_0 : Int} {g_1 y2 : List (Int × Int)} {y1 : Bool × Int} (hy : slices_Clone_api_Edge_api_Edge g_1 = some y2) (h : (y2 ++ [(a1, a2)]).length ≤ 8796093022208) {w0 : World} {Q : Exit → St → Prop} {AA : Nat → Array Bool → St → Prop} (hAA : ∀ g L st, AA g L st ↔ AWPB Try.prog w0 reg7.toArray Q g L st) (hn1 : AA 1 #[true, true, true, true, true, true, true, true, true, true, true, true, false] ⟨76, [(1, .int .i64 a1), (2, .int .i64 a2), (10, .bool y1.1), (12, .ptr 4 0 0), (63, .agg [.int .i64 g_0, .own 3 ((y2 ++ [(a1, a2)]).length)])], [some (.gen 48 2 [[.int .i64 g_0, .fn 2 g_1.length (fun i => [.int .i64 ((g_1.getD i (0, 0)).1), .int .i64 ((g_1.getD i (0, 0)).2)])]]), none, some (.gen 52 2 (List.map (fun e => [.int .i64 e.1, .int .i64 e.2]) [(a1, a2)])), some (.gen 52 2 (List.map (fun e => [.int .i64 e.1, .int .i64 e.2]) (y2 ++ [(a1, a2)]))), some (.gen 48 2 [[.int .i64 0, .nil]])]⟩) : AA 2 #[true, true, true, true, true, true, true, true, true, true, false, true, false] ⟨76, [(1, .int .i64 a1), (2, .int .i64 a2), (10, .bool y1.1), (12, .ptr 4 0 0), (54, .int .i64 g_0), (62, .own 3 ((y2 ++ [(a1, a2)]).length))], [some (.gen 48 2 [[.int .i64 g_0, .fn 2 g_1.length (fun i => [.int .i64 ((g_1.getD i (0, 0)).1), .int .i64 ((g_1.getD i (0, 0)).2)])]]), none, some (.gen 52 2 (List.map (fun e => [.int .i64 e.1, .int .i64 e.2]) [(a1, a2)])), some (.gen 52 2 (List.map (fun e => [.int .i64 e.1, .int .i64 e.2]) (y2 ++ [(a1, a2)]))), some (.gen 48 2 [[.int .i64 0, .nil]])]⟩ := (hAA _ _ _).2 (by
    refine AWPB_one 10 _ (by kernel_rfl) rfl ?_
    refine AWPL_rn tab_ok 1 [1, 2, 10, 12, 63] fun c st' hr => ?_
    simp only [go_sem, reduceIte, reduceCtorEq, Nat.reduceEqDiff, Nat.reduceLT, Nat.reduceLeDiff, Nat.reduceBEq, Nat.reduceAdd, Nat.reduceMul, Nat.reduceSub, Nat.reducePow, Int.reduceLE, Int.reduceLT, Int.reduceNeg, Int.reduceToNat, Int.reduceAdd, Int.reduceSub] at hr
    obtain ⟨rfl, rfl⟩ := hr
    refine ⟨vc, ?_⟩
    refine AWPL_nil ?_
    refine QB_normal ?_
    exact AWPB_wk [0, 1, 2, 3, 4] mkWk ((hAA _ _ _).1 hn1))
set_option maxRecDepth 8000 in
set_option maxHeartbeats 4000000 in
theorem J_hn4 {a1 a2 g_0 : Int} {g_1 y2 : List (Int × Int)} {y1 : Bool × Int} (hy : slices_Clone_api_Edge_api_Edge g_1 = some y2) (h : (y2 ++ [(a1, a2)]).length ≤ 8796093022208) {w0 : World} {Q : Exit → St → Prop} {AA : Nat → Array Bool → St → Prop} (hAA : ∀ g L st, AA g L st ↔ AWPB Try.prog w0 reg7.toArray Q g L st) (hn2 : AA 2 #[true, true, true, true, true, true, true, true, true, true, true, false, false] ⟨76, [(1, .int .i64 a1), (2, .int .i64 a2), (10, .bool y1.1), (63, .agg [.int .i64 g_0, .own 3 ((y2 ++ [(a1, a2)]).length)])], [some (.gen 48 2 [[.int .i64 g_0, .fn 2 g_1.length (fun i => [.int .i64 ((g_1.getD i (0, 0)).1), .int .i64 ((g_1.getD i (0, 0)).2)])]]), none, some (.gen 52 2 (List.map (fun e => [.int .i64 e.1, .int .i64 e.2]) [(a1, a2)])), some (.gen 52 2 (List.map (fun e => [.int .i64 e.1, .int .i64 e.2]) (y2 ++ [(a1, a2)])))]⟩) (hn3 : AA 2 #[true, true, true, true, true, true, true, true, true, true, false, true, false] ⟨76, [(1, .int .i64 a1), (2, .int .i64 a2), (10, .bool y1.1), (12, .ptr 4 0 0), (54, .int .i64 g_0), (62, .own 3 ((y2 ++ [(a1, a2)]).length))], [some (.gen 48 2 [[.int .i64 g_0, .fn 2 g_1.length (fun i => [.int .i64 ((g_1.getD i (0, 0)).1), .int .i64 ((g_1.getD i (0, 0)).2)])]]), none, some (.gen 52 2 (List.map (fun e => [.int .i64 e.1, .int .i64 e.2]) [(a1, a2)])), some (.gen 52 2 (List.map (fun e => [.int .i64 e.1, .int .i64 e.2]) (y2 ++ [(a1, a2)]))), some (.gen 48 2 [[.int .i64 0, .nil]])]⟩) : AA 3 #[true, true, true, true, true, true, true, true, true, true, false, false, false] ⟨76, [(1, .int .i64 a1), (2, .int .i64 a2), (10, .bool y1.1), (54, .int .i64 g_0), (62, .own 3 ((y2 ++ [(a1, a2)]).length))], [some (.gen 48 2 [[.int .i64 g_0, .fn 2 g_1.length (fun i => [.int .i64 ((g_1.getD i (0, 0)).1), .int .i64 ((g_1.getD i (0, 0)).2)])]]), none, some (.gen 52 2 (List.map (fun e => [.int .i64 e.1, .int .i64 e.2]) [(a1, a2)])), some (.gen 52 2 (List.map (fun e => [.int .i64 e.1, .int .i64 e.2]) (y2 ++ [(a1, a2)])))]⟩ := (hAA _ _ _).2 (by
    refine AWPB_two 10 11 _ _ (by kernel_rfl) rfl rfl ?_ ?_
    · skip
      refine AWPL_rn tab_ok 1 [1, 2, 10, 12, 63] fun c st' hr => ?_
      simp only [go_sem, reduceIte, reduceCtorEq, Nat.reduceEqDiff, Nat.reduceLT, Nat.reduceLeDiff, Nat.reduceBEq, Nat.reduceAdd, Nat.reduceMul, Nat.reduceSub, Nat.reducePow, Int.reduceLE, Int.reduceLT, Int.reduceNeg, Int.reduceToNat, Int.reduceAdd, Int.reduceSub] at hr
      obtain ⟨rfl, rfl⟩ := hr
      refine ⟨vc, ?_⟩
      refine AWPL_nil ?_
      refine QB_normal ?_
      exact AWPB_wk [0, 1, 2, 3] mkWk ((hAA _ _ _).1 hn2)
    · skip
      refine AWPL_rn tab_ok 1 [1, 2, 10, 12, 54, 62, 63] fun c st' hr => ?_
      simp only [go_sem, reduceIte, reduceCtorEq, Nat.reduceEqDiff, Nat.reduceLT, Nat.reduceLeDiff, Nat.reduceBEq, Nat.reduceAdd, Nat.reduceMul, Nat.reduceSub, Nat.reducePow, Int.reduceLE, Int.reduceLT, Int.reduceNeg, Int.reduceToNat, Int.reduceAdd, Int.reduceSub] at hr
      obtain ⟨rfl, rfl⟩ := hr
      refine ⟨vc, ?_⟩
      refine AWPL_nil ?_
      refine QB_normal ?_
      exact AWPB_wk [0, 1, 2, 3, 4] mkWk ((hAA _ _ _).1 hn3))
set_option maxRecDepth 8000 in
set_option maxHeartbeats 4000000 in
theorem J_hn5 {a1 a2 g_0 : Int} {g_1 y2 : List (Int × Int)} {y1 : Bool × Int} (hy : slices_Clone_api_Edge_api_Edge g_1 = some y2) (h : (y2 ++ [(a1, a2)]).length ≤ 8796093022208) {w0 : World} {Q : Exit → St → Prop} {AA : Nat → Array Bool → St → Prop} (hAA : ∀ g L st, AA g L st ↔ AWPB Try.prog w0 reg7.toArray Q g L st) (hn3 : AA 2 #[true, true, true, true, true, true, true, true, true, true, false, true, false] ⟨76, [(1, .int .i64 a1), (2, .int .i64 a2), (10, .bool y1.1), (12, .ptr 4 0 0), (54, .int .i64 g_0), (62, .own 3 ((y2 ++ [(a1, a2)]).length))], [some (.gen 48 2 [[.int .i64 g_0, .fn 2 g_1.length (fun i => [.int .i64 ((g_1.getD i (0, 0)).1), .int .i64 ((g_1.getD i (0, 0)).2)])]]), none, some (.gen 52 2 (List.map (fun e => [.int .i64 e.1, .int .i64 e.2]) [(a1, a2)])), some (.gen 52 2 (List.map (fun e => [.int .i64 e.1, .int .i64 e.2]) (y2 ++ [(a1, a2)]))), some (.gen 48 2 [[.int .i64 0, .nil]])]⟩) : AA 3 #[true, true, true, true, true, true, true, true, true, false, false, true, false] ⟨76, [(1, .int .i64 a1), (2, .int .i64 a2), (10, .bool y1.1), (12, .ptr 3 0 0), (54, .int .i64 g_0), (57, .own 1 y2.length), (61, .own 2 1)], [some (.gen 48 2 [[.int .i64 g_0, .fn 2 g_1.length (fun i => [.int .i64 ((g_1.getD i (0, 0)).1), .int .i64 ((g_1.getD i (0, 0)).2)])]]), some (.gen 52 2 (List.map (fun e => [.int .i64 e.1, .int .i64 e.2]) y2)), some (.gen 52 2 (List.map (fun e => [.int .i64 e.1, .int .i64 e.2]) [(a1, a2)])), some (.gen 48 2 [[.int .i64 0, .nil]])]⟩ := (hAA _ _ _).2 (by
    refine AWPB_one 9 _ (by kernel_rfl) rfl ?_
    refine AWPL_rn tab_ok 1 [1, 2, 10, 12, 54, 62, 63] fun c st' hr => ?_
    simp only [go_sem, reduceIte, reduceCtorEq, Nat.reduceEqDiff, Nat.reduceLT, Nat.reduceLeDiff, Nat.reduceBEq, Nat.reduceAdd, Nat.reduceMul, Nat.reduceSub, Nat.reducePow, Int.reduceLE, Int.reduceLT, Int.reduceNeg, Int.reduceToNat, Int.reduceAdd, Int.reduceSub] at hr
    obtain ⟨rfl, rfl⟩ := hr
    refine ⟨vc, ?_⟩
    refine AWPL_nil ?_
    refine QB_normal ?_
    exact AWPB_wk [0, 1, 2, 4, 3] mkWk ((hAA _ _ _).1 hn3))
set_option maxRecDepth 8000 in
set_option maxHeartbeats 4000000 in
theorem J_hn6 {a1 a2 g_0 : Int} {g_1 y2 : List (Int × Int)} {y1 : Bool × Int} (hy : slices_Clone_api_Edge_api_Edge g_1 = some y2) (h : (y2 ++ [(a1, a2)]).length ≤ 8796093022208) {w0 : World} {Q : Exit → St → Prop} {AA : Nat → Array Bool → St → Prop} (hAA : ∀ g L st, AA g L st ↔ AWPB Try.prog w0 reg7.toArray Q g L st) (hn4 : AA 3 #[true, true, true, true, true, true, true, true, true, true, false, false, false] ⟨76, [(1, .int .i64 a1), (2, .int .i64 a2), (10, .bool y1.1), (54, .int .i64 g_0), (62, .own 3 ((y2 ++ [(a1, a2)]).length))], [some (.gen 48 2 [[.int .i64 g_0, .fn 2 g_1.length (fun i => [.int .i64 ((g_1.getD i (0, 0)).1), .int .i64 ((g_1.getD i (0, 0)).2)])]]), none, some (.gen 52 2 (List.map (fun e => [.int .i64 e.1, .int .i64 e.2]) [(a1, a2)])), some (.gen 52 2 (List.map (fun e => [.int .i64 e.1, .int .i64 e.2]) (y2 ++ [(a1, a2)])))]⟩) (hn5 : AA 3 #[true, true, true, true, true, true, true, true, true, false, false, true, false] ⟨76, [(1, .int .i64 a1), (2, .int .i64 a2), (10, .bool y1.1), (12, .ptr 3 0 0), (54, .int .i64 g_0), (57, .own 1 y2.length), (61, .own 2 1)], [some (.gen 48 2 [[.int .i64 g_0, .fn 2 g_1.length (fun i => [.int .i64 ((g_1.getD i (0, 0)).1), .int .i64 ((g_1.getD i (0, 0)).2)])]]), some (.gen 52 2 (List.map (fun e => [.int .i64 e.1, .int .i64 e.2]) y2)), some (.gen 52 2 (List.map (fun e => [.int .i64 e.1, .int .i64 e.2]) [(a1, a2)])), some (.gen 48 2 [[.int .i64 0, .nil]])]⟩) : AA 4 #[true, true, true, true, true, true, true, true, true, false, false, false, false] ⟨76, [(1, .int .i64 a1), (2, .int .i64 a2), (10, .bool y1.1), (54, .int .i64 g_0), (57, .own 1 y2.length), (61, .own 2 1)], [some (.gen 48 2 [[.int .i64 g_0, .fn 2 g_1.length (fun i => [.int .i64 ((g_1.getD i (0, 0)).1), .int .i64 ((g_1.getD i (0, 0)).2)])]]), some (.gen 52 2 (List.map (fun e => [.int .i64 e.1, .int .i64 e.2]) y2)), some (.gen 52 2 (List.map (fun e => [.int .i64 e.1, .int .i64 e.2]) [(a1, a2)]))]⟩ := (hAA _ _ _).2 (by
    refine AWPB_two 9 11 _ _ (by kernel_rfl) rfl rfl ?_ ?_
    · skip
      refine AWPL_rn tab_ok 1 [1, 2, 10, 12, 54, 62, 63] fun c st' hr => ?_
      simp only [go_sem, reduceIte, reduceCtorEq, Nat.reduceEqDiff, Nat.reduceLT, Nat.reduceLeDiff, Nat.reduceBEq, Nat.reduceAdd, Nat.reduceMul, Nat.reduceSub, Nat.reducePow, Int.reduceLE, Int.reduceLT, Int.reduceNeg, Int.reduceToNat, Int.reduceAdd, Int.reduceSub] at hr
      obtain ⟨rfl, rfl⟩ := hr
      refine ⟨vc, ?_⟩
      refine AWPL_nil ?_
      refine QB_normal ?_
      exact AWPB_wk [0, 1, 2, 3] mkWk ((hAA _ _ _).1 hn4)
    · skip
      refine AWPL_rn tab_ok 1 [1, 2, 10, 12, 54, 57, 61, 62, 63] fun c st' hr => ?_
      simp only [go_sem, reduceIte, reduceCtorEq, Nat.reduceEqDiff, Nat.reduceLT, Nat.reduceLeDiff, Nat.reduceBEq, Nat.reduceAdd, Nat.reduceMul, Nat.reduceSub, Nat.reducePow, Int.reduceLE, Int.reduceLT, Int.reduceNeg, Int.reduceToNat, Int.reduceAdd, Int.reduceSub] at hr
      obtain ⟨rfl, rfl⟩ := hr
      refine ⟨vc, ?_⟩
      refine AWPL_nil ?_
      refine QB_normal ?_
      exact AWPB_wk [0, 1, 2, 3] mkWk ((hAA _ _ _).1 hn5))
set_option maxRecDepth 8000 in
set_option maxHeartbeats 4000000 in
theorem J_hn7 {a1 a2 g_0 : Int} {g_1 y2 : List (Int × Int)} {y1 : Bool × Int} (hy : slices_Clone_api_Edge_api_Edge g_1 = some y2) (h : (y2 ++ [(a1, a2)]).length ≤ 8796093022208) {w0 : World} {Q : Exit → St → Prop} {AA : Nat → Array Bool → St → Prop} (hAA : ∀ g L st, AA g L st ↔ AWPB Try.prog w0 reg7.toArray Q g L st) (hn5 : AA 3 #[true, true, true, true, true, true, true, true, true, false, false, true, false] ⟨76, [(1, .int .i64 a1), (2, .int .i64 a2), (10, .bool y1.1), (12, .ptr 3 0 0), (54, .int .i64 g_0), (57, .own 1 y2.length), (61, .own 2 1)], [some (.gen 48 2 [[.int .i64 g_0, .fn 2 g_1.length (fun i => [.int .i64 ((g_1.getD i (0, 0)).1), .int .i64 ((g_1.getD i (0, 0)).2)])]]), some (.gen 52 2 (List.map (fun e => [.int .i64 e.1, .int .i64 e.2]) y2)), some (.gen 52 2 (List.map (fun e => [.int .i64 e.1, .int .i64 e.2]) [(a1, a2)])), some (.gen 48 2 [[.int .i64 0, .nil]])]⟩) : AA 4 #[true, true, true, true, true, true, true, true, false, false, false, true, false] ⟨76, [(1, .int .i64 a1), (2, .int .i64 a2), (10, .bool y1.1), (12, .ptr 2 0 0), (54, .int .i64 g_0), (57, .own 1 y2.length), (60, .agg [.int .i64 a1, .int .i64 a2])], [some (.gen 48 2 [[.int .i64 g_0, .fn 2 g_1.length (fun i => [.int .i64 ((g_1.getD i (0, 0)).1), .int .i64 ((g_1.getD i (0, 0)).2)])]]), some (.gen 52 2 (List.map (fun e => [.int .i64 e.1, .int .i64 e.2]) y2)), some (.gen 48 2 [[.int .i64 0, .nil]])]⟩ := (hAA _ _ _).2 (by
    refine AWPB_one 8 _ (by kernel_rfl) rfl ?_
    refine AWPL_rn tab_ok 1 [1, 2, 10, 12, 54, 57, 61, 62, 63] fun c st' hr => ?_
    simp only [go_sem, reduceIte, reduceCtorEq, Nat.reduceEqDiff, Nat.reduceLT, Nat.reduceLeDiff, Nat.reduceBEq, Nat.reduceAdd, Nat.reduceMul, Nat.reduceSub, Nat.reducePow, Int.reduceLE, Int.reduceLT, Int.reduceNeg, Int.reduceToNat, Int.reduceAdd, Int.reduceSub] at hr
    obtain ⟨rfl, rfl⟩ := hr
    refine ⟨vc, ?_⟩
    refine AWPL_nil ?_
    refine QB_normal ?_
    exact AWPB_wk [0, 1, 3, 2] mkWk ((hAA _ _ _).1 hn5))
set_option maxRecDepth 8000 in
set_option maxHeartbeats 4000000 in
theorem J_hn8 {a1 a2 g_0 : Int} {g_1 y2 : List (Int × Int)} {y1 : Bool × Int} (hy : slices_Clone_api_Edge_api_Edge g_1 = some y2) (h : (y2 ++ [(a1, a2)]).length ≤ 8796093022208) {w0 : World} {Q : Exit → St → Prop} {AA : Nat → Array Bool → St → Prop} (hAA : ∀ g L st, AA g L st ↔ AWPB Try.prog w0 reg7.toArray Q g L st) (hn6 : AA 4 #[true, true, true, true, true, true, true, true, true, false, false, false, false] ⟨76, [(1, .int .i64 a1), (2, .int .i64 a2), (10, .bool y1.1), (54, .int .i64 g_0), (57, .own 1 y2.length), (61, .own 2 1)], [some (.gen 48 2 [[.int .i64 g_0, .fn 2 g_1.length (fun i => [.int .i64 ((g_1.getD i (0, 0)).1), .int .i64 ((g_1.getD i (0, 0)).2)])]]), some (.gen 52 2 (List.map (fun e => [.int .i64 e.1, .int .i64 e.2]) y2)), some (.gen 52 2 (List.map (fun e => [.int .i64 e.1, .int .i64 e.2]) [(a1, a2)]))]⟩) (hn7 : AA 4 #[true, true, true, true, true, true, true, true, false, false, false, true, false] ⟨76, [(1, .int .i64 a1), (2, .int .i64 a2), (10, .bool y1.1), (12, .ptr 2 0 0), (54, .int .i64 g_0), (57, .own 1 y2.length), (60, .agg [.int .i64 a1, .int .i64 a2])], [some (.gen 48 2 [[.int .i64 g_0, .fn 2 g_1.length (fun i => [.int .i64 ((g_1.getD i (0, 0)).1), .int .i64 ((g_1.getD i (0, 0)).2)])]]), some (.gen 52 2 (List.map (fun e => [.int .i64 e.1, .int .i64 e.2]) y2)), some (.gen 48 2 [[.int .i64 0, .nil]])]⟩) : AA 5 #[true, true, true, true, true, true, true, true, false, false, false, false, false] ⟨76, [(1, .int .i64 a1), (2, .int .i64 a2), (10, .bool y1.1), (54, .int .i64 g_0), (57, .own 1 y2.length), (60, .agg [.int .i64 a1, .int .i64 a2])], [some (.gen 48 2 [[.int .i64 g_0, .fn 2 g_1.length (fun i => [.int .i64 ((g_1.getD i (0, 0)).1), .int .i64 ((g_1.getD i (0, 0)).2)])]]), some (.gen 52 2 (List.map (fun e => [.int .i64 e.1, .int .i64 e.2]) y2))]⟩ := (hAA _ _ _).2 (by
    refine AWPB_two 8 11 _ _ (by kernel_rfl) rfl rfl ?_ ?_
    · skip
      refine AWPL_rn tab_ok 1 [1, 2, 10, 12, 54, 57, 61, 62, 63] fun c st' hr => ?_
      simp only [go_sem, reduceIte, reduceCtorEq, Nat.reduceEqDiff, Nat.reduceLT, Nat.reduceLeDiff, Nat.reduceBEq, Nat.reduceAdd, Nat.reduceMul, Nat.reduceSub, Nat.reducePow, Int.reduceLE, Int.reduceLT, Int.reduceNeg, Int.reduceToNat, Int.reduceAdd, Int.reduceSub] at hr
      obtain ⟨rfl, rfl⟩ := hr
      refine ⟨vc, ?_⟩
      refine AWPL_nil ?_
      refine QB_normal ?_
      exact AWPB_wk [0, 1, 2] mkWk ((hAA _ _ _).1 hn6)
    · skip
      refine AWPL_rn tab_ok 1 [1, 2, 10, 12, 54, 57, 60, 61, 62, 63] fun c st' hr => ?_
      simp only [go_sem, reduceIte, reduceCtorEq, Nat.reduceEqDiff, Nat.reduceLT, Nat.reduceLeDiff, Nat.reduceBEq, Nat.reduceAdd, Nat.reduceMul, Nat.reduceSub, Nat.reducePow, Int.reduceLE, Int.reduceLT, Int.reduceNeg, Int.reduceToNat, Int.reduceAdd, Int.reduceSub] at hr
      obtain ⟨rfl, rfl⟩ := hr
      refine ⟨vc, ?_⟩
      refine AWPL_nil ?_
      refine QB_normal ?_
      exact AWPB_wk [0, 1, 2] mkWk ((hAA _ _ _).1 hn7))
set_option maxRecDepth 8000 in
set_option maxHeartbeats 4000000 in
theorem J_hn9 {a1 a2 g_0 : Int} {g_1 y2 : List (Int × Int)} {y1 : Bool × Int} (hy : slices_Clone_api_Edge_api_Edge g_1 = some y2) (h : (y2 ++ [(a1, a2)]).length ≤ 8796093022208) {w0 : World} {Q : Exit → St → Prop} {AA : Nat → Array Bool → St → Prop} (hAA : ∀ g L st, AA g L st ↔ AWPB Try.prog w0 reg7.toArray Q g L st) (hn7 : AA 4 #[true, true, true, true, true, true, true, true, false, false, false, true, false] ⟨76, [(1, .int .i64 a1), (2, .int .i64 a2), (10, .bool y1.1), (12, .ptr 2 0 0), (54, .int .i64 g_0), (57, .own 1 y2.length), (60, .agg [.int .i64 a1, .int .i64 a2])], [some (.gen 48 2 [[.int .i64 g_0, .fn 2 g_1.length (fun i => [.int .i64 ((g_1.getD i (0, 0)).1), .int .i64 ((g_1.getD i (0, 0)).2)])]]), some (.gen 52 2 (List.map (fun e => [.int .i64 e.1, .int .i64 e.2]) y2)), some (.gen 48 2 [[.int .i64 0, .nil]])]⟩) : AA 5 #[true, true, true, true, true, true, true, false, false, false, false, true, false] ⟨76, [(1, .int .i64 a1), (2, .int .i64 a2), (10, .bool y1.1), (12, .ptr 2 0 0), (54, .int .i64 g_0), (57, .own 1 y2.length), (58, .int .i64 a1), (59, .int .i64 a2)], [some (.gen 48 2 [[.int .i64 g_0, .fn 2 g_1.length (fun i => [.int .i64 ((g_1.getD i (0, 0)).1), .int .i64 ((g_1.getD i (0, 0)).2)])]]), some (.gen 52 2 (List.map (fun e => [.int .i64 e.1, .int .i64 e.2]) y2)), some (.gen 48 2 [[.int .i64 0, .nil]])]⟩ := (hAA _ _ _).2 (by
    refine AWPB_one 7 _ (by kernel_rfl) rfl ?_
    refine AWPL_rn tab_ok 1 [1, 2, 10, 12, 54, 57, 60, 61, 62, 63] fun c st' hr => ?_
    simp only [go_sem, reduceIte, reduceCtorEq, Nat.reduceEqDiff, Nat.reduceLT, Nat.reduceLeDiff, Nat.reduceBEq, Nat.reduceAdd, Nat.reduceMul, Nat.reduceSub, Nat.reducePow, Int.reduceLE, Int.reduceLT, Int.reduceNeg, Int.reduceToNat, Int.reduceAdd, Int.reduceSub] at hr
    obtain ⟨rfl, rfl⟩ := hr
    refine ⟨vc, ?_⟩
    refine AWPL_nil ?_
    refine QB_normal ?_
    exact AWPB_wk [0, 1, 2] mkWk ((hAA _ _ _).1 hn7))
set_option maxRecDepth 8000 in
set_option maxHeartbeats 4000000 in
theorem J_hn10 {a1 a2 g_0 : Int} {g_1 y2 : List (Int × Int)} {y1 : Bool × Int} (hy : slices_Clone_api_Edge_api_Edge g_1 = some y2) (h : (y2 ++ [(a1, a2)]).length ≤ 8796093022208) {w0 : World} {Q : Exit → St → Prop} {AA : Nat → Array Bool → St → Prop} (hAA : ∀ g L st, AA g L st ↔ AWPB Try.prog w0 reg7.toArray Q g L st) (hn8 : AA 5 #[true, true, true, true, true, true, true, true, false, false, false, false, false] ⟨76, [(1, .int .i64 a1), (2, .int .i64 a2), (10, .bool y1.1), (54, .int .i64 g_0), (57, .own 1 y2.length), (60, .agg [.int .i64 a1, .int .i64 a2])], [some (.gen 48 2 [[.int .i64 g_0, .fn 2 g_1.length (fun i => [.int .i64 ((g_1.getD i (0, 0)).1), .int .i64 ((g_1.getD i (0, 0)).2)])]]), some (.gen 52 2 (List.map (fun e => [.int .i64 e.1, .int .i64 e.2]) y2))]⟩) (hn9 : AA 5 #[true, true, true, true, true, true, true, false, false, false, false, true, false] ⟨76, [(1, .int .i64 a1), (2, .int .i64 a2), (10, .bool y1.1), (12, .ptr 2 0 0), (54, .int .i64 g_0), (57, .own 1 y2.length), (58, .int .i64 a1), (59, .int .i64 a2)], [some (.gen 48 2 [[.int .i64 g_0, .fn 2 g_1.length (fun i => [.int .i64 ((g_1.getD i (0, 0)).1), .int .i64 ((g_1.getD i (0, 0)).2)])]]), some (.gen 52 2 (List.map (fun e => [.int .i64 e.1, .int .i64 e.2]) y2)), some (.gen 48 2 [[.int .i64 0, .nil]])]⟩) : AA 6 #[true, true, true, true, true, true, true, false, false, false, false, false, false] ⟨76, [(1, .int .i64 a1), (2, .int .i64 a2), (10, .bool y1.1), (54, .int .i64 g_0), (57, .own 1 y2.length), (58, .int .i64 a1), (59, .int .i64 a2)], [some (.gen 48 2 [[.int .i64 g_0, .fn 2 g_1.length (fun i => [.int .i64 ((g_1.getD i (0, 0)).1), .int .i64 ((g_1.getD i (0, 0)).2)])]]), some (.gen 52 2 (List.map (fun e => [.int .i64 e.1, .int .i64 e.2]) y2))]⟩ := (hAA _ _ _).2 (by
    refine AWPB_two 7 11 _ _ (by kernel_rfl) rfl rfl ?_ ?_
    · skip
      refine AWPL_rn tab_ok 1 [1, 2, 10, 12, 54, 57, 60, 61, 62, 63] fun c st' hr => ?_
      simp only [go_sem, reduceIte, reduceCtorEq, Nat.reduceEqDiff, Nat.reduceLT, Nat.reduceLeDiff, Nat.reduceBEq, Nat.reduceAdd, Nat.reduceMul, Nat.reduceSub, Nat.reducePow, Int.reduceLE, Int.reduceLT, Int.reduceNeg, Int.reduceToNat, Int.reduceAdd, Int.reduceSub] at hr
      obtain ⟨rfl, rfl⟩ := hr
      refine ⟨vc, ?_⟩
      refine AWPL_nil ?_
      refine QB_normal ?_
      exact AWPB_wk [0, 1] mkWk ((hAA _ _ _).1 hn8)
    · skip
      refine AWPL_rn tab_ok 1 [1, 2, 10, 12, 54, 57, 58, 59, 60, 61, 62, 63] fun c st' hr => ?_
      simp only [go_sem, reduceIte, reduceCtorEq, Nat.reduceEqDiff, Nat.reduceLT, Nat.reduceLeDiff, Nat.reduceBEq, Nat.reduceAdd, Nat.reduceMul, Nat.reduceSub, Nat.reducePow, Int.reduceLE, Int.reduceLT, Int.reduceNeg, Int.reduceToNat, Int.reduceAdd, Int.reduceSub] at hr
      obtain ⟨rfl, rfl⟩ := hr
      refine ⟨vc, ?_⟩
      refine AWPL_nil ?_
      refine QB_normal ?_
      exact AWPB_wk [0, 1, 2] mkWk ((hAA _ _ _).1 hn9))
set_option maxRecDepth 8000 in
set_option maxHeartbeats 4000000 in
theorem J_hn11 {a1 a2 g_0 : Int} {g_1 y2 : List (Int × Int)} {y1 : Bool × Int} (hy : slices_Clone_api_Edge_api_Edge g_1 = some y2) (h : (y2 ++ [(a1, a2)]).length ≤ 8796093022208) {w0 : World} {Q : Exit → St → Prop} {AA : Nat → Array Bool → St → Prop} (hAA : ∀ g L st, AA g L st ↔ AWPB Try.prog w0 reg7.toArray Q g L st) (hn5 : AA 3 #[true, true, true, true, true, true, true, true, true, false, false, true, false] ⟨76, [(1, .int .i64 a1), (2, .int .i64 a2), (10, .bool y1.1), (12, .ptr 3 0 0), (54, .int .i64 g_0), (57, .own 1 y2.length), (61, .own 2 1)], [some (.gen 48 2 [[.int .i64 g_0, .fn 2 g_1.length (fun i => [.int .i64 ((g_1.getD i (0, 0)).1), .int .i64 ((g_1.getD i (0, 0)).2)])]]), some (.gen 52 2 (List.map (fun e => [.int .i64 e.1, .int .i64 e.2]) y2)), some (.gen 52 2 (List.map (fun e => [.int .i64 e.1, .int .i64 e.2]) [(a1, a2)])), some (.gen 48 2 [[.int .i64 0, .nil]])]⟩) : AA 4 #[true, true, true, true, false, true, true, true, true, false, false, true, false] ⟨76, [(1, .int .i64 a1), (2, .int .i64 a2), (10, .bool y1.1), (12, .ptr 2 0 0), (54, .int .i64 g_0), (56, .fn 2 g_1.length (fun i => [.int .i64 ((g_1.getD i (0, 0)).1), .int .i64 ((g_1.getD i (0, 0)).2)])), (61, .own 1 1)], [some (.gen 48 2 [[.int .i64 g_0, .fn 2 g_1.length (fun i => [.int .i64 ((g_1.getD i (0, 0)).1), .int .i64 ((g_1.getD i (0, 0)).2)])]]), some (.gen 52 2 (List.map (fun e => [.int .i64 e.1, .int .i64 e.2]) [(a1, a2)])), some (.gen 48 2 [[.int .i64 0, .nil]])]⟩ := (hAA _ _ _).2 (by
    refine AWPB_one 4 _ (by kernel_rfl) rfl ?_
    refine AWPL_callK [1, 2, 10, 12, 54, 57, 61, 62, 63] (W_slices_Clone_api_Edge_api_Edge hy) rfl rfl pcT rfl Try.call29 (.cons (.atom _ rfl) .nil) (hscG trivial) (of_decide_eq_true rfl) (by first | rfl | simp [nI, nI1, nI0]) (by first | rfl | simp [nIB, nI0]) fun st' hr => ?_
    simp only [go_sem, reduceIte, reduceCtorEq, Nat.reduceEqDiff, Nat.reduceLT, Nat.reduceLeDiff, Nat.reduceBEq, Nat.reduceAdd, Nat.reduceMul, Nat.reduceSub, Nat.reducePow, Int.reduceLE, Int.reduceLT, Int.reduceNeg, Int.reduceToNat, Int.reduceAdd, Int.reduceSub] at hr
    subst hr
    refine AWPL_nil ?_
    refine QB_normal ?_
    exact AWPB_wk [0, 3, 1, 2] mkWk ((hAA _ _ _).1 hn5))
set_option maxRecDepth 8000 in
set_option maxHeartbeats 4000000 in
theorem J_hn12 {a1 a2 g_0 : Int} {g_1 y2 : List (Int × Int)} {y1 : Bool × Int} (hy : slices_Clone_api_Edge_api_Edge g_1 = some y2) (h : (y2 ++ [(a1, a2)]).length ≤ 8796093022208) {w0 : World} {Q : Exit → St → Prop} {AA : Nat → Array Bool → St → Prop} (hAA : ∀ g L st, AA g L st ↔ AWPB Try.prog w0 reg7.toArray Q g L st) (hn6 : AA 4 #[true, true, true, true, true, true, true, true, true, false, false, false, false] ⟨76, [(1, .int .i64 a1), (2, .int .i64 a2), (10, .bool y1.1), (54, .int .i64 g_0), (57, .own 1 y2.length), (61, .own 2 1)], [some (.gen 48 2 [[.int .i64 g_0, .fn 2 g_1.length (fun i => [.int .i64 ((g_1.getD i (0, 0)).1), .int .i64 ((g_1.getD i (0, 0)).2)])]]), some (.gen 52 2 (List.map (fun e => [.int .i64 e.1, .int .i64 e.2]) y2)), some (.gen 52 2 (List.map (fun e => [.int .i64 e.1, .int .i64 e.2]) [(a1, a2)]))]⟩) (hn11 : AA 4 #[true, true, true, true, false, true, true, true, true, false, false, true, false] ⟨76, [(1, .int .i64 a1), (2, .int .i64 a2), (10, .bool y1.1), (12, .ptr 2 0 0), (54, .int .i64 g_0), (56, .fn 2 g_1.length (fun i => [.int .i64 ((g_1.getD i (0, 0)).1), .int .i64 ((g_1.getD i (0, 0)).2)])), (61, .own 1 1)], [some (.gen 48 2 [[.int .i64 g_0, .fn 2 g_1.length (fun i => [.int .i64 ((g_1.getD i (0, 0)).1), .int .i64 ((g_1.getD i (0, 0)).2)])]]), some (.gen 52 2 (List.map (fun e => [.int .i64 e.1, .int .i64 e.2]) [(a1, a2)])), some (.gen 48 2 [[.int .i64 0, .nil]])]⟩) : AA 5 #[true, true, true, true, false, true, true, true, true, false, false, false, false] ⟨76, [(1, .int .i64 a1), (2, .int .i64 a2), (10, .bool y1.1), (54, .int .i64 g_0), (56, .fn 2 g_1.length (fun i => [.int .i64 ((g_1.getD i (0, 0)).1), .int .i64 ((g_1.getD i (0, 0)).2)])), (61, .own 1 1)], [some (.gen 48 2 [[.int .i64 g_0, .fn 2 g_1.length (fun i => [.int .i64 ((g_1.getD i (0, 0)).1), .int .i64 ((g_1.getD i (0, 0)).2)])]]), some (.gen 52 2 (List.map (fun e => [.int .i64 e.1, .int .i64 e.2]) [(a1, a2)]))]⟩ := (hAA _ _ _).2 (by
    refine AWPB_two 4 11 _ _ (by kernel_rfl) rfl rfl ?_ ?_
    · skip
      refine AWPL_callK [1, 2, 10, 12, 54, 57, 61, 62, 63] (W_slices_Clone_api_Edge_api_Edge hy) rfl rfl pcT rfl Try.call29 (.cons (.atom _ rfl) .nil) (hscG trivial) (of_decide_eq_true rfl) (by first | rfl | simp [nI, nI1, nI0]) (by first | rfl | simp [nIB, nI0]) fun st' hr => ?_
      simp only [go_sem, reduceIte, reduceCtorEq, Nat.reduceEqDiff, Nat.reduceLT, Nat.reduceLeDiff, Nat.reduceBEq, Nat.reduceAdd, Nat.reduceMul, Nat.reduceSub, Nat.reducePow, Int.reduceLE, Int.reduceLT, Int.reduceNeg, Int.reduceToNat, Int.reduceAdd, Int.reduceSub] at hr
      subst hr
      refine AWPL_nil ?_
      refine QB_normal ?_
      exact AWPB_wk [0, 2, 1] mkWk ((hAA _ _ _).1 hn6)
    · skip
      refine AWPL_rn tab_ok 1 [1, 2, 10, 12, 54, 56, 57, 61, 62, 63] fun c st' hr => ?_
      simp only [go_sem, reduceIte, reduceCtorEq, Nat.reduceEqDiff, Nat.reduceLT, Nat.reduceLeDiff, Nat.reduceBEq, Nat.reduceAdd, Nat.reduceMul, Nat.reduceSub, Nat.reducePow, Int.reduceLE, Int.reduceLT, Int.reduceNeg, Int.reduceToNat, Int.reduceAdd, Int.reduceSub] at hr
      obtain ⟨rfl, rfl⟩ := hr
      refine ⟨vc, ?_⟩
      refine AWPL_nil ?_
      refine QB_normal ?_
      exact AWPB_wk [0, 1, 2] mkWk ((hAA _ _ _).1 hn11))
set_option maxRecDepth 8000 in
set_option maxHeartbeats 4000000 in
theorem J_hn13 {a1 a2 g_0 : Int} {g_1 y2 : List (Int × Int)} {y1 : Bool × Int} (hy : slices_Clone_api_Edge_api_Edge g_1 = some y2) (h : (y2 ++ [(a1, a2)]).length ≤ 8796093022208) {w0 : World} {Q : Exit → St → Prop} {AA : Nat → Array Bool → St → Prop} (hAA : ∀ g L st, AA g L st ↔ AWPB Try.prog w0 reg7.toArray Q g L st) (hn7 : AA 4 #[true, true, true, true, true, true, true, true, false, false, false, true, false] ⟨76, [(1, .int .i64 a1), (2, .int .i64 a2), (10, .bool y1.1), (12, .ptr 2 0 0), (54, .int .i64 g_0), (57, .own 1 y2.length), (60, .agg [.int .i64 a1, .int .i64 a2])], [some (.gen 48 2 [[.int .i64 g_0, .fn 2 g_1.length (fun i => [.int .i64 ((g_1.getD i (0, 0)).1), .int .i64 ((g_1.getD i (0, 0)).2)])]]), some (.gen 52 2 (List.map (fun e => [.int .i64 e.1, .int .i64 e.2]) y2)), some (.gen 48 2 [[.int .i64 0, .nil]])]⟩) (hn11 : AA 4 #[true, true, true, true, false, true, true, true, true, false, false, true, false] ⟨76, [(1, .int .i64 a1), (2, .int .i64 a2), (10, .bool y1.1), (12, .ptr 2 0 0), (54, .int .i64 g_0), (56, .fn 2 g_1.length (fun i => [.int .i64 ((g_1.getD i (0, 0)).1), .int .i64 ((g_1.getD i (0, 0)).2)])), (61, .own 1 1)], [some (.gen 48 2 [[.int .i64 g_0, .fn 2 g_1.length (fun i => [.int .i64 ((g_1.getD i (0, 0)).1), .int .i64 ((g_1.getD i (0, 0)).2)])]]), some (.gen 52 2 (List.map (fun e => [.int .i64 e.1, .int .i64 e.2]) [(a1, a2)])), some (.gen 48 2 [[.int .i64 0, .nil]])]⟩) : AA 5 #[true, true, true, true, false, true, true, true, false, false, false, true, false] ⟨76, [(1, .int .i64 a1), (2, .int .i64 a2), (10, .bool y1.1), (12, .ptr 1 0 0), (54, .int .i64 g_0), (56, .fn 2 g_1.length (fun i => [.int .i64 ((g_1.getD i (0, 0)).1), .int .i64 ((g_1.getD i (0, 0)).2)])), (60, .agg [.int .i64 a1, .int .i64 a2])], [some (.gen 48 2 [[.int .i64 g_0, .fn 2 g_1.length (fun i => [.int .i64 ((g_1.getD i (0, 0)).1), .int .i64 ((g_1.getD i (0, 0)).2)])]]), some (.gen 48 2 [[.int .i64 0, .nil]])]⟩ := (hAA _ _ _).2 (by
    refine AWPB_two 4 8 _ _ (by kernel_rfl) rfl rfl ?_ ?_
    · skip
      refine AWPL_callK [1, 2, 10, 12, 54, 57, 60, 61, 62, 63] (W_slices_Clone_api_Edge_api_Edge hy) rfl rfl pcT rfl Try.call29 (.cons (.atom _ rfl) .nil) (hscG trivial) (of_decide_eq_true rfl) (by first | rfl | simp [nI, nI1, nI0]) (by first | rfl | simp [nIB, nI0]) fun st' hr => ?_
      simp only [go_sem, reduceIte, reduceCtorEq, Nat.reduceEqDiff, Nat.reduceLT, Nat.reduceLeDiff, Nat.reduceBEq, Nat.reduceAdd, Nat.reduceMul, Nat.reduceSub, Nat.reducePow, Int.reduceLE, Int.reduceLT, Int.reduceNeg, Int.reduceToNat, Int.reduceAdd, Int.reduceSub] at hr
      subst hr
      refine AWPL_nil ?_
      refine QB_normal ?_
      exact AWPB_wk [0, 2, 1] mkWk ((hAA _ _ _).1 hn7)
    · skip
      refine AWPL_rn tab_ok 1 [1, 2, 10, 12, 54, 56, 57, 61, 62, 63] fun c st' hr => ?_
      simp only [go_sem, reduceIte, reduceCtorEq, Nat.reduceEqDiff, Nat.reduceLT, Nat.reduceLeDiff, Nat.reduceBEq, Nat.reduceAdd, Nat.reduceMul, Nat.reduceSub, Nat.reducePow, Int.reduceLE, Int.reduceLT, Int.reduceNeg, Int.reduceToNat, Int.reduceAdd, Int.reduceSub] at hr
      obtain ⟨rfl, rfl⟩ := hr
      refine ⟨vc, ?_⟩
      refine AWPL_nil ?_
      refine QB_normal ?_
      exact AWPB_wk [0, 2, 1] mkWk ((hAA _ _ _).1 hn11))
set_option maxRecDepth 8000 in
set_option maxHeartbeats 4000000 in
theorem J_hn14 {a1 a2 g_0 : Int} {g_1 y2 : List (Int × Int)} {y1 : Bool × Int} (hy : slices_Clone_api_Edge_api_Edge g_1 = some y2) (h : (y2 ++ [(a1, a2)]).length ≤ 8796093022208) {w0 : World} {Q : Exit → St → Prop} {AA : Nat → Array Bool → St → Prop} (hAA : ∀ g L st, AA g L st ↔ AWPB Try.prog w0 reg7.toArray Q g L st) (hn8 : AA 5 #[true, true, true, true, true, true, true, true, false, false, false, false, false] ⟨76, [(1, .int .i64 a1), (2, .int .i64 a2), (10, .bool y1.1), (54, .int .i64 g_0), (57, .own 1 y2.length), (60, .agg [.int .i64 a1, .int .i64 a2])], [some (.gen 48 2 [[.int .i64 g_0, .fn 2 g_1.length (fun i => [.int .i64 ((g_1.getD i (0, 0)).1), .int .i64 ((g_1.getD i (0, 0)).2)])]]), some (.gen 52 2 (List.map (fun e => [.int .i64 e.1, .int .i64 e.2]) y2))]⟩) (hn12 : AA 5 #[true, true, true, true, false, true, true, true, true, false, false, false, false] ⟨76, [(1, .int .i64 a1), (2, .int .i64 a2), (10, .bool y1.1), (54, .int .i64 g_0), (56, .fn 2 g_1.length (fun i => [.int .i64 ((g_1.getD i (0, 0)).1), .int .i64 ((g_1.getD i (0, 0)).2)])), (61, .own 1 1)], [some (.gen 48 2 [[.int .i64 g_0, .fn 2 g_1.length (fun i => [.int .i64 ((g_1.getD i (0, 0)).1), .int .i64 ((g_1.getD i (0, 0)).2)])]]), some (.gen 52 2 (List.map (fun e => [.int .i64 e.1, .int .i64 e.2]) [(a1, a2)]))]⟩) (hn13 : AA 5 #[true, true, true, true, false, true, true, true, false, false, false, true, false] ⟨76, [(1, .int .i64 a1), (2, .int .i64 a2), (10, .bool y1.1), (12, .ptr 1 0 0), (54, .int .i64 g_0), (56, .fn 2 g_1.length (fun i => [.int .i64 ((g_1.getD i (0, 0)).1), .int .i64 ((g_1.getD i (0, 0)).2)])), (60, .agg [.int .i64 a1, .int .i64 a2])], [some (.gen 48 2 [[.int .i64 g_0, .fn 2 g_1.length (fun i => [.int .i64 ((g_1.getD i (0, 0)).1), .int .i64 ((g_1.getD i (0, 0)).2)])]]), some (.gen 48 2 [[.int .i64 0, .nil]])]⟩) : AA 6 #[true, true, true, true, false, true, true, true, false, false, false, false, false] ⟨76, [(1, .int .i64 a1), (2, .int .i64 a2), (10, .bool y1.1), (54, .int .i64 g_0), (56, .fn 2 g_1.length (fun i => [.int .i64 ((g_1.getD i (0, 0)).1), .int .i64 ((g_1.getD i (0, 0)).2)])), (60, .agg [.int .i64 a1, .int .i64 a2])], [some (.gen 48 2 [[.int .i64 g_0, .fn 2 g_1.length (fun i => [.int .i64 ((g_1.getD i (0, 0)).1), .int .i64 ((g_1.getD i (0, 0)).2)])]])]⟩ := (hAA _ _ _).2 (by
    refine AWPB_three 4 8 11 _ _ _ (by kernel_rfl) rfl rfl rfl ?_ ?_ ?_
    · skip
      refine AWPL_callK [1, 2, 10, 12, 54, 57, 60, 61, 62, 63] (W_slices_Clone_api_Edge_api_Edge hy) rfl rfl pcT rfl Try.call29 (.cons (.atom _ rfl) .nil) (hscG trivial) (of_decide_eq_true rfl) (by first | rfl | simp [nI, nI1, nI0]) (by first | rfl | simp [nIB, nI0]) fun st' hr => ?_
      simp only [go_sem, reduceIte, reduceCtorEq, Nat.reduceEqDiff, Nat.reduceLT, Nat.reduceLeDiff, Nat.reduceBEq, Nat.reduceAdd, Nat.reduceMul, Nat.reduceSub, Nat.reducePow, Int.reduceLE, Int.reduceLT, Int.reduceNeg, Int.reduceToNat, Int.reduceAdd, Int.reduceSub] at hr
      subst hr
      refine AWPL_nil ?_
      refine QB_normal ?_
      exact AWPB_wk [0, 1] mkWk ((hAA _ _ _).1 hn8)
    · skip
      refine AWPL_rn tab_ok 1 [1, 2, 10, 12, 54, 56, 57, 61, 62, 63] fun c st' hr => ?_
      simp only [go_sem, reduceIte, reduceCtorEq, Nat.reduceEqDiff, Nat.reduceLT, Nat.reduceLeDiff, Nat.reduceBEq, Nat.reduceAdd, Nat.reduceMul, Nat.reduceSub, Nat.reducePow, Int.reduceLE, Int.reduceLT, Int.reduceNeg, Int.reduceToNat, Int.reduceAdd, Int.reduceSub] at hr
      obtain ⟨rfl, rfl⟩ := hr
      refine ⟨vc, ?_⟩
      refine AWPL_nil ?_
      refine QB_normal ?_
      exact AWPB_wk [0, 1] mkWk ((hAA _ _ _).1 hn12)
    · skip
      refine AWPL_rn tab_ok 1 [1, 2, 10, 12, 54, 56, 57, 60, 61, 62, 63] fun c st' hr => ?_
      simp only [go_sem, reduceIte, reduceCtorEq, Nat.reduceEqDiff, Nat.reduceLT, Nat.reduceLeDiff, Nat.reduceBEq, Nat.reduceAdd, Nat.reduceMul, Nat.reduceSub, Nat.reducePow, Int.reduceLE, Int.reduceLT, Int.reduceNeg, Int.reduceToNat, Int.reduceAdd, Int.reduceSub] at hr
      obtain ⟨rfl, rfl⟩ := hr
      refine ⟨vc, ?_⟩
      refine AWPL_nil ?_
      refine QB_normal ?_
      exact AWPB_wk [0, 1] mkWk ((hAA _ _ _).1 hn13))
set_option maxRecDepth 8000 in
set_option maxHeartbeats 4000000 in
theorem J_hn15 {a1 a2 g_0 : Int} {g_1 y2 : List (Int × Int)} {y1 : Bool × Int} (hy : slices_Clone_api_Edge_api_Edge g_1 = some y2) (h : (y2 ++ [(a1, a2)]).length ≤ 8796093022208) {w0 : World} {Q : Exit → St → Prop} {AA : Nat → Array Bool → St → Prop} (hAA : ∀ g L st, AA g L st ↔ AWPB Try.prog w0 reg7.toArray Q g L st) (hn9 : AA 5 #[true, true, true, true, true, true, true, false, false, false, false, true, false] ⟨76, [(1, .int .i64 a1), (2, .int .i64 a2), (10, .bool y1.1), (12, .ptr 2 0 0), (54, .int .i64 g_0), (57, .own 1 y2.length), (58, .int .i64 a1), (59, .int .i64 a2)], [some (.gen 48 2 [[.int .i64 g_0, .fn 2 g_1.length (fun i => [.int .i64 ((g_1.getD i (0, 0)).1), .int .i64 ((g_1.getD i (0, 0)).2)])]]), some (.gen 52 2 (List.map (fun e => [.int .i64 e.1, .int .i64 e.2]) y2)), some (.gen 48 2 [[.int .i64 0, .nil]])]⟩) (hn13 : AA 5 #[true, true, true, true, false, true, true, true, false, false, false, true, false] ⟨76, [(1, .int .i64 a1), (2, .int .i64 a2), (10, .bool y1.1), (12, .ptr 1 0 0), (54, .int .i64 g_0), (56, .fn 2 g_1.length (fun i => [.int .i64 ((g_1.getD i (0, 0)).1), .int .i64 ((g_1.getD i (0, 0)).2)])), (60, .agg [.int .i64 a1, .int .i64 a2])], [some (.gen 48 2 [[.int .i64 g_0, .fn 2 g_1.length (fun i => [.int .i64 ((g_1.getD i (0, 0)).1), .int .i64 ((g_1.getD i (0, 0)).2)])]]), some (.gen 48 2 [[.int .i64 0, .nil]])]⟩) : AA 6 #[true, true, true, true, false, true, true, false, false, false, false, true, false] ⟨76, [(1, .int .i64 a1), (2, .int .i64 a2), (10, .bool y1.1), (12, .ptr 1 0 0), (54, .int .i64 g_0), (56, .fn 2 g_1.length (fun i => [.int .i64 ((g_1.getD i (0, 0)).1), .int .i64 ((g_1.getD i (0, 0)).2)])), (58, .int .i64 a1), (59, .int .i64 a2)], [some (.gen 48 2 [[.int .i64 g_0, .fn 2 g_1.length (fun i => [.int .i64 ((g_1.getD i (0, 0)).1), .int .i64 ((g_1.getD i (0, 0)).2)])]]), some (.gen 48 2 [[.int .i64 0, .nil]])]⟩ := (hAA _ _ _).2 (by
    refine AWPB_two 4 7 _ _ (by kernel_rfl) rfl rfl ?_ ?_
    · skip
      refine AWPL_callK [1, 2, 10, 12, 54, 57, 58, 59, 60, 61, 62, 63] (W_slices_Clone_api_Edge_api_Edge hy) rfl rfl pcT rfl Try.call29 (.cons (.atom _ rfl) .nil) (hscG trivial) (of_decide_eq_true rfl) (by first | rfl | simp [nI, nI1, nI0]) (by first | rfl | simp [nIB, nI0]) fun st' hr => ?_
      simp only [go_sem, reduceIte, reduceCtorEq, Nat.reduceEqDiff, Nat.reduceLT, Nat.reduceLeDiff, Nat.reduceBEq, Nat.reduceAdd, Nat.reduceMul, Nat.reduceSub, Nat.reducePow, Int.reduceLE, Int.reduceLT, Int.reduceNeg, Int.reduceToNat, Int.reduceAdd, Int.reduceSub] at hr
      subst hr
      refine AWPL_nil ?_
      refine QB_normal ?_
      exact AWPB_wk [0, 2, 1] mkWk ((hAA _ _ _).1 hn9)
    · skip
      refine AWPL_rn tab_ok 1 [1, 2, 10, 12, 54, 56, 57, 60, 61, 62, 63] fun c st' hr => ?_
      simp only [go_sem, reduceIte, reduceCtorEq, Nat.reduceEqDiff, Nat.reduceLT, Nat.reduceLeDiff, Nat.reduceBEq, Nat.reduceAdd, Nat.reduceMul, Nat.reduceSub, Nat.reducePow, Int.reduceLE, Int.reduceLT, Int.reduceNeg, Int.reduceToNat, Int.reduceAdd, Int.reduceSub] at hr
      obtain ⟨rfl, rfl⟩ := hr
      refine ⟨vc, ?_⟩
      refine AWPL_nil ?_
      refine QB_normal ?_
      exact AWPB_wk [0, 1] mkWk ((hAA _ _ _).1 hn13))
set_option maxRecDepth 8000 in
set_option maxHeartbeats 4000000 in
theorem J_hn16 {a1 a2 g_0 : Int} {g_1 y2 : List (Int × Int)} {y1 : Bool × Int} (hy : slices_Clone_api_Edge_api_Edge g_1 = some y2) (h : (y2 ++ [(a1, a2)]).length ≤ 8796093022208) {w0 : World} {Q : Exit → St → Prop} {AA : Nat → Array Bool → St → Prop} (hAA : ∀ g L st, AA g L st ↔ AWPB Try.prog w0 reg7.toArray Q g L st) (hn10 : AA 6 #[true, true, true, true, true, true, true, false, false, false, false, false, false] ⟨76, [(1, .int .i64 a1), (2, .int .i64 a2), (10, .bool y1.1), (54, .int .i64 g_0), (57, .own 1 y2.length), (58, .int .i64 a1), (59, .int .i64 a2)], [some (.gen 48 2 [[.int .i64 g_0, .fn 2 g_1.length (fun i => [.int .i64 ((g_1.getD i (0, 0)).1), .int .i64 ((g_1.getD i (0, 0)).2)])]]), some (.gen 52 2 (List.map (fun e => [.int .i64 e.1, .int .i64 e.2]) y2))]⟩) (hn14 : AA 6 #[true, true, true, true, false, true, true, true, false, false, false, false, false] ⟨76, [(1, .int .i64 a1), (2, .int .i64 a2), (10, .bool y1.1), (54, .int .i64 g_0), (56, .fn 2 g_1.length (fun i => [.int .i64 ((g_1.getD i (0, 0)).1), .int .i64 ((g_1.getD i (0, 0)).2)])), (60, .agg [.int .i64 a1, .int .i64 a2])], [some (.gen 48 2 [[.int .i64 g_0, .fn 2 g_1.length (fun i => [.int .i64 ((g_1.getD i (0, 0)).1), .int .i64 ((g_1.getD i (0, 0)).2)])]])]⟩) (hn15 : AA 6 #[true, true, true, true, false, true, true, false, false, false, false, true, false] ⟨76, [(1, .int .i64 a1), (2, .int .i64 a2), (10, .bool y1.1), (12, .ptr 1 0 0), (54, .int .i64 g_0), (56, .fn 2 g_1.length (fun i => [.int .i64 ((g_1.getD i (0, 0)).1), .int .i64 ((g_1.getD i (0, 0)).2)])), (58, .int .i64 a1), (59, .int .i64 a2)], [some (.gen 48 2 [[.int .i64 g_0, .fn 2 g_1.length (fun i => [.int .i64 ((g_1.getD i (0, 0)).1), .int .i64 ((g_1.getD i (0, 0)).2)])]]), some (.gen 48 2 [[.int .i64 0, .nil]])]⟩) : AA 7 #[true, true, true, true, false, true, true, false, false, false, false, false, false] ⟨76, [(1, .int .i64 a1), (2, .int .i64 a2), (10, .bool y1.1), (54, .int .i64 g_0), (56, .fn 2 g_1.length (fun i => [.int .i64 ((g_1.getD i (0, 0)).1), .int .i64 ((g_1.getD i (0, 0)).2)])), (58, .int .i64 a1), (59, .int .i64 a2)], [some (.gen 48 2 [[.int .i64 g_0, .fn 2 g_1.length (fun i => [.int .i64 ((g_1.getD i (0, 0)).1), .int .i64 ((g_1.getD i (0, 0)).2)])]])]⟩ := (hAA _ _ _).2 (by
    refine AWPB_three 4 7 11 _ _ _ (by kernel_rfl) rfl rfl rfl ?_ ?_ ?_
    · skip
      refine AWPL_callK [1, 2, 10, 12, 54, 57, 58, 59, 60, 61, 62, 63] (W_slices_Clone_api_Edge_api_Edge hy) rfl rfl pcT rfl Try.call29 (.cons (.atom _ rfl) .nil) (hscG trivial) (of_decide_eq_true rfl) (by first | rfl | simp [nI, nI1, nI0]) (by first | rfl | simp [nIB, nI0]) fun st' hr => ?_
      simp only [go_sem, reduceIte, reduceCtorEq, Nat.reduceEqDiff, Nat.reduceLT, Nat.reduceLeDiff, Nat.reduceBEq, Nat.reduceAdd, Nat.reduceMul, Nat.reduceSub, Nat.reducePow, Int.reduceLE, Int.reduceLT, Int.reduceNeg, Int.reduceToNat, Int.reduceAdd, Int.reduceSub] at hr
      subst hr
      refine AWPL_nil ?_
      refine QB_normal ?_
      exact AWPB_wk [0, 1] mkWk ((hAA _ _ _).1 hn10)
    · skip
      refine AWPL_rn tab_ok 1 [1, 2, 10, 12, 54, 56, 57, 60, 61, 62, 63] fun c st' hr => ?_
      simp only [go_sem, reduceIte, reduceCtorEq, Nat.reduceEqDiff, Nat.reduceLT, Nat.reduceLeDiff, Nat.reduceBEq, Nat.reduceAdd, Nat.reduceMul, Nat.reduceSub, Nat.reducePow, Int.reduceLE, Int.reduceLT, Int.reduceNeg, Int.reduceToNat, Int.reduceAdd, Int.reduceSub] at hr
      obtain ⟨rfl, rfl⟩ := hr
      refine ⟨vc, ?_⟩
      refine AWPL_nil ?_
      refine QB_normal ?_
      exact AWPB_wk [0] mkWk ((hAA _ _ _).1 hn14)
    · skip
      refine AWPL_rn tab_ok 1 [1, 2, 10, 12, 54, 56, 57, 58, 59, 60, 61, 62, 63] fun c st' hr => ?_
      simp only [go_sem, reduceIte, reduceCtorEq, Nat.reduceEqDiff, Nat.reduceLT, Nat.reduceLeDiff, Nat.reduceBEq, Nat.reduceAdd, Nat.reduceMul, Nat.reduceSub, Nat.reducePow, Int.reduceLE, Int.reduceLT, Int.reduceNeg, Int.reduceToNat, Int.reduceAdd, Int.reduceSub] at hr
      obtain ⟨rfl, rfl⟩ := hr
      refine ⟨vc, ?_⟩
      refine AWPL_nil ?_
      refine QB_normal ?_
      exact AWPB_wk [0, 1] mkWk ((hAA _ _ _).1 hn15))
set_option maxRecDepth 8000 in
set_option maxHeartbeats 4000000 in
theorem J_hn17 {a1 a2 g_0 : Int} {g_1 y2 : List (Int × Int)} {y1 : Bool × Int} (hy : slices_Clone_api_Edge_api_Edge g_1 = some y2) (h : (y2 ++ [(a1, a2)]).length ≤ 8796093022208) {w0 : World} {Q : Exit → St → Prop} {AA : Nat → Array Bool → St → Prop} (hAA : ∀ g L st, AA g L st ↔ AWPB Try.prog w0 reg7.toArray Q g L st) (hn11 : AA 4 #[true, true, true, true, false, true, true, true, true, false, false, true, false] ⟨76, [(1, .int .i64 a1), (2, .int .i64 a2), (10, .bool y1.1), (12, .ptr 2 0 0), (54, .int .i64 g_0), (56, .fn 2 g_1.length (fun i => [.int .i64 ((g_1.getD i (0, 0)).1), .int .i64 ((g_1.getD i (0, 0)).2)])), (61, .own 1 1)], [some (.gen 48 2 [[.int .i64 g_0, .fn 2 g_1.length (fun i => [.int .i64 ((g_1.getD i (0, 0)).1), .int .i64 ((g_1.getD i (0, 0)).2)])]]), some (.gen 52 2 (List.map (fun e => [.int .i64 e.1, .int .i64 e.2]) [(a1, a2)])), some (.gen 48 2 [[.int .i64 0, .nil]])]⟩) : AA 5 #[true, true, true, false, false, true, true, true, true, false, false, true, false] ⟨76, [(1, .int .i64 a1), (2, .int .i64 a2), (10, .bool y1.1), (12, .ptr 2 0 0), (54, .int .i64 g_0), (55, .ptr 0 0 1), (61, .own 1 1)], [some (.gen 48 2 [[.int .i64 g_0, .fn 2 g_1.length (fun i => [.int .i64 ((g_1.getD i (0, 0)).1), .int .i64 ((g_1.getD i (0, 0)).2)])]]), some (.gen 52 2 (List.map (fun e => [.int .i64 e.1, .int .i64 e.2]) [(a1, a2)])), some (.gen 48 2 [[.int .i64 0, .nil]])]⟩ := (hAA _ _ _).2 (by
    refine AWPB_one 3 _ (by kernel_rfl) rfl ?_
    refine AWPL_rn tab_ok 1 [1, 2, 10, 12, 54, 56, 57, 61, 62, 63] fun c st' hr => ?_
    simp only [go_sem, reduceIte, reduceCtorEq, Nat.reduceEqDiff, Nat.reduceLT, Nat.reduceLeDiff, Nat.reduceBEq, Nat.reduceAdd, Nat.reduceMul, Nat.reduceSub, Nat.reducePow, Int.reduceLE, Int.reduceLT, Int.reduceNeg, Int.reduceToNat, Int.reduceAdd, Int.reduceSub] at hr
    obtain ⟨rfl, rfl⟩ := hr
    refine ⟨vc, ?_⟩
    refine AWPL_nil ?_
    refine QB_normal ?_
    exact AWPB_wk [0, 1, 2] mkWk ((hAA _ _ _).1 hn11))
set_option maxRecDepth 8000 in
set_option maxHeartbeats 4000000 in
theorem J_hn18 {a1 a2 g_0 : Int} {g_1 y2 : List (Int × Int)} {y1 : Bool × Int} (hy : slices_Clone_api_Edge_api_Edge g_1 = some y2) (h : (y2 ++ [(a1, a2)]).length ≤ 8796093022208) {w0 : World} {Q : Exit → St → Prop} {AA : Nat → Array Bool → St → Prop} (hAA : ∀ g L st, AA g L st ↔ AWPB Try.prog w0 reg7.toArray Q g L st) (hn12 : AA 5 #[true, true, true, true, false, true, true, true, true, false, false, false, false] ⟨76, [(1, .int .i64 a1), (2, .int .i64 a2), (10, .bool y1.1), (54, .int .i64 g_0), (56, .fn 2 g_1.length (fun i => [.int .i64 ((g_1.getD i (0, 0)).1), .int .i64 ((g_1.getD i (0, 0)).2)])), (61, .own 1 1)], [some (.gen 48 2 [[.int .i64 g_0, .fn 2 g_1.length (fun i => [.int .i64 ((g_1.getD i (0, 0)).1), .int .i64 ((g_1.getD i (0, 0)).2)])]]), some (.gen 52 2 (List.map (fun e => [.int .i64 e.1, .int .i64 e.2]) [(a1, a2)]))]⟩) (hn17 : AA 5 #[true, true, true, false, false, true, true, true, true, false, false, true, false] ⟨76, [(1, .int .i64 a1), (2, .int .i64 a2), (10, .bool y1.1), (12, .ptr 2 0 0), (54, .int .i64 g_0), (55, .ptr 0 0 1), (61, .own 1 1)], [some (.gen 48 2 [[.int .i64 g_0, .fn 2 g_1.length (fun i => [.int .i64 ((g_1.getD i (0, 0)).1), .int .i64 ((g_1.getD i (0, 0)).2)])]]), some (.gen 52 2 (List.map (fun e => [.int .i64 e.1, .int .i64 e.2]) [(a1, a2)])), some (.gen 48 2 [[.int .i64 0, .nil]])]⟩) : AA 6 #[true, true, true, false, false, true, true, true, true, false, false, false, false] ⟨76, [(1, .int .i64 a1), (2, .int .i64 a2), (10, .bool y1.1), (54, .int .i64 g_0), (55, .ptr 0 0 1), (61, .own 1 1)], [some (.gen 48 2 [[.int .i64 g_0, .fn 2 g_1.length (fun i => [.int .i64 ((g_1.getD i (0, 0)).1), .int .i64 ((g_1.getD i (0, 0)).2)])]]), some (.gen 52 2 (List.map (fun e => [.int .i64 e.1, .int .i64 e.2]) [(a1, a2)]))]⟩ := (hAA _ _ _).2 (by
    refine AWPB_two 3 11 _ _ (by kernel_rfl) rfl rfl ?_ ?_
    · skip
      refine AWPL_rn tab_ok 1 [1, 2, 10, 12, 54, 56, 57, 61, 62, 63] fun c st' hr => ?_
      simp only [go_sem, reduceIte, reduceCtorEq, Nat.reduceEqDiff, Nat.reduceLT, Nat.reduceLeDiff, Nat.reduceBEq, Nat.reduceAdd, Nat.reduceMul, Nat.reduceSub, Nat.reducePow, Int.reduceLE, Int.reduceLT, Int.reduceNeg, Int.reduceToNat, Int.reduceAdd, Int.reduceSub] at hr
      obtain ⟨rfl, rfl⟩ := hr
      refine ⟨vc, ?_⟩
      refine AWPL_nil ?_
      refine QB_normal ?_
      exact AWPB_wk [0, 1] mkWk ((hAA _ _ _).1 hn12)
    · skip
      refine AWPL_rn tab_ok 1 [1, 2, 10, 12, 54, 55, 56, 57, 61, 62, 63] fun c st' hr => ?_
      simp only [go_sem, reduceIte, reduceCtorEq, Nat.reduceEqDiff, Nat.reduceLT, Nat.reduceLeDiff, Nat.reduceBEq, Nat.reduceAdd, Nat.reduceMul, Nat.reduceSub, Nat.reducePow, Int.reduceLE, Int.reduceLT, Int.reduceNeg, Int.reduceToNat, Int.reduceAdd, Int.reduceSub] at hr
      obtain ⟨rfl, rfl⟩ := hr
      refine ⟨vc, ?_⟩
      refine AWPL_nil ?_
      refine QB_normal ?_
      exact AWPB_wk [0, 1, 2] mkWk ((hAA _ _ _).1 hn17))
set_option maxRecDepth 8000 in
set_option maxHeartbeats 4000000 in
theorem J_hn19 {a1 a2 g_0 : Int} {g_1 y2 : List (Int × Int)} {y1 : Bool × Int} (hy : slices_Clone_api_Edge_api_Edge g_1 = some y2) (h : (y2 ++ [(a1, a2)]).length ≤ 8796093022208) {w0 : World} {Q : Exit → St → Prop} {AA : Nat → Array Bool → St → Prop} (hAA : ∀ g L st, AA g L st ↔ AWPB Try.prog w0 reg7.toArray Q g L st) (hn13 : AA 5 #[true, true, true, true, false, true, true, true, false, false, false, true, false] ⟨76, [(1, .int .i64 a1), (2, .int .i64 a2), (10, .bool y1.1), (12, .ptr 1 0 0), (54, .int .i64 g_0), (56, .fn 2 g_1.length (fun i => [.int .i64 ((g_1.getD i (0, 0)).1), .int .i64 ((g_1.getD i (0, 0)).2)])), (60, .agg [.int .i64 a1, .int .i64 a2])], [some (.gen 48 2 [[.int .i64 g_0, .fn 2 g_1.length (fun i => [.int .i64 ((g_1.getD i (0, 0)).1), .int .i64 ((g_1.getD i (0, 0)).2)])]]), some (.gen 48 2 [[.int .i64 0, .nil]])]⟩) (hn17 : AA 5 #[true, true, true, false, false, true, true, true, true, false, false, true, false] ⟨76, [(1, .int .i64 a1), (2, .int .i64 a2), (10, .bool y1.1), (12, .ptr 2 0 0), (54, .int .i64 g_0), (55, .ptr 0 0 1), (61, .own 1 1)], [some (.gen 48 2 [[.int .i64 g_0, .fn 2 g_1.length (fun i => [.int .i64 ((g_1.getD i (0, 0)).1), .int .i64 ((g_1.getD i (0, 0)).2)])]]), some (.gen 52 2 (List.map (fun e => [.int .i64 e.1, .int .i64 e.2]) [(a1, a2)])), some (.gen 48 2 [[.int .i64 0, .nil]])]⟩) : AA 6 #[true, true, true, false, false, true, true, true, false, false, false, true, false] ⟨76, [(1, .int .i64 a1), (2, .int .i64 a2), (10, .bool y1.1), (12, .ptr 1 0 0), (54, .int .i64 g_0), (55, .ptr 0 0 1), (60, .agg [.int .i64 a1, .int .i64 a2])], [some (.gen 48 2 [[.int .i64 g_0, .fn 2 g_1.length (fun i => [.int .i64 ((g_1.getD i (0, 0)).1), .int .i64 ((g_1.getD i (0, 0)).2)])]]), some (.gen 48 2 [[.int .i64 0, .nil]])]⟩ := (hAA _ _ _).2 (by
    refine AWPB_two 3 8 _ _ (by kernel_rfl) rfl rfl ?_ ?_
    · skip
      refine AWPL_rn tab_ok 1 [1, 2, 10, 12, 54, 56, 57, 60, 61, 62, 63] fun c st' hr => ?_
      simp only [go_sem, reduceIte, reduceCtorEq, Nat.reduceEqDiff, Nat.reduceLT, Nat.reduceLeDiff, Nat.reduceBEq, Nat.reduceAdd, Nat.reduceMul, Nat.reduceSub, Nat.reducePow, Int.reduceLE, Int.reduceLT, Int.reduceNeg, Int.reduceToNat, Int.reduceAdd, Int.reduceSub] at hr
      obtain ⟨rfl, rfl⟩ := hr
      refine ⟨vc, ?_⟩
      refine AWPL_nil ?_
      refine QB_normal ?_
      exact AWPB_wk [0, 1] mkWk ((hAA _ _ _).1 hn13)
    · skip
      refine AWPL_rn tab_ok 1 [1, 2, 10, 12, 54, 55, 56, 57, 61, 62, 63] fun c st' hr => ?_
      simp only [go_sem, reduceIte, reduceCtorEq, Nat.reduceEqDiff, Nat.reduceLT, Nat.reduceLeDiff, Nat.reduceBEq, Nat.reduceAdd, Nat.reduceMul, Nat.reduceSub, Nat.reducePow, Int.reduceLE, Int.reduceLT, Int.reduceNeg, Int.reduceToNat, Int.reduceAdd, Int.reduceSub] at hr
      obtain ⟨rfl, rfl⟩ := hr
      refine ⟨vc, ?_⟩
      refine AWPL_nil ?_
      refine QB_normal ?_
      exact AWPB_wk [0, 2, 1] mkWk ((hAA _ _ _).1 hn17))
set_option maxRecDepth 8000 in
set_option maxHeartbeats 4000000 in
theorem J_hn20 {a1 a2 g_0 : Int} {g_1 y2 : List (Int × Int)} {y1 : Bool × Int} (hy : slices_Clone_api_Edge_api_Edge g_1 = some y2) (h : (y2 ++ [(a1, a2)]).length ≤ 8796093022208) {w0 : World} {Q : Exit → St → Prop} {AA : Nat → Array Bool → St → Prop} (hAA : ∀ g L st, AA g L st ↔ AWPB Try.prog w0 reg7.toArray Q g L st) (hn14 : AA 6 #[true, true, true, true, false, true, true, true, false, false, false, false, false] ⟨76, [(1, .int .i64 a1), (2, .int .i64 a2), (10, .bool y1.1), (54, .int .i64 g_0), (56, .fn 2 g_1.length (fun i => [.int .i64 ((g_1.getD i (0, 0)).1), .int .i64 ((g_1.getD i (0, 0)).2)])), (60, .agg [.int .i64 a1, .int .i64 a2])], [some (.gen 48 2 [[.int .i64 g_0, .fn 2 g_1.length (fun i => [.int .i64 ((g_1.getD i (0, 0)).1), .int .i64 ((g_1.getD i (0, 0)).2)])]])]⟩) (hn18 : AA 6 #[true, true, true, false, false, true, true, true, true, false, false, false, false] ⟨76, [(1, .int .i64 a1), (2, .int .i64 a2), (10, .bool y1.1), (54, .int .i64 g_0), (55, .ptr 0 0 1), (61, .own 1 1)], [some (.gen 48 2 [[.int .i64 g_0, .fn 2 g_1.length (fun i => [.int .i64 ((g_1.getD i (0, 0)).1), .int .i64 ((g_1.getD i (0, 0)).2)])]]), some (.gen 52 2 (List.map (fun e => [.int .i64 e.1, .int .i64 e.2]) [(a1, a2)]))]⟩) (hn19 : AA 6 #[true, true, true, false, false, true, true, true, false, false, false, true, false] ⟨76, [(1, .int .i64 a1), (2, .int .i64 a2), (10, .bool y1.1), (12, .ptr 1 0 0), (54, .int .i64 g_0), (55, .ptr 0 0 1), (60, .agg [.int .i64 a1, .int .i64 a2])], [some (.gen 48 2 [[.int .i64 g_0, .fn 2 g_1.length (fun i => [.int .i64 ((g_1.getD i (0, 0)).1), .int .i64 ((g_1.getD i (0, 0)).2)])]]), some (.gen 48 2 [[.int .i64 0, .nil]])]⟩) : AA 7 #[true, true, true, false, false, true, true, true, false, false, false, false, false] ⟨76, [(1, .int .i64 a1), (2, .int .i64 a2), (10, .bool y1.1), (54, .int .i64 g_0), (55, .ptr 0 0 1), (60, .agg [.int .i64 a1, .int .i64 a2])], [some (.gen 48 2 [[.int .i64 g_0, .fn 2 g_1.length (fun i => [.int .i64 ((g_1.getD i (0, 0)).1), .int .i64 ((g_1.getD i (0, 0)).2)])]])]⟩ := (hAA _ _ _).2 (by
    refine AWPB_three 3 8 11 _ _ _ (by kernel_rfl) rfl rfl rfl ?_ ?_ ?_
    · skip
      refine AWPL_rn tab_ok 1 [1, 2, 10, 12, 54, 56, 57, 60, 61, 62, 63] fun c st' hr => ?_
      simp only [go_sem, reduceIte, reduceCtorEq, Nat.reduceEqDiff, Nat.reduceLT, Nat.reduceLeDiff, Nat.reduceBEq, Nat.reduceAdd, Nat.reduceMul, Nat.reduceSub, Nat.reducePow, Int.reduceLE, Int.reduceLT, Int.reduceNeg, Int.reduceToNat, Int.reduceAdd, Int.reduceSub] at hr
      obtain ⟨rfl, rfl⟩ := hr
      refine ⟨vc, ?_⟩
      refine AWPL_nil ?_
      refine QB_normal ?_
      exact AWPB_wk [0] mkWk ((hAA _ _ _).1 hn14)
    · skip
      refine AWPL_rn tab_ok 1 [1, 2, 10, 12, 54, 55, 56, 57, 61, 62, 63] fun c st' hr => ?_
      simp only [go_sem, reduceIte, reduceCtorEq, Nat.reduceEqDiff, Nat.reduceLT, Nat.reduceLeDiff, Nat.reduceBEq, Nat.reduceAdd, Nat.reduceMul, Nat.reduceSub, Nat.reducePow, Int.reduceLE, Int.reduceLT, Int.reduceNeg, Int.reduceToNat, Int.reduceAdd, Int.reduceSub] at hr
      obtain ⟨rfl, rfl⟩ := hr
      refine ⟨vc, ?_⟩
      refine AWPL_nil ?_
      refine QB_normal ?_
      exact AWPB_wk [0, 1] mkWk ((hAA _ _ _).1 hn18)
    · skip
      refine AWPL_rn tab_ok 1 [1, 2, 10, 12, 54, 55, 56, 57, 60, 61, 62, 63] fun c st' hr => ?_
      simp only [go_sem, reduceIte, reduceCtorEq, Nat.reduceEqDiff, Nat.reduceLT, Nat.reduceLeDiff, Nat.reduceBEq, Nat.reduceAdd, Nat.reduceMul, Nat.reduceSub, Nat.reducePow, Int.reduceLE, Int.reduceLT, Int.reduceNeg, Int.reduceToNat, Int.reduceAdd, Int.reduceSub] at hr
      obtain ⟨rfl, rfl⟩ := hr
      refine ⟨vc, ?_⟩
      refine AWPL_nil ?_
      refine QB_normal ?_
      exact AWPB_wk [0, 1] mkWk ((hAA _ _ _).1 hn19))
set_option maxRecDepth 8000 in
set_option maxHeartbeats 4000000 in
theorem J_hn21 {a1 a2 g_0 : Int} {g_1 y2 : List (Int × Int)} {y1 : Bool × Int} (hy : slices_Clone_api_Edge_api_Edge g_1 = some y2) (h : (y2 ++ [(a1, a2)]).length ≤ 8796093022208) {w0 : World} {Q : Exit → St → Prop} {AA : Nat → Array Bool → St → Prop} (hAA : ∀ g L st, AA g L st ↔ AWPB Try.prog w0 reg7.toArray Q g L st) (hn15 : AA 6 #[true, true, true, true, false, true, true, false, false, false, false, true, false] ⟨76, [(1, .int .i64 a1), (2, .int .i64 a2), (10, .bool y1.1), (12, .ptr 1 0 0), (54, .int .i64 g_0), (56, .fn 2 g_1.length (fun i => [.int .i64 ((g_1.getD i (0, 0)).1), .int .i64 ((g_1.getD i (0, 0)).2)])), (58, .int .i64 a1), (59, .int .i64 a2)], [some (.gen 48 2 [[.int .i64 g_0, .fn 2 g_1.length (fun i => [.int .i64 ((g_1.getD i (0, 0)).1), .int .i64 ((g_1.getD i (0, 0)).2)])]]), some (.gen 48 2 [[.int .i64 0, .nil]])]⟩) (hn19 : AA 6 #[true, true, true, false, false, true, true, true, false, false, false, true, false] ⟨76, [(1, .int .i64 a1), (2, .int .i64 a2), (10, .bool y1.1), (12, .ptr 1 0 0), (54, .int .i64 g_0), (55, .ptr 0 0 1), (60, .agg [.int .i64 a1, .int .i64 a2])], [some (.gen 48 2 [[.int .i64 g_0, .fn 2 g_1.length (fun i => [.int .i64 ((g_1.getD i (0, 0)).1), .int .i64 ((g_1.getD i (0, 0)).2)])]]), some (.gen 48 2 [[.int .i64 0, .nil]])]⟩) : AA 7 #[true, true, true, false, false, true, true, false, false, false, false, true, false] ⟨76, [(1, .int .i64 a1), (2, .int .i64 a2), (10, .bool y1.1), (12, .ptr 1 0 0), (54, .int .i64 g_0), (55, .ptr 0 0 1), (58, .int .i64 a1), (59, .int .i64 a2)], [some (.gen 48 2 [[.int .i64 g_0, .fn 2 g_1.length (fun i => [.int .i64 ((g_1.getD i (0, 0)).1), .int .i64 ((g_1.getD i (0, 0)).2)])]]), some (.gen 48 2 [[.int .i64 0, .nil]])]⟩ := (hAA _ _ _).2 (by
    refine AWPB_two 3 7 _ _ (by kernel_rfl) rfl rfl ?_ ?_
    · skip
      refine AWPL_rn tab_ok 1 [1, 2, 10, 12, 54, 56, 57, 58, 59, 60, 61, 62, 63] fun c st' hr => ?_
      simp only [go_sem, reduceIte, reduceCtorEq, Nat.reduceEqDiff, Nat.reduceLT, Nat.reduceLeDiff, Nat.reduceBEq, Nat.reduceAdd, Nat.reduceMul, Nat.reduceSub, Nat.reducePow, Int.reduceLE, Int.reduceLT, Int.reduceNeg, Int.reduceToNat, Int.reduceAdd, Int.reduceSub] at hr
      obtain ⟨rfl, rfl⟩ := hr
      refine ⟨vc, ?_⟩
      refine AWPL_nil ?_
      refine QB_normal ?_
      exact AWPB_wk [0, 1] mkWk ((hAA _ _ _).1 hn15)
    · skip
      refine AWPL_rn tab_ok 1 [1, 2, 10, 12, 54, 55, 56, 57, 60, 61, 62, 63] fun c st' hr => ?_
      simp only [go_sem, reduceIte, reduceCtorEq, Nat.reduceEqDiff, Nat.reduceLT, Nat.reduceLeDiff, Nat.reduceBEq, Nat.reduceAdd, Nat.reduceMul, Nat.reduceSub, Nat.reducePow, Int.reduceLE, Int.reduceLT, Int.reduceNeg, Int.reduceToNat, Int.reduceAdd, Int.reduceSub] at hr
      obtain ⟨rfl, rfl⟩ := hr
      refine ⟨vc, ?_⟩
      refine AWPL_nil ?_
      refine QB_normal ?_
      exact AWPB_wk [0, 1] mkWk ((hAA _ _ _).1 hn19))
set_option maxRecDepth 8000 in
set_option maxHeartbeats 4000000 in
theorem J_hn22 {a1 a2 g_0 : Int} {g_1 y2 : List (Int × Int)} {y1 : Bool × Int} (hy : slices_Clone_api_Edge_api_Edge g_1 = some y2) (h : (y2 ++ [(a1, a2)]).length ≤ 8796093022208) {w0 : World} {Q : Exit → St → Prop} {AA : Nat → Array Bool → St → Prop} (hAA : ∀ g L st, AA g L st ↔ AWPB Try.prog w0 reg7.toArray Q g L st) (hn16 : AA 7 #[true, true, true, true, false, true, true, false, false, false, false, false, false] ⟨76, [(1, .int .i64 a1), (2, .int .i64 a2), (10, .bool y1.1), (54, .int .i64 g_0), (56, .fn 2 g_1.length (fun i => [.int .i64 ((g_1.getD i (0, 0)).1), .int .i64 ((g_1.getD i (0, 0)).2)])), (58, .int .i64 a1), (59, .int .i64 a2)], [some (.gen 48 2 [[.int .i64 g_0, .fn 2 g_1.length (fun i => [.int .i64 ((g_1.getD i (0, 0)).1), .int .i64 ((g_1.getD i (0, 0)).2)])]])]⟩) (hn20 : AA 7 #[true, true, true, false, false, true, true, true, false, false, false, false, false] ⟨76, [(1, .int .i64 a1), (2, .int .i64 a2), (10, .bool y1.1), (54, .int .i64 g_0), (55, .ptr 0 0 1), (60, .agg [.int .i64 a1, .int .i64 a2])], [some (.gen 48 2 [[.int .i64 g_0, .fn 2 g_1.length (fun i => [.int .i64 ((g_1.getD i (0, 0)).1), .int .i64 ((g_1.getD i (0, 0)).2)])]])]⟩) (hn21 : AA 7 #[true, true, true, false, false, true, true, false, false, false, false, true, false] ⟨76, [(1, .int .i64 a1), (2, .int .i64 a2), (10, .bool y1.1), (12, .ptr 1 0 0), (54, .int .i64 g_0), (55, .ptr 0 0 1), (58, .int .i64 a1), (59, .int .i64 a2)], [some (.gen 48 2 [[.int .i64 g_0, .fn 2 g_1.length (fun i => [.int .i64 ((g_1.getD i (0, 0)).1), .int .i64 ((g_1.getD i (0, 0)).2)])]]), some (.gen 48 2 [[.int .i64 0, .nil]])]⟩) : AA 8 #[true, true, true, false, false, true, true, false, false, false, false, false, false] ⟨76, [(1, .int .i64 a1), (2, .int .i64 a2), (10, .bool y1.1), (54, .int .i64 g_0), (55, .ptr 0 0 1), (58, .int .i64 a1), (59, .int .i64 a2)], [some (.gen 48 2 [[.int .i64 g_0, .fn 2 g_1.length (fun i => [.int .i64 ((g_1.getD i (0, 0)).1), .int .i64 ((g_1.getD i (0, 0)).2)])]])]⟩ := (hAA _ _ _).2 (by
    refine AWPB_three 3 7 11 _ _ _ (by kernel_rfl) rfl rfl rfl ?_ ?_ ?_
    · skip
      refine AWPL_rn tab_ok 1 [1, 2, 10, 12, 54, 56, 57, 58, 59, 60, 61, 62, 63] fun c st' hr => ?_
      simp only [go_sem, reduceIte, reduceCtorEq, Nat.reduceEqDiff, Nat.reduceLT, Nat.reduceLeDiff, Nat.reduceBEq, Nat.reduceAdd, Nat.reduceMul, Nat.reduceSub, Nat.reducePow, Int.reduceLE, Int.reduceLT, Int.reduceNeg, Int.reduceToNat, Int.reduceAdd, Int.reduceSub] at hr
      obtain ⟨rfl, rfl⟩ := hr
      refine ⟨vc, ?_⟩
      refine AWPL_nil ?_
      refine QB_normal ?_
      exact AWPB_wk [0] mkWk ((hAA _ _ _).1 hn16)
    · skip
      refine AWPL_rn tab_ok 1 [1, 2, 10, 12, 54, 55, 56, 57, 60, 61, 62, 63] fun c st' hr => ?_
      simp only [go_sem, reduceIte, reduceCtorEq, Nat.reduceEqDiff, Nat.reduceLT, Nat.reduceLeDiff, Nat.reduceBEq, Nat.reduceAdd, Nat.reduceMul, Nat.reduceSub, Nat.reducePow, Int.reduceLE, Int.reduceLT, Int.reduceNeg, Int.reduceToNat, Int.reduceAdd, Int.reduceSub] at hr
      obtain ⟨rfl, rfl⟩ := hr
      refine ⟨vc, ?_⟩
      refine AWPL_nil ?_
      refine QB_normal ?_
      exact AWPB_wk [0] mkWk ((hAA _ _ _).1 hn20)
    · skip
      refine AWPL_rn tab_ok 1 [1, 2, 10, 12, 54, 55, 56, 57, 58, 59, 60, 61, 62, 63] fun c st' hr => ?_
      simp only [go_sem, reduceIte, reduceCtorEq, Nat.reduceEqDiff, Nat.reduceLT, Nat.reduceLeDiff, Nat.reduceBEq, Nat.reduceAdd, Nat.reduceMul, Nat.reduceSub, Nat.reducePow, Int.reduceLE, Int.reduceLT, Int.reduceNeg, Int.reduceToNat, Int.reduceAdd, Int.reduceSub] at hr
      obtain ⟨rfl, rfl⟩ := hr
      refine ⟨vc, ?_⟩
      refine AWPL_nil ?_
      refine QB_normal ?_
      exact AWPB_wk [0, 1] mkWk ((hAA _ _ _).1 hn21))
set_option maxRecDepth 8000 in
set_option maxHeartbeats 4000000 in
theorem J_hn23 {a1 a2 g_0 : Int} {g_1 y2 : List (Int × Int)} {y1 : Bool × Int} (hy : slices_Clone_api_Edge_api_Edge g_1 = some y2) (h : (y2 ++ [(a1, a2)]).length ≤ 8796093022208) {w0 : World} {Q : Exit → St → Prop} {AA : Nat → Array Bool → St → Prop} (hAA : ∀ g L st, AA g L st ↔ AWPB Try.prog w0 reg7.toArray Q g L st) (hn17 : AA 5 #[true, true, true, false, false, true, true, true, true, false, false, true, false] ⟨76, [(1, .int .i64 a1), (2, .int .i64 a2), (10, .bool y1.1), (12, .ptr 2 0 0), (54, .int .i64 g_0), (55, .ptr 0 0 1), (61, .own 1 1)], [some (.gen 48 2 [[.int .i64 g_0, .fn 2 g_1.length (fun i => [.int .i64 ((g_1.getD i (0, 0)).1), .int .i64 ((g_1.getD i (0, 0)).2)])]]), some (.gen 52 2 (List.map (fun e => [.int .i64 e.1, .int .i64 e.2]) [(a1, a2)])), some (.gen 48 2 [[.int .i64 0, .nil]])]⟩) : AA 6 #[true, true, false, false, false, true, true, true, true, false, false, true, false] ⟨76, [(1, .int .i64 a1), (2, .int .i64 a2), (3, .ptr 0 0 0), (10, .bool y1.1), (12, .ptr 2 0 0), (54, .int .i64 g_0), (61, .own 1 1)], [some (.gen 48 2 [[.int .i64 g_0, .fn 2 g_1.length (fun i => [.int .i64 ((g_1.getD i (0, 0)).1), .int .i64 ((g_1.getD i (0, 0)).2)])]]), some (.gen 52 2 (List.map (fun e => [.int .i64 e.1, .int .i64 e.2]) [(a1, a2)])), some (.gen 48 2 [[.int .i64 0, .nil]])]⟩ := (hAA _ _ _).2 (by
    refine AWPB_one 2 _ (by kernel_rfl) rfl ?_
    refine AWPL_rn tab_ok 1 [1, 2, 10, 12, 54, 55, 56, 57, 61, 62, 63] fun c st' hr => ?_
    simp only [go_sem, reduceIte, reduceCtorEq, Nat.reduceEqDiff, Nat.reduceLT, Nat.reduceLeDiff, Nat.reduceBEq, Nat.reduceAdd, Nat.reduceMul, Nat.reduceSub, Nat.reducePow, Int.reduceLE, Int.reduceLT, Int.reduceNeg, Int.reduceToNat, Int.reduceAdd, Int.reduceSub] at hr
    obtain ⟨rfl, rfl⟩ := hr
    refine ⟨vc, ?_⟩
    refine AWPL_nil ?_
    refine QB_normal ?_
    exact AWPB_wk [0, 1, 2] mkWk ((hAA _ _ _).1 hn17))
set_option maxRecDepth 8000 in
set_option maxHeartbeats 4000000 in
theorem J_hn24 {a1 a2 g_0 : Int} {g_1 y2 : List (Int × Int)} {y1 : Bool × Int} (hy : slices_Clone_api_Edge_api_Edge g_1 = some y2) (h : (y2 ++ [(a1, a2)]).length ≤ 8796093022208) {w0 : World} {Q : Exit → St → Prop} {AA : Nat → Array Bool → St → Prop} (hAA : ∀ g L st, AA g L st ↔ AWPB Try.prog w0 reg7.toArray Q g L st) (hn18 : AA 6 #[true, true, true, false, false, true, true, true, true, false, false, false, false] ⟨76, [(1, .int .i64 a1), (2, .int .i64 a2), (10, .bool y1.1), (54, .int .i64 g_0), (55, .ptr 0 0 1), (61, .own 1 1)], [some (.gen 48 2 [[.int .i64 g_0, .fn 2 g_1.length (fun i => [.int .i64 ((g_1.getD i (0, 0)).1), .int .i64 ((g_1.getD i (0, 0)).2)])]]), some (.gen 52 2 (List.map (fun e => [.int .i64 e.1, .int .i64 e.2]) [(a1, a2)]))]⟩) (hn23 : AA 6 #[true, true, false, false, false, true, true, true, true, false, false, true, false] ⟨76, [(1, .int .i64 a1), (2, .int .i64 a2), (3, .ptr 0 0 0), (10, .bool y1.1), (12, .ptr 2 0 0), (54, .int .i64 g_0), (61, .own 1 1)], [some (.gen 48 2 [[.int .i64 g_0, .fn 2 g_1.length (fun i => [.int .i64 ((g_1.getD i (0, 0)).1), .int .i64 ((g_1.getD i (0, 0)).2)])]]), some (.gen 52 2 (List.map (fun e => [.int .i64 e.1, .int .i64 e.2]) [(a1, a2)])), some (.gen 48 2 [[.int .i64 0, .nil]])]⟩) : AA 7 #[true, true, false, false, false, true, true, true, true, false, false, false, false] ⟨76, [(1, .int .i64 a1), (2, .int .i64 a2), (3, .ptr 0 0 0), (10, .bool y1.1), (54, .int .i64 g_0), (61, .own 1 1)], [some (.gen 48 2 [[.int .i64 g_0, .fn 2 g_1.length (fun i => [.int .i64 ((g_1.getD i (0, 0)).1), .int .i64 ((g_1.getD i (0, 0)).2)])]]), some (.gen 52 2 (List.map (fun e => [.int .i64 e.1, .int .i64 e.2]) [(a1, a2)]))]⟩ := (hAA _ _ _).2 (by
    refine AWPB_two 2 11 _ _ (by kernel_rfl) rfl rfl ?_ ?_
    · skip
      refine AWPL_rn tab_ok 1 [1, 2, 10, 12, 54, 55, 56, 57, 61, 62, 63] fun c st' hr => ?_
      simp only [go_sem, reduceIte, reduceCtorEq, Nat.reduceEqDiff, Nat.reduceLT, Nat.reduceLeDiff, Nat.reduceBEq, Nat.reduceAdd, Nat.reduceMul, Nat.reduceSub, Nat.reducePow, Int.reduceLE, Int.reduceLT, Int.reduceNeg, Int.reduceToNat, Int.reduceAdd, Int.reduceSub] at hr
      obtain ⟨rfl, rfl⟩ := hr
      refine ⟨vc, ?_⟩
      refine AWPL_nil ?_
      refine QB_normal ?_
      exact AWPB_wk [0, 1] mkWk ((hAA _ _ _).1 hn18)
    · skip
      refine AWPL_rn tab_ok 1 [1, 2, 3, 10, 12, 54, 55, 56, 57, 61, 62, 63] fun c st' hr => ?_
      simp only [go_sem, reduceIte, reduceCtorEq, Nat.reduceEqDiff, Nat.reduceLT, Nat.reduceLeDiff, Nat.reduceBEq, Nat.reduceAdd, Nat.reduceMul, Nat.reduceSub, Nat.reducePow, Int.reduceLE, Int.reduceLT, Int.reduceNeg, Int.reduceToNat, Int.reduceAdd, Int.reduceSub] at hr
      obtain ⟨rfl, rfl⟩ := hr
      refine ⟨vc, ?_⟩
      refine AWPL_nil ?_
      refine QB_normal ?_
      exact AWPB_wk [0, 1, 2] mkWk ((hAA _ _ _).1 hn23))
set_option maxRecDepth 8000 in
set_option maxHeartbeats 4000000 in
theorem J_hn25 {a1 a2 g_0 : Int} {g_1 y2 : List (Int × Int)} {y1 : Bool × Int} (hy : slices_Clone_api_Edge_api_Edge g_1 = some y2) (h : (y2 ++ [(a1, a2)]).length ≤ 8796093022208) {w0 : World} {Q : Exit → St → Prop} {AA : Nat → Array Bool → St → Prop} (hAA : ∀ g L st, AA g L st ↔ AWPB Try.prog w0 reg7.toArray Q g L st) (hn19 : AA 6 #[true, true, true, false, false, true, true, true, false, false, false, true, false] ⟨76, [(1, .int .i64 a1), (2, .int .i64 a2), (10, .bool y1.1), (12, .ptr 1 0 0), (54, .int .i64 g_0), (55, .ptr 0 0 1), (60, .agg [.int .i64 a1, .int .i64 a2])], [some (.gen 48 2 [[.int .i64 g_0, .fn 2 g_1.length (fun i => [.int .i64 ((g_1.getD i (0, 0)).1), .int .i64 ((g_1.getD i (0, 0)).2)])]]), some (.gen 48 2 [[.int .i64 0, .nil]])]⟩) (hn23 : AA 6 #[true, true, false, false, false, true, true, true, true, false, false, true, false] ⟨76, [(1, .int .i64 a1), (2, .int .i64 a2), (3, .ptr 0 0 0), (10, .bool y1.1), (12, .ptr 2 0 0), (54, .int .i64 g_0), (61, .own 1 1)], [some (.gen 48 2 [[.int .i64 g_0, .fn 2 g_1.length (fun i => [.int .i64 ((g_1.getD i (0, 0)).1), .int .i64 ((g_1.getD i (0, 0)).2)])]]), some (.gen 52 2 (List.map (fun e => [.int .i64 e.1, .int .i64 e.2]) [(a1, a2)])), some (.gen 48 2 [[.int .i64 0, .nil]])]⟩) : AA 7 #[true, true, false, false, false, true, true, true, false, false, false, true, false] ⟨76, [(1, .int .i64 a1), (2, .int .i64 a2), (3, .ptr 0 0 0), (10, .bool y1.1), (12, .ptr 1 0 0), (54, .int .i64 g_0), (60, .agg [.int .i64 a1, .int .i64 a2])], [some (.gen 48 2 [[.int .i64 g_0, .fn 2 g_1.length (fun i => [.int .i64 ((g_1.getD i (0, 0)).1), .int .i64 ((g_1.getD i (0, 0)).2)])]]), some (.gen 48 2 [[.int .i64 0, .nil]])]⟩ := (hAA _ _ _).2 (by
    refine AWPB_two 2 8 _ _ (by kernel_rfl) rfl rfl ?_ ?_
    · skip
      refine AWPL_rn tab_ok 1 [1, 2, 10, 12, 54, 55, 56, 57, 60, 61, 62, 63] fun c st' hr => ?_
      simp only [go_sem, reduceIte, reduceCtorEq, Nat.reduceEqDiff, Nat.reduceLT, Nat.reduceLeDiff, Nat.reduceBEq, Nat.reduceAdd, Nat.reduceMul, Nat.reduceSub, Nat.reducePow, Int.reduceLE, Int.reduceLT, Int.reduceNeg, Int.reduceToNat, Int.reduceAdd, Int.reduceSub] at hr
      obtain ⟨rfl, rfl⟩ := hr
      refine ⟨vc, ?_⟩
      refine AWPL_nil ?_
      refine QB_normal ?_
      exact AWPB_wk [0, 1] mkWk ((hAA _ _ _).1 hn19)
    · skip
      refine AWPL_rn tab_ok 1 [1, 2, 3, 10, 12, 54, 55, 56, 57, 61, 62, 63] fun c st' hr => ?_
      simp only [go_sem, reduceIte, reduceCtorEq, Nat.reduceEqDiff, Nat.reduceLT, Nat.reduceLeDiff, Nat.reduceBEq, Nat.reduceAdd, Nat.reduceMul, Nat.reduceSub, Nat.reducePow, Int.reduceLE, Int.reduceLT, Int.reduceNeg, Int.reduceToNat, Int.reduceAdd, Int.reduceSub] at hr
      obtain ⟨rfl, rfl⟩ := hr
      refine ⟨vc, ?_⟩
      refine AWPL_nil ?_
      refine QB_normal ?_
      exact AWPB_wk [0, 2, 1] mkWk ((hAA _ _ _).1 hn23))
set_option maxRecDepth 8000 in
set_option maxHeartbeats 4000000 in
theorem J_hn26 {a1 a2 g_0 : Int} {g_1 y2 : List (Int × Int)} {y1 : Bool × Int} (hy : slices_Clone_api_Edge_api_Edge g_1 = some y2) (h : (y2 ++ [(a1, a2)]).length ≤ 8796093022208) {w0 : World} {Q : Exit → St → Prop} {AA : Nat → Array Bool → St → Prop} (hAA : ∀ g L st, AA g L st ↔ AWPB Try.prog w0 reg7.toArray Q g L st) (hn20 : AA 7 #[true, true, true, false, false, true, true, true, false, false, false, false, false] ⟨76, [(1, .int .i64 a1), (2, .int .i64 a2), (10, .bool y1.1), (54, .int .i64 g_0), (55, .ptr 0 0 1), (60, .agg [.int .i64 a1, .int .i64 a2])], [some (.gen 48 2 [[.int .i64 g_0, .fn 2 g_1.length (fun i => [.int .i64 ((g_1.getD i (0, 0)).1), .int .i64 ((g_1.getD i (0, 0)).2)])]])]⟩) (hn24 : AA 7 #[true, true, false, false, false, true, true, true, true, false, false, false, false] ⟨76, [(1, .int .i64 a1), (2, .int .i64 a2), (3, .ptr 0 0 0), (10, .bool y1.1), (54, .int .i64 g_0), (61, .own 1 1)], [some (.gen 48 2 [[.int .i64 g_0, .fn 2 g_1.length (fun i => [.int .i64 ((g_1.getD i (0, 0)).1), .int .i64 ((g_1.getD i (0, 0)).2)])]]), some (.gen 52 2 (List.map (fun e => [.int .i64 e.1, .int .i64 e.2]) [(a1, a2)]))]⟩) (hn25 : AA 7 #[true, true, false, false, false, true, true, true, false, false, false, true, false] ⟨76, [(1, .int .i64 a1), (2, .int .i64 a2), (3, .ptr 0 0 0), (10, .bool y1.1), (12, .ptr 1 0 0), (54, .int .i64 g_0), (60, .agg [.int .i64 a1, .int .i64 a2])], [some (.gen 48 2 [[.int .i64 g_0, .fn 2 g_1.length (fun i => [.int .i64 ((g_1.getD i (0, 0)).1), .int .i64 ((g_1.getD i (0, 0)).2)])]]), some (.gen 48 2 [[.int .i64 0, .nil]])]⟩) : AA 8 #[true, true, false, false, false, true, true, true, false, false, false, false, false] ⟨76, [(1, .int .i64 a1), (2, .int .i64 a2), (3, .ptr 0 0 0), (10, .bool y1.1), (54, .int .i64 g_0), (60, .agg [.int .i64 a1, .int .i64 a2])], [some (.gen 48 2 [[.int .i64 g_0, .fn 2 g_1.length (fun i => [.int .i64 ((g_1.getD i (0, 0)).1), .int .i64 ((g_1.getD i (0, 0)).2)])]])]⟩ := (hAA _ _ _).2 (by
    refine AWPB_three 2 8 11 _ _ _ (by kernel_rfl) rfl rfl rfl ?_ ?_ ?_
    · skip
      refine AWPL_rn tab_ok 1 [1, 2, 10, 12, 54, 55, 56, 57, 60, 61, 62, 63] fun c st' hr => ?_
      simp only [go_sem, reduceIte, reduceCtorEq, Nat.reduceEqDiff, Nat.reduceLT, Nat.reduceLeDiff, Nat.reduceBEq, Nat.reduceAdd, Nat.reduceMul, Nat.reduceSub, Nat.reducePow, Int.reduceLE, Int.reduceLT, Int.reduceNeg, Int.reduceToNat, Int.reduceAdd, Int.reduceSub] at hr
      obtain ⟨rfl, rfl⟩ := hr
      refine ⟨vc, ?_⟩
      refine AWPL_nil ?_
      refine QB_normal ?_
      exact AWPB_wk [0] mkWk ((hAA _ _ _).1 hn20)
    · skip
      refine AWPL_rn tab_ok 1 [1, 2, 3, 10, 12, 54, 55, 56, 57, 61, 62, 63] fun c st' hr => ?_
      simp only [go_sem, reduceIte, reduceCtorEq, Nat.reduceEqDiff, Nat.reduceLT, Nat.reduceLeDiff, Nat.reduceBEq, Nat.reduceAdd, Nat.reduceMul, Nat.reduceSub, Nat.reducePow, Int.reduceLE, Int.reduceLT, Int.reduceNeg, Int.reduceToNat, Int.reduceAdd, Int.reduceSub] at hr
      obtain ⟨rfl, rfl⟩ := hr
      refine ⟨vc, ?_⟩
      refine AWPL_nil ?_
      refine QB_normal ?_
      exact AWPB_wk [0, 1] mkWk ((hAA _ _ _).1 hn24)
    · skip
      refine AWPL_rn tab_ok 1 [1, 2, 3, 10, 12, 54, 55, 56, 57, 60, 61, 62, 63] fun c st' hr => ?_
      simp only [go_sem, reduceIte, reduceCtorEq, Nat.reduceEqDiff, Nat.reduceLT, Nat.reduceLeDiff, Nat.reduceBEq, Nat.reduceAdd, Nat.reduceMul, Nat.reduceSub, Nat.reducePow, Int.reduceLE, Int.reduceLT, Int.reduceNeg, Int.reduceToNat, Int.reduceAdd, Int.reduceSub] at hr
      obtain ⟨rfl, rfl⟩ := hr
      refine ⟨vc, ?_⟩
      refine AWPL_nil ?_
      refine QB_normal ?_
      exact AWPB_wk [0, 1] mkWk ((hAA _ _ _).1 hn25))
set_option maxRecDepth 8000 in
set_option maxHeartbeats 4000000 in
theorem J_hn27 {a1 a2 g_0 : Int} {g_1 y2 : List (Int × Int)} {y1 : Bool × Int} (hy : slices_Clone_api_Edge_api_Edge g_1 = some y2) (h : (y2 ++ [(a1, a2)]).length ≤ 8796093022208) {w0 : World} {Q : Exit → St → Prop} {AA : Nat → Array Bool → St → Prop} (hAA : ∀ g L st, AA g L st ↔ AWPB Try.prog w0 reg7.toArray Q g L st) (hn21 : AA 7 #[true, true, true, false, false, true, true, false, false, false, false, true, false] ⟨76, [(1, .int .i64 a1), (2, .int .i64 a2), (10, .bool y1.1), (12, .ptr 1 0 0), (54, .int .i64 g_0), (55, .ptr 0 0 1), (58, .int .i64 a1), (59, .int .i64 a2)], [some (.gen 48 2 [[.int .i64 g_0, .fn 2 g_1.length (fun i => [.int .i64 ((g_1.getD i (0, 0)).1), .int .i64 ((g_1.getD i (0, 0)).2)])]]), some (.gen 48 2 [[.int .i64 0, .nil]])]⟩) (hn25 : AA 7 #[true, true, false, false, false, true, true, true, false, false, false, true, false] ⟨76, [(1, .int .i64 a1), (2, .int .i64 a2), (3, .ptr 0 0 0), (10, .bool y1.1), (12, .ptr 1 0 0), (54, .int .i64 g_0), (60, .agg [.int .i64 a1, .int .i64 a2])], [some (.gen 48 2 [[.int .i64 g_0, .fn 2 g_1.length (fun i => [.int .i64 ((g_1.getD i (0, 0)).1), .int .i64 ((g_1.getD i (0, 0)).2)])]]), some (.gen 48 2 [[.int .i64 0, .nil]])]⟩) : AA 8 #[true, true, false, false, false, true, true, false, false, false, false, true, false] ⟨76, [(1, .int .i64 a1), (2, .int .i64 a2), (3, .ptr 0 0 0), (10, .bool y1.1), (12, .ptr 1 0 0), (54, .int .i64 g_0), (58, .int .i64 a1), (59, .int .i64 a2)], [some (.gen 48 2 [[.int .i64 g_0, .fn 2 g_1.length (fun i => [.int .i64 ((g_1.getD i (0, 0)).1), .int .i64 ((g_1.getD i (0, 0)).2)])]]), some (.gen 48 2 [[.int .i64 0, .nil]])]⟩ := (hAA _ _ _).2 (by
    refine AWPB_two 2 7 _ _ (by kernel_rfl) rfl rfl ?_ ?_
    · skip
      refine AWPL_rn tab_ok 1 [1, 2, 10, 12, 54, 55, 56, 57, 58, 59, 60, 61, 62, 63] fun c st' hr => ?_
      simp only [go_sem, reduceIte, reduceCtorEq, Nat.reduceEqDiff, Nat.reduceLT, Nat.reduceLeDiff, Nat.reduceBEq, Nat.reduceAdd, Nat.reduceMul, Nat.reduceSub, Nat.reducePow, Int.reduceLE, Int.reduceLT, Int.reduceNeg, Int.reduceToNat, Int.reduceAdd, Int.reduceSub] at hr
      obtain ⟨rfl, rfl⟩ := hr
      refine ⟨vc, ?_⟩
      refine AWPL_nil ?_
      refine QB_normal ?_
      exact AWPB_wk [0, 1] mkWk ((hAA _ _ _).1 hn21)
    · skip
      refine AWPL_rn tab_ok 1 [1, 2, 3, 10, 12, 54, 55, 56, 57, 60, 61, 62, 63] fun c st' hr => ?_
      simp only [go_sem, reduceIte, reduceCtorEq, Nat.reduceEqDiff, Nat.reduceLT, Nat.reduceLeDiff, Nat.reduceBEq, Nat.reduceAdd, Nat.reduceMul, Nat.reduceSub, Nat.reducePow, Int.reduceLE, Int.reduceLT, Int.reduceNeg, Int.reduceToNat, Int.reduceAdd, Int.reduceSub] at hr
      obtain ⟨rfl, rfl⟩ := hr
      refine ⟨vc, ?_⟩
      refine AWPL_nil ?_
      refine QB_normal ?_
      exact AWPB_wk [0, 1] mkWk ((hAA _ _ _).1 hn25))
set_option maxRecDepth 8000 in
set_option maxHeartbeats 4000000 in
theorem J_hn28 {a1 a2 g_0 : Int} {g_1 y2 : List (Int × Int)} {y1 : Bool × Int} (hy : slices_Clone_api_Edge_api_Edge g_1 = some y2) (h : (y2 ++ [(a1, a2)]).length ≤ 8796093022208) {w0 : World} {Q : Exit → St → Prop} {AA : Nat → Array Bool → St → Prop} (hAA : ∀ g L st, AA g L st ↔ AWPB Try.prog w0 reg7.toArray Q g L st) (hn22 : AA 8 #[true, true, true, false, false, true, true, false, false, false, false, false, false] ⟨76, [(1, .int .i64 a1), (2, .int .i64 a2), (10, .bool y1.1), (54, .int .i64 g_0), (55, .ptr 0 0 1), (58, .int .i64 a1), (59, .int .i64 a2)], [some (.gen 48 2 [[.int .i64 g_0, .fn 2 g_1.length (fun i => [.int .i64 ((g_1.getD i (0, 0)).1), .int .i64 ((g_1.getD i (0, 0)).2)])]])]⟩) (hn26 : AA 8 #[true, true, false, false, false, true, true, true, false, false, false, false, false] ⟨76, [(1, .int .i64 a1), (2, .int .i64 a2), (3, .ptr 0 0 0), (10, .bool y1.1), (54, .int .i64 g_0), (60, .agg [.int .i64 a1, .int .i64 a2])], [some (.gen 48 2 [[.int .i64 g_0, .fn 2 g_1.length (fun i => [.int .i64 ((g_1.getD i (0, 0)).1), .int .i64 ((g_1.getD i (0, 0)).2)])]])]⟩) (hn27 : AA 8 #[true, true, false, false, false, true, true, false, false, false, false, true, false] ⟨76, [(1, .int .i64 a1), (2, .int .i64 a2), (3, .ptr 0 0 0), (10, .bool y1.1), (12, .ptr 1 0 0), (54, .int .i64 g_0), (58, .int .i64 a1), (59, .int .i64 a2)], [some (.gen 48 2 [[.int .i64 g_0, .fn 2 g_1.length (fun i => [.int .i64 ((g_1.getD i (0, 0)).1), .int .i64 ((g_1.getD i (0, 0)).2)])]]), some (.gen 48 2 [[.int .i64 0, .nil]])]⟩) : AA 9 #[true, true, false, false, false, true, true, false, false, false, false, false, false] ⟨76, [(1, .int .i64 a1), (2, .int .i64 a2), (3, .ptr 0 0 0), (10, .bool y1.1), (54, .int .i64 g_0), (58, .int .i64 a1), (59, .int .i64 a2)], [some (.gen 48 2 [[.int .i64 g_0, .fn 2 g_1.length (fun i => [.int .i64 ((g_1.getD i (0, 0)).1), .int .i64 ((g_1.getD i (0, 0)).2)])]])]⟩ := (hAA _ _ _).2 (by
    refine AWPB_three 2 7 11 _ _ _ (by kernel_rfl) rfl rfl rfl ?_ ?_ ?_
    · skip
      refine AWPL_rn tab_ok 1 [1, 2, 10, 12, 54, 55, 56, 57, 58, 59, 60, 61, 62, 63] fun c st' hr => ?_
      simp only [go_sem, reduceIte, reduceCtorEq, Nat.reduceEqDiff, Nat.reduceLT, Nat.reduceLeDiff, Nat.reduceBEq, Nat.reduceAdd, Nat.reduceMul, Nat.reduceSub, Nat.reducePow, Int.reduceLE, Int.reduceLT, Int.reduceNeg, Int.reduceToNat, Int.reduceAdd, Int.reduceSub] at hr
      obtain ⟨rfl, rfl⟩ := hr
      refine ⟨vc, ?_⟩
      refine AWPL_nil ?_
      refine QB_normal ?_
      exact AWPB_wk [0] mkWk ((hAA _ _ _).1 hn22)
    · skip
      refine AWPL_rn tab_ok 1 [1, 2, 3, 10, 12, 54, 55, 56, 57, 60, 61, 62, 63] fun c st' hr => ?_
      simp only [go_sem, reduceIte, reduceCtorEq, Nat.reduceEqDiff, Nat.reduceLT, Nat.reduceLeDiff, Nat.reduceBEq, Nat.reduceAdd, Nat.reduceMul, Nat.reduceSub, Nat.reducePow, Int.reduceLE, Int.reduceLT, Int.reduceNeg, Int.reduceToNat, Int.reduceAdd, Int.reduceSub] at hr
      obtain ⟨rfl, rfl⟩ := hr
      refine ⟨vc, ?_⟩
      refine AWPL_nil ?_
      refine QB_normal ?_
      exact AWPB_wk [0] mkWk ((hAA _ _ _).1 hn26)
    · skip
      refine AWPL_rn tab_ok 1 [1, 2, 3, 10, 12, 54, 55, 56, 57, 58, 59, 60, 61, 62, 63] fun c st' hr => ?_
      simp only [go_sem, reduceIte, reduceCtorEq, Nat.reduceEqDiff, Nat.reduceLT, Nat.reduceLeDiff, Nat.reduceBEq, Nat.reduceAdd, Nat.reduceMul, Nat.reduceSub, Nat.reducePow, Int.reduceLE, Int.reduceLT, Int.reduceNeg, Int.reduceToNat, Int.reduceAdd, Int.reduceSub] at hr
      obtain ⟨rfl, rfl⟩ := hr
      refine ⟨vc, ?_⟩
      refine AWPL_nil ?_
      refine QB_normal ?_
      exact AWPB_wk [0, 1] mkWk ((hAA _ _ _).1 hn27))
set_option maxRecDepth 8000 in
set_option maxHeartbeats 4000000 in
theorem J_hn29 {a1 a2 g_0 : Int} {g_1 y2 : List (Int × Int)} {y1 : Bool × Int} (hy : slices_Clone_api_Edge_api_Edge g_1 = some y2) (h : (y2 ++ [(a1, a2)]).length ≤ 8796093022208) {w0 : World} {Q : Exit → St → Prop} {AA : Nat → Array Bool → St → Prop} (hAA : ∀ g L st, AA g L st ↔ AWPB Try.prog w0 reg7.toArray Q g L st) (hn3 : AA 2 #[true, true, true, true, true, true, true, true, true, true, false, true, false] ⟨76, [(1, .int .i64 a1), (2, .int .i64 a2), (10, .bool y1.1), (12, .ptr 4 0 0), (54, .int .i64 g_0), (62, .own 3 ((y2 ++ [(a1, a2)]).length))], [some (.gen 48 2 [[.int .i64 g_0, .fn 2 g_1.length (fun i => [.int .i64 ((g_1.getD i (0, 0)).1), .int .i64 ((g_1.getD i (0, 0)).2)])]]), none, some (.gen 52 2 (List.map (fun e => [.int .i64 e.1, .int .i64 e.2]) [(a1, a2)])), some (.gen 52 2 (List.map (fun e => [.int .i64 e.1, .int .i64 e.2]) (y2 ++ [(a1, a2)]))), some (.gen 48 2 [[.int .i64 0, .nil]])]⟩) : AA 3 #[true, false, true, true, true, true, true, true, true, true, false, true, false] ⟨76, [(1, .int .i64 a1), (2, .int .i64 a2), (10, .bool y1.1), (12, .ptr 4 0 0), (53, .ptr 0 0 0), (62, .own 3 ((y2 ++ [(a1, a2)]).length))], [some (.gen 48 2 [[.int .i64 g_0, .fn 2 g_1.length (fun i => [.int .i64 ((g_1.getD i (0, 0)).1), .int .i64 ((g_1.getD i (0, 0)).2)])]]), none, some (.gen 52 2 (List.map (fun e => [.int .i64 e.1, .int .i64 e.2]) [(a1, a2)])), some (.gen 52 2 (List.map (fun e => [.int .i64 e.1, .int .i64 e.2]) (y2 ++ [(a1, a2)]))), some (.gen 48 2 [[.int .i64 0, .nil]])]⟩ := (hAA _ _ _).2 (by
    refine AWPB_one 1 _ (by kernel_rfl) rfl ?_
    refine AWPL_rn tab_ok 1 [1, 2, 10, 12, 54, 62, 63] fun c st' hr => ?_
    simp only [go_sem, reduceIte, reduceCtorEq, Nat.reduceEqDiff, Nat.reduceLT, Nat.reduceLeDiff, Nat.reduceBEq, Nat.reduceAdd, Nat.reduceMul, Nat.reduceSub, Nat.reducePow, Int.reduceLE, Int.reduceLT, Int.reduceNeg, Int.reduceToNat, Int.reduceAdd, Int.reduceSub] at hr
    obtain ⟨rfl, rfl⟩ := hr
    refine ⟨vc, ?_⟩
    refine AWPL_nil ?_
    refine QB_normal ?_
    exact AWPB_wk [0, 1, 2, 3, 4] mkWk ((hAA _ _ _).1 hn3))
set_option maxRecDepth 8000 in
set_option maxHeartbeats 4000000 in
theorem J_hn30 {a1 a2 g_0 : Int} {g_1 y2 : List (Int × Int)} {y1 : Bool × Int} (hy : slices_Clone_api_Edge_api_Edge g_1 = some y2) (h : (y2 ++ [(a1, a2)]).length ≤ 8796093022208) {w0 : World} {Q : Exit → St → Prop} {AA : Nat → Array Bool → St → Prop} (hAA : ∀ g L st, AA g L st ↔ AWPB Try.prog w0 reg7.toArray Q g L st) (hn4 : AA 3 #[true, true, true, true, true, true, true, true, true, true, false, false, false] ⟨76, [(1, .int .i64 a1), (2, .int .i64 a2), (10, .bool y1.1), (54, .int .i64 g_0), (62, .own 3 ((y2 ++ [(a1, a2)]).length))], [some (.gen 48 2 [[.int .i64 g_0, .fn 2 g_1.length (fun i => [.int .i64 ((g_1.getD i (0, 0)).1), .int .i64 ((g_1.getD i (0, 0)).2)])]]), none, some (.gen 52 2 (List.map (fun e => [.int .i64 e.1, .int .i64 e.2]) [(a1, a2)])), some (.gen 52 2 (List.map (fun e => [.int .i64 e.1, .int .i64 e.2]) (y2 ++ [(a1, a2)])))]⟩) (hn29 : AA 3 #[true, false, true, true, true, true, true, true, true, true, false, true, false] ⟨76, [(1, .int .i64 a1), (2, .int .i64 a2), (10, .bool y1.1), (12, .ptr 4 0 0), (53, .ptr 0 0 0), (62, .own 3 ((y2 ++ [(a1, a2)]).length))], [some (.gen 48 2 [[.int .i64 g_0, .fn 2 g_1.length (fun i => [.int .i64 ((g_1.getD i (0, 0)).1), .int .i64 ((g_1.getD i (0, 0)).2)])]]), none, some (.gen 52 2 (List.map (fun e => [.int .i64 e.1, .int .i64 e.2]) [(a1, a2)])), some (.gen 52 2 (List.map (fun e => [.int .i64 e.1, .int .i64 e.2]) (y2 ++ [(a1, a2)]))), some (.gen 48 2 [[.int .i64 0, .nil]])]⟩) : AA 4 #[true, false, true, true, true, true, true, true, true, true, false, false, false] ⟨76, [(1, .int .i64 a1), (2, .int .i64 a2), (10, .bool y1.1), (53, .ptr 0 0 0), (62, .own 3 ((y2 ++ [(a1, a2)]).length))], [some (.gen 48 2 [[.int .i64 g_0, .fn 2 g_1.length (fun i => [.int .i64 ((g_1.getD i (0, 0)).1), .int .i64 ((g_1.getD i (0, 0)).2)])]]), none, some (.gen 52 2 (List.map (fun e => [.int .i64 e.1, .int .i64 e.2]) [(a1, a2)])), some (.gen 52 2 (List.map (fun e => [.int .i64 e.1, .int .i64 e.2]) (y2 ++ [(a1, a2)])))]⟩ := (hAA _ _ _).2 (by
    refine AWPB_two 1 11 _ _ (by kernel_rfl) rfl rfl ?_ ?_
    · skip
      refine AWPL_rn tab_ok 1 [1, 2, 10, 12, 54, 62, 63] fun c st' hr => ?_
      simp only [go_sem, reduceIte, reduceCtorEq, Nat.reduceEqDiff, Nat.reduceLT, Nat.reduceLeDiff, Nat.reduceBEq, Nat.reduceAdd, Nat.reduceMul, Nat.reduceSub, Nat.reducePow, Int.reduceLE, Int.reduceLT, Int.reduceNeg, Int.reduceToNat, Int.reduceAdd, Int.reduceSub] at hr
      obtain ⟨rfl, rfl⟩ := hr
      refine ⟨vc, ?_⟩
      refine AWPL_nil ?_
      refine QB_normal ?_
      exact AWPB_wk [0, 1, 2, 3] mkWk ((hAA _ _ _).1 hn4)
    · skip
      refine AWPL_rn tab_ok 1 [1, 2, 10, 12, 53, 54, 62, 63] fun c st' hr => ?_
      simp only [go_sem, reduceIte, reduceCtorEq, Nat.reduceEqDiff, Nat.reduceLT, Nat.reduceLeDiff, Nat.reduceBEq, Nat.reduceAdd, Nat.reduceMul, Nat.reduceSub, Nat.reducePow, Int.reduceLE, Int.reduceLT, Int.reduceNeg, Int.reduceToNat, Int.reduceAdd, Int.reduceSub] at hr
      obtain ⟨rfl, rfl⟩ := hr
      refine ⟨vc, ?_⟩
      refine AWPL_nil ?_
      refine QB_normal ?_
      exact AWPB_wk [0, 1, 2, 3, 4] mkWk ((hAA _ _ _).1 hn29))
set_option maxRecDepth 8000 in
set_option maxHeartbeats 4000000 in
theorem J_hn31 {a1 a2 g_0 : Int} {g_1 y2 : List (Int × Int)} {y1 : Bool × Int} (hy : slices_Clone_api_Edge_api_Edge g_1 = some y2) (h : (y2 ++ [(a1, a2)]).length ≤ 8796093022208) {w0 : World} {Q : Exit → St → Prop} {AA : Nat → Array Bool → St → Prop} (hAA : ∀ g L st, AA g L st ↔ AWPB Try.prog w0 reg7.toArray Q g L st) (hn5 : AA 3 #[true, true, true, true, true, true, true, true, true, false, false, true, false] ⟨76, [(1, .int .i64 a1), (2, .int .i64 a2), (10, .bool y1.1), (12, .ptr 3 0 0), (54, .int .i64 g_0), (57, .own 1 y2.length), (61, .own 2 1)], [some (.gen 48 2 [[.int .i64 g_0, .fn 2 g_1.length (fun i => [.int .i64 ((g_1.getD i (0, 0)).1), .int .i64 ((g_1.getD i (0, 0)).2)])]]), some (.gen 52 2 (List.map (fun e => [.int .i64 e.1, .int .i64 e.2]) y2)), some (.gen 52 2 (List.map (fun e => [.int .i64 e.1, .int .i64 e.2]) [(a1, a2)])), some (.gen 48 2 [[.int .i64 0, .nil]])]⟩) (hn29 : AA 3 #[true, false, true, true, true, true, true, true, true, true, false, true, false] ⟨76, [(1, .int .i64 a1), (2, .int .i64 a2), (10, .bool y1.1), (12, .ptr 4 0 0), (53, .ptr 0 0 0), (62, .own 3 ((y2 ++ [(a1, a2)]).length))], [some (.gen 48 2 [[.int .i64 g_0, .fn 2 g_1.length (fun i => [.int .i64 ((g_1.getD i (0, 0)).1), .int .i64 ((g_1.getD i (0, 0)).2)])]]), none, some (.gen 52 2 (List.map (fun e => [.int .i64 e.1, .int .i64 e.2]) [(a1, a2)])), some (.gen 52 2 (List.map (fun e => [.int .i64 e.1, .int .i64 e.2]) (y2 ++ [(a1, a2)]))), some (.gen 48 2 [[.int .i64 0, .nil]])]⟩) : AA 4 #[true, false, true, true, true, true, true, true, true, false, false, true, false] ⟨76, [(1, .int .i64 a1), (2, .int .i64 a2), (10, .bool y1.1), (12, .ptr 3 0 0), (53, .ptr 0 0 0), (57, .own 1 y2.length), (61, .own 2 1)], [some (.gen 48 2 [[.int .i64 g_0, .fn 2 g_1.length (fun i => [.int .i64 ((g_1.getD i (0, 0)).1), .int .i64 ((g_1.getD i (0, 0)).2)])]]), some (.gen 52 2 (List.map (fun e => [.int .i64 e.1, .int .i64 e.2]) y2)), some (.gen 52 2 (List.map (fun e => [.int .i64 e.1, .int .i64 e.2]) [(a1, a2)])), some (.gen 48 2 [[.int .i64 0, .nil]])]⟩ := (hAA _ _ _).2 (by
    refine AWPB_two 1 9 _ _ (by kernel_rfl) rfl rfl ?_ ?_
    · skip
      refine AWPL_rn tab_ok 1 [1, 2, 10, 12, 54, 57, 61, 62, 63] fun c st' hr => ?_
      simp only [go_sem, reduceIte, reduceCtorEq, Nat.reduceEqDiff, Nat.reduceLT, Nat.reduceLeDiff, Nat.reduceBEq, Nat.reduceAdd, Nat.reduceMul, Nat.reduceSub, Nat.reducePow, Int.reduceLE, Int.reduceLT, Int.reduceNeg, Int.reduceToNat, Int.reduceAdd, Int.reduceSub] at hr
      obtain ⟨rfl, rfl⟩ := hr
      refine ⟨vc, ?_⟩
      refine AWPL_nil ?_
      refine QB_normal ?_
      exact AWPB_wk [0, 1, 2, 3] mkWk ((hAA _ _ _).1 hn5)
    · skip
      refine AWPL_rn tab_ok 1 [1, 2, 10, 12, 53, 54, 62, 63] fun c st' hr => ?_
      simp only [go_sem, reduceIte, reduceCtorEq, Nat.reduceEqDiff, Nat.reduceLT, Nat.reduceLeDiff, Nat.reduceBEq, Nat.reduceAdd, Nat.reduceMul, Nat.reduceSub, Nat.reducePow, Int.reduceLE, Int.reduceLT, Int.reduceNeg, Int.reduceToNat, Int.reduceAdd, Int.reduceSub] at hr
      obtain ⟨rfl, rfl⟩ := hr
      refine ⟨vc, ?_⟩
      refine AWPL_nil ?_
      refine QB_normal ?_
      exact AWPB_wk [0, 1, 2, 4, 3] mkWk ((hAA _ _ _).1 hn29))
set_option maxRecDepth 8000 in
set_option maxHeartbeats 4000000 in
theorem J_hn32 {a1 a2 g_0 : Int} {g_1 y2 : List (Int × Int)} {y1 : Bool × Int} (hy : slices_Clone_api_Edge_api_Edge g_1 = some y2) (h : (y2 ++ [(a1, a2)]).length ≤ 8796093022208) {w0 : World} {Q : Exit → St → Prop} {AA : Nat → Array Bool → St → Prop} (hAA : ∀ g L st, AA g L st ↔ AWPB Try.prog w0 reg7.toArray Q g L st) (hn6 : AA 4 #[true, true, true, true, true, true, true, true, true, false, false, false, false] ⟨76, [(1, .int .i64 a1), (2, .int .i64 a2), (10, .bool y1.1), (54, .int .i64 g_0), (57, .own 1 y2.length), (61, .own 2 1)], [some (.gen 48 2 [[.int .i64 g_0, .fn 2 g_1.length (fun i => [.int .i64 ((g_1.getD i (0, 0)).1), .int .i64 ((g_1.getD i (0, 0)).2)])]]), some (.gen 52 2 (List.map (fun e => [.int .i64 e.1, .int .i64 e.2]) y2)), some (.gen 52 2 (List.map (fun e => [.int .i64 e.1, .int .i64 e.2]) [(a1, a2)]))]⟩) (hn30 : AA 4 #[true, false, true, true, true, true, true, true, true, true, false, false, false] ⟨76, [(1, .int .i64 a1), (2, .int .i64 a2), (10, .bool y1.1), (53, .ptr 0 0 0), (62, .own 3 ((y2 ++ [(a1, a2)]).length))], [some (.gen 48 2 [[.int .i64 g_0, .fn 2 g_1.length (fun i => [.int .i64 ((g_1.getD i (0, 0)).1), .int .i64 ((g_1.getD i (0, 0)).2)])]]), none, some (.gen 52 2 (List.map (fun e => [.int .i64 e.1, .int .i64 e.2]) [(a1, a2)])), some (.gen 52 2 (List.map (fun e => [.int .i64 e.1, .int .i64 e.2]) (y2 ++ [(a1, a2)])))]⟩) (hn31 : AA 4 #[true, false, true, true, true, true, true, true, true, false, false, true, false] ⟨76, [(1, .int .i64 a1), (2, .int .i64 a2), (10, .bool y1.1), (12, .ptr 3 0 0), (53, .ptr 0 0 0), (57, .own 1 y2.length), (61, .own 2 1)], [some (.gen 48 2 [[.int .i64 g_0, .fn 2 g_1.length (fun i => [.int .i64 ((g_1.getD i (0, 0)).1), .int .i64 ((g_1.getD i (0, 0)).2)])]]), some (.gen 52 2 (List.map (fun e => [.int .i64 e.1, .int .i64 e.2]) y2)), some (.gen 52 2 (List.map (fun e => [.int .i64 e.1, .int .i64 e.2]) [(a1, a2)])), some (.gen 48 2 [[.int .i64 0, .nil]])]⟩) : AA 5 #[true, false, true, true, true, true, true, true, true, false, false, false, false] ⟨76, [(1, .int .i64 a1), (2, .int .i64 a2), (10, .bool y1.1), (53, .ptr 0 0 0), (57, .own 1 y2.length), (61, .own 2 1)], [some (.gen 48 2 [[.int .i64 g_0, .fn 2 g_1.length (fun i => [.int .i64 ((g_1.getD i (0, 0)).1), .int .i64 ((g_1.getD i (0, 0)).2)])]]), some (.gen 52 2 (List.map (fun e => [.int .i64 e.1, .int .i64 e.2]) y2)), some (.gen 52 2 (List.map (fun e => [.int .i64 e.1, .int .i64 e.2]) [(a1, a2)]))]⟩ := (hAA _ _ _).2 (by
    refine AWPB_three 1 9 11 _ _ _ (by kernel_rfl) rfl rfl rfl ?_ ?_ ?_
    · skip
      refine AWPL_rn tab_ok 1 [1, 2, 10, 12, 54, 57, 61, 62, 63] fun c st' hr => ?_
      simp only [go_sem, reduceIte, reduceCtorEq, Nat.reduceEqDiff, Nat.reduceLT, Nat.reduceLeDiff, Nat.reduceBEq, Nat.reduceAdd, Nat.reduceMul, Nat.reduceSub, Nat.reducePow, Int.reduceLE, Int.reduceLT, Int.reduceNeg, Int.reduceToNat, Int.reduceAdd, Int.reduceSub] at hr
      obtain ⟨rfl, rfl⟩ := hr
      refine ⟨vc, ?_⟩
      refine AWPL_nil ?_
      refine QB_normal ?_
      exact AWPB_wk [0, 1, 2] mkWk ((hAA _ _ _).1 hn6)
    · skip
      refine AWPL_rn tab_ok 1 [1, 2, 10, 12, 53, 54, 62, 63] fun c st' hr => ?_
      simp only [go_sem, reduceIte, reduceCtorEq, Nat.reduceEqDiff, Nat.reduceLT, Nat.reduceLeDiff, Nat.reduceBEq, Nat.reduceAdd, Nat.reduceMul, Nat.reduceSub, Nat.reducePow, Int.reduceLE, Int.reduceLT, Int.reduceNeg, Int.reduceToNat, Int.reduceAdd, Int.reduceSub] at hr
      obtain ⟨rfl, rfl⟩ := hr
      refine ⟨vc, ?_⟩
      refine AWPL_nil ?_
      refine QB_normal ?_
      exact AWPB_wk [0, 1, 2, 3] mkWk ((hAA _ _ _).1 hn30)
    · skip
      refine AWPL_rn tab_ok 1 [1, 2, 10, 12, 53, 54, 57, 61, 62, 63] fun c st' hr => ?_
      simp only [go_sem, reduceIte, reduceCtorEq, Nat.reduceEqDiff, Nat.reduceLT, Nat.reduceLeDiff, Nat.reduceBEq, Nat.reduceAdd, Nat.reduceMul, Nat.reduceSub, Nat.reducePow, Int.reduceLE, Int.reduceLT, Int.reduceNeg, Int.reduceToNat, Int.reduceAdd, Int.reduceSub] at hr
      obtain ⟨rfl, rfl⟩ := hr
      refine ⟨vc, ?_⟩
      refine AWPL_nil ?_
      refine QB_normal ?_
      exact AWPB_wk [0, 1, 2, 3] mkWk ((hAA _ _ _).1 hn31))
set_option maxRecDepth 8000 in
set_option maxHeartbeats 4000000 in
theorem J_hn33 {a1 a2 g_0 : Int} {g_1 y2 : List (Int × Int)} {y1 : Bool × Int} (hy : slices_Clone_api_Edge_api_Edge g_1 = some y2) (h : (y2 ++ [(a1, a2)]).length ≤ 8796093022208) {w0 : World} {Q : Exit → St → Prop} {AA : Nat → Array Bool → St → Prop} (hAA : ∀ g L st, AA g L st ↔ AWPB Try.prog w0 reg7.toArray Q g L st) (hn7 : AA 4 #[true, true, true, true, true, true, true, true, false, false, false, true, false] ⟨76, [(1, .int .i64 a1), (2, .int .i64 a2), (10, .bool y1.1), (12, .ptr 2 0 0), (54, .int .i64 g_0), (57, .own 1 y2.length), (60, .agg [.int .i64 a1, .int .i64 a2])], [some (.gen 48 2 [[.int .i64 g_0, .fn 2 g_1.length (fun i => [.int .i64 ((g_1.getD i (0, 0)).1), .int .i64 ((g_1.getD i (0, 0)).2)])]]), some (.gen 52 2 (List.map (fun e => [.int .i64 e.1, .int .i64 e.2]) y2)), some (.gen 48 2 [[.int .i64 0, .nil]])]⟩) (hn31 : AA 4 #[true, false, true, true, true, true, true, true, true, false, false, true, false] ⟨76, [(1, .int .i64 a1), (2, .int .i64 a2), (10, .bool y1.1), (12, .ptr 3 0 0), (53, .ptr 0 0 0), (57, .own 1 y2.length), (61, .own 2 1)], [some (.gen 48 2 [[.int .i64 g_0, .fn 2 g_1.length (fun i => [.int .i64 ((g_1.getD i (0, 0)).1), .int .i64 ((g_1.getD i (0, 0)).2)])]]), some (.gen 52 2 (List.map (fun e => [.int .i64 e.1, .int .i64 e.2]) y2)), some (.gen 52 2 (List.map (fun e => [.int .i64 e.1, .int .i64 e.2]) [(a1, a2)])), some (.gen 48 2 [[.int .i64 0, .nil]])]⟩) : AA 5 #[true, false, true, true, true, true, true, true, false, false, false, true, false] ⟨76, [(1, .int .i64 a1), (2, .int .i64 a2), (10, .bool y1.1), (12, .ptr 2 0 0), (53, .ptr 0 0 0), (57, .own 1 y2.length), (60, .agg [.int .i64 a1, .int .i64 a2])], [some (.gen 48 2 [[.int .i64 g_0, .fn 2 g_1.length (fun i => [.int .i64 ((g_1.getD i (0, 0)).1), .int .i64 ((g_1.getD i (0, 0)).2)])]]), some (.gen 52 2 (List.map (fun e => [.int .i64 e.1, .int .i64 e.2]) y2)), some (.gen 48 2 [[.int .i64 0, .nil]])]⟩ := (hAA _ _ _).2 (by
    refine AWPB_two 1 8 _ _ (by kernel_rfl) rfl rfl ?_ ?_
    · skip
      refine AWPL_rn tab_ok 1 [1, 2, 10, 12, 54, 57, 60, 61, 62, 63] fun c st' hr => ?_
      simp only [go_sem, reduceIte, reduceCtorEq, Nat.reduceEqDiff, Nat.reduceLT, Nat.reduceLeDiff, Nat.reduceBEq, Nat.reduceAdd, Nat.reduceMul, Nat.reduceSub, Nat.reducePow, Int.reduceLE, Int.reduceLT, Int.reduceNeg, Int.reduceToNat, Int.reduceAdd, Int.reduceSub] at hr
      obtain ⟨rfl, rfl⟩ := hr
      refine ⟨vc, ?_⟩
      refine AWPL_nil ?_
      refine QB_normal ?_
      exact AWPB_wk [0, 1, 2] mkWk ((hAA _ _ _).1 hn7)
    · skip
      refine AWPL_rn tab_ok 1 [1, 2, 10, 12, 53, 54, 57, 61, 62, 63] fun c st' hr => ?_
      simp only [go_sem, reduceIte, reduceCtorEq, Nat.reduceEqDiff, Nat.reduceLT, Nat.reduceLeDiff, Nat.reduceBEq, Nat.reduceAdd, Nat.reduceMul, Nat.reduceSub, Nat.reducePow, Int.reduceLE, Int.reduceLT, Int.reduceNeg, Int.reduceToNat, Int.reduceAdd, Int.reduceSub] at hr
      obtain ⟨rfl, rfl⟩ := hr
      refine ⟨vc, ?_⟩
      refine AWPL_nil ?_
      refine QB_normal ?_
      exact AWPB_wk [0, 1, 3, 2] mkWk ((hAA _ _ _).1 hn31))
set_option maxRecDepth 8000 in
set_option maxHeartbeats 4000000 in
theorem J_hn34 {a1 a2 g_0 : Int} {g_1 y2 : List (Int × Int)} {y1 : Bool × Int} (hy : slices_Clone_api_Edge_api_Edge g_1 = some y2) (h : (y2 ++ [(a1, a2)]).length ≤ 8796093022208) {w0 : World} {Q : Exit → St → Prop} {AA : Nat → Array Bool → St → Prop} (hAA : ∀ g L st, AA g L st ↔ AWPB Try.prog w0 reg7.toArray Q g L st) (hn8 : AA 5 #[true, true, true, true, true, true, true, true, false, false, false, false, false] ⟨76, [(1, .int .i64 a1), (2, .int .i64 a2), (10, .bool y1.1), (54, .int .i64 g_0), (57, .own 1 y2.length), (60, .agg [.int .i64 a1, .int .i64 a2])], [some (.gen 48 2 [[.int .i64 g_0, .fn 2 g_1.length (fun i => [.int .i64 ((g_1.getD i (0, 0)).1), .int .i64 ((g_1.getD i (0, 0)).2)])]]), some (.gen 52 2 (List.map (fun e => [.int .i64 e.1, .int .i64 e.2]) y2))]⟩) (hn32 : AA 5 #[true, false, true, true, true, true, true, true, true, false, false, false, false] ⟨76, [(1, .int .i64 a1), (2, .int .i64 a2), (10, .bool y1.1), (53, .ptr 0 0 0), (57, .own 1 y2.length), (61, .own 2 1)], [some (.gen 48 2 [[.int .i64 g_0, .fn 2 g_1.length (fun i => [.int .i64 ((g_1.getD i (0, 0)).1), .int .i64 ((g_1.getD i (0, 0)).2)])]]), some (.gen 52 2 (List.map (fun e => [.int .i64 e.1, .int .i64 e.2]) y2)), some (.gen 52 2 (List.map (fun e => [.int .i64 e.1, .int .i64 e.2]) [(a1, a2)]))]⟩) (hn33 : AA 5 #[true, false, true, true, true, true, true, true, false, false, false, true, false] ⟨76, [(1, .int .i64 a1), (2, .int .i64 a2), (10, .bool y1.1), (12, .ptr 2 0 0), (53, .ptr 0 0 0), (57, .own 1 y2.length), (60, .agg [.int .i64 a1, .int .i64 a2])], [some (.gen 48 2 [[.int .i64 g_0, .fn 2 g_1.length (fun i => [.int .i64 ((g_1.getD i (0, 0)).1), .int .i64 ((g_1.getD i (0, 0)).2)])]]), some (.gen 52 2 (List.map (fun e => [.int .i64 e.1, .int .i64 e.2]) y2)), some (.gen 48 2 [[.int .i64 0, .nil]])]⟩) : AA 6 #[true, false, true, true, true, true, true, true, false, false, false, false, false] ⟨76, [(1, .int .i64 a1), (2, .int .i64 a2), (10, .bool y1.1), (53, .ptr 0 0 0), (57, .own 1 y2.length), (60, .agg [.int .i64 a1, .int .i64 a2])], [some (.gen 48 2 [[.int .i64 g_0, .fn 2 g_1.length (fun i => [.int .i64 ((g_1.getD i (0, 0)).1), .int .i64 ((g_1.getD i (0, 0)).2)])]]), some (.gen 52 2 (List.map (fun e => [.int .i64 e.1, .int .i64 e.2]) y2))]⟩ := (hAA _ _ _).2 (by
    refine AWPB_three 1 8 11 _ _ _ (by kernel_rfl) rfl rfl rfl ?_ ?_ ?_
    · skip
      refine AWPL_rn tab_ok 1 [1, 2, 10, 12, 54, 57, 60, 61, 62, 63] fun c st' hr => ?_
      simp only [go_sem, reduceIte, reduceCtorEq, Nat.reduceEqDiff, Nat.reduceLT, Nat.reduceLeDiff, Nat.reduceBEq, Nat.reduceAdd, Nat.reduceMul, Nat.reduceSub, Nat.reducePow, Int.reduceLE, Int.reduceLT, Int.reduceNeg, Int.reduceToNat, Int.reduceAdd, Int.reduceSub] at hr
      obtain ⟨rfl, rfl⟩ := hr
      refine ⟨vc, ?_⟩
      refine AWPL_nil ?_
      refine QB_normal ?_
      exact AWPB_wk [0, 1] mkWk ((hAA _ _ _).1 hn8)
    · skip
      refine AWPL_rn tab_ok 1 [1, 2, 10, 12, 53, 54, 57, 61, 62, 63] fun c st' hr => ?_
      simp only [go_sem, reduceIte, reduceCtorEq, Nat.reduceEqDiff, Nat.reduceLT, Nat.reduceLeDiff, Nat.reduceBEq, Nat.reduceAdd, Nat.reduceMul, Nat.reduceSub, Nat.reducePow, Int.reduceLE, Int.reduceLT, Int.reduceNeg, Int.reduceToNat, Int.reduceAdd, Int.reduceSub] at hr
      obtain ⟨rfl, rfl⟩ := hr
      refine ⟨vc, ?_⟩
      refine AWPL_nil ?_
      refine QB_normal ?_
      exact AWPB_wk [0, 1, 2] mkWk ((hAA _ _ _).1 hn32)
    · skip
      refine AWPL_rn tab_ok 1 [1, 2, 10, 12, 53, 54, 57, 60, 61, 62, 63] fun c st' hr => ?_
      simp only [go_sem, reduceIte, reduceCtorEq, Nat.reduceEqDiff, Nat.reduceLT, Nat.reduceLeDiff, Nat.reduceBEq, Nat.reduceAdd, Nat.reduceMul, Nat.reduceSub, Nat.reducePow, Int.reduceLE, Int.reduceLT, Int.reduceNeg, Int.reduceToNat, Int.reduceAdd, Int.reduceSub] at hr
      obtain ⟨rfl, rfl⟩ := hr
      refine ⟨vc, ?_⟩
      refine AWPL_nil ?_
      refine QB_normal ?_
      exact AWPB_wk [0, 1, 2] mkWk ((hAA _ _ _).1 hn33))
set_option maxRecDepth 8000 in
set_option maxHeartbeats 4000000 in
theorem J_hn35 {a1 a2 g_0 : Int} {g_1 y2 : List (Int × Int)} {y1 : Bool × Int} (hy : slices_Clone_api_Edge_api_Edge g_1 = some y2) (h : (y2 ++ [(a1, a2)]).length ≤ 8796093022208) {w0 : World} {Q : Exit → St → Prop} {AA : Nat → Array Bool → St → Prop} (hAA : ∀ g L st, AA g L st ↔ AWPB Try.prog w0 reg7.toArray Q g L st) (hn9 : AA 5 #[true, true, true, true, true, true, true, false, false, false, false, true, false] ⟨76, [(1, .int .i64 a1), (2, .int .i64 a2), (10, .bool y1.1), (12, .ptr 2 0 0), (54, .int .i64 g_0), (57, .own 1 y2.length), (58, .int .i64 a1), (59, .int .i64 a2)], [some (.gen 48 2 [[.int .i64 g_0, .fn 2 g_1.length (fun i => [.int .i64 ((g_1.getD i (0, 0)).1), .int .i64 ((g_1.getD i (0, 0)).2)])]]), some (.gen 52 2 (List.map (fun e => [.int .i64 e.1, .int .i64 e.2]) y2)), some (.gen 48 2 [[.int .i64 0, .nil]])]⟩) (hn33 : AA 5 #[true, false, true, true, true, true, true, true, false, false, false, true, false] ⟨76, [(1, .int .i64 a1), (2, .int .i64 a2), (10, .bool y1.1), (12, .ptr 2 0 0), (53, .ptr 0 0 0), (57, .own 1 y2.length), (60, .agg [.int .i64 a1, .int .i64 a2])], [some (.gen 48 2 [[.int .i64 g_0, .fn 2 g_1.length (fun i => [.int .i64 ((g_1.getD i (0, 0)).1), .int .i64 ((g_1.getD i (0, 0)).2)])]]), some (.gen 52 2 (List.map (fun e => [.int .i64 e.1, .int .i64 e.2]) y2)), some (.gen 48 2 [[.int .i64 0, .nil]])]⟩) : AA 6 #[true, false, true, true, true, true, true, false, false, false, false, true, false] ⟨76, [(1, .int .i64 a1), (2, .int .i64 a2), (10, .bool y1.1), (12, .ptr 2 0 0), (53, .ptr 0 0 0), (57, .own 1 y2.length), (58, .int .i64 a1), (59, .int .i64 a2)], [some (.gen 48 2 [[.int .i64 g_0, .fn 2 g_1.length (fun i => [.int .i64 ((g_1.getD i (0, 0)).1), .int .i64 ((g_1.getD i (0, 0)).2)])]]), some (.gen 52 2 (List.map (fun e => [.int .i64 e.1, .int .i64 e.2]) y2)), some (.gen 48 2 [[.int .i64 0, .nil]])]⟩ := (hAA _ _ _).2 (by
    refine AWPB_two 1 7 _ _ (by kernel_rfl) rfl rfl ?_ ?_
    · skip
      refine AWPL_rn tab_ok 1 [1, 2, 10, 12, 54, 57, 58, 59, 60, 61, 62, 63] fun c st' hr => ?_
      simp only [go_sem, reduceIte, reduceCtorEq, Nat.reduceEqDiff, Nat.reduceLT, Nat.reduceLeDiff, Nat.reduceBEq, Nat.reduceAdd, Nat.reduceMul, Nat.reduceSub, Nat.reducePow, Int.reduceLE, Int.reduceLT, Int.reduceNeg, Int.reduceToNat, Int.reduceAdd, Int.reduceSub] at hr
      obtain ⟨rfl, rfl⟩ := hr
      refine ⟨vc, ?_⟩
      refine AWPL_nil ?_
      refine QB_normal ?_
      exact AWPB_wk [0, 1, 2] mkWk ((hAA _ _ _).1 hn9)
    · skip
      refine AWPL_rn tab_ok 1 [1, 2, 10, 12, 53, 54, 57, 60, 61, 62, 63] fun c st' hr => ?_
      simp only [go_sem, reduceIte, reduceCtorEq, Nat.reduceEqDiff, Nat.reduceLT, Nat.reduceLeDiff, Nat.reduceBEq, Nat.reduceAdd, Nat.reduceMul, Nat.reduceSub, Nat.reducePow, Int.reduceLE, Int.reduceLT, Int.reduceNeg, Int.reduceToNat, Int.reduceAdd, Int.reduceSub] at hr
      obtain ⟨rfl, rfl⟩ := hr
      refine ⟨vc, ?_⟩
      refine AWPL_nil ?_
      refine QB_normal ?_
      exact AWPB_wk [0, 1, 2] mkWk ((hAA _ _ _).1 hn33))
set_option maxRecDepth 8000 in
set_option maxHeartbeats 4000000 in
theorem J_hn36 {a1 a2 g_0 : Int} {g_1 y2 : List (Int × Int)} {y1 : Bool × Int} (hy : slices_Clone_api_Edge_api_Edge g_1 = some y2) (h : (y2 ++ [(a1, a2)]).length ≤ 8796093022208) {w0 : World} {Q : Exit → St → Prop} {AA : Nat → Array Bool → St → Prop} (hAA : ∀ g L st, AA g L st ↔ AWPB Try.prog w0 reg7.toArray Q g L st) (hn10 : AA 6 #[true, true, true, true, true, true, true, false, false, false, false, false, false] ⟨76, [(1, .int .i64 a1), (2, .int .i64 a2), (10, .bool y1.1), (54, .int .i64 g_0), (57, .own 1 y2.length), (58, .int .i64 a1), (59, .int .i64 a2)], [some (.gen 48 2 [[.int .i64 g_0, .fn 2 g_1.length (fun i => [.int .i64 ((g_1.getD i (0, 0)).1), .int .i64 ((g_1.getD i (0, 0)).2)])]]), some (.gen 52 2 (List.map (fun e => [.int .i64 e.1, .int .i64 e.2]) y2))]⟩) (hn34 : AA 6 #[true, false, true, true, true, true, true, true, false, false, false, false, false] ⟨76, [(1, .int .i64 a1), (2, .int .i64 a2), (10, .bool y1.1), (53, .ptr 0 0 0), (57, .own 1 y2.length), (60, .agg [.int .i64 a1, .int .i64 a2])], [some (.gen 48 2 [[.int .i64 g_0, .fn 2 g_1.length (fun i => [.int .i64 ((g_1.getD i (0, 0)).1), .int .i64 ((g_1.getD i (0, 0)).2)])]]), some (.gen 52 2 (List.map (fun e => [.int .i64 e.1, .int .i64 e.2]) y2))]⟩) (hn35 : AA 6 #[true, false, true, true, true, true, true, false, false, false, false, true, false] ⟨76, [(1, .int .i64 a1), (2, .int .i64 a2), (10, .bool y1.1), (12, .ptr 2 0 0), (53, .ptr 0 0 0), (57, .own 1 y2.length), (58, .int .i64 a1), (59, .int .i64 a2)], [some (.gen 48 2 [[.int .i64 g_0, .fn 2 g_1.length (fun i => [.int .i64 ((g_1.getD i (0, 0)).1), .int .i64 ((g_1.getD i (0, 0)).2)])]]), some (.gen 52 2 (List.map (fun e => [.int .i64 e.1, .int .i64 e.2]) y2)), some (.gen 48 2 [[.int .i64 0, .nil]])]⟩) : AA 7 #[true, false, true, true, true, true, true, false, false, false, false, false, false] ⟨76, [(1, .int .i64 a1), (2, .int .i64 a2), (10, .bool y1.1), (53, .ptr 0 0 0), (57, .own 1 y2.length), (58, .int .i64 a1), (59, .int .i64 a2)], [some (.gen 48 2 [[.int .i64 g_0, .fn 2 g_1.length (fun i => [.int .i64 ((g_1.getD i (0, 0)).1), .int .i64 ((g_1.getD i (0, 0)).2)])]]), some (.gen 52 2 (List.map (fun e => [.int .i64 e.1, .int .i64 e.2]) y2))]⟩ := (hAA _ _ _).2 (by
    refine AWPB_three 1 7 11 _ _ _ (by kernel_rfl) rfl rfl rfl ?_ ?_ ?_
    · skip
      refine AWPL_rn tab_ok 1 [1, 2, 10, 12, 54, 57, 58, 59, 60, 61, 62, 63] fun c st' hr => ?_
      simp only [go_sem, reduceIte, reduceCtorEq, Nat.reduceEqDiff, Nat.reduceLT, Nat.reduceLeDiff, Nat.reduceBEq, Nat.reduceAdd, Nat.reduceMul, Nat.reduceSub, Nat.reducePow, Int.reduceLE, Int.reduceLT, Int.reduceNeg, Int.reduceToNat, Int.reduceAdd, Int.reduceSub] at hr
      obtain ⟨rfl, rfl⟩ := hr
      refine ⟨vc, ?_⟩
      refine AWPL_nil ?_
      refine QB_normal ?_
      exact AWPB_wk [0, 1] mkWk ((hAA _ _ _).1 hn10)
    · skip
      refine AWPL_rn tab_ok 1 [1, 2, 10, 12, 53, 54, 57, 60, 61, 62, 63] fun c st' hr => ?_
      simp only [go_sem, reduceIte, reduceCtorEq, Nat.reduceEqDiff, Nat.reduceLT, Nat.reduceLeDiff, Nat.reduceBEq, Nat.reduceAdd, Nat.reduceMul, Nat.reduceSub, Nat.reducePow, Int.reduceLE, Int.reduceLT, Int.reduceNeg, Int.reduceToNat, Int.reduceAdd, Int.reduceSub] at hr
      obtain ⟨rfl, rfl⟩ := hr
      refine ⟨vc, ?_⟩
      refine AWPL_nil ?_
      refine QB_normal ?_
      exact AWPB_wk [0, 1] mkWk ((hAA _ _ _).1 hn34)
    · skip
      refine AWPL_rn tab_ok 1 [1, 2, 10, 12, 53, 54, 57, 58, 59, 60, 61, 62, 63] fun c st' hr => ?_
      simp only [go_sem, reduceIte, reduceCtorEq, Nat.reduceEqDiff, Nat.reduceLT, Nat.reduceLeDiff, Nat.reduceBEq, Nat.reduceAdd, Nat.reduceMul, Nat.reduceSub, Nat.reducePow, Int.reduceLE, Int.reduceLT, Int.reduceNeg, Int.reduceToNat, Int.reduceAdd, Int.reduceSub] at hr
      obtain ⟨rfl, rfl⟩ := hr
      refine ⟨vc, ?_⟩
      refine AWPL_nil ?_
      refine QB_normal ?_
      exact AWPB_wk [0, 1, 2] mkWk ((hAA _ _ _).1 hn35))
set_option maxRecDepth 8000 in
set_option maxHeartbeats 4000000 in
theorem J_hn37 {a1 a2 g_0 : Int} {g_1 y2 : List (Int × Int)} {y1 : Bool × Int} (hy : slices_Clone_api_Edge_api_Edge g_1 = some y2) (h : (y2 ++ [(a1, a2)]).length ≤ 8796093022208) {w0 : World} {Q : Exit → St → Prop} {AA : Nat → Array Bool → St → Prop} (hAA : ∀ g L st, AA g L st ↔ AWPB Try.prog w0 reg7.toArray Q g L st) (hn11 : AA 4 #[true, true, true, true, false, true, true, true, true, false, false, true, false] ⟨76, [(1, .int .i64 a1), (2, .int .i64 a2), (10, .bool y1.1), (12, .ptr 2 0 0), (54, .int .i64 g_0), (56, .fn 2 g_1.length (fun i => [.int .i64 ((g_1.getD i (0, 0)).1), .int .i64 ((g_1.getD i (0, 0)).2)])), (61, .own 1 1)], [some (.gen 48 2 [[.int .i64 g_0, .fn 2 g_1.length (fun i => [.int .i64 ((g_1.getD i (0, 0)).1), .int .i64 ((g_1.getD i (0, 0)).2)])]]), some (.gen 52 2 (List.map (fun e => [.int .i64 e.1, .int .i64 e.2]) [(a1, a2)])), some (.gen 48 2 [[.int .i64 0, .nil]])]⟩) (hn31 : AA 4 #[true, false, true, true, true, true, true, true, true, false, false, true, false] ⟨76, [(1, .int .i64 a1), (2, .int .i64 a2), (10, .bool y1.1), (12, .ptr 3 0 0), (53, .ptr 0 0 0), (57, .own 1 y2.length), (61, .own 2 1)], [some (.gen 48 2 [[.int .i64 g_0, .fn 2 g_1.length (fun i => [.int .i64 ((g_1.getD i (0, 0)).1), .int .i64 ((g_1.getD i (0, 0)).2)])]]), some (.gen 52 2 (List.map (fun e => [.int .i64 e.1, .int .i64 e.2]) y2)), some (.gen 52 2 (List.map (fun e => [.int .i64 e.1, .int .i64 e.2]) [(a1, a2)])), some (.gen 48 2 [[.int .i64 0, .nil]])]⟩) : AA 5 #[true, false, true, true, false, true, true, true, true, false, false, true, false] ⟨76, [(1, .int .i64 a1), (2, .int .i64 a2), (10, .bool y1.1), (12, .ptr 2 0 0), (53, .ptr 0 0 0), (56, .fn 2 g_1.length (fun i => [.int .i64 ((g_1.getD i (0, 0)).1), .int .i64 ((g_1.getD i (0, 0)).2)])), (61, .own 1 1)], [some (.gen 48 2 [[.int .i64 g_0, .fn 2 g_1.length (fun i => [.int .i64 ((g_1.getD i (0, 0)).1), .int .i64 ((g_1.getD i (0, 0)).2)])]]), some (.gen 52 2 (List.map (fun e => [.int .i64 e.1, .int .i64 e.2]) [(a1, a2)])), some (.gen 48 2 [[.int .i64 0, .nil]])]⟩ := (hAA _ _ _).2 (by
    refine AWPB_two 1 4 _ _ (by kernel_rfl) rfl rfl ?_ ?_
    · skip
      refine AWPL_rn tab_ok 1 [1, 2, 10, 12, 54, 56, 57, 61, 62, 63] fun c st' hr => ?_
      simp only [go_sem, reduceIte, reduceCtorEq, Nat.reduceEqDiff, Nat.reduceLT, Nat.reduceLeDiff, Nat.reduceBEq, Nat.reduceAdd, Nat.reduceMul, Nat.reduceSub, Nat.reducePow, Int.reduceLE, Int.reduceLT, Int.reduceNeg, Int.reduceToNat, Int.reduceAdd, Int.reduceSub] at hr
      obtain ⟨rfl, rfl⟩ := hr
      refine ⟨vc, ?_⟩
      refine AWPL_nil ?_
      refine QB_normal ?_
      exact AWPB_wk [0, 1, 2] mkWk ((hAA _ _ _).1 hn11)
    · skip
      refine AWPL_callK [1, 2, 10, 12, 53, 54, 57, 61, 62, 63] (W_slices_Clone_api_Edge_api_Edge hy) rfl rfl pcT rfl Try.call29 (.cons (.atom _ rfl) .nil) (hscG trivial) (of_decide_eq_true rfl) (by first | rfl | simp [nI, nI1, nI0]) (by first | rfl | simp [nIB, nI0]) fun st' hr => ?_
      simp only [go_sem, reduceIte, reduceCtorEq, Nat.reduceEqDiff, Nat.reduceLT, Nat.reduceLeDiff, Nat.reduceBEq, Nat.reduceAdd, Nat.reduceMul, Nat.reduceSub, Nat.reducePow, Int.reduceLE, Int.reduceLT, Int.reduceNeg, Int.reduceToNat, Int.reduceAdd, Int.reduceSub] at hr
      subst hr
      refine AWPL_nil ?_
      refine QB_normal ?_
      exact AWPB_wk [0, 3, 1, 2] mkWk ((hAA _ _ _).1 hn31))
set_option maxRecDepth 8000 in
set_option maxHeartbeats 4000000 in
theorem J_hn38 {a1 a2 g_0 : Int} {g_1 y2 : List (Int × Int)} {y1 : Bool × Int} (hy : slices_Clone_api_Edge_api_Edge g_1 = some y2) (h : (y2 ++ [(a1, a2)]).length ≤ 8796093022208) {w0 : World} {Q : Exit → St → Prop} {AA : Nat → Array Bool → St → Prop} (hAA : ∀ g L st, AA g L st ↔ AWPB Try.prog w0 reg7.toArray Q g L st) (hn12 : AA 5 #[true, true, true, true, false, true, true, true, true, false, false, false, false] ⟨76, [(1, .int .i64 a1), (2, .int .i64 a2), (10, .bool y1.1), (54, .int .i64 g_0), (56, .fn 2 g_1.length (fun i => [.int .i64 ((g_1.getD i (0, 0)).1), .int .i64 ((g_1.getD i (0, 0)).2)])), (61, .own 1 1)], [some (.gen 48 2 [[.int .i64 g_0, .fn 2 g_1.length (fun i => [.int .i64 ((g_1.getD i (0, 0)).1), .int .i64 ((g_1.getD i (0, 0)).2)])]]), some (.gen 52 2 (List.map (fun e => [.int .i64 e.1, .int .i64 e.2]) [(a1, a2)]))]⟩) (hn32 : AA 5 #[true, false, true, true, true, true, true, true, true, false, false, false, false] ⟨76, [(1, .int .i64 a1), (2, .int .i64 a2), (10, .bool y1.1), (53, .ptr 0 0 0), (57, .own 1 y2.length), (61, .own 2 1)], [some (.gen 48 2 [[.int .i64 g_0, .fn 2 g_1.length (fun i => [.int .i64 ((g_1.getD i (0, 0)).1), .int .i64 ((g_1.getD i (0, 0)).2)])]]), some (.gen 52 2 (List.map (fun e => [.int .i64 e.1, .int .i64 e.2]) y2)), some (.gen 52 2 (List.map (fun e => [.int .i64 e.1, .int .i64 e.2]) [(a1, a2)]))]⟩) (hn37 : AA 5 #[true, false, true, true, false, true, true, true, true, false, false, true, false] ⟨76, [(1, .int .i64 a1), (2, .int .i64 a2), (10, .bool y1.1), (12, .ptr 2 0 0), (53, .ptr 0 0 0), (56, .fn 2 g_1.length (fun i => [.int .i64 ((g_1.getD i (0, 0)).1), .int .i64 ((g_1.getD i (0, 0)).2)])), (61, .own 1 1)], [some (.gen 48 2 [[.int .i64 g_0, .fn 2 g_1.length (fun i => [.int .i64 ((g_1.getD i (0, 0)).1), .int .i64 ((g_1.getD i (0, 0)).2)])]]), some (.gen 52 2 (List.map (fun e => [.int .i64 e.1, .int .i64 e.2]) [(a1, a2)])), some (.gen 48 2 [[.int .i64 0, .nil]])]⟩) : AA 6 #[true, false, true, true, false, true, true, true, true, false, false, false, false] ⟨76, [(1, .int .i64 a1), (2, .int .i64 a2), (10, .bool y1.1), (53, .ptr 0 0 0), (56, .fn 2 g_1.length (fun i => [.int .i64 ((g_1.getD i (0, 0)).1), .int .i64 ((g_1.getD i (0, 0)).2)])), (61, .own 1 1)], [some (.gen 48 2 [[.int .i64 g_0, .fn 2 g_1.length (fun i => [.int .i64 ((g_1.getD i (0, 0)).1), .int .i64 ((g_1.getD i (0, 0)).2)])]]), some (.gen 52 2 (List.map (fun e => [.int .i64 e.1, .int .i64 e.2]) [(a1, a2)]))]⟩ := (hAA _ _ _).2 (by
    refine AWPB_three 1 4 11 _ _ _ (by kernel_rfl) rfl rfl rfl ?_ ?_ ?_
    · skip
      refine AWPL_rn tab_ok 1 [1, 2, 10, 12, 54, 56, 57, 61, 62, 63] fun c st' hr => ?_
      simp only [go_sem, reduceIte, reduceCtorEq, Nat.reduceEqDiff, Nat.reduceLT, Nat.reduceLeDiff, Nat.reduceBEq, Nat.reduceAdd, Nat.reduceMul, Nat.reduceSub, Nat.reducePow, Int.reduceLE, Int.reduceLT, Int.reduceNeg, Int.reduceToNat, Int.reduceAdd, Int.reduceSub] at hr
      obtain ⟨rfl, rfl⟩ := hr
      refine ⟨vc, ?_⟩
      refine AWPL_nil ?_
      refine QB_normal ?_
      exact AWPB_wk [0, 1] mkWk ((hAA _ _ _).1 hn12)
    · skip
      refine AWPL_callK [1, 2, 10, 12, 53, 54, 57, 61, 62, 63] (W_slices_Clone_api_Edge_api_Edge hy) rfl rfl pcT rfl Try.call29 (.cons (.atom _ rfl) .nil) (hscG trivial) (of_decide_eq_true rfl) (by first | rfl | simp [nI, nI1, nI0]) (by first | rfl | simp [nIB, nI0]) fun st' hr => ?_
      simp only [go_sem, reduceIte, reduceCtorEq, Nat.reduceEqDiff, Nat.reduceLT, Nat.reduceLeDiff, Nat.reduceBEq, Nat.reduceAdd, Nat.reduceMul, Nat.reduceSub, Nat.reducePow, Int.reduceLE, Int.reduceLT, Int.reduceNeg, Int.reduceToNat, Int.reduceAdd, Int.reduceSub] at hr
      subst hr
      refine AWPL_nil ?_
      refine QB_normal ?_
      exact AWPB_wk [0, 2, 1] mkWk ((hAA _ _ _).1 hn32)
    · skip
      refine AWPL_rn tab_ok 1 [1, 2, 10, 12, 53, 54, 56, 57, 61, 62, 63] fun c st' hr => ?_
      simp only [go_sem, reduceIte, reduceCtorEq, Nat.reduceEqDiff, Nat.reduceLT, Nat.reduceLeDiff, Nat.reduceBEq, Nat.reduceAdd, Nat.reduceMul, Nat.reduceSub, Nat.reducePow, Int.reduceLE, Int.reduceLT, Int.reduceNeg, Int.reduceToNat, Int.reduceAdd, Int.reduceSub] at hr
      obtain ⟨rfl, rfl⟩ := hr
      refine ⟨vc, ?_⟩
      refine AWPL_nil ?_
      refine QB_normal ?_
      exact AWPB_wk [0, 1, 2] mkWk ((hAA _ _ _).1 hn37))
set_option maxRecDepth 8000 in
set_option maxHeartbeats 4000000 in
theorem J_hn39 {a1 a2 g_0 : Int} {g_1 y2 : List (Int × Int)} {y1 : Bool × Int} (hy : slices_Clone_api_Edge_api_Edge g_1 = some y2) (h : (y2 ++ [(a1, a2)]).length ≤ 8796093022208) {w0 : World} {Q : Exit → St → Prop} {AA : Nat → Array Bool → St → Prop} (hAA : ∀ g L st, AA g L st ↔ AWPB Try.prog w0 reg7.toArray Q g L st) (hn13 : AA 5 #[true, true, true, true, false, true, true, true, false, false, false, true, false] ⟨76, [(1, .int .i64 a1), (2, .int .i64 a2), (10, .bool y1.1), (12, .ptr 1 0 0), (54, .int .i64 g_0), (56, .fn 2 g_1.length (fun i => [.int .i64 ((g_1.getD i (0, 0)).1), .int .i64 ((g_1.getD i (0, 0)).2)])), (60, .agg [.int .i64 a1, .int .i64 a2])], [some (.gen 48 2 [[.int .i64 g_0, .fn 2 g_1.length (fun i => [.int .i64 ((g_1.getD i (0, 0)).1), .int .i64 ((g_1.getD i (0, 0)).2)])]]), some (.gen 48 2 [[.int .i64 0, .nil]])]⟩) (hn33 : AA 5 #[true, false, true, true, true, true, true, true, false, false, false, true, false] ⟨76, [(1, .int .i64 a1), (2, .int .i64 a2), (10, .bool y1.1), (12, .ptr 2 0 0), (53, .ptr 0 0 0), (57, .own 1 y2.length), (60, .agg [.int .i64 a1, .int .i64 a2])], [some (.gen 48 2 [[.int .i64 g_0, .fn 2 g_1.length (fun i => [.int .i64 ((g_1.getD i (0, 0)).1), .int .i64 ((g_1.getD i (0, 0)).2)])]]), some (.gen 52 2 (List.map (fun e => [.int .i64 e.1, .int .i64 e.2]) y2)), some (.gen 48 2 [[.int .i64 0, .nil]])]⟩) (hn37 : AA 5 #[true, false, true, true, false, true, true, true, true, false, false, true, false] ⟨76, [(1, .int .i64 a1), (2, .int .i64 a2), (10, .bool y1.1), (12, .ptr 2 0 0), (53, .ptr 0 0 0), (56, .fn 2 g_1.length (fun i => [.int .i64 ((g_1.getD i (0, 0)).1), .int .i64 ((g_1.getD i (0, 0)).2)])), (61, .own 1 1)], [some (.gen 48 2 [[.int .i64 g_0, .fn 2 g_1.length (fun i => [.int .i64 ((g_1.getD i (0, 0)).1), .int .i64 ((g_1.getD i (0, 0)).2)])]]), some (.gen 52 2 (List.map (fun e => [.int .i64 e.1, .int .i64 e.2]) [(a1, a2)])), some (.gen 48 2 [[.int .i64 0, .nil]])]⟩) : AA 6 #[true, false, true, true, false, true, true, true, false, false, false, true, false] ⟨76, [(1, .int .i64 a1), (2, .int .i64 a2), (10, .bool y1.1), (12, .ptr 1 0 0), (53, .ptr 0 0 0), (56, .fn 2 g_1.length (fun i => [.int .i64 ((g_1.getD i (0, 0)).1), .int .i64 ((g_1.getD i (0, 0)).2)])), (60, .agg [.int .i64 a1, .int .i64 a2])], [some (.gen 48 2 [[.int .i64 g_0, .fn 2 g_1.length (fun i => [.int .i64 ((g_1.getD i (0, 0)).1), .int .i64 ((g_1.getD i (0, 0)).2)])]]), some (.gen 48 2 [[.int .i64 0, .nil]])]⟩ := (hAA _ _ _).2 (by
    refine AWPB_three 1 4 8 _ _ _ (by kernel_rfl) rfl rfl rfl ?_ ?_ ?_
    · skip
      refine AWPL_rn tab_ok 1 [1, 2, 10, 12, 54, 56, 57, 60, 61, 62, 63] fun c st' hr => ?_
      simp only [go_sem, reduceIte, reduceCtorEq, Nat.reduceEqDiff, Nat.reduceLT, Nat.reduceLeDiff, Nat.reduceBEq, Nat.reduceAdd, Nat.reduceMul, Nat.reduceSub, Nat.reducePow, Int.reduceLE, Int.reduceLT, Int.reduceNeg, Int.reduceToNat, Int.reduceAdd, Int.reduceSub] at hr
      obtain ⟨rfl, rfl⟩ := hr
      refine ⟨vc, ?_⟩
      refine AWPL_nil ?_
      refine QB_normal ?_
      exact AWPB_wk [0, 1] mkWk ((hAA _ _ _).1 hn13)
    · skip
      refine AWPL_callK [1, 2, 10, 12, 53, 54, 57, 60, 61, 62, 63] (W_slices_Clone_api_Edge_api_Edge hy) rfl rfl pcT rfl Try.call29 (.cons (.atom _ rfl) .nil) (hscG trivial) (of_decide_eq_true rfl) (by first | rfl | simp [nI, nI1, nI0]) (by first | rfl | simp [nIB, nI0]) fun st' hr => ?_
      simp only [go_sem, reduceIte, reduceCtorEq, Nat.reduceEqDiff, Nat.reduceLT, Nat.reduceLeDiff, Nat.reduceBEq, Nat.reduceAdd, Nat.reduceMul, Nat.reduceSub, Nat.reducePow, Int.reduceLE, Int.reduceLT, Int.reduceNeg, Int.reduceToNat, Int.reduceAdd, Int.reduceSub] at hr
      subst hr
      refine AWPL_nil ?_
      refine QB_normal ?_
      exact AWPB_wk [0, 2, 1] mkWk ((hAA _ _ _).1 hn33)
    · skip
      refine AWPL_rn tab_ok 1 [1, 2, 10, 12, 53, 54, 56, 57, 61, 62, 63] fun c st' hr => ?_
      simp only [go_sem, reduceIte, reduceCtorEq, Nat.reduceEqDiff, Nat.reduceLT, Nat.reduceLeDiff, Nat.reduceBEq, Nat.reduceAdd, Nat.reduceMul, Nat.reduceSub, Nat.reducePow, Int.reduceLE, Int.reduceLT, Int.reduceNeg, Int.reduceToNat, Int.reduceAdd, Int.reduceSub] at hr
      obtain ⟨rfl, rfl⟩ := hr
      refine ⟨vc, ?_⟩
      refine AWPL_nil ?_
      refine QB_normal ?_
      exact AWPB_wk [0, 2, 1] mkWk ((hAA _ _ _).1 hn37))
set_option maxRecDepth 8000 in
set_option maxHeartbeats 4000000 in
theorem J_hn40 {a1 a2 g_0 : Int} {g_1 y2 : List (Int × Int)} {y1 : Bool × Int} (hy : slices_Clone_api_Edge_api_Edge g_1 = some y2) (h : (y2 ++ [(a1, a2)]).length ≤ 8796093022208) {w0 : World} {Q : Exit → St → Prop} {AA : Nat → Array Bool → St → Prop} (hAA : ∀ g L st, AA g L st ↔ AWPB Try.prog w0 reg7.toArray Q g L st) (hn14 : AA 6 #[true, true, true, true, false, true, true, true, false, false, false, false, false] ⟨76, [(1, .int .i64 a1), (2, .int .i64 a2), (10, .bool y1.1), (54, .int .i64 g_0), (56, .fn 2 g_1.length (fun i => [.int .i64 ((g_1.getD i (0, 0)).1), .int .i64 ((g_1.getD i (0, 0)).2)])), (60, .agg [.int .i64 a1, .int .i64 a2])], [some (.gen 48 2 [[.int .i64 g_0, .fn 2 g_1.length (fun i => [.int .i64 ((g_1.getD i (0, 0)).1), .int .i64 ((g_1.getD i (0, 0)).2)])]])]⟩) (hn34 : AA 6 #[true, false, true, true, true, true, true, true, false, false, false, false, false] ⟨76, [(1, .int .i64 a1), (2, .int .i64 a2), (10, .bool y1.1), (53, .ptr 0 0 0), (57, .own 1 y2.length), (60, .agg [.int .i64 a1, .int .i64 a2])], [some (.gen 48 2 [[.int .i64 g_0, .fn 2 g_1.length (fun i => [.int .i64 ((g_1.getD i (0, 0)).1), .int .i64 ((g_1.getD i (0, 0)).2)])]]), some (.gen 52 2 (List.map (fun e => [.int .i64 e.1, .int .i64 e.2]) y2))]⟩) (hn38 : AA 6 #[true, false, true, true, false, true, true, true, true, false, false, false, false] ⟨76, [(1, .int .i64 a1), (2, .int .i64 a2), (10, .bool y1.1), (53, .ptr 0 0 0), (56, .fn 2 g_1.length (fun i => [.int .i64 ((g_1.getD i (0, 0)).1), .int .i64 ((g_1.getD i (0, 0)).2)])), (61, .own 1 1)], [some (.gen 48 2 [[.int .i64 g_0, .fn 2 g_1.length (fun i => [.int .i64 ((g_1.getD i (0, 0)).1), .int .i64 ((g_1.getD i (0, 0)).2)])]]), some (.gen 52 2 (List.map (fun e => [.int .i64 e.1, .int .i64 e.2]) [(a1, a2)]))]⟩) (hn39 : AA 6 #[true, false, true, true, false, true, true, true, false, false, false, true, false] ⟨76, [(1, .int .i64 a1), (2, .int .i64 a2), (10, .bool y1.1), (12, .ptr 1 0 0), (53, .ptr 0 0 0), (56, .fn 2 g_1.length (fun i => [.int .i64 ((g_1.getD i (0, 0)).1), .int .i64 ((g_1.getD i (0, 0)).2)])), (60, .agg [.int .i64 a1, .int .i64 a2])], [some (.gen 48 2 [[.int .i64 g_0, .fn 2 g_1.length (fun i => [.int .i64 ((g_1.getD i (0, 0)).1), .int .i64 ((g_1.getD i (0, 0)).2)])]]), some (.gen 48 2 [[.int .i64 0, .nil]])]⟩) : AA 7 #[true, false, true, true, false, true, true, true, false, false, false, false, false] ⟨76, [(1, .int .i64 a1), (2, .int .i64 a2), (10, .bool y1.1), (53, .ptr 0 0 0), (56, .fn 2 g_1.length (fun i => [.int .i64 ((g_1.getD i (0, 0)).1), .int .i64 ((g_1.getD i (0, 0)).2)])), (60, .agg [.int .i64 a1, .int .i64 a2])], [some (.gen 48 2 [[.int .i64 g_0, .fn 2 g_1.length (fun i => [.int .i64 ((g_1.getD i (0, 0)).1), .int .i64 ((g_1.getD i (0, 0)).2)])]])]⟩ := (hAA _ _ _).2 (by
    refine AWPB_four 1 4 8 11 _ _ _ _ (by kernel_rfl) rfl rfl rfl rfl ?_ ?_ ?_ ?_
    · skip
      refine AWPL_rn tab_ok 1 [1, 2, 10, 12, 54, 56, 57, 60, 61, 62, 63] fun c st' hr => ?_
      simp only [go_sem, reduceIte, reduceCtorEq, Nat.reduceEqDiff, Nat.reduceLT, Nat.reduceLeDiff, Nat.reduceBEq, Nat.reduceAdd, Nat.reduceMul, Nat.reduceSub, Nat.reducePow, Int.reduceLE, Int.reduceLT, Int.reduceNeg, Int.reduceToNat, Int.reduceAdd, Int.reduceSub] at hr
      obtain ⟨rfl, rfl⟩ := hr
      refine ⟨vc, ?_⟩
      refine AWPL_nil ?_
      refine QB_normal ?_
      exact AWPB_wk [0] mkWk ((hAA _ _ _).1 hn14)
    · skip
      refine AWPL_callK [1, 2, 10, 12, 53, 54, 57, 60, 61, 62, 63] (W_slices_Clone_api_Edge_api_Edge hy) rfl rfl pcT rfl Try.call29 (.cons (.atom _ rfl) .nil) (hscG trivial) (of_decide_eq_true rfl) (by first | rfl | simp [nI, nI1, nI0]) (by first | rfl | simp [nIB, nI0]) fun st' hr => ?_
      simp only [go_sem, reduceIte, reduceCtorEq, Nat.reduceEqDiff, Nat.reduceLT, Nat.reduceLeDiff, Nat.reduceBEq, Nat.reduceAdd, Nat.reduceMul, Nat.reduceSub, Nat.reducePow, Int.reduceLE, Int.reduceLT, Int.reduceNeg, Int.reduceToNat, Int.reduceAdd, Int.reduceSub] at hr
      subst hr
      refine AWPL_nil ?_
      refine QB_normal ?_
      exact AWPB_wk [0, 1] mkWk ((hAA _ _ _).1 hn34)
    · skip
      refine AWPL_rn tab_ok 1 [1, 2, 10, 12, 53, 54, 56, 57, 61, 62, 63] fun c st' hr => ?_
      simp only [go_sem, reduceIte, reduceCtorEq, Nat.reduceEqDiff, Nat.reduceLT, Nat.reduceLeDiff, Nat.reduceBEq, Nat.reduceAdd, Nat.reduceMul, Nat.reduceSub, Nat.reducePow, Int.reduceLE, Int.reduceLT, Int.reduceNeg, Int.reduceToNat, Int.reduceAdd, Int.reduceSub] at hr
      obtain ⟨rfl, rfl⟩ := hr
      refine ⟨vc, ?_⟩
      refine AWPL_nil ?_
      refine QB_normal ?_
      exact AWPB_wk [0, 1] mkWk ((hAA _ _ _).1 hn38)
    · skip
      refine AWPL_rn tab_ok 1 [1, 2, 10, 12, 53, 54, 56, 57, 60, 61, 62, 63] fun c st' hr => ?_
      simp only [go_sem, reduceIte, reduceCtorEq, Nat.reduceEqDiff, Nat.reduceLT, Nat.reduceLeDiff, Nat.reduceBEq, Nat.reduceAdd, Nat.reduceMul, Nat.reduceSub, Nat.reducePow, Int.reduceLE, Int.reduceLT, Int.reduceNeg, Int.reduceToNat, Int.reduceAdd, Int.reduceSub] at hr
      obtain ⟨rfl, rfl⟩ := hr
      refine ⟨vc, ?_⟩
      refine AWPL_nil ?_
      refine QB_normal ?_
      exact AWPB_wk [0, 1] mkWk ((hAA _ _ _).1 hn39))
set_option maxRecDepth 8000 in
set_option maxHeartbeats 4000000 in
theorem J_hn41 {a1 a2 g_0 : Int} {g_1 y2 : List (Int × Int)} {y1 : Bool × Int} (hy : slices_Clone_api_Edge_api_Edge g_1 = some y2) (h : (y2 ++ [(a1, a2)]).length ≤ 8796093022208) {w0 : World} {Q : Exit → St → Prop} {AA : Nat → Array Bool → St → Prop} (hAA : ∀ g L st, AA g L st ↔ AWPB Try.prog w0 reg7.toArray Q g L st) (hn15 : AA 6 #[true, true, true, true, false, true, true, false, false, false, false, true, false] ⟨76, [(1, .int .i64 a1), (2, .int .i64 a2), (10, .bool y1.1), (12, .ptr 1 0 0), (54, .int .i64 g_0), (56, .fn 2 g_1.length (fun i => [.int .i64 ((g_1.getD i (0, 0)).1), .int .i64 ((g_1.getD i (0, 0)).2)])), (58, .int .i64 a1), (59, .int .i64 a2)], [some (.gen 48 2 [[.int .i64 g_0, .fn 2 g_1.length (fun i => [.int .i64 ((g_1.getD i (0, 0)).1), .int .i64 ((g_1.getD i (0, 0)).2)])]]), some (.gen 48 2 [[.int .i64 0, .nil]])]⟩) (hn35 : AA 6 #[true, false, true, true, true, true, true, false, false, false, false, true, false] ⟨76, [(1, .int .i64 a1), (2, .int .i64 a2), (10, .bool y1.1), (12, .ptr 2 0 0), (53, .ptr 0 0 0), (57, .own 1 y2.length), (58, .int .i64 a1), (59, .int .i64 a2)], [some (.gen 48 2 [[.int .i64 g_0, .fn 2 g_1.length (fun i => [.int .i64 ((g_1.getD i (0, 0)).1), .int .i64 ((g_1.getD i (0, 0)).2)])]]), some (.gen 52 2 (List.map (fun e => [.int .i64 e.1, .int .i64 e.2]) y2)), some (.gen 48 2 [[.int .i64 0, .nil]])]⟩) (hn39 : AA 6 #[true, false, true, true, false, true, true, true, false, false, false, true, false] ⟨76, [(1, .int .i64 a1), (2, .int .i64 a2), (10, .bool y1.1), (12, .ptr 1 0 0), (53, .ptr 0 0 0), (56, .fn 2 g_1.length (fun i => [.int .i64 ((g_1.getD i (0, 0)).1), .int .i64 ((g_1.getD i (0, 0)).2)])), (60, .agg [.int .i64 a1, .int .i64 a2])], [some (.gen 48 2 [[.int .i64 g_0, .fn 2 g_1.length (fun i => [.int .i64 ((g_1.getD i (0, 0)).1), .int .i64 ((g_1.getD i (0, 0)).2)])]]), some (.gen 48 2 [[.int .i64 0, .nil]])]⟩) : AA 7 #[true, false, true, true, false, true, true, false, false, false, false, true, false] ⟨76, [(1, .int .i64 a1), (2, .int .i64 a2), (10, .bool y1.1), (12, .ptr 1 0 0), (53, .ptr 0 0 0), (56, .fn 2 g_1.length (fun i => [.int .i64 ((g_1.getD i (0, 0)).1), .int .i64 ((g_1.getD i (0, 0)).2)])), (58, .int .i64 a1), (59, .int .i64 a2)], [some (.gen 48 2 [[.int .i64 g_0, .fn 2 g_1.length (fun i => [.int .i64 ((g_1.getD i (0, 0)).1), .int .i64 ((g_1.getD i (0, 0)).2)])]]), some (.gen 48 2 [[.int .i64 0, .nil]])]⟩ := (hAA _ _ _).2 (by
    refine AWPB_three 1 4 7 _ _ _ (by kernel_rfl) rfl rfl rfl ?_ ?_ ?_
    · skip
      refine AWPL_rn tab_ok 1 [1, 2, 10, 12, 54, 56, 57, 58, 59, 60, 61, 62, 63] fun c st' hr => ?_
      simp only [go_sem, reduceIte, reduceCtorEq, Nat.reduceEqDiff, Nat.reduceLT, Nat.reduceLeDiff, Nat.reduceBEq, Nat.reduceAdd, Nat.reduceMul, Nat.reduceSub, Nat.reducePow, Int.reduceLE, Int.reduceLT, Int.reduceNeg, Int.reduceToNat, Int.reduceAdd, Int.reduceSub] at hr
      obtain ⟨rfl, rfl⟩ := hr
      refine ⟨vc, ?_⟩
      refine AWPL_nil ?_
      refine QB_normal ?_
      exact AWPB_wk [0, 1] mkWk ((hAA _ _ _).1 hn15)
    · skip
      refine AWPL_callK [1, 2, 10, 12, 53, 54, 57, 58, 59, 60, 61, 62, 63] (W_slices_Clone_api_Edge_api_Edge hy) rfl rfl pcT rfl Try.call29 (.cons (.atom _ rfl) .nil) (hscG trivial) (of_decide_eq_true rfl) (by first | rfl | simp [nI, nI1, nI0]) (by first | rfl | simp [nIB, nI0]) fun st' hr => ?_
      simp only [go_sem, reduceIte, reduceCtorEq, Nat.reduceEqDiff, Nat.reduceLT, Nat.reduceLeDiff, Nat.reduceBEq, Nat.reduceAdd, Nat.reduceMul, Nat.reduceSub, Nat.reducePow, Int.reduceLE, Int.reduceLT, Int.reduceNeg, Int.reduceToNat, Int.reduceAdd, Int.reduceSub] at hr
      subst hr
      refine AWPL_nil ?_
      refine QB_normal ?_
      exact AWPB_wk [0, 2, 1] mkWk ((hAA _ _ _).1 hn35)
    · skip
      refine AWPL_rn tab_ok 1 [1, 2, 10, 12, 53, 54, 56, 57, 60, 61, 62, 63] fun c st' hr => ?_
      simp only [go_sem, reduceIte, reduceCtorEq, Nat.reduceEqDiff, Nat.reduceLT, Nat.reduceLeDiff, Nat.reduceBEq, Nat.reduceAdd, Nat.reduceMul, Nat.reduceSub, Nat.reducePow, Int.reduceLE, Int.reduceLT, Int.reduceNeg, Int.reduceToNat, Int.reduceAdd, Int.reduceSub] at hr
      obtain ⟨rfl, rfl⟩ := hr
      refine ⟨vc, ?_⟩
      refine AWPL_nil ?_
      refine QB_normal ?_
      exact AWPB_wk [0, 1] mkWk ((hAA _ _ _).1 hn39))

end Go.SH
