/-
  That the code computes these functions: rotakeep_FieldProducts. By a program of mine (shal.py). Conditions: none.
-/
import Derived.Test.YtdhbpoafkhojnaaAxT
import Derived.Test.YtdhbpoafkhojnaaAxR
import Derived.Test.YtdhbpoafkhojnaaAxTx
import Derived.Test.YtdhbpoafkhojnaaAxTk
import Derived.Test.YtdhbpoafkhojnaaAxRx
import Derived.Test.YtdhbpoafkhojnaaAxJm
import Derived.Test.YtdhbpoafkhojnaaAxZ
import Derived.Test.YtdhbpoafkhojnaaAxW
import Derived.Test.YtdhbpoafkhojnaaAxP
import Derived.Test.YtdhbpoafkhojnaaShelf
import Derived.Test.YtdhbpoafkhojnaaSkFieldProducts
import Derived.Test.YtdhbpoafkhojnaaWpfieldd
import Derived.Test.YtdhbpoafkhojnaaWpfieldt
import Derived.Test.YtdhbpoafkhojnaaWprotaref
set_option linter.unusedVariables false
set_option linter.unusedSimpArgs false
namespace Go.SH
open Go Go.AX Go.AX.Try Go.Proofs

/-- The operations of a drawn region. -/
def reg_rotakeep_FieldProducts_21 : List Oper := (⟨_, rfl⟩ : { l : List Oper // (Try.f5.body.bind (regIn 21)) = some l }).1

theorem ceg_rotakeep_FieldProducts_21_1 : firstOk reg_rotakeep_FieldProducts_21.toArray #[false, false, false, false, false, false, false, false, false, false, false, false, false, false, false, false] 0 [1, 5, 14, 15] = true := by kernel_rfl

theorem ceg_rotakeep_FieldProducts_21_2 : firstOk reg_rotakeep_FieldProducts_21.toArray #[true, false, false, false, false, false, false, false, false, false, false, false, false, false, false, false] 1 [5, 14, 15] = true := by kernel_rfl

theorem ceg_rotakeep_FieldProducts_21_3 : firstOk reg_rotakeep_FieldProducts_21.toArray #[true, true, false, false, false, false, false, false, false, false, false, false, false, false, false, false] 2 [3, 4, 5, 14, 15] = true := by kernel_rfl

theorem ceg_rotakeep_FieldProducts_21_4 : firstOk reg_rotakeep_FieldProducts_21.toArray #[true, true, true, false, false, false, false, false, false, false, false, false, false, false, false, false] 3 [4, 5, 14, 15] = true := by kernel_rfl

theorem ceg_rotakeep_FieldProducts_21_5 : firstOk reg_rotakeep_FieldProducts_21.toArray #[true, true, true, true, false, false, false, false, false, false, false, false, false, false, false, false] 4 [5, 14, 15] = true := by kernel_rfl

theorem ceg_rotakeep_FieldProducts_21_6 : firstOk reg_rotakeep_FieldProducts_21.toArray #[true, true, true, true, true, false, false, false, false, false, false, false, false, false, false, false] 5 [14, 15] = true := by kernel_rfl

theorem ceg_rotakeep_FieldProducts_21_7 : (Region.ready .any reg_rotakeep_FieldProducts_21.toArray #[true, true, true, true, true, true, true, true, true, true, true, true, true, true, true, true] == []) = true := by kernel_rfl

theorem ceg_rotakeep_FieldProducts_21_8 : (Region.ready .any reg_rotakeep_FieldProducts_21.toArray #[true, true, true, true, true, true, true, true, true, true, true, true, true, true, true, false] == [15]) = true := by kernel_rfl

set_option maxRecDepth 8000 in
set_option maxHeartbeats 4000000 in
theorem J_rotakeep_FieldProducts_21_hn1 {x_0 : Int} {x_1 : Int} {x_2 : List (List Int)} {a1_0 : Int} {a1_1 : Int} {a1_2 : List (List Int)} {y5 : Int × Int} {v : Int} {v1 : Int} {w0 : World} {Q : Exit → St → Prop} {AA : Nat → Array Bool → St → Prop} (hAA : ∀ g L st, AA g L st ↔ AWPB Try.prog w0 reg_rotakeep_FieldProducts_21.toArray Q g L st) (hn : AA 0 #[true, true, true, true, true, true, true, true, true, true, true, true, true, true, true, true] ⟨193, [(2, .ptr 0 0 0), (3, .ptr 1 0 0), (15, .int .i64 y5.1), (16, .int .i64 v), (17, .int .i64 v1), (18, .ptr 2 0 0), (19, .ptr 3 0 0), (95, .int .i64 (2 ^ x_1.toNat : Int)), (96, .int .i64 v1)], [some (.gen 44 3 [[.int .i64 x_0, .int .i64 x_1, .fn 1 x_2.length (fun i => [.ints .i64 (x_2.getD i [])])]]), some (.gen 44 3 [[.int .i64 a1_0, .int .i64 a1_1, .fn 1 a1_2.length (fun i => [.ints .i64 (a1_2.getD i [])])]]), some (.gen 44 3 [[.int .i64 x_0, .int .i64 (x_2.length : Int), .nil]]), some (.gen 44 3 [[.int .i64 x_0, .int .i64 (x_2.length : Int), .nil]])]⟩) : AA 1 #[true, true, true, true, true, true, true, true, true, true, true, true, true, true, true, false] ⟨193, [(2, .ptr 0 0 0), (3, .ptr 1 0 0), (15, .int .i64 y5.1), (16, .int .i64 v), (17, .int .i64 v1), (18, .ptr 2 0 0), (19, .ptr 3 0 0), (95, .int .i64 (2 ^ x_1.toNat : Int)), (96, .int .i64 v1), (116, .agg [.int .i64 x_0, .int .i64 (x_2.length : Int), .nil])], [some (.gen 44 3 [[.int .i64 x_0, .int .i64 x_1, .fn 1 x_2.length (fun i => [.ints .i64 (x_2.getD i [])])]]), some (.gen 44 3 [[.int .i64 a1_0, .int .i64 a1_1, .fn 1 a1_2.length (fun i => [.ints .i64 (a1_2.getD i [])])]]), some (.gen 44 3 [[.int .i64 x_0, .int .i64 (x_2.length : Int), .nil]]), some (.gen 44 3 [[.int .i64 0, .int .i64 0, .nil]])]⟩ := (hAA _ _ _).2 (by
  refine AWPB_one 15 _ ceg_rotakeep_FieldProducts_21_8 rfl ?_
  refine AWPL_rn tab_ok 1 [2, 3, 15, 16, 17, 18, 19, 95, 96] fun c st' hr => ?_
  simp only [go_sem, reduceIte, reduceCtorEq, Nat.reduceEqDiff, Nat.reduceLT, Nat.reduceLeDiff, Nat.reduceBEq, Nat.reduceAdd, Nat.reduceMul, Nat.reduceSub, Nat.reducePow, Int.reduceLE, Int.reduceLT, Int.reduceNeg, Int.reduceToNat, Int.reduceAdd, Int.reduceSub, idO_app, lenO_app, lenO_app2, lenO_eta] at hr
  obtain ⟨rfl, rfl⟩ := hr
  refine ⟨vc, ?_⟩
  refine AWPL_nil ?_
  refine QB_normal ?_
  exact AWPB_wk [0, 1, 2, 3] mkWkR ((hAA _ _ _).1 hn))

theorem ceg_rotakeep_FieldProducts_21_10 : (Region.ready .any reg_rotakeep_FieldProducts_21.toArray #[true, true, true, true, true, true, true, true, true, true, true, true, true, true, false, false] == [14]) = true := by kernel_rfl

set_option maxRecDepth 8000 in
set_option maxHeartbeats 4000000 in
theorem J_rotakeep_FieldProducts_21_hn2 {x_0 : Int} {x_1 : Int} {x_2 : List (List Int)} {a1_0 : Int} {a1_1 : Int} {a1_2 : List (List Int)} {y5 : Int × Int} {v : Int} {v1 : Int} {w0 : World} {Q : Exit → St → Prop} {AA : Nat → Array Bool → St → Prop} (hAA : ∀ g L st, AA g L st ↔ AWPB Try.prog w0 reg_rotakeep_FieldProducts_21.toArray Q g L st) (hn1 : AA 1 #[true, true, true, true, true, true, true, true, true, true, true, true, true, true, true, false] ⟨193, [(2, .ptr 0 0 0), (3, .ptr 1 0 0), (15, .int .i64 y5.1), (16, .int .i64 v), (17, .int .i64 v1), (18, .ptr 2 0 0), (19, .ptr 3 0 0), (95, .int .i64 (2 ^ x_1.toNat : Int)), (96, .int .i64 v1), (116, .agg [.int .i64 x_0, .int .i64 (x_2.length : Int), .nil])], [some (.gen 44 3 [[.int .i64 x_0, .int .i64 x_1, .fn 1 x_2.length (fun i => [.ints .i64 (x_2.getD i [])])]]), some (.gen 44 3 [[.int .i64 a1_0, .int .i64 a1_1, .fn 1 a1_2.length (fun i => [.ints .i64 (a1_2.getD i [])])]]), some (.gen 44 3 [[.int .i64 x_0, .int .i64 (x_2.length : Int), .nil]]), some (.gen 44 3 [[.int .i64 0, .int .i64 0, .nil]])]⟩) : AA 2 #[true, true, true, true, true, true, true, true, true, true, true, true, true, true, false, false] ⟨193, [(2, .ptr 0 0 0), (3, .ptr 1 0 0), (15, .int .i64 y5.1), (16, .int .i64 v), (17, .int .i64 v1), (18, .ptr 2 0 0), (19, .ptr 3 0 0), (95, .int .i64 (2 ^ x_1.toNat : Int)), (96, .int .i64 v1), (110, .agg [.int .i64 x_0, .int .i64 (x_2.length : Int), .nil]), (116, .agg [.int .i64 x_0, .int .i64 (x_2.length : Int), .nil])], [some (.gen 44 3 [[.int .i64 x_0, .int .i64 x_1, .fn 1 x_2.length (fun i => [.ints .i64 (x_2.getD i [])])]]), some (.gen 44 3 [[.int .i64 a1_0, .int .i64 a1_1, .fn 1 a1_2.length (fun i => [.ints .i64 (a1_2.getD i [])])]]), some (.gen 44 3 [[.int .i64 0, .int .i64 0, .nil]]), some (.gen 44 3 [[.int .i64 0, .int .i64 0, .nil]])]⟩ := (hAA _ _ _).2 (by
  refine AWPB_one 14 _ ceg_rotakeep_FieldProducts_21_10 rfl ?_
  refine AWPL_rn tab_ok 1 [2, 3, 15, 16, 17, 18, 19, 95, 96, 116] fun c st' hr => ?_
  simp only [go_sem, reduceIte, reduceCtorEq, Nat.reduceEqDiff, Nat.reduceLT, Nat.reduceLeDiff, Nat.reduceBEq, Nat.reduceAdd, Nat.reduceMul, Nat.reduceSub, Nat.reducePow, Int.reduceLE, Int.reduceLT, Int.reduceNeg, Int.reduceToNat, Int.reduceAdd, Int.reduceSub, idO_app, lenO_app, lenO_app2, lenO_eta] at hr
  obtain ⟨rfl, rfl⟩ := hr
  refine ⟨vc, ?_⟩
  refine AWPL_nil ?_
  refine QB_normal ?_
  exact AWPB_wk [0, 1, 2, 3] mkWkR ((hAA _ _ _).1 hn1))

theorem ceg_rotakeep_FieldProducts_21_12 : (Region.ready .any reg_rotakeep_FieldProducts_21.toArray #[true, true, true, true, true, true, true, true, true, true, true, true, true, false, false, false] == [13]) = true := by kernel_rfl

set_option maxRecDepth 8000 in
set_option maxHeartbeats 4000000 in
theorem J_rotakeep_FieldProducts_21_hn3 {x_0 : Int} {x_1 : Int} {x_2 : List (List Int)} {a1_0 : Int} {a1_1 : Int} {a1_2 : List (List Int)} {y5 : Int × Int} {v : Int} {v1 : Int} {w0 : World} {Q : Exit → St → Prop} {AA : Nat → Array Bool → St → Prop} (hAA : ∀ g L st, AA g L st ↔ AWPB Try.prog w0 reg_rotakeep_FieldProducts_21.toArray Q g L st) (hn2 : AA 2 #[true, true, true, true, true, true, true, true, true, true, true, true, true, true, false, false] ⟨193, [(2, .ptr 0 0 0), (3, .ptr 1 0 0), (15, .int .i64 y5.1), (16, .int .i64 v), (17, .int .i64 v1), (18, .ptr 2 0 0), (19, .ptr 3 0 0), (95, .int .i64 (2 ^ x_1.toNat : Int)), (96, .int .i64 v1), (110, .agg [.int .i64 x_0, .int .i64 (x_2.length : Int), .nil]), (116, .agg [.int .i64 x_0, .int .i64 (x_2.length : Int), .nil])], [some (.gen 44 3 [[.int .i64 x_0, .int .i64 x_1, .fn 1 x_2.length (fun i => [.ints .i64 (x_2.getD i [])])]]), some (.gen 44 3 [[.int .i64 a1_0, .int .i64 a1_1, .fn 1 a1_2.length (fun i => [.ints .i64 (a1_2.getD i [])])]]), some (.gen 44 3 [[.int .i64 0, .int .i64 0, .nil]]), some (.gen 44 3 [[.int .i64 0, .int .i64 0, .nil]])]⟩) : AA 3 #[true, true, true, true, true, true, true, true, true, true, true, true, true, false, false, false] ⟨193, [(2, .ptr 0 0 0), (3, .ptr 1 0 0), (15, .int .i64 y5.1), (16, .int .i64 v), (17, .int .i64 v1), (18, .ptr 2 0 0), (95, .int .i64 (2 ^ x_1.toNat : Int)), (96, .int .i64 v1), (110, .agg [.int .i64 x_0, .int .i64 (x_2.length : Int), .nil]), (116, .agg [.int .i64 x_0, .int .i64 (x_2.length : Int), .nil])], [some (.gen 44 3 [[.int .i64 x_0, .int .i64 x_1, .fn 1 x_2.length (fun i => [.ints .i64 (x_2.getD i [])])]]), some (.gen 44 3 [[.int .i64 a1_0, .int .i64 a1_1, .fn 1 a1_2.length (fun i => [.ints .i64 (a1_2.getD i [])])]]), some (.gen 44 3 [[.int .i64 0, .int .i64 0, .nil]])]⟩ := (hAA _ _ _).2 (by
  refine AWPB_one 13 _ ceg_rotakeep_FieldProducts_21_12 rfl ?_
  refine AWPL_rn tab_ok 1 [2, 3, 15, 16, 17, 18, 19, 95, 96, 110, 116] fun c st' hr => ?_
  simp only [go_sem, reduceIte, reduceCtorEq, Nat.reduceEqDiff, Nat.reduceLT, Nat.reduceLeDiff, Nat.reduceBEq, Nat.reduceAdd, Nat.reduceMul, Nat.reduceSub, Nat.reducePow, Int.reduceLE, Int.reduceLT, Int.reduceNeg, Int.reduceToNat, Int.reduceAdd, Int.reduceSub, idO_app, lenO_app, lenO_app2, lenO_eta] at hr
  obtain ⟨rfl, rfl⟩ := hr
  refine ⟨vc, ?_⟩
  refine AWPL_nil ?_
  refine QB_normal ?_
  exact AWPB_wk [0, 1, 2, 3] mkWkR ((hAA _ _ _).1 hn2))

theorem ceg_rotakeep_FieldProducts_21_14 : (Region.ready .any reg_rotakeep_FieldProducts_21.toArray #[true, true, true, true, true, true, true, true, true, true, true, true, false, true, false, false] == [12]) = true := by kernel_rfl

set_option maxRecDepth 8000 in
set_option maxHeartbeats 4000000 in
theorem J_rotakeep_FieldProducts_21_hn4 {x_0 : Int} {x_1 : Int} {x_2 : List (List Int)} {a1_0 : Int} {a1_1 : Int} {a1_2 : List (List Int)} {y5 : Int × Int} {v : Int} {v1 : Int} {w0 : World} {Q : Exit → St → Prop} {AA : Nat → Array Bool → St → Prop} (hAA : ∀ g L st, AA g L st ↔ AWPB Try.prog w0 reg_rotakeep_FieldProducts_21.toArray Q g L st) (hn2 : AA 2 #[true, true, true, true, true, true, true, true, true, true, true, true, true, true, false, false] ⟨193, [(2, .ptr 0 0 0), (3, .ptr 1 0 0), (15, .int .i64 y5.1), (16, .int .i64 v), (17, .int .i64 v1), (18, .ptr 2 0 0), (19, .ptr 3 0 0), (95, .int .i64 (2 ^ x_1.toNat : Int)), (96, .int .i64 v1), (110, .agg [.int .i64 x_0, .int .i64 (x_2.length : Int), .nil]), (116, .agg [.int .i64 x_0, .int .i64 (x_2.length : Int), .nil])], [some (.gen 44 3 [[.int .i64 x_0, .int .i64 x_1, .fn 1 x_2.length (fun i => [.ints .i64 (x_2.getD i [])])]]), some (.gen 44 3 [[.int .i64 a1_0, .int .i64 a1_1, .fn 1 a1_2.length (fun i => [.ints .i64 (a1_2.getD i [])])]]), some (.gen 44 3 [[.int .i64 0, .int .i64 0, .nil]]), some (.gen 44 3 [[.int .i64 0, .int .i64 0, .nil]])]⟩) : AA 3 #[true, true, true, true, true, true, true, true, true, true, true, true, false, true, false, false] ⟨193, [(2, .ptr 0 0 0), (3, .ptr 1 0 0), (15, .int .i64 y5.1), (16, .int .i64 v), (17, .int .i64 v1), (19, .ptr 2 0 0), (95, .int .i64 (2 ^ x_1.toNat : Int)), (96, .int .i64 v1), (110, .agg [.int .i64 x_0, .int .i64 (x_2.length : Int), .nil]), (116, .agg [.int .i64 x_0, .int .i64 (x_2.length : Int), .nil])], [some (.gen 44 3 [[.int .i64 x_0, .int .i64 x_1, .fn 1 x_2.length (fun i => [.ints .i64 (x_2.getD i [])])]]), some (.gen 44 3 [[.int .i64 a1_0, .int .i64 a1_1, .fn 1 a1_2.length (fun i => [.ints .i64 (a1_2.getD i [])])]]), some (.gen 44 3 [[.int .i64 0, .int .i64 0, .nil]])]⟩ := (hAA _ _ _).2 (by
  refine AWPB_one 12 _ ceg_rotakeep_FieldProducts_21_14 rfl ?_
  refine AWPL_rn tab_ok 1 [2, 3, 15, 16, 17, 18, 19, 95, 96, 110, 116] fun c st' hr => ?_
  simp only [go_sem, reduceIte, reduceCtorEq, Nat.reduceEqDiff, Nat.reduceLT, Nat.reduceLeDiff, Nat.reduceBEq, Nat.reduceAdd, Nat.reduceMul, Nat.reduceSub, Nat.reducePow, Int.reduceLE, Int.reduceLT, Int.reduceNeg, Int.reduceToNat, Int.reduceAdd, Int.reduceSub, idO_app, lenO_app, lenO_app2, lenO_eta] at hr
  obtain ⟨rfl, rfl⟩ := hr
  refine ⟨vc, ?_⟩
  refine AWPL_nil ?_
  refine QB_normal ?_
  exact AWPB_wk [0, 1, 3, 2] mkWkR ((hAA _ _ _).1 hn2))

theorem ceg_rotakeep_FieldProducts_21_16 : (Region.ready .any reg_rotakeep_FieldProducts_21.toArray #[true, true, true, true, true, true, true, true, true, true, true, true, false, false, false, false] == [12, 13]) = true := by kernel_rfl

set_option maxRecDepth 8000 in
set_option maxHeartbeats 4000000 in
theorem J_rotakeep_FieldProducts_21_hn5 {x_0 : Int} {x_1 : Int} {x_2 : List (List Int)} {a1_0 : Int} {a1_1 : Int} {a1_2 : List (List Int)} {y5 : Int × Int} {v : Int} {v1 : Int} {w0 : World} {Q : Exit → St → Prop} {AA : Nat → Array Bool → St → Prop} (hAA : ∀ g L st, AA g L st ↔ AWPB Try.prog w0 reg_rotakeep_FieldProducts_21.toArray Q g L st) (hn3 : AA 3 #[true, true, true, true, true, true, true, true, true, true, true, true, true, false, false, false] ⟨193, [(2, .ptr 0 0 0), (3, .ptr 1 0 0), (15, .int .i64 y5.1), (16, .int .i64 v), (17, .int .i64 v1), (18, .ptr 2 0 0), (95, .int .i64 (2 ^ x_1.toNat : Int)), (96, .int .i64 v1), (110, .agg [.int .i64 x_0, .int .i64 (x_2.length : Int), .nil]), (116, .agg [.int .i64 x_0, .int .i64 (x_2.length : Int), .nil])], [some (.gen 44 3 [[.int .i64 x_0, .int .i64 x_1, .fn 1 x_2.length (fun i => [.ints .i64 (x_2.getD i [])])]]), some (.gen 44 3 [[.int .i64 a1_0, .int .i64 a1_1, .fn 1 a1_2.length (fun i => [.ints .i64 (a1_2.getD i [])])]]), some (.gen 44 3 [[.int .i64 0, .int .i64 0, .nil]])]⟩) (hn4 : AA 3 #[true, true, true, true, true, true, true, true, true, true, true, true, false, true, false, false] ⟨193, [(2, .ptr 0 0 0), (3, .ptr 1 0 0), (15, .int .i64 y5.1), (16, .int .i64 v), (17, .int .i64 v1), (19, .ptr 2 0 0), (95, .int .i64 (2 ^ x_1.toNat : Int)), (96, .int .i64 v1), (110, .agg [.int .i64 x_0, .int .i64 (x_2.length : Int), .nil]), (116, .agg [.int .i64 x_0, .int .i64 (x_2.length : Int), .nil])], [some (.gen 44 3 [[.int .i64 x_0, .int .i64 x_1, .fn 1 x_2.length (fun i => [.ints .i64 (x_2.getD i [])])]]), some (.gen 44 3 [[.int .i64 a1_0, .int .i64 a1_1, .fn 1 a1_2.length (fun i => [.ints .i64 (a1_2.getD i [])])]]), some (.gen 44 3 [[.int .i64 0, .int .i64 0, .nil]])]⟩) : AA 4 #[true, true, true, true, true, true, true, true, true, true, true, true, false, false, false, false] ⟨193, [(2, .ptr 0 0 0), (3, .ptr 1 0 0), (15, .int .i64 y5.1), (16, .int .i64 v), (17, .int .i64 v1), (95, .int .i64 (2 ^ x_1.toNat : Int)), (96, .int .i64 v1), (110, .agg [.int .i64 x_0, .int .i64 (x_2.length : Int), .nil]), (116, .agg [.int .i64 x_0, .int .i64 (x_2.length : Int), .nil])], [some (.gen 44 3 [[.int .i64 x_0, .int .i64 x_1, .fn 1 x_2.length (fun i => [.ints .i64 (x_2.getD i [])])]]), some (.gen 44 3 [[.int .i64 a1_0, .int .i64 a1_1, .fn 1 a1_2.length (fun i => [.ints .i64 (a1_2.getD i [])])]])]⟩ := (hAA _ _ _).2 (by
  refine AWPB_two 12 13 _ _ ceg_rotakeep_FieldProducts_21_16 rfl rfl ?_ ?_
  · skip
    refine AWPL_rn tab_ok 1 [2, 3, 15, 16, 17, 18, 19, 95, 96, 110, 116] fun c st' hr => ?_
    simp only [go_sem, reduceIte, reduceCtorEq, Nat.reduceEqDiff, Nat.reduceLT, Nat.reduceLeDiff, Nat.reduceBEq, Nat.reduceAdd, Nat.reduceMul, Nat.reduceSub, Nat.reducePow, Int.reduceLE, Int.reduceLT, Int.reduceNeg, Int.reduceToNat, Int.reduceAdd, Int.reduceSub, idO_app, lenO_app, lenO_app2, lenO_eta] at hr
    obtain ⟨rfl, rfl⟩ := hr
    refine ⟨vc, ?_⟩
    refine AWPL_nil ?_
    refine QB_normal ?_
    exact AWPB_wk [0, 1, 2] mkWkR ((hAA _ _ _).1 hn3)
  · skip
    refine AWPL_rn tab_ok 1 [2, 3, 15, 16, 17, 18, 19, 95, 96, 110, 116] fun c st' hr => ?_
    simp only [go_sem, reduceIte, reduceCtorEq, Nat.reduceEqDiff, Nat.reduceLT, Nat.reduceLeDiff, Nat.reduceBEq, Nat.reduceAdd, Nat.reduceMul, Nat.reduceSub, Nat.reducePow, Int.reduceLE, Int.reduceLT, Int.reduceNeg, Int.reduceToNat, Int.reduceAdd, Int.reduceSub, idO_app, lenO_app, lenO_app2, lenO_eta] at hr
    obtain ⟨rfl, rfl⟩ := hr
    refine ⟨vc, ?_⟩
    refine AWPL_nil ?_
    refine QB_normal ?_
    exact AWPB_wk [0, 1, 2] mkWkR ((hAA _ _ _).1 hn4))

theorem ceg_rotakeep_FieldProducts_21_18 : firstOk reg_rotakeep_FieldProducts_21.toArray #[true, true, true, true, true, true, true, true, true, true, true, false, true, true, true, false] 11 [15] = true := by kernel_rfl

set_option maxRecDepth 8000 in
set_option maxHeartbeats 4000000 in
theorem J_rotakeep_FieldProducts_21_hn6 {x_0 : Int} {x_1 : Int} {x_2 : List (List Int)} {a1_0 : Int} {a1_1 : Int} {a1_2 : List (List Int)} {y5 : Int × Int} {v : Int} {v1 : Int} {w0 : World} {Q : Exit → St → Prop} {AA : Nat → Array Bool → St → Prop} (hAA : ∀ g L st, AA g L st ↔ AWPB Try.prog w0 reg_rotakeep_FieldProducts_21.toArray Q g L st) (hn1 : AA 1 #[true, true, true, true, true, true, true, true, true, true, true, true, true, true, true, false] ⟨193, [(2, .ptr 0 0 0), (3, .ptr 1 0 0), (15, .int .i64 y5.1), (16, .int .i64 v), (17, .int .i64 v1), (18, .ptr 2 0 0), (19, .ptr 3 0 0), (95, .int .i64 (2 ^ x_1.toNat : Int)), (96, .int .i64 v1), (116, .agg [.int .i64 x_0, .int .i64 (x_2.length : Int), .nil])], [some (.gen 44 3 [[.int .i64 x_0, .int .i64 x_1, .fn 1 x_2.length (fun i => [.ints .i64 (x_2.getD i [])])]]), some (.gen 44 3 [[.int .i64 a1_0, .int .i64 a1_1, .fn 1 a1_2.length (fun i => [.ints .i64 (a1_2.getD i [])])]]), some (.gen 44 3 [[.int .i64 x_0, .int .i64 (x_2.length : Int), .nil]]), some (.gen 44 3 [[.int .i64 0, .int .i64 0, .nil]])]⟩) : AA 2 #[true, true, true, true, true, true, true, true, true, true, true, false, true, true, true, false] ⟨193, [(2, .ptr 0 0 0), (3, .ptr 1 0 0), (15, .int .i64 y5.1), (16, .int .i64 v), (17, .int .i64 v1), (18, .ptr 2 0 0), (19, .ptr 3 0 0), (95, .int .i64 (2 ^ x_1.toNat : Int)), (96, .int .i64 v1), (112, .int .i64 x_0), (115, .int .i64 (x_2.length : Int))], [some (.gen 44 3 [[.int .i64 x_0, .int .i64 x_1, .fn 1 x_2.length (fun i => [.ints .i64 (x_2.getD i [])])]]), some (.gen 44 3 [[.int .i64 a1_0, .int .i64 a1_1, .fn 1 a1_2.length (fun i => [.ints .i64 (a1_2.getD i [])])]]), some (.gen 44 3 [[.int .i64 x_0, .int .i64 (x_2.length : Int), .nil]]), some (.gen 44 3 [[.int .i64 0, .int .i64 0, .nil]])]⟩ := (hAA _ _ _).2 (by
  refine AWPB_takeB tab_ok [2, 3, 15, 16, 17, 18, 19, 95, 96, 116] 11 [15] _ rfl ceg_rotakeep_FieldProducts_21_18 fun c st' hr => ?_
  simp only [go_sem, reduceIte, reduceCtorEq, Nat.reduceEqDiff, Nat.reduceLT, Nat.reduceLeDiff, Nat.reduceBEq, Nat.reduceAdd, Nat.reduceMul, Nat.reduceSub, Nat.reducePow, Int.reduceLE, Int.reduceLT, Int.reduceNeg, Int.reduceToNat, Int.reduceAdd, Int.reduceSub, idO_app, lenO_app, lenO_app2, lenO_eta] at hr
  obtain ⟨rfl, rfl⟩ := hr
  refine ⟨vc, ?_⟩
  exact AWPB_wk [0, 1, 2, 3] mkWkR ((hAA _ _ _).1 hn1))

theorem ceg_rotakeep_FieldProducts_21_20 : (Region.ready .any reg_rotakeep_FieldProducts_21.toArray #[true, true, true, true, true, true, true, true, true, true, true, false, true, true, false, false] == [11, 14]) = true := by kernel_rfl

set_option maxRecDepth 8000 in
set_option maxHeartbeats 4000000 in
theorem J_rotakeep_FieldProducts_21_hn7 {x_0 : Int} {x_1 : Int} {x_2 : List (List Int)} {a1_0 : Int} {a1_1 : Int} {a1_2 : List (List Int)} {y5 : Int × Int} {v : Int} {v1 : Int} {w0 : World} {Q : Exit → St → Prop} {AA : Nat → Array Bool → St → Prop} (hAA : ∀ g L st, AA g L st ↔ AWPB Try.prog w0 reg_rotakeep_FieldProducts_21.toArray Q g L st) (hn2 : AA 2 #[true, true, true, true, true, true, true, true, true, true, true, true, true, true, false, false] ⟨193, [(2, .ptr 0 0 0), (3, .ptr 1 0 0), (15, .int .i64 y5.1), (16, .int .i64 v), (17, .int .i64 v1), (18, .ptr 2 0 0), (19, .ptr 3 0 0), (95, .int .i64 (2 ^ x_1.toNat : Int)), (96, .int .i64 v1), (110, .agg [.int .i64 x_0, .int .i64 (x_2.length : Int), .nil]), (116, .agg [.int .i64 x_0, .int .i64 (x_2.length : Int), .nil])], [some (.gen 44 3 [[.int .i64 x_0, .int .i64 x_1, .fn 1 x_2.length (fun i => [.ints .i64 (x_2.getD i [])])]]), some (.gen 44 3 [[.int .i64 a1_0, .int .i64 a1_1, .fn 1 a1_2.length (fun i => [.ints .i64 (a1_2.getD i [])])]]), some (.gen 44 3 [[.int .i64 0, .int .i64 0, .nil]]), some (.gen 44 3 [[.int .i64 0, .int .i64 0, .nil]])]⟩) (hn6 : AA 2 #[true, true, true, true, true, true, true, true, true, true, true, false, true, true, true, false] ⟨193, [(2, .ptr 0 0 0), (3, .ptr 1 0 0), (15, .int .i64 y5.1), (16, .int .i64 v), (17, .int .i64 v1), (18, .ptr 2 0 0), (19, .ptr 3 0 0), (95, .int .i64 (2 ^ x_1.toNat : Int)), (96, .int .i64 v1), (112, .int .i64 x_0), (115, .int .i64 (x_2.length : Int))], [some (.gen 44 3 [[.int .i64 x_0, .int .i64 x_1, .fn 1 x_2.length (fun i => [.ints .i64 (x_2.getD i [])])]]), some (.gen 44 3 [[.int .i64 a1_0, .int .i64 a1_1, .fn 1 a1_2.length (fun i => [.ints .i64 (a1_2.getD i [])])]]), some (.gen 44 3 [[.int .i64 x_0, .int .i64 (x_2.length : Int), .nil]]), some (.gen 44 3 [[.int .i64 0, .int .i64 0, .nil]])]⟩) : AA 3 #[true, true, true, true, true, true, true, true, true, true, true, false, true, true, false, false] ⟨193, [(2, .ptr 0 0 0), (3, .ptr 1 0 0), (15, .int .i64 y5.1), (16, .int .i64 v), (17, .int .i64 v1), (18, .ptr 2 0 0), (19, .ptr 3 0 0), (95, .int .i64 (2 ^ x_1.toNat : Int)), (96, .int .i64 v1), (110, .agg [.int .i64 x_0, .int .i64 (x_2.length : Int), .nil]), (112, .int .i64 x_0), (115, .int .i64 (x_2.length : Int))], [some (.gen 44 3 [[.int .i64 x_0, .int .i64 x_1, .fn 1 x_2.length (fun i => [.ints .i64 (x_2.getD i [])])]]), some (.gen 44 3 [[.int .i64 a1_0, .int .i64 a1_1, .fn 1 a1_2.length (fun i => [.ints .i64 (a1_2.getD i [])])]]), some (.gen 44 3 [[.int .i64 0, .int .i64 0, .nil]]), some (.gen 44 3 [[.int .i64 0, .int .i64 0, .nil]])]⟩ := (hAA _ _ _).2 (by
  refine AWPB_two 11 14 _ _ ceg_rotakeep_FieldProducts_21_20 rfl rfl ?_ ?_
  · skip
    refine AWPL_rn tab_ok 1 [2, 3, 15, 16, 17, 18, 19, 95, 96, 110, 116] fun c st' hr => ?_
    simp only [go_sem, reduceIte, reduceCtorEq, Nat.reduceEqDiff, Nat.reduceLT, Nat.reduceLeDiff, Nat.reduceBEq, Nat.reduceAdd, Nat.reduceMul, Nat.reduceSub, Nat.reducePow, Int.reduceLE, Int.reduceLT, Int.reduceNeg, Int.reduceToNat, Int.reduceAdd, Int.reduceSub, idO_app, lenO_app, lenO_app2, lenO_eta] at hr
    obtain ⟨rfl, rfl⟩ := hr
    refine ⟨vc, ?_⟩
    refine AWPL_nil ?_
    refine QB_normal ?_
    exact AWPB_wk [0, 1, 2, 3] mkWkR ((hAA _ _ _).1 hn2)
  · skip
    refine AWPL_rn tab_ok 1 [2, 3, 15, 16, 17, 18, 19, 95, 96, 112, 115, 116] fun c st' hr => ?_
    simp only [go_sem, reduceIte, reduceCtorEq, Nat.reduceEqDiff, Nat.reduceLT, Nat.reduceLeDiff, Nat.reduceBEq, Nat.reduceAdd, Nat.reduceMul, Nat.reduceSub, Nat.reducePow, Int.reduceLE, Int.reduceLT, Int.reduceNeg, Int.reduceToNat, Int.reduceAdd, Int.reduceSub, idO_app, lenO_app, lenO_app2, lenO_eta] at hr
    obtain ⟨rfl, rfl⟩ := hr
    refine ⟨vc, ?_⟩
    refine AWPL_nil ?_
    refine QB_normal ?_
    exact AWPB_wk [0, 1, 2, 3] mkWkR ((hAA _ _ _).1 hn6))

theorem ceg_rotakeep_FieldProducts_21_22 : (Region.ready .any reg_rotakeep_FieldProducts_21.toArray #[true, true, true, true, true, true, true, true, true, true, true, false, true, false, false, false] == [11, 13]) = true := by kernel_rfl

set_option maxRecDepth 8000 in
set_option maxHeartbeats 4000000 in
theorem J_rotakeep_FieldProducts_21_hn8 {x_0 : Int} {x_1 : Int} {x_2 : List (List Int)} {a1_0 : Int} {a1_1 : Int} {a1_2 : List (List Int)} {y5 : Int × Int} {v : Int} {v1 : Int} {w0 : World} {Q : Exit → St → Prop} {AA : Nat → Array Bool → St → Prop} (hAA : ∀ g L st, AA g L st ↔ AWPB Try.prog w0 reg_rotakeep_FieldProducts_21.toArray Q g L st) (hn3 : AA 3 #[true, true, true, true, true, true, true, true, true, true, true, true, true, false, false, false] ⟨193, [(2, .ptr 0 0 0), (3, .ptr 1 0 0), (15, .int .i64 y5.1), (16, .int .i64 v), (17, .int .i64 v1), (18, .ptr 2 0 0), (95, .int .i64 (2 ^ x_1.toNat : Int)), (96, .int .i64 v1), (110, .agg [.int .i64 x_0, .int .i64 (x_2.length : Int), .nil]), (116, .agg [.int .i64 x_0, .int .i64 (x_2.length : Int), .nil])], [some (.gen 44 3 [[.int .i64 x_0, .int .i64 x_1, .fn 1 x_2.length (fun i => [.ints .i64 (x_2.getD i [])])]]), some (.gen 44 3 [[.int .i64 a1_0, .int .i64 a1_1, .fn 1 a1_2.length (fun i => [.ints .i64 (a1_2.getD i [])])]]), some (.gen 44 3 [[.int .i64 0, .int .i64 0, .nil]])]⟩) (hn7 : AA 3 #[true, true, true, true, true, true, true, true, true, true, true, false, true, true, false, false] ⟨193, [(2, .ptr 0 0 0), (3, .ptr 1 0 0), (15, .int .i64 y5.1), (16, .int .i64 v), (17, .int .i64 v1), (18, .ptr 2 0 0), (19, .ptr 3 0 0), (95, .int .i64 (2 ^ x_1.toNat : Int)), (96, .int .i64 v1), (110, .agg [.int .i64 x_0, .int .i64 (x_2.length : Int), .nil]), (112, .int .i64 x_0), (115, .int .i64 (x_2.length : Int))], [some (.gen 44 3 [[.int .i64 x_0, .int .i64 x_1, .fn 1 x_2.length (fun i => [.ints .i64 (x_2.getD i [])])]]), some (.gen 44 3 [[.int .i64 a1_0, .int .i64 a1_1, .fn 1 a1_2.length (fun i => [.ints .i64 (a1_2.getD i [])])]]), some (.gen 44 3 [[.int .i64 0, .int .i64 0, .nil]]), some (.gen 44 3 [[.int .i64 0, .int .i64 0, .nil]])]⟩) : AA 4 #[true, true, true, true, true, true, true, true, true, true, true, false, true, false, false, false] ⟨193, [(2, .ptr 0 0 0), (3, .ptr 1 0 0), (15, .int .i64 y5.1), (16, .int .i64 v), (17, .int .i64 v1), (18, .ptr 2 0 0), (95, .int .i64 (2 ^ x_1.toNat : Int)), (96, .int .i64 v1), (110, .agg [.int .i64 x_0, .int .i64 (x_2.length : Int), .nil]), (112, .int .i64 x_0), (115, .int .i64 (x_2.length : Int))], [some (.gen 44 3 [[.int .i64 x_0, .int .i64 x_1, .fn 1 x_2.length (fun i => [.ints .i64 (x_2.getD i [])])]]), some (.gen 44 3 [[.int .i64 a1_0, .int .i64 a1_1, .fn 1 a1_2.length (fun i => [.ints .i64 (a1_2.getD i [])])]]), some (.gen 44 3 [[.int .i64 0, .int .i64 0, .nil]])]⟩ := (hAA _ _ _).2 (by
  refine AWPB_two 11 13 _ _ ceg_rotakeep_FieldProducts_21_22 rfl rfl ?_ ?_
  · skip
    refine AWPL_rn tab_ok 1 [2, 3, 15, 16, 17, 18, 19, 95, 96, 110, 116] fun c st' hr => ?_
    simp only [go_sem, reduceIte, reduceCtorEq, Nat.reduceEqDiff, Nat.reduceLT, Nat.reduceLeDiff, Nat.reduceBEq, Nat.reduceAdd, Nat.reduceMul, Nat.reduceSub, Nat.reducePow, Int.reduceLE, Int.reduceLT, Int.reduceNeg, Int.reduceToNat, Int.reduceAdd, Int.reduceSub, idO_app, lenO_app, lenO_app2, lenO_eta] at hr
    obtain ⟨rfl, rfl⟩ := hr
    refine ⟨vc, ?_⟩
    refine AWPL_nil ?_
    refine QB_normal ?_
    exact AWPB_wk [0, 1, 2] mkWkR ((hAA _ _ _).1 hn3)
  · skip
    refine AWPL_rn tab_ok 1 [2, 3, 15, 16, 17, 18, 19, 95, 96, 110, 112, 115, 116] fun c st' hr => ?_
    simp only [go_sem, reduceIte, reduceCtorEq, Nat.reduceEqDiff, Nat.reduceLT, Nat.reduceLeDiff, Nat.reduceBEq, Nat.reduceAdd, Nat.reduceMul, Nat.reduceSub, Nat.reducePow, Int.reduceLE, Int.reduceLT, Int.reduceNeg, Int.reduceToNat, Int.reduceAdd, Int.reduceSub, idO_app, lenO_app, lenO_app2, lenO_eta] at hr
    obtain ⟨rfl, rfl⟩ := hr
    refine ⟨vc, ?_⟩
    refine AWPL_nil ?_
    refine QB_normal ?_
    exact AWPB_wk [0, 1, 2, 3] mkWkR ((hAA _ _ _).1 hn7))

theorem ceg_rotakeep_FieldProducts_21_24 : (Region.ready .any reg_rotakeep_FieldProducts_21.toArray #[true, true, true, true, true, true, true, true, true, true, true, false, false, true, false, false] == [11, 12]) = true := by kernel_rfl

set_option maxRecDepth 8000 in
set_option maxHeartbeats 4000000 in
theorem J_rotakeep_FieldProducts_21_hn9 {x_0 : Int} {x_1 : Int} {x_2 : List (List Int)} {a1_0 : Int} {a1_1 : Int} {a1_2 : List (List Int)} {y5 : Int × Int} {v : Int} {v1 : Int} {w0 : World} {Q : Exit → St → Prop} {AA : Nat → Array Bool → St → Prop} (hAA : ∀ g L st, AA g L st ↔ AWPB Try.prog w0 reg_rotakeep_FieldProducts_21.toArray Q g L st) (hn4 : AA 3 #[true, true, true, true, true, true, true, true, true, true, true, true, false, true, false, false] ⟨193, [(2, .ptr 0 0 0), (3, .ptr 1 0 0), (15, .int .i64 y5.1), (16, .int .i64 v), (17, .int .i64 v1), (19, .ptr 2 0 0), (95, .int .i64 (2 ^ x_1.toNat : Int)), (96, .int .i64 v1), (110, .agg [.int .i64 x_0, .int .i64 (x_2.length : Int), .nil]), (116, .agg [.int .i64 x_0, .int .i64 (x_2.length : Int), .nil])], [some (.gen 44 3 [[.int .i64 x_0, .int .i64 x_1, .fn 1 x_2.length (fun i => [.ints .i64 (x_2.getD i [])])]]), some (.gen 44 3 [[.int .i64 a1_0, .int .i64 a1_1, .fn 1 a1_2.length (fun i => [.ints .i64 (a1_2.getD i [])])]]), some (.gen 44 3 [[.int .i64 0, .int .i64 0, .nil]])]⟩) (hn7 : AA 3 #[true, true, true, true, true, true, true, true, true, true, true, false, true, true, false, false] ⟨193, [(2, .ptr 0 0 0), (3, .ptr 1 0 0), (15, .int .i64 y5.1), (16, .int .i64 v), (17, .int .i64 v1), (18, .ptr 2 0 0), (19, .ptr 3 0 0), (95, .int .i64 (2 ^ x_1.toNat : Int)), (96, .int .i64 v1), (110, .agg [.int .i64 x_0, .int .i64 (x_2.length : Int), .nil]), (112, .int .i64 x_0), (115, .int .i64 (x_2.length : Int))], [some (.gen 44 3 [[.int .i64 x_0, .int .i64 x_1, .fn 1 x_2.length (fun i => [.ints .i64 (x_2.getD i [])])]]), some (.gen 44 3 [[.int .i64 a1_0, .int .i64 a1_1, .fn 1 a1_2.length (fun i => [.ints .i64 (a1_2.getD i [])])]]), some (.gen 44 3 [[.int .i64 0, .int .i64 0, .nil]]), some (.gen 44 3 [[.int .i64 0, .int .i64 0, .nil]])]⟩) : AA 4 #[true, true, true, true, true, true, true, true, true, true, true, false, false, true, false, false] ⟨193, [(2, .ptr 0 0 0), (3, .ptr 1 0 0), (15, .int .i64 y5.1), (16, .int .i64 v), (17, .int .i64 v1), (19, .ptr 2 0 0), (95, .int .i64 (2 ^ x_1.toNat : Int)), (96, .int .i64 v1), (110, .agg [.int .i64 x_0, .int .i64 (x_2.length : Int), .nil]), (112, .int .i64 x_0), (115, .int .i64 (x_2.length : Int))], [some (.gen 44 3 [[.int .i64 x_0, .int .i64 x_1, .fn 1 x_2.length (fun i => [.ints .i64 (x_2.getD i [])])]]), some (.gen 44 3 [[.int .i64 a1_0, .int .i64 a1_1, .fn 1 a1_2.length (fun i => [.ints .i64 (a1_2.getD i [])])]]), some (.gen 44 3 [[.int .i64 0, .int .i64 0, .nil]])]⟩ := (hAA _ _ _).2 (by
  refine AWPB_two 11 12 _ _ ceg_rotakeep_FieldProducts_21_24 rfl rfl ?_ ?_
  · skip
    refine AWPL_rn tab_ok 1 [2, 3, 15, 16, 17, 18, 19, 95, 96, 110, 116] fun c st' hr => ?_
    simp only [go_sem, reduceIte, reduceCtorEq, Nat.reduceEqDiff, Nat.reduceLT, Nat.reduceLeDiff, Nat.reduceBEq, Nat.reduceAdd, Nat.reduceMul, Nat.reduceSub, Nat.reducePow, Int.reduceLE, Int.reduceLT, Int.reduceNeg, Int.reduceToNat, Int.reduceAdd, Int.reduceSub, idO_app, lenO_app, lenO_app2, lenO_eta] at hr
    obtain ⟨rfl, rfl⟩ := hr
    refine ⟨vc, ?_⟩
    refine AWPL_nil ?_
    refine QB_normal ?_
    exact AWPB_wk [0, 1, 2] mkWkR ((hAA _ _ _).1 hn4)
  · skip
    refine AWPL_rn tab_ok 1 [2, 3, 15, 16, 17, 18, 19, 95, 96, 110, 112, 115, 116] fun c st' hr => ?_
    simp only [go_sem, reduceIte, reduceCtorEq, Nat.reduceEqDiff, Nat.reduceLT, Nat.reduceLeDiff, Nat.reduceBEq, Nat.reduceAdd, Nat.reduceMul, Nat.reduceSub, Nat.reducePow, Int.reduceLE, Int.reduceLT, Int.reduceNeg, Int.reduceToNat, Int.reduceAdd, Int.reduceSub, idO_app, lenO_app, lenO_app2, lenO_eta] at hr
    obtain ⟨rfl, rfl⟩ := hr
    refine ⟨vc, ?_⟩
    refine AWPL_nil ?_
    refine QB_normal ?_
    exact AWPB_wk [0, 1, 3, 2] mkWkR ((hAA _ _ _).1 hn7))

theorem ceg_rotakeep_FieldProducts_21_26 : (Region.ready .any reg_rotakeep_FieldProducts_21.toArray #[true, true, true, true, true, true, true, true, true, true, true, false, false, false, false, false] == [11, 12, 13]) = true := by kernel_rfl

set_option maxRecDepth 8000 in
set_option maxHeartbeats 4000000 in
theorem J_rotakeep_FieldProducts_21_hn10 {x_0 : Int} {x_1 : Int} {x_2 : List (List Int)} {a1_0 : Int} {a1_1 : Int} {a1_2 : List (List Int)} {y5 : Int × Int} {v : Int} {v1 : Int} {w0 : World} {Q : Exit → St → Prop} {AA : Nat → Array Bool → St → Prop} (hAA : ∀ g L st, AA g L st ↔ AWPB Try.prog w0 reg_rotakeep_FieldProducts_21.toArray Q g L st) (hn5 : AA 4 #[true, true, true, true, true, true, true, true, true, true, true, true, false, false, false, false] ⟨193, [(2, .ptr 0 0 0), (3, .ptr 1 0 0), (15, .int .i64 y5.1), (16, .int .i64 v), (17, .int .i64 v1), (95, .int .i64 (2 ^ x_1.toNat : Int)), (96, .int .i64 v1), (110, .agg [.int .i64 x_0, .int .i64 (x_2.length : Int), .nil]), (116, .agg [.int .i64 x_0, .int .i64 (x_2.length : Int), .nil])], [some (.gen 44 3 [[.int .i64 x_0, .int .i64 x_1, .fn 1 x_2.length (fun i => [.ints .i64 (x_2.getD i [])])]]), some (.gen 44 3 [[.int .i64 a1_0, .int .i64 a1_1, .fn 1 a1_2.length (fun i => [.ints .i64 (a1_2.getD i [])])]])]⟩) (hn8 : AA 4 #[true, true, true, true, true, true, true, true, true, true, true, false, true, false, false, false] ⟨193, [(2, .ptr 0 0 0), (3, .ptr 1 0 0), (15, .int .i64 y5.1), (16, .int .i64 v), (17, .int .i64 v1), (18, .ptr 2 0 0), (95, .int .i64 (2 ^ x_1.toNat : Int)), (96, .int .i64 v1), (110, .agg [.int .i64 x_0, .int .i64 (x_2.length : Int), .nil]), (112, .int .i64 x_0), (115, .int .i64 (x_2.length : Int))], [some (.gen 44 3 [[.int .i64 x_0, .int .i64 x_1, .fn 1 x_2.length (fun i => [.ints .i64 (x_2.getD i [])])]]), some (.gen 44 3 [[.int .i64 a1_0, .int .i64 a1_1, .fn 1 a1_2.length (fun i => [.ints .i64 (a1_2.getD i [])])]]), some (.gen 44 3 [[.int .i64 0, .int .i64 0, .nil]])]⟩) (hn9 : AA 4 #[true, true, true, true, true, true, true, true, true, true, true, false, false, true, false, false] ⟨193, [(2, .ptr 0 0 0), (3, .ptr 1 0 0), (15, .int .i64 y5.1), (16, .int .i64 v), (17, .int .i64 v1), (19, .ptr 2 0 0), (95, .int .i64 (2 ^ x_1.toNat : Int)), (96, .int .i64 v1), (110, .agg [.int .i64 x_0, .int .i64 (x_2.length : Int), .nil]), (112, .int .i64 x_0), (115, .int .i64 (x_2.length : Int))], [some (.gen 44 3 [[.int .i64 x_0, .int .i64 x_1, .fn 1 x_2.length (fun i => [.ints .i64 (x_2.getD i [])])]]), some (.gen 44 3 [[.int .i64 a1_0, .int .i64 a1_1, .fn 1 a1_2.length (fun i => [.ints .i64 (a1_2.getD i [])])]]), some (.gen 44 3 [[.int .i64 0, .int .i64 0, .nil]])]⟩) : AA 5 #[true, true, true, true, true, true, true, true, true, true, true, false, false, false, false, false] ⟨193, [(2, .ptr 0 0 0), (3, .ptr 1 0 0), (15, .int .i64 y5.1), (16, .int .i64 v), (17, .int .i64 v1), (95, .int .i64 (2 ^ x_1.toNat : Int)), (96, .int .i64 v1), (110, .agg [.int .i64 x_0, .int .i64 (x_2.length : Int), .nil]), (112, .int .i64 x_0), (115, .int .i64 (x_2.length : Int))], [some (.gen 44 3 [[.int .i64 x_0, .int .i64 x_1, .fn 1 x_2.length (fun i => [.ints .i64 (x_2.getD i [])])]]), some (.gen 44 3 [[.int .i64 a1_0, .int .i64 a1_1, .fn 1 a1_2.length (fun i => [.ints .i64 (a1_2.getD i [])])]])]⟩ := (hAA _ _ _).2 (by
  refine AWPB_three 11 12 13 _ _ _ ceg_rotakeep_FieldProducts_21_26 rfl rfl rfl ?_ ?_ ?_
  · skip
    refine AWPL_rn tab_ok 1 [2, 3, 15, 16, 17, 18, 19, 95, 96, 110, 116] fun c st' hr => ?_
    simp only [go_sem, reduceIte, reduceCtorEq, Nat.reduceEqDiff, Nat.reduceLT, Nat.reduceLeDiff, Nat.reduceBEq, Nat.reduceAdd, Nat.reduceMul, Nat.reduceSub, Nat.reducePow, Int.reduceLE, Int.reduceLT, Int.reduceNeg, Int.reduceToNat, Int.reduceAdd, Int.reduceSub, idO_app, lenO_app, lenO_app2, lenO_eta] at hr
    obtain ⟨rfl, rfl⟩ := hr
    refine ⟨vc, ?_⟩
    refine AWPL_nil ?_
    refine QB_normal ?_
    exact AWPB_wk [0, 1] mkWkR ((hAA _ _ _).1 hn5)
  · skip
    refine AWPL_rn tab_ok 1 [2, 3, 15, 16, 17, 18, 19, 95, 96, 110, 112, 115, 116] fun c st' hr => ?_
    simp only [go_sem, reduceIte, reduceCtorEq, Nat.reduceEqDiff, Nat.reduceLT, Nat.reduceLeDiff, Nat.reduceBEq, Nat.reduceAdd, Nat.reduceMul, Nat.reduceSub, Nat.reducePow, Int.reduceLE, Int.reduceLT, Int.reduceNeg, Int.reduceToNat, Int.reduceAdd, Int.reduceSub, idO_app, lenO_app, lenO_app2, lenO_eta] at hr
    obtain ⟨rfl, rfl⟩ := hr
    refine ⟨vc, ?_⟩
    refine AWPL_nil ?_
    refine QB_normal ?_
    exact AWPB_wk [0, 1, 2] mkWkR ((hAA _ _ _).1 hn8)
  · skip
    refine AWPL_rn tab_ok 1 [2, 3, 15, 16, 17, 18, 19, 95, 96, 110, 112, 115, 116] fun c st' hr => ?_
    simp only [go_sem, reduceIte, reduceCtorEq, Nat.reduceEqDiff, Nat.reduceLT, Nat.reduceLeDiff, Nat.reduceBEq, Nat.reduceAdd, Nat.reduceMul, Nat.reduceSub, Nat.reducePow, Int.reduceLE, Int.reduceLT, Int.reduceNeg, Int.reduceToNat, Int.reduceAdd, Int.reduceSub, idO_app, lenO_app, lenO_app2, lenO_eta] at hr
    obtain ⟨rfl, rfl⟩ := hr
    refine ⟨vc, ?_⟩
    refine AWPL_nil ?_
    refine QB_normal ?_
    exact AWPB_wk [0, 1, 2] mkWkR ((hAA _ _ _).1 hn9))

theorem ceg_rotakeep_FieldProducts_21_28 : (Region.noSelect reg_rotakeep_FieldProducts_21.toArray && Region.free .any reg_rotakeep_FieldProducts_21.toArray #[true, true, true, true, true, true, true, true, true, true, false, false, false, false, false, false] 10 && (Region.ready .any reg_rotakeep_FieldProducts_21.toArray #[true, true, true, true, true, true, true, true, true, true, false, false, false, false, false, false]).contains 10) = true := by kernel_rfl

set_option maxRecDepth 8000 in
set_option maxHeartbeats 4000000 in
theorem J_rotakeep_FieldProducts_21_hn11 {x_0 : Int} {x_1 : Int} {x_2 : List (List Int)} {a1_0 : Int} {a1_1 : Int} {a1_2 : List (List Int)} {y5 : Int × Int} {v : Int} {v1 : Int} {w0 : World} {Q : Exit → St → Prop} {AA : Nat → Array Bool → St → Prop} (hAA : ∀ g L st, AA g L st ↔ AWPB Try.prog w0 reg_rotakeep_FieldProducts_21.toArray Q g L st) (hn10 : AA 5 #[true, true, true, true, true, true, true, true, true, true, true, false, false, false, false, false] ⟨193, [(2, .ptr 0 0 0), (3, .ptr 1 0 0), (15, .int .i64 y5.1), (16, .int .i64 v), (17, .int .i64 v1), (95, .int .i64 (2 ^ x_1.toNat : Int)), (96, .int .i64 v1), (110, .agg [.int .i64 x_0, .int .i64 (x_2.length : Int), .nil]), (112, .int .i64 x_0), (115, .int .i64 (x_2.length : Int))], [some (.gen 44 3 [[.int .i64 x_0, .int .i64 x_1, .fn 1 x_2.length (fun i => [.ints .i64 (x_2.getD i [])])]]), some (.gen 44 3 [[.int .i64 a1_0, .int .i64 a1_1, .fn 1 a1_2.length (fun i => [.ints .i64 (a1_2.getD i [])])]])]⟩) : AA 6 #[true, true, true, true, true, true, true, true, true, true, false, false, false, false, false, false] ⟨193, [(2, .ptr 0 0 0), (3, .ptr 1 0 0), (15, .int .i64 y5.1), (16, .int .i64 v), (17, .int .i64 v1), (95, .int .i64 (2 ^ x_1.toNat : Int)), (96, .int .i64 v1), (110, .agg [.int .i64 x_0, .int .i64 (x_2.length : Int), .nil]), (112, .int .i64 x_0), (114, .fn 1 x_2.length (fun i => [.ints .i64 (x_2.getD i [])]))], [some (.gen 44 3 [[.int .i64 x_0, .int .i64 x_1, .fn 1 x_2.length (fun i => [.ints .i64 (x_2.getD i [])])]]), some (.gen 44 3 [[.int .i64 a1_0, .int .i64 a1_1, .fn 1 a1_2.length (fun i => [.ints .i64 (a1_2.getD i [])])]])]⟩ := (hAA _ _ _).2 (by
  refine AWPB_take2 tab_ok [2, 3, 15, 16, 17, 18, 19, 95, 96, 110, 112, 115, 116] 10 _ rfl rfl rfl ceg_rotakeep_FieldProducts_21_28 fun c st' hr => ?_
  simp only [go_sem, reduceIte, reduceCtorEq, Nat.reduceEqDiff, Nat.reduceLT, Nat.reduceLeDiff, Nat.reduceBEq, Nat.reduceAdd, Nat.reduceMul, Nat.reduceSub, Nat.reducePow, Int.reduceLE, Int.reduceLT, Int.reduceNeg, Int.reduceToNat, Int.reduceAdd, Int.reduceSub, idO_app, lenO_app, lenO_app2, lenO_eta] at hr
  obtain ⟨rfl, rfl⟩ := hr
  refine ⟨vc, ?_⟩
  exact AWPB_wk [0, 1] mkWkR ((hAA _ _ _).1 hn10))

theorem ceg_rotakeep_FieldProducts_21_30 : (Region.noSelect reg_rotakeep_FieldProducts_21.toArray && Region.free .any reg_rotakeep_FieldProducts_21.toArray #[true, true, true, true, true, true, true, true, true, true, false, false, true, false, false, false] 10 && (Region.ready .any reg_rotakeep_FieldProducts_21.toArray #[true, true, true, true, true, true, true, true, true, true, false, false, true, false, false, false]).contains 10) = true := by kernel_rfl

set_option maxRecDepth 8000 in
set_option maxHeartbeats 4000000 in
theorem J_rotakeep_FieldProducts_21_hn12 {x_0 : Int} {x_1 : Int} {x_2 : List (List Int)} {a1_0 : Int} {a1_1 : Int} {a1_2 : List (List Int)} {y5 : Int × Int} {v : Int} {v1 : Int} {w0 : World} {Q : Exit → St → Prop} {AA : Nat → Array Bool → St → Prop} (hAA : ∀ g L st, AA g L st ↔ AWPB Try.prog w0 reg_rotakeep_FieldProducts_21.toArray Q g L st) (hn8 : AA 4 #[true, true, true, true, true, true, true, true, true, true, true, false, true, false, false, false] ⟨193, [(2, .ptr 0 0 0), (3, .ptr 1 0 0), (15, .int .i64 y5.1), (16, .int .i64 v), (17, .int .i64 v1), (18, .ptr 2 0 0), (95, .int .i64 (2 ^ x_1.toNat : Int)), (96, .int .i64 v1), (110, .agg [.int .i64 x_0, .int .i64 (x_2.length : Int), .nil]), (112, .int .i64 x_0), (115, .int .i64 (x_2.length : Int))], [some (.gen 44 3 [[.int .i64 x_0, .int .i64 x_1, .fn 1 x_2.length (fun i => [.ints .i64 (x_2.getD i [])])]]), some (.gen 44 3 [[.int .i64 a1_0, .int .i64 a1_1, .fn 1 a1_2.length (fun i => [.ints .i64 (a1_2.getD i [])])]]), some (.gen 44 3 [[.int .i64 0, .int .i64 0, .nil]])]⟩) : AA 5 #[true, true, true, true, true, true, true, true, true, true, false, false, true, false, false, false] ⟨193, [(2, .ptr 0 0 0), (3, .ptr 1 0 0), (15, .int .i64 y5.1), (16, .int .i64 v), (17, .int .i64 v1), (18, .ptr 2 0 0), (95, .int .i64 (2 ^ x_1.toNat : Int)), (96, .int .i64 v1), (110, .agg [.int .i64 x_0, .int .i64 (x_2.length : Int), .nil]), (112, .int .i64 x_0), (114, .fn 1 x_2.length (fun i => [.ints .i64 (x_2.getD i [])]))], [some (.gen 44 3 [[.int .i64 x_0, .int .i64 x_1, .fn 1 x_2.length (fun i => [.ints .i64 (x_2.getD i [])])]]), some (.gen 44 3 [[.int .i64 a1_0, .int .i64 a1_1, .fn 1 a1_2.length (fun i => [.ints .i64 (a1_2.getD i [])])]]), some (.gen 44 3 [[.int .i64 0, .int .i64 0, .nil]])]⟩ := (hAA _ _ _).2 (by
  refine AWPB_take2 tab_ok [2, 3, 15, 16, 17, 18, 19, 95, 96, 110, 112, 115, 116] 10 _ rfl rfl rfl ceg_rotakeep_FieldProducts_21_30 fun c st' hr => ?_
  simp only [go_sem, reduceIte, reduceCtorEq, Nat.reduceEqDiff, Nat.reduceLT, Nat.reduceLeDiff, Nat.reduceBEq, Nat.reduceAdd, Nat.reduceMul, Nat.reduceSub, Nat.reducePow, Int.reduceLE, Int.reduceLT, Int.reduceNeg, Int.reduceToNat, Int.reduceAdd, Int.reduceSub, idO_app, lenO_app, lenO_app2, lenO_eta] at hr
  obtain ⟨rfl, rfl⟩ := hr
  refine ⟨vc, ?_⟩
  exact AWPB_wk [0, 1, 2] mkWkR ((hAA _ _ _).1 hn8))

theorem ceg_rotakeep_FieldProducts_21_32 : (Region.noSelect reg_rotakeep_FieldProducts_21.toArray && Region.free .any reg_rotakeep_FieldProducts_21.toArray #[true, true, true, true, true, true, true, true, true, true, false, false, true, true, false, false] 10 && (Region.ready .any reg_rotakeep_FieldProducts_21.toArray #[true, true, true, true, true, true, true, true, true, true, false, false, true, true, false, false]).contains 10) = true := by kernel_rfl

set_option maxRecDepth 8000 in
set_option maxHeartbeats 4000000 in
theorem J_rotakeep_FieldProducts_21_hn13 {x_0 : Int} {x_1 : Int} {x_2 : List (List Int)} {a1_0 : Int} {a1_1 : Int} {a1_2 : List (List Int)} {y5 : Int × Int} {v : Int} {v1 : Int} {w0 : World} {Q : Exit → St → Prop} {AA : Nat → Array Bool → St → Prop} (hAA : ∀ g L st, AA g L st ↔ AWPB Try.prog w0 reg_rotakeep_FieldProducts_21.toArray Q g L st) (hn7 : AA 3 #[true, true, true, true, true, true, true, true, true, true, true, false, true, true, false, false] ⟨193, [(2, .ptr 0 0 0), (3, .ptr 1 0 0), (15, .int .i64 y5.1), (16, .int .i64 v), (17, .int .i64 v1), (18, .ptr 2 0 0), (19, .ptr 3 0 0), (95, .int .i64 (2 ^ x_1.toNat : Int)), (96, .int .i64 v1), (110, .agg [.int .i64 x_0, .int .i64 (x_2.length : Int), .nil]), (112, .int .i64 x_0), (115, .int .i64 (x_2.length : Int))], [some (.gen 44 3 [[.int .i64 x_0, .int .i64 x_1, .fn 1 x_2.length (fun i => [.ints .i64 (x_2.getD i [])])]]), some (.gen 44 3 [[.int .i64 a1_0, .int .i64 a1_1, .fn 1 a1_2.length (fun i => [.ints .i64 (a1_2.getD i [])])]]), some (.gen 44 3 [[.int .i64 0, .int .i64 0, .nil]]), some (.gen 44 3 [[.int .i64 0, .int .i64 0, .nil]])]⟩) : AA 4 #[true, true, true, true, true, true, true, true, true, true, false, false, true, true, false, false] ⟨193, [(2, .ptr 0 0 0), (3, .ptr 1 0 0), (15, .int .i64 y5.1), (16, .int .i64 v), (17, .int .i64 v1), (18, .ptr 2 0 0), (19, .ptr 3 0 0), (95, .int .i64 (2 ^ x_1.toNat : Int)), (96, .int .i64 v1), (110, .agg [.int .i64 x_0, .int .i64 (x_2.length : Int), .nil]), (112, .int .i64 x_0), (114, .fn 1 x_2.length (fun i => [.ints .i64 (x_2.getD i [])]))], [some (.gen 44 3 [[.int .i64 x_0, .int .i64 x_1, .fn 1 x_2.length (fun i => [.ints .i64 (x_2.getD i [])])]]), some (.gen 44 3 [[.int .i64 a1_0, .int .i64 a1_1, .fn 1 a1_2.length (fun i => [.ints .i64 (a1_2.getD i [])])]]), some (.gen 44 3 [[.int .i64 0, .int .i64 0, .nil]]), some (.gen 44 3 [[.int .i64 0, .int .i64 0, .nil]])]⟩ := (hAA _ _ _).2 (by
  refine AWPB_take2 tab_ok [2, 3, 15, 16, 17, 18, 19, 95, 96, 110, 112, 115, 116] 10 _ rfl rfl rfl ceg_rotakeep_FieldProducts_21_32 fun c st' hr => ?_
  simp only [go_sem, reduceIte, reduceCtorEq, Nat.reduceEqDiff, Nat.reduceLT, Nat.reduceLeDiff, Nat.reduceBEq, Nat.reduceAdd, Nat.reduceMul, Nat.reduceSub, Nat.reducePow, Int.reduceLE, Int.reduceLT, Int.reduceNeg, Int.reduceToNat, Int.reduceAdd, Int.reduceSub, idO_app, lenO_app, lenO_app2, lenO_eta] at hr
  obtain ⟨rfl, rfl⟩ := hr
  refine ⟨vc, ?_⟩
  exact AWPB_wk [0, 1, 2, 3] mkWkR ((hAA _ _ _).1 hn7))

theorem ceg_rotakeep_FieldProducts_21_34 : firstOk reg_rotakeep_FieldProducts_21.toArray #[true, true, true, true, true, true, true, true, true, false, false, false, true, true, true, false] 9 [10, 11, 15] = true := by kernel_rfl

theorem ceg_rotakeep_FieldProducts_21_35 : firstOk reg_rotakeep_FieldProducts_21.toArray #[true, true, true, true, true, true, true, true, true, true, false, false, true, true, true, false] 10 [11, 15] = true := by kernel_rfl

set_option maxRecDepth 8000 in
set_option maxHeartbeats 4000000 in
theorem J_rotakeep_FieldProducts_21_hn14 {x_0 : Int} {x_1 : Int} {x_2 : List (List Int)} {a1_0 : Int} {a1_1 : Int} {a1_2 : List (List Int)} {y5 : Int × Int} {v : Int} {v1 : Int} {w0 : World} {Q : Exit → St → Prop} {AA : Nat → Array Bool → St → Prop} (hAA : ∀ g L st, AA g L st ↔ AWPB Try.prog w0 reg_rotakeep_FieldProducts_21.toArray Q g L st) (hn6 : AA 2 #[true, true, true, true, true, true, true, true, true, true, true, false, true, true, true, false] ⟨193, [(2, .ptr 0 0 0), (3, .ptr 1 0 0), (15, .int .i64 y5.1), (16, .int .i64 v), (17, .int .i64 v1), (18, .ptr 2 0 0), (19, .ptr 3 0 0), (95, .int .i64 (2 ^ x_1.toNat : Int)), (96, .int .i64 v1), (112, .int .i64 x_0), (115, .int .i64 (x_2.length : Int))], [some (.gen 44 3 [[.int .i64 x_0, .int .i64 x_1, .fn 1 x_2.length (fun i => [.ints .i64 (x_2.getD i [])])]]), some (.gen 44 3 [[.int .i64 a1_0, .int .i64 a1_1, .fn 1 a1_2.length (fun i => [.ints .i64 (a1_2.getD i [])])]]), some (.gen 44 3 [[.int .i64 x_0, .int .i64 (x_2.length : Int), .nil]]), some (.gen 44 3 [[.int .i64 0, .int .i64 0, .nil]])]⟩) : AA 4 #[true, true, true, true, true, true, true, true, true, false, false, false, true, true, true, false] ⟨193, [(2, .ptr 0 0 0), (3, .ptr 1 0 0), (15, .int .i64 y5.1), (16, .int .i64 v), (17, .int .i64 v1), (18, .ptr 2 0 0), (19, .ptr 3 0 0), (95, .int .i64 (2 ^ x_1.toNat : Int)), (96, .int .i64 v1), (112, .int .i64 x_0), (113, .ptr 0 0 2)], [some (.gen 44 3 [[.int .i64 x_0, .int .i64 x_1, .fn 1 x_2.length (fun i => [.ints .i64 (x_2.getD i [])])]]), some (.gen 44 3 [[.int .i64 a1_0, .int .i64 a1_1, .fn 1 a1_2.length (fun i => [.ints .i64 (a1_2.getD i [])])]]), some (.gen 44 3 [[.int .i64 x_0, .int .i64 (x_2.length : Int), .nil]]), some (.gen 44 3 [[.int .i64 0, .int .i64 0, .nil]])]⟩ := (hAA _ _ _).2 (by
  refine AWPB_takeB tab_ok [2, 3, 15, 16, 17, 18, 19, 95, 96, 112, 114, 115, 116] 9 [10, 11, 15] _ rfl ceg_rotakeep_FieldProducts_21_34 fun c st' hr => ?_
  simp only [go_sem, reduceIte, reduceCtorEq, Nat.reduceEqDiff, Nat.reduceLT, Nat.reduceLeDiff, Nat.reduceBEq, Nat.reduceAdd, Nat.reduceMul, Nat.reduceSub, Nat.reducePow, Int.reduceLE, Int.reduceLT, Int.reduceNeg, Int.reduceToNat, Int.reduceAdd, Int.reduceSub, idO_app, lenO_app, lenO_app2, lenO_eta] at hr
  obtain ⟨rfl, rfl⟩ := hr
  refine ⟨vc, ?_⟩
  refine AWPB_takeB tab_ok [2, 3, 15, 16, 17, 18, 19, 95, 96, 112, 115, 116] 10 [11, 15] _ rfl ceg_rotakeep_FieldProducts_21_35 fun c st' hr => ?_
  simp only [go_sem, reduceIte, reduceCtorEq, Nat.reduceEqDiff, Nat.reduceLT, Nat.reduceLeDiff, Nat.reduceBEq, Nat.reduceAdd, Nat.reduceMul, Nat.reduceSub, Nat.reducePow, Int.reduceLE, Int.reduceLT, Int.reduceNeg, Int.reduceToNat, Int.reduceAdd, Int.reduceSub, idO_app, lenO_app, lenO_app2, lenO_eta] at hr
  obtain ⟨rfl, rfl⟩ := hr
  refine ⟨vc, ?_⟩
  exact AWPB_wk [0, 1, 2, 3] mkWkR ((hAA _ _ _).1 hn6))

theorem ceg_rotakeep_FieldProducts_21_37 : (Region.ready .any reg_rotakeep_FieldProducts_21.toArray #[true, true, true, true, true, true, true, true, true, false, false, false, true, true, false, false] == [9, 14]) = true := by kernel_rfl

set_option maxRecDepth 8000 in
set_option maxHeartbeats 4000000 in
theorem J_rotakeep_FieldProducts_21_hn15 {x_0 : Int} {x_1 : Int} {x_2 : List (List Int)} {a1_0 : Int} {a1_1 : Int} {a1_2 : List (List Int)} {y5 : Int × Int} {v : Int} {v1 : Int} {w0 : World} {Q : Exit → St → Prop} {AA : Nat → Array Bool → St → Prop} (hAA : ∀ g L st, AA g L st ↔ AWPB Try.prog w0 reg_rotakeep_FieldProducts_21.toArray Q g L st) (hn13 : AA 4 #[true, true, true, true, true, true, true, true, true, true, false, false, true, true, false, false] ⟨193, [(2, .ptr 0 0 0), (3, .ptr 1 0 0), (15, .int .i64 y5.1), (16, .int .i64 v), (17, .int .i64 v1), (18, .ptr 2 0 0), (19, .ptr 3 0 0), (95, .int .i64 (2 ^ x_1.toNat : Int)), (96, .int .i64 v1), (110, .agg [.int .i64 x_0, .int .i64 (x_2.length : Int), .nil]), (112, .int .i64 x_0), (114, .fn 1 x_2.length (fun i => [.ints .i64 (x_2.getD i [])]))], [some (.gen 44 3 [[.int .i64 x_0, .int .i64 x_1, .fn 1 x_2.length (fun i => [.ints .i64 (x_2.getD i [])])]]), some (.gen 44 3 [[.int .i64 a1_0, .int .i64 a1_1, .fn 1 a1_2.length (fun i => [.ints .i64 (a1_2.getD i [])])]]), some (.gen 44 3 [[.int .i64 0, .int .i64 0, .nil]]), some (.gen 44 3 [[.int .i64 0, .int .i64 0, .nil]])]⟩) (hn14 : AA 4 #[true, true, true, true, true, true, true, true, true, false, false, false, true, true, true, false] ⟨193, [(2, .ptr 0 0 0), (3, .ptr 1 0 0), (15, .int .i64 y5.1), (16, .int .i64 v), (17, .int .i64 v1), (18, .ptr 2 0 0), (19, .ptr 3 0 0), (95, .int .i64 (2 ^ x_1.toNat : Int)), (96, .int .i64 v1), (112, .int .i64 x_0), (113, .ptr 0 0 2)], [some (.gen 44 3 [[.int .i64 x_0, .int .i64 x_1, .fn 1 x_2.length (fun i => [.ints .i64 (x_2.getD i [])])]]), some (.gen 44 3 [[.int .i64 a1_0, .int .i64 a1_1, .fn 1 a1_2.length (fun i => [.ints .i64 (a1_2.getD i [])])]]), some (.gen 44 3 [[.int .i64 x_0, .int .i64 (x_2.length : Int), .nil]]), some (.gen 44 3 [[.int .i64 0, .int .i64 0, .nil]])]⟩) : AA 5 #[true, true, true, true, true, true, true, true, true, false, false, false, true, true, false, false] ⟨193, [(2, .ptr 0 0 0), (3, .ptr 1 0 0), (15, .int .i64 y5.1), (16, .int .i64 v), (17, .int .i64 v1), (18, .ptr 2 0 0), (19, .ptr 3 0 0), (95, .int .i64 (2 ^ x_1.toNat : Int)), (96, .int .i64 v1), (110, .agg [.int .i64 x_0, .int .i64 (x_2.length : Int), .nil]), (112, .int .i64 x_0), (113, .ptr 0 0 2)], [some (.gen 44 3 [[.int .i64 x_0, .int .i64 x_1, .fn 1 x_2.length (fun i => [.ints .i64 (x_2.getD i [])])]]), some (.gen 44 3 [[.int .i64 a1_0, .int .i64 a1_1, .fn 1 a1_2.length (fun i => [.ints .i64 (a1_2.getD i [])])]]), some (.gen 44 3 [[.int .i64 0, .int .i64 0, .nil]]), some (.gen 44 3 [[.int .i64 0, .int .i64 0, .nil]])]⟩ := (hAA _ _ _).2 (by
  refine AWPB_two 9 14 _ _ ceg_rotakeep_FieldProducts_21_37 rfl rfl ?_ ?_
  · skip
    refine AWPL_rn tab_ok 1 [2, 3, 15, 16, 17, 18, 19, 95, 96, 110, 112, 114, 115, 116] fun c st' hr => ?_
    simp only [go_sem, reduceIte, reduceCtorEq, Nat.reduceEqDiff, Nat.reduceLT, Nat.reduceLeDiff, Nat.reduceBEq, Nat.reduceAdd, Nat.reduceMul, Nat.reduceSub, Nat.reducePow, Int.reduceLE, Int.reduceLT, Int.reduceNeg, Int.reduceToNat, Int.reduceAdd, Int.reduceSub, idO_app, lenO_app, lenO_app2, lenO_eta] at hr
    obtain ⟨rfl, rfl⟩ := hr
    refine ⟨vc, ?_⟩
    refine AWPL_nil ?_
    refine QB_normal ?_
    exact AWPB_wk [0, 1, 2, 3] mkWkR ((hAA _ _ _).1 hn13)
  · skip
    refine AWPL_rn tab_ok 1 [2, 3, 15, 16, 17, 18, 19, 95, 96, 112, 113, 114, 115, 116] fun c st' hr => ?_
    simp only [go_sem, reduceIte, reduceCtorEq, Nat.reduceEqDiff, Nat.reduceLT, Nat.reduceLeDiff, Nat.reduceBEq, Nat.reduceAdd, Nat.reduceMul, Nat.reduceSub, Nat.reducePow, Int.reduceLE, Int.reduceLT, Int.reduceNeg, Int.reduceToNat, Int.reduceAdd, Int.reduceSub, idO_app, lenO_app, lenO_app2, lenO_eta] at hr
    obtain ⟨rfl, rfl⟩ := hr
    refine ⟨vc, ?_⟩
    refine AWPL_nil ?_
    refine QB_normal ?_
    exact AWPB_wk [0, 1, 2, 3] mkWkR ((hAA _ _ _).1 hn14))

theorem ceg_rotakeep_FieldProducts_21_39 : (Region.ready .any reg_rotakeep_FieldProducts_21.toArray #[true, true, true, true, true, true, true, true, true, false, false, false, true, false, false, false] == [9, 13]) = true := by kernel_rfl

set_option maxRecDepth 8000 in
set_option maxHeartbeats 4000000 in
theorem J_rotakeep_FieldProducts_21_hn16 {x_0 : Int} {x_1 : Int} {x_2 : List (List Int)} {a1_0 : Int} {a1_1 : Int} {a1_2 : List (List Int)} {y5 : Int × Int} {v : Int} {v1 : Int} {w0 : World} {Q : Exit → St → Prop} {AA : Nat → Array Bool → St → Prop} (hAA : ∀ g L st, AA g L st ↔ AWPB Try.prog w0 reg_rotakeep_FieldProducts_21.toArray Q g L st) (hn12 : AA 5 #[true, true, true, true, true, true, true, true, true, true, false, false, true, false, false, false] ⟨193, [(2, .ptr 0 0 0), (3, .ptr 1 0 0), (15, .int .i64 y5.1), (16, .int .i64 v), (17, .int .i64 v1), (18, .ptr 2 0 0), (95, .int .i64 (2 ^ x_1.toNat : Int)), (96, .int .i64 v1), (110, .agg [.int .i64 x_0, .int .i64 (x_2.length : Int), .nil]), (112, .int .i64 x_0), (114, .fn 1 x_2.length (fun i => [.ints .i64 (x_2.getD i [])]))], [some (.gen 44 3 [[.int .i64 x_0, .int .i64 x_1, .fn 1 x_2.length (fun i => [.ints .i64 (x_2.getD i [])])]]), some (.gen 44 3 [[.int .i64 a1_0, .int .i64 a1_1, .fn 1 a1_2.length (fun i => [.ints .i64 (a1_2.getD i [])])]]), some (.gen 44 3 [[.int .i64 0, .int .i64 0, .nil]])]⟩) (hn15 : AA 5 #[true, true, true, true, true, true, true, true, true, false, false, false, true, true, false, false] ⟨193, [(2, .ptr 0 0 0), (3, .ptr 1 0 0), (15, .int .i64 y5.1), (16, .int .i64 v), (17, .int .i64 v1), (18, .ptr 2 0 0), (19, .ptr 3 0 0), (95, .int .i64 (2 ^ x_1.toNat : Int)), (96, .int .i64 v1), (110, .agg [.int .i64 x_0, .int .i64 (x_2.length : Int), .nil]), (112, .int .i64 x_0), (113, .ptr 0 0 2)], [some (.gen 44 3 [[.int .i64 x_0, .int .i64 x_1, .fn 1 x_2.length (fun i => [.ints .i64 (x_2.getD i [])])]]), some (.gen 44 3 [[.int .i64 a1_0, .int .i64 a1_1, .fn 1 a1_2.length (fun i => [.ints .i64 (a1_2.getD i [])])]]), some (.gen 44 3 [[.int .i64 0, .int .i64 0, .nil]]), some (.gen 44 3 [[.int .i64 0, .int .i64 0, .nil]])]⟩) : AA 6 #[true, true, true, true, true, true, true, true, true, false, false, false, true, false, false, false] ⟨193, [(2, .ptr 0 0 0), (3, .ptr 1 0 0), (15, .int .i64 y5.1), (16, .int .i64 v), (17, .int .i64 v1), (18, .ptr 2 0 0), (95, .int .i64 (2 ^ x_1.toNat : Int)), (96, .int .i64 v1), (110, .agg [.int .i64 x_0, .int .i64 (x_2.length : Int), .nil]), (112, .int .i64 x_0), (113, .ptr 0 0 2)], [some (.gen 44 3 [[.int .i64 x_0, .int .i64 x_1, .fn 1 x_2.length (fun i => [.ints .i64 (x_2.getD i [])])]]), some (.gen 44 3 [[.int .i64 a1_0, .int .i64 a1_1, .fn 1 a1_2.length (fun i => [.ints .i64 (a1_2.getD i [])])]]), some (.gen 44 3 [[.int .i64 0, .int .i64 0, .nil]])]⟩ := (hAA _ _ _).2 (by
  refine AWPB_two 9 13 _ _ ceg_rotakeep_FieldProducts_21_39 rfl rfl ?_ ?_
  · skip
    refine AWPL_rn tab_ok 1 [2, 3, 15, 16, 17, 18, 19, 95, 96, 110, 112, 114, 115, 116] fun c st' hr => ?_
    simp only [go_sem, reduceIte, reduceCtorEq, Nat.reduceEqDiff, Nat.reduceLT, Nat.reduceLeDiff, Nat.reduceBEq, Nat.reduceAdd, Nat.reduceMul, Nat.reduceSub, Nat.reducePow, Int.reduceLE, Int.reduceLT, Int.reduceNeg, Int.reduceToNat, Int.reduceAdd, Int.reduceSub, idO_app, lenO_app, lenO_app2, lenO_eta] at hr
    obtain ⟨rfl, rfl⟩ := hr
    refine ⟨vc, ?_⟩
    refine AWPL_nil ?_
    refine QB_normal ?_
    exact AWPB_wk [0, 1, 2] mkWkR ((hAA _ _ _).1 hn12)
  · skip
    refine AWPL_rn tab_ok 1 [2, 3, 15, 16, 17, 18, 19, 95, 96, 110, 112, 113, 114, 115, 116] fun c st' hr => ?_
    simp only [go_sem, reduceIte, reduceCtorEq, Nat.reduceEqDiff, Nat.reduceLT, Nat.reduceLeDiff, Nat.reduceBEq, Nat.reduceAdd, Nat.reduceMul, Nat.reduceSub, Nat.reducePow, Int.reduceLE, Int.reduceLT, Int.reduceNeg, Int.reduceToNat, Int.reduceAdd, Int.reduceSub, idO_app, lenO_app, lenO_app2, lenO_eta] at hr
    obtain ⟨rfl, rfl⟩ := hr
    refine ⟨vc, ?_⟩
    refine AWPL_nil ?_
    refine QB_normal ?_
    exact AWPB_wk [0, 1, 2, 3] mkWkR ((hAA _ _ _).1 hn15))

theorem ceg_rotakeep_FieldProducts_21_41 : (Region.noSelect reg_rotakeep_FieldProducts_21.toArray && Region.free .any reg_rotakeep_FieldProducts_21.toArray #[true, true, true, true, true, true, true, true, true, true, false, false, false, true, false, false] 10 && (Region.ready .any reg_rotakeep_FieldProducts_21.toArray #[true, true, true, true, true, true, true, true, true, true, false, false, false, true, false, false]).contains 10) = true := by kernel_rfl

set_option maxRecDepth 8000 in
set_option maxHeartbeats 4000000 in
theorem J_rotakeep_FieldProducts_21_hn17 {x_0 : Int} {x_1 : Int} {x_2 : List (List Int)} {a1_0 : Int} {a1_1 : Int} {a1_2 : List (List Int)} {y5 : Int × Int} {v : Int} {v1 : Int} {w0 : World} {Q : Exit → St → Prop} {AA : Nat → Array Bool → St → Prop} (hAA : ∀ g L st, AA g L st ↔ AWPB Try.prog w0 reg_rotakeep_FieldProducts_21.toArray Q g L st) (hn9 : AA 4 #[true, true, true, true, true, true, true, true, true, true, true, false, false, true, false, false] ⟨193, [(2, .ptr 0 0 0), (3, .ptr 1 0 0), (15, .int .i64 y5.1), (16, .int .i64 v), (17, .int .i64 v1), (19, .ptr 2 0 0), (95, .int .i64 (2 ^ x_1.toNat : Int)), (96, .int .i64 v1), (110, .agg [.int .i64 x_0, .int .i64 (x_2.length : Int), .nil]), (112, .int .i64 x_0), (115, .int .i64 (x_2.length : Int))], [some (.gen 44 3 [[.int .i64 x_0, .int .i64 x_1, .fn 1 x_2.length (fun i => [.ints .i64 (x_2.getD i [])])]]), some (.gen 44 3 [[.int .i64 a1_0, .int .i64 a1_1, .fn 1 a1_2.length (fun i => [.ints .i64 (a1_2.getD i [])])]]), some (.gen 44 3 [[.int .i64 0, .int .i64 0, .nil]])]⟩) : AA 5 #[true, true, true, true, true, true, true, true, true, true, false, false, false, true, false, false] ⟨193, [(2, .ptr 0 0 0), (3, .ptr 1 0 0), (15, .int .i64 y5.1), (16, .int .i64 v), (17, .int .i64 v1), (19, .ptr 2 0 0), (95, .int .i64 (2 ^ x_1.toNat : Int)), (96, .int .i64 v1), (110, .agg [.int .i64 x_0, .int .i64 (x_2.length : Int), .nil]), (112, .int .i64 x_0), (114, .fn 1 x_2.length (fun i => [.ints .i64 (x_2.getD i [])]))], [some (.gen 44 3 [[.int .i64 x_0, .int .i64 x_1, .fn 1 x_2.length (fun i => [.ints .i64 (x_2.getD i [])])]]), some (.gen 44 3 [[.int .i64 a1_0, .int .i64 a1_1, .fn 1 a1_2.length (fun i => [.ints .i64 (a1_2.getD i [])])]]), some (.gen 44 3 [[.int .i64 0, .int .i64 0, .nil]])]⟩ := (hAA _ _ _).2 (by
  refine AWPB_take2 tab_ok [2, 3, 15, 16, 17, 18, 19, 95, 96, 110, 112, 115, 116] 10 _ rfl rfl rfl ceg_rotakeep_FieldProducts_21_41 fun c st' hr => ?_
  simp only [go_sem, reduceIte, reduceCtorEq, Nat.reduceEqDiff, Nat.reduceLT, Nat.reduceLeDiff, Nat.reduceBEq, Nat.reduceAdd, Nat.reduceMul, Nat.reduceSub, Nat.reducePow, Int.reduceLE, Int.reduceLT, Int.reduceNeg, Int.reduceToNat, Int.reduceAdd, Int.reduceSub, idO_app, lenO_app, lenO_app2, lenO_eta] at hr
  obtain ⟨rfl, rfl⟩ := hr
  refine ⟨vc, ?_⟩
  exact AWPB_wk [0, 1, 2] mkWkR ((hAA _ _ _).1 hn9))

theorem ceg_rotakeep_FieldProducts_21_43 : (Region.ready .any reg_rotakeep_FieldProducts_21.toArray #[true, true, true, true, true, true, true, true, true, false, false, false, false, true, false, false] == [9, 12]) = true := by kernel_rfl

set_option maxRecDepth 8000 in
set_option maxHeartbeats 4000000 in
theorem J_rotakeep_FieldProducts_21_hn18 {x_0 : Int} {x_1 : Int} {x_2 : List (List Int)} {a1_0 : Int} {a1_1 : Int} {a1_2 : List (List Int)} {y5 : Int × Int} {v : Int} {v1 : Int} {w0 : World} {Q : Exit → St → Prop} {AA : Nat → Array Bool → St → Prop} (hAA : ∀ g L st, AA g L st ↔ AWPB Try.prog w0 reg_rotakeep_FieldProducts_21.toArray Q g L st) (hn17 : AA 5 #[true, true, true, true, true, true, true, true, true, true, false, false, false, true, false, false] ⟨193, [(2, .ptr 0 0 0), (3, .ptr 1 0 0), (15, .int .i64 y5.1), (16, .int .i64 v), (17, .int .i64 v1), (19, .ptr 2 0 0), (95, .int .i64 (2 ^ x_1.toNat : Int)), (96, .int .i64 v1), (110, .agg [.int .i64 x_0, .int .i64 (x_2.length : Int), .nil]), (112, .int .i64 x_0), (114, .fn 1 x_2.length (fun i => [.ints .i64 (x_2.getD i [])]))], [some (.gen 44 3 [[.int .i64 x_0, .int .i64 x_1, .fn 1 x_2.length (fun i => [.ints .i64 (x_2.getD i [])])]]), some (.gen 44 3 [[.int .i64 a1_0, .int .i64 a1_1, .fn 1 a1_2.length (fun i => [.ints .i64 (a1_2.getD i [])])]]), some (.gen 44 3 [[.int .i64 0, .int .i64 0, .nil]])]⟩) (hn15 : AA 5 #[true, true, true, true, true, true, true, true, true, false, false, false, true, true, false, false] ⟨193, [(2, .ptr 0 0 0), (3, .ptr 1 0 0), (15, .int .i64 y5.1), (16, .int .i64 v), (17, .int .i64 v1), (18, .ptr 2 0 0), (19, .ptr 3 0 0), (95, .int .i64 (2 ^ x_1.toNat : Int)), (96, .int .i64 v1), (110, .agg [.int .i64 x_0, .int .i64 (x_2.length : Int), .nil]), (112, .int .i64 x_0), (113, .ptr 0 0 2)], [some (.gen 44 3 [[.int .i64 x_0, .int .i64 x_1, .fn 1 x_2.length (fun i => [.ints .i64 (x_2.getD i [])])]]), some (.gen 44 3 [[.int .i64 a1_0, .int .i64 a1_1, .fn 1 a1_2.length (fun i => [.ints .i64 (a1_2.getD i [])])]]), some (.gen 44 3 [[.int .i64 0, .int .i64 0, .nil]]), some (.gen 44 3 [[.int .i64 0, .int .i64 0, .nil]])]⟩) : AA 6 #[true, true, true, true, true, true, true, true, true, false, false, false, false, true, false, false] ⟨193, [(2, .ptr 0 0 0), (3, .ptr 1 0 0), (15, .int .i64 y5.1), (16, .int .i64 v), (17, .int .i64 v1), (19, .ptr 2 0 0), (95, .int .i64 (2 ^ x_1.toNat : Int)), (96, .int .i64 v1), (110, .agg [.int .i64 x_0, .int .i64 (x_2.length : Int), .nil]), (112, .int .i64 x_0), (113, .ptr 0 0 2)], [some (.gen 44 3 [[.int .i64 x_0, .int .i64 x_1, .fn 1 x_2.length (fun i => [.ints .i64 (x_2.getD i [])])]]), some (.gen 44 3 [[.int .i64 a1_0, .int .i64 a1_1, .fn 1 a1_2.length (fun i => [.ints .i64 (a1_2.getD i [])])]]), some (.gen 44 3 [[.int .i64 0, .int .i64 0, .nil]])]⟩ := (hAA _ _ _).2 (by
  refine AWPB_two 9 12 _ _ ceg_rotakeep_FieldProducts_21_43 rfl rfl ?_ ?_
  · skip
    refine AWPL_rn tab_ok 1 [2, 3, 15, 16, 17, 18, 19, 95, 96, 110, 112, 114, 115, 116] fun c st' hr => ?_
    simp only [go_sem, reduceIte, reduceCtorEq, Nat.reduceEqDiff, Nat.reduceLT, Nat.reduceLeDiff, Nat.reduceBEq, Nat.reduceAdd, Nat.reduceMul, Nat.reduceSub, Nat.reducePow, Int.reduceLE, Int.reduceLT, Int.reduceNeg, Int.reduceToNat, Int.reduceAdd, Int.reduceSub, idO_app, lenO_app, lenO_app2, lenO_eta] at hr
    obtain ⟨rfl, rfl⟩ := hr
    refine ⟨vc, ?_⟩
    refine AWPL_nil ?_
    refine QB_normal ?_
    exact AWPB_wk [0, 1, 2] mkWkR ((hAA _ _ _).1 hn17)
  · skip
    refine AWPL_rn tab_ok 1 [2, 3, 15, 16, 17, 18, 19, 95, 96, 110, 112, 113, 114, 115, 116] fun c st' hr => ?_
    simp only [go_sem, reduceIte, reduceCtorEq, Nat.reduceEqDiff, Nat.reduceLT, Nat.reduceLeDiff, Nat.reduceBEq, Nat.reduceAdd, Nat.reduceMul, Nat.reduceSub, Nat.reducePow, Int.reduceLE, Int.reduceLT, Int.reduceNeg, Int.reduceToNat, Int.reduceAdd, Int.reduceSub, idO_app, lenO_app, lenO_app2, lenO_eta] at hr
    obtain ⟨rfl, rfl⟩ := hr
    refine ⟨vc, ?_⟩
    refine AWPL_nil ?_
    refine QB_normal ?_
    exact AWPB_wk [0, 1, 3, 2] mkWkR ((hAA _ _ _).1 hn15))

theorem ceg_rotakeep_FieldProducts_21_45 : (Region.ready .any reg_rotakeep_FieldProducts_21.toArray #[true, true, true, true, true, true, true, true, true, false, false, false, false, false, false, false] == [9, 12, 13]) = true := by kernel_rfl

set_option maxRecDepth 8000 in
set_option maxHeartbeats 4000000 in
theorem J_rotakeep_FieldProducts_21_hn19 {x_0 : Int} {x_1 : Int} {x_2 : List (List Int)} {a1_0 : Int} {a1_1 : Int} {a1_2 : List (List Int)} {y5 : Int × Int} {v : Int} {v1 : Int} {w0 : World} {Q : Exit → St → Prop} {AA : Nat → Array Bool → St → Prop} (hAA : ∀ g L st, AA g L st ↔ AWPB Try.prog w0 reg_rotakeep_FieldProducts_21.toArray Q g L st) (hn11 : AA 6 #[true, true, true, true, true, true, true, true, true, true, false, false, false, false, false, false] ⟨193, [(2, .ptr 0 0 0), (3, .ptr 1 0 0), (15, .int .i64 y5.1), (16, .int .i64 v), (17, .int .i64 v1), (95, .int .i64 (2 ^ x_1.toNat : Int)), (96, .int .i64 v1), (110, .agg [.int .i64 x_0, .int .i64 (x_2.length : Int), .nil]), (112, .int .i64 x_0), (114, .fn 1 x_2.length (fun i => [.ints .i64 (x_2.getD i [])]))], [some (.gen 44 3 [[.int .i64 x_0, .int .i64 x_1, .fn 1 x_2.length (fun i => [.ints .i64 (x_2.getD i [])])]]), some (.gen 44 3 [[.int .i64 a1_0, .int .i64 a1_1, .fn 1 a1_2.length (fun i => [.ints .i64 (a1_2.getD i [])])]])]⟩) (hn16 : AA 6 #[true, true, true, true, true, true, true, true, true, false, false, false, true, false, false, false] ⟨193, [(2, .ptr 0 0 0), (3, .ptr 1 0 0), (15, .int .i64 y5.1), (16, .int .i64 v), (17, .int .i64 v1), (18, .ptr 2 0 0), (95, .int .i64 (2 ^ x_1.toNat : Int)), (96, .int .i64 v1), (110, .agg [.int .i64 x_0, .int .i64 (x_2.length : Int), .nil]), (112, .int .i64 x_0), (113, .ptr 0 0 2)], [some (.gen 44 3 [[.int .i64 x_0, .int .i64 x_1, .fn 1 x_2.length (fun i => [.ints .i64 (x_2.getD i [])])]]), some (.gen 44 3 [[.int .i64 a1_0, .int .i64 a1_1, .fn 1 a1_2.length (fun i => [.ints .i64 (a1_2.getD i [])])]]), some (.gen 44 3 [[.int .i64 0, .int .i64 0, .nil]])]⟩) (hn18 : AA 6 #[true, true, true, true, true, true, true, true, true, false, false, false, false, true, false, false] ⟨193, [(2, .ptr 0 0 0), (3, .ptr 1 0 0), (15, .int .i64 y5.1), (16, .int .i64 v), (17, .int .i64 v1), (19, .ptr 2 0 0), (95, .int .i64 (2 ^ x_1.toNat : Int)), (96, .int .i64 v1), (110, .agg [.int .i64 x_0, .int .i64 (x_2.length : Int), .nil]), (112, .int .i64 x_0), (113, .ptr 0 0 2)], [some (.gen 44 3 [[.int .i64 x_0, .int .i64 x_1, .fn 1 x_2.length (fun i => [.ints .i64 (x_2.getD i [])])]]), some (.gen 44 3 [[.int .i64 a1_0, .int .i64 a1_1, .fn 1 a1_2.length (fun i => [.ints .i64 (a1_2.getD i [])])]]), some (.gen 44 3 [[.int .i64 0, .int .i64 0, .nil]])]⟩) : AA 7 #[true, true, true, true, true, true, true, true, true, false, false, false, false, false, false, false] ⟨193, [(2, .ptr 0 0 0), (3, .ptr 1 0 0), (15, .int .i64 y5.1), (16, .int .i64 v), (17, .int .i64 v1), (95, .int .i64 (2 ^ x_1.toNat : Int)), (96, .int .i64 v1), (110, .agg [.int .i64 x_0, .int .i64 (x_2.length : Int), .nil]), (112, .int .i64 x_0), (113, .ptr 0 0 2)], [some (.gen 44 3 [[.int .i64 x_0, .int .i64 x_1, .fn 1 x_2.length (fun i => [.ints .i64 (x_2.getD i [])])]]), some (.gen 44 3 [[.int .i64 a1_0, .int .i64 a1_1, .fn 1 a1_2.length (fun i => [.ints .i64 (a1_2.getD i [])])]])]⟩ := (hAA _ _ _).2 (by
  refine AWPB_three 9 12 13 _ _ _ ceg_rotakeep_FieldProducts_21_45 rfl rfl rfl ?_ ?_ ?_
  · skip
    refine AWPL_rn tab_ok 1 [2, 3, 15, 16, 17, 18, 19, 95, 96, 110, 112, 114, 115, 116] fun c st' hr => ?_
    simp only [go_sem, reduceIte, reduceCtorEq, Nat.reduceEqDiff, Nat.reduceLT, Nat.reduceLeDiff, Nat.reduceBEq, Nat.reduceAdd, Nat.reduceMul, Nat.reduceSub, Nat.reducePow, Int.reduceLE, Int.reduceLT, Int.reduceNeg, Int.reduceToNat, Int.reduceAdd, Int.reduceSub, idO_app, lenO_app, lenO_app2, lenO_eta] at hr
    obtain ⟨rfl, rfl⟩ := hr
    refine ⟨vc, ?_⟩
    refine AWPL_nil ?_
    refine QB_normal ?_
    exact AWPB_wk [0, 1] mkWkR ((hAA _ _ _).1 hn11)
  · skip
    refine AWPL_rn tab_ok 1 [2, 3, 15, 16, 17, 18, 19, 95, 96, 110, 112, 113, 114, 115, 116] fun c st' hr => ?_
    simp only [go_sem, reduceIte, reduceCtorEq, Nat.reduceEqDiff, Nat.reduceLT, Nat.reduceLeDiff, Nat.reduceBEq, Nat.reduceAdd, Nat.reduceMul, Nat.reduceSub, Nat.reducePow, Int.reduceLE, Int.reduceLT, Int.reduceNeg, Int.reduceToNat, Int.reduceAdd, Int.reduceSub, idO_app, lenO_app, lenO_app2, lenO_eta] at hr
    obtain ⟨rfl, rfl⟩ := hr
    refine ⟨vc, ?_⟩
    refine AWPL_nil ?_
    refine QB_normal ?_
    exact AWPB_wk [0, 1, 2] mkWkR ((hAA _ _ _).1 hn16)
  · skip
    refine AWPL_rn tab_ok 1 [2, 3, 15, 16, 17, 18, 19, 95, 96, 110, 112, 113, 114, 115, 116] fun c st' hr => ?_
    simp only [go_sem, reduceIte, reduceCtorEq, Nat.reduceEqDiff, Nat.reduceLT, Nat.reduceLeDiff, Nat.reduceBEq, Nat.reduceAdd, Nat.reduceMul, Nat.reduceSub, Nat.reducePow, Int.reduceLE, Int.reduceLT, Int.reduceNeg, Int.reduceToNat, Int.reduceAdd, Int.reduceSub, idO_app, lenO_app, lenO_app2, lenO_eta] at hr
    obtain ⟨rfl, rfl⟩ := hr
    refine ⟨vc, ?_⟩
    refine AWPL_nil ?_
    refine QB_normal ?_
    exact AWPB_wk [0, 1, 2] mkWkR ((hAA _ _ _).1 hn18))

theorem ceg_rotakeep_FieldProducts_21_47 : firstOk reg_rotakeep_FieldProducts_21.toArray #[true, true, true, true, true, true, true, false, true, true, true, false, true, true, true, false] 7 [11, 15] = true := by kernel_rfl

set_option maxRecDepth 8000 in
set_option maxHeartbeats 4000000 in
theorem J_rotakeep_FieldProducts_21_hn20 {x_0 : Int} {x_1 : Int} {x_2 : List (List Int)} {a1_0 : Int} {a1_1 : Int} {a1_2 : List (List Int)} {y5 : Int × Int} {v : Int} {v1 : Int} {w0 : World} {Q : Exit → St → Prop} {AA : Nat → Array Bool → St → Prop} (hAA : ∀ g L st, AA g L st ↔ AWPB Try.prog w0 reg_rotakeep_FieldProducts_21.toArray Q g L st) (hn6 : AA 2 #[true, true, true, true, true, true, true, true, true, true, true, false, true, true, true, false] ⟨193, [(2, .ptr 0 0 0), (3, .ptr 1 0 0), (15, .int .i64 y5.1), (16, .int .i64 v), (17, .int .i64 v1), (18, .ptr 2 0 0), (19, .ptr 3 0 0), (95, .int .i64 (2 ^ x_1.toNat : Int)), (96, .int .i64 v1), (112, .int .i64 x_0), (115, .int .i64 (x_2.length : Int))], [some (.gen 44 3 [[.int .i64 x_0, .int .i64 x_1, .fn 1 x_2.length (fun i => [.ints .i64 (x_2.getD i [])])]]), some (.gen 44 3 [[.int .i64 a1_0, .int .i64 a1_1, .fn 1 a1_2.length (fun i => [.ints .i64 (a1_2.getD i [])])]]), some (.gen 44 3 [[.int .i64 x_0, .int .i64 (x_2.length : Int), .nil]]), some (.gen 44 3 [[.int .i64 0, .int .i64 0, .nil]])]⟩) : AA 3 #[true, true, true, true, true, true, true, false, true, true, true, false, true, true, true, false] ⟨193, [(2, .ptr 0 0 0), (3, .ptr 1 0 0), (15, .int .i64 y5.1), (16, .int .i64 v), (17, .int .i64 v1), (18, .ptr 2 0 0), (19, .ptr 3 0 0), (95, .int .i64 (2 ^ x_1.toNat : Int)), (96, .int .i64 v1), (111, .ptr 0 0 0), (115, .int .i64 (x_2.length : Int))], [some (.gen 44 3 [[.int .i64 x_0, .int .i64 x_1, .fn 1 x_2.length (fun i => [.ints .i64 (x_2.getD i [])])]]), some (.gen 44 3 [[.int .i64 a1_0, .int .i64 a1_1, .fn 1 a1_2.length (fun i => [.ints .i64 (a1_2.getD i [])])]]), some (.gen 44 3 [[.int .i64 x_0, .int .i64 (x_2.length : Int), .nil]]), some (.gen 44 3 [[.int .i64 0, .int .i64 0, .nil]])]⟩ := (hAA _ _ _).2 (by
  refine AWPB_takeB tab_ok [2, 3, 15, 16, 17, 18, 19, 95, 96, 112, 115, 116] 7 [11, 15] _ rfl ceg_rotakeep_FieldProducts_21_47 fun c st' hr => ?_
  simp only [go_sem, reduceIte, reduceCtorEq, Nat.reduceEqDiff, Nat.reduceLT, Nat.reduceLeDiff, Nat.reduceBEq, Nat.reduceAdd, Nat.reduceMul, Nat.reduceSub, Nat.reducePow, Int.reduceLE, Int.reduceLT, Int.reduceNeg, Int.reduceToNat, Int.reduceAdd, Int.reduceSub, idO_app, lenO_app, lenO_app2, lenO_eta] at hr
  obtain ⟨rfl, rfl⟩ := hr
  refine ⟨vc, ?_⟩
  exact AWPB_wk [0, 1, 2, 3] mkWkR ((hAA _ _ _).1 hn6))

theorem ceg_rotakeep_FieldProducts_21_49 : (Region.ready .any reg_rotakeep_FieldProducts_21.toArray #[true, true, true, true, true, true, true, false, true, true, true, false, true, true, false, false] == [7, 14]) = true := by kernel_rfl

set_option maxRecDepth 8000 in
set_option maxHeartbeats 4000000 in
theorem J_rotakeep_FieldProducts_21_hn21 {x_0 : Int} {x_1 : Int} {x_2 : List (List Int)} {a1_0 : Int} {a1_1 : Int} {a1_2 : List (List Int)} {y5 : Int × Int} {v : Int} {v1 : Int} {w0 : World} {Q : Exit → St → Prop} {AA : Nat → Array Bool → St → Prop} (hAA : ∀ g L st, AA g L st ↔ AWPB Try.prog w0 reg_rotakeep_FieldProducts_21.toArray Q g L st) (hn7 : AA 3 #[true, true, true, true, true, true, true, true, true, true, true, false, true, true, false, false] ⟨193, [(2, .ptr 0 0 0), (3, .ptr 1 0 0), (15, .int .i64 y5.1), (16, .int .i64 v), (17, .int .i64 v1), (18, .ptr 2 0 0), (19, .ptr 3 0 0), (95, .int .i64 (2 ^ x_1.toNat : Int)), (96, .int .i64 v1), (110, .agg [.int .i64 x_0, .int .i64 (x_2.length : Int), .nil]), (112, .int .i64 x_0), (115, .int .i64 (x_2.length : Int))], [some (.gen 44 3 [[.int .i64 x_0, .int .i64 x_1, .fn 1 x_2.length (fun i => [.ints .i64 (x_2.getD i [])])]]), some (.gen 44 3 [[.int .i64 a1_0, .int .i64 a1_1, .fn 1 a1_2.length (fun i => [.ints .i64 (a1_2.getD i [])])]]), some (.gen 44 3 [[.int .i64 0, .int .i64 0, .nil]]), some (.gen 44 3 [[.int .i64 0, .int .i64 0, .nil]])]⟩) (hn20 : AA 3 #[true, true, true, true, true, true, true, false, true, true, true, false, true, true, true, false] ⟨193, [(2, .ptr 0 0 0), (3, .ptr 1 0 0), (15, .int .i64 y5.1), (16, .int .i64 v), (17, .int .i64 v1), (18, .ptr 2 0 0), (19, .ptr 3 0 0), (95, .int .i64 (2 ^ x_1.toNat : Int)), (96, .int .i64 v1), (111, .ptr 0 0 0), (115, .int .i64 (x_2.length : Int))], [some (.gen 44 3 [[.int .i64 x_0, .int .i64 x_1, .fn 1 x_2.length (fun i => [.ints .i64 (x_2.getD i [])])]]), some (.gen 44 3 [[.int .i64 a1_0, .int .i64 a1_1, .fn 1 a1_2.length (fun i => [.ints .i64 (a1_2.getD i [])])]]), some (.gen 44 3 [[.int .i64 x_0, .int .i64 (x_2.length : Int), .nil]]), some (.gen 44 3 [[.int .i64 0, .int .i64 0, .nil]])]⟩) : AA 4 #[true, true, true, true, true, true, true, false, true, true, true, false, true, true, false, false] ⟨193, [(2, .ptr 0 0 0), (3, .ptr 1 0 0), (15, .int .i64 y5.1), (16, .int .i64 v), (17, .int .i64 v1), (18, .ptr 2 0 0), (19, .ptr 3 0 0), (95, .int .i64 (2 ^ x_1.toNat : Int)), (96, .int .i64 v1), (110, .agg [.int .i64 x_0, .int .i64 (x_2.length : Int), .nil]), (111, .ptr 0 0 0), (115, .int .i64 (x_2.length : Int))], [some (.gen 44 3 [[.int .i64 x_0, .int .i64 x_1, .fn 1 x_2.length (fun i => [.ints .i64 (x_2.getD i [])])]]), some (.gen 44 3 [[.int .i64 a1_0, .int .i64 a1_1, .fn 1 a1_2.length (fun i => [.ints .i64 (a1_2.getD i [])])]]), some (.gen 44 3 [[.int .i64 0, .int .i64 0, .nil]]), some (.gen 44 3 [[.int .i64 0, .int .i64 0, .nil]])]⟩ := (hAA _ _ _).2 (by
  refine AWPB_two 7 14 _ _ ceg_rotakeep_FieldProducts_21_49 rfl rfl ?_ ?_
  · skip
    refine AWPL_rn tab_ok 1 [2, 3, 15, 16, 17, 18, 19, 95, 96, 110, 112, 115, 116] fun c st' hr => ?_
    simp only [go_sem, reduceIte, reduceCtorEq, Nat.reduceEqDiff, Nat.reduceLT, Nat.reduceLeDiff, Nat.reduceBEq, Nat.reduceAdd, Nat.reduceMul, Nat.reduceSub, Nat.reducePow, Int.reduceLE, Int.reduceLT, Int.reduceNeg, Int.reduceToNat, Int.reduceAdd, Int.reduceSub, idO_app, lenO_app, lenO_app2, lenO_eta] at hr
    obtain ⟨rfl, rfl⟩ := hr
    refine ⟨vc, ?_⟩
    refine AWPL_nil ?_
    refine QB_normal ?_
    exact AWPB_wk [0, 1, 2, 3] mkWkR ((hAA _ _ _).1 hn7)
  · skip
    refine AWPL_rn tab_ok 1 [2, 3, 15, 16, 17, 18, 19, 95, 96, 111, 112, 115, 116] fun c st' hr => ?_
    simp only [go_sem, reduceIte, reduceCtorEq, Nat.reduceEqDiff, Nat.reduceLT, Nat.reduceLeDiff, Nat.reduceBEq, Nat.reduceAdd, Nat.reduceMul, Nat.reduceSub, Nat.reducePow, Int.reduceLE, Int.reduceLT, Int.reduceNeg, Int.reduceToNat, Int.reduceAdd, Int.reduceSub, idO_app, lenO_app, lenO_app2, lenO_eta] at hr
    obtain ⟨rfl, rfl⟩ := hr
    refine ⟨vc, ?_⟩
    refine AWPL_nil ?_
    refine QB_normal ?_
    exact AWPB_wk [0, 1, 2, 3] mkWkR ((hAA _ _ _).1 hn20))

theorem ceg_rotakeep_FieldProducts_21_51 : (Region.ready .any reg_rotakeep_FieldProducts_21.toArray #[true, true, true, true, true, true, true, false, true, true, true, false, true, false, false, false] == [7, 13]) = true := by kernel_rfl

set_option maxRecDepth 8000 in
set_option maxHeartbeats 4000000 in
theorem J_rotakeep_FieldProducts_21_hn22 {x_0 : Int} {x_1 : Int} {x_2 : List (List Int)} {a1_0 : Int} {a1_1 : Int} {a1_2 : List (List Int)} {y5 : Int × Int} {v : Int} {v1 : Int} {w0 : World} {Q : Exit → St → Prop} {AA : Nat → Array Bool → St → Prop} (hAA : ∀ g L st, AA g L st ↔ AWPB Try.prog w0 reg_rotakeep_FieldProducts_21.toArray Q g L st) (hn8 : AA 4 #[true, true, true, true, true, true, true, true, true, true, true, false, true, false, false, false] ⟨193, [(2, .ptr 0 0 0), (3, .ptr 1 0 0), (15, .int .i64 y5.1), (16, .int .i64 v), (17, .int .i64 v1), (18, .ptr 2 0 0), (95, .int .i64 (2 ^ x_1.toNat : Int)), (96, .int .i64 v1), (110, .agg [.int .i64 x_0, .int .i64 (x_2.length : Int), .nil]), (112, .int .i64 x_0), (115, .int .i64 (x_2.length : Int))], [some (.gen 44 3 [[.int .i64 x_0, .int .i64 x_1, .fn 1 x_2.length (fun i => [.ints .i64 (x_2.getD i [])])]]), some (.gen 44 3 [[.int .i64 a1_0, .int .i64 a1_1, .fn 1 a1_2.length (fun i => [.ints .i64 (a1_2.getD i [])])]]), some (.gen 44 3 [[.int .i64 0, .int .i64 0, .nil]])]⟩) (hn21 : AA 4 #[true, true, true, true, true, true, true, false, true, true, true, false, true, true, false, false] ⟨193, [(2, .ptr 0 0 0), (3, .ptr 1 0 0), (15, .int .i64 y5.1), (16, .int .i64 v), (17, .int .i64 v1), (18, .ptr 2 0 0), (19, .ptr 3 0 0), (95, .int .i64 (2 ^ x_1.toNat : Int)), (96, .int .i64 v1), (110, .agg [.int .i64 x_0, .int .i64 (x_2.length : Int), .nil]), (111, .ptr 0 0 0), (115, .int .i64 (x_2.length : Int))], [some (.gen 44 3 [[.int .i64 x_0, .int .i64 x_1, .fn 1 x_2.length (fun i => [.ints .i64 (x_2.getD i [])])]]), some (.gen 44 3 [[.int .i64 a1_0, .int .i64 a1_1, .fn 1 a1_2.length (fun i => [.ints .i64 (a1_2.getD i [])])]]), some (.gen 44 3 [[.int .i64 0, .int .i64 0, .nil]]), some (.gen 44 3 [[.int .i64 0, .int .i64 0, .nil]])]⟩) : AA 5 #[true, true, true, true, true, true, true, false, true, true, true, false, true, false, false, false] ⟨193, [(2, .ptr 0 0 0), (3, .ptr 1 0 0), (15, .int .i64 y5.1), (16, .int .i64 v), (17, .int .i64 v1), (18, .ptr 2 0 0), (95, .int .i64 (2 ^ x_1.toNat : Int)), (96, .int .i64 v1), (110, .agg [.int .i64 x_0, .int .i64 (x_2.length : Int), .nil]), (111, .ptr 0 0 0), (115, .int .i64 (x_2.length : Int))], [some (.gen 44 3 [[.int .i64 x_0, .int .i64 x_1, .fn 1 x_2.length (fun i => [.ints .i64 (x_2.getD i [])])]]), some (.gen 44 3 [[.int .i64 a1_0, .int .i64 a1_1, .fn 1 a1_2.length (fun i => [.ints .i64 (a1_2.getD i [])])]]), some (.gen 44 3 [[.int .i64 0, .int .i64 0, .nil]])]⟩ := (hAA _ _ _).2 (by
  refine AWPB_two 7 13 _ _ ceg_rotakeep_FieldProducts_21_51 rfl rfl ?_ ?_
  · skip
    refine AWPL_rn tab_ok 1 [2, 3, 15, 16, 17, 18, 19, 95, 96, 110, 112, 115, 116] fun c st' hr => ?_
    simp only [go_sem, reduceIte, reduceCtorEq, Nat.reduceEqDiff, Nat.reduceLT, Nat.reduceLeDiff, Nat.reduceBEq, Nat.reduceAdd, Nat.reduceMul, Nat.reduceSub, Nat.reducePow, Int.reduceLE, Int.reduceLT, Int.reduceNeg, Int.reduceToNat, Int.reduceAdd, Int.reduceSub, idO_app, lenO_app, lenO_app2, lenO_eta] at hr
    obtain ⟨rfl, rfl⟩ := hr
    refine ⟨vc, ?_⟩
    refine AWPL_nil ?_
    refine QB_normal ?_
    exact AWPB_wk [0, 1, 2] mkWkR ((hAA _ _ _).1 hn8)
  · skip
    refine AWPL_rn tab_ok 1 [2, 3, 15, 16, 17, 18, 19, 95, 96, 110, 111, 112, 115, 116] fun c st' hr => ?_
    simp only [go_sem, reduceIte, reduceCtorEq, Nat.reduceEqDiff, Nat.reduceLT, Nat.reduceLeDiff, Nat.reduceBEq, Nat.reduceAdd, Nat.reduceMul, Nat.reduceSub, Nat.reducePow, Int.reduceLE, Int.reduceLT, Int.reduceNeg, Int.reduceToNat, Int.reduceAdd, Int.reduceSub, idO_app, lenO_app, lenO_app2, lenO_eta] at hr
    obtain ⟨rfl, rfl⟩ := hr
    refine ⟨vc, ?_⟩
    refine AWPL_nil ?_
    refine QB_normal ?_
    exact AWPB_wk [0, 1, 2, 3] mkWkR ((hAA _ _ _).1 hn21))

theorem ceg_rotakeep_FieldProducts_21_53 : (Region.ready .any reg_rotakeep_FieldProducts_21.toArray #[true, true, true, true, true, true, true, false, true, true, true, false, false, true, false, false] == [7, 12]) = true := by kernel_rfl

set_option maxRecDepth 8000 in
set_option maxHeartbeats 4000000 in
theorem J_rotakeep_FieldProducts_21_hn23 {x_0 : Int} {x_1 : Int} {x_2 : List (List Int)} {a1_0 : Int} {a1_1 : Int} {a1_2 : List (List Int)} {y5 : Int × Int} {v : Int} {v1 : Int} {w0 : World} {Q : Exit → St → Prop} {AA : Nat → Array Bool → St → Prop} (hAA : ∀ g L st, AA g L st ↔ AWPB Try.prog w0 reg_rotakeep_FieldProducts_21.toArray Q g L st) (hn9 : AA 4 #[true, true, true, true, true, true, true, true, true, true, true, false, false, true, false, false] ⟨193, [(2, .ptr 0 0 0), (3, .ptr 1 0 0), (15, .int .i64 y5.1), (16, .int .i64 v), (17, .int .i64 v1), (19, .ptr 2 0 0), (95, .int .i64 (2 ^ x_1.toNat : Int)), (96, .int .i64 v1), (110, .agg [.int .i64 x_0, .int .i64 (x_2.length : Int), .nil]), (112, .int .i64 x_0), (115, .int .i64 (x_2.length : Int))], [some (.gen 44 3 [[.int .i64 x_0, .int .i64 x_1, .fn 1 x_2.length (fun i => [.ints .i64 (x_2.getD i [])])]]), some (.gen 44 3 [[.int .i64 a1_0, .int .i64 a1_1, .fn 1 a1_2.length (fun i => [.ints .i64 (a1_2.getD i [])])]]), some (.gen 44 3 [[.int .i64 0, .int .i64 0, .nil]])]⟩) (hn21 : AA 4 #[true, true, true, true, true, true, true, false, true, true, true, false, true, true, false, false] ⟨193, [(2, .ptr 0 0 0), (3, .ptr 1 0 0), (15, .int .i64 y5.1), (16, .int .i64 v), (17, .int .i64 v1), (18, .ptr 2 0 0), (19, .ptr 3 0 0), (95, .int .i64 (2 ^ x_1.toNat : Int)), (96, .int .i64 v1), (110, .agg [.int .i64 x_0, .int .i64 (x_2.length : Int), .nil]), (111, .ptr 0 0 0), (115, .int .i64 (x_2.length : Int))], [some (.gen 44 3 [[.int .i64 x_0, .int .i64 x_1, .fn 1 x_2.length (fun i => [.ints .i64 (x_2.getD i [])])]]), some (.gen 44 3 [[.int .i64 a1_0, .int .i64 a1_1, .fn 1 a1_2.length (fun i => [.ints .i64 (a1_2.getD i [])])]]), some (.gen 44 3 [[.int .i64 0, .int .i64 0, .nil]]), some (.gen 44 3 [[.int .i64 0, .int .i64 0, .nil]])]⟩) : AA 5 #[true, true, true, true, true, true, true, false, true, true, true, false, false, true, false, false] ⟨193, [(2, .ptr 0 0 0), (3, .ptr 1 0 0), (15, .int .i64 y5.1), (16, .int .i64 v), (17, .int .i64 v1), (19, .ptr 2 0 0), (95, .int .i64 (2 ^ x_1.toNat : Int)), (96, .int .i64 v1), (110, .agg [.int .i64 x_0, .int .i64 (x_2.length : Int), .nil]), (111, .ptr 0 0 0), (115, .int .i64 (x_2.length : Int))], [some (.gen 44 3 [[.int .i64 x_0, .int .i64 x_1, .fn 1 x_2.length (fun i => [.ints .i64 (x_2.getD i [])])]]), some (.gen 44 3 [[.int .i64 a1_0, .int .i64 a1_1, .fn 1 a1_2.length (fun i => [.ints .i64 (a1_2.getD i [])])]]), some (.gen 44 3 [[.int .i64 0, .int .i64 0, .nil]])]⟩ := (hAA _ _ _).2 (by
  refine AWPB_two 7 12 _ _ ceg_rotakeep_FieldProducts_21_53 rfl rfl ?_ ?_
  · skip
    refine AWPL_rn tab_ok 1 [2, 3, 15, 16, 17, 18, 19, 95, 96, 110, 112, 115, 116] fun c st' hr => ?_
    simp only [go_sem, reduceIte, reduceCtorEq, Nat.reduceEqDiff, Nat.reduceLT, Nat.reduceLeDiff, Nat.reduceBEq, Nat.reduceAdd, Nat.reduceMul, Nat.reduceSub, Nat.reducePow, Int.reduceLE, Int.reduceLT, Int.reduceNeg, Int.reduceToNat, Int.reduceAdd, Int.reduceSub, idO_app, lenO_app, lenO_app2, lenO_eta] at hr
    obtain ⟨rfl, rfl⟩ := hr
    refine ⟨vc, ?_⟩
    refine AWPL_nil ?_
    refine QB_normal ?_
    exact AWPB_wk [0, 1, 2] mkWkR ((hAA _ _ _).1 hn9)
  · skip
    refine AWPL_rn tab_ok 1 [2, 3, 15, 16, 17, 18, 19, 95, 96, 110, 111, 112, 115, 116] fun c st' hr => ?_
    simp only [go_sem, reduceIte, reduceCtorEq, Nat.reduceEqDiff, Nat.reduceLT, Nat.reduceLeDiff, Nat.reduceBEq, Nat.reduceAdd, Nat.reduceMul, Nat.reduceSub, Nat.reducePow, Int.reduceLE, Int.reduceLT, Int.reduceNeg, Int.reduceToNat, Int.reduceAdd, Int.reduceSub, idO_app, lenO_app, lenO_app2, lenO_eta] at hr
    obtain ⟨rfl, rfl⟩ := hr
    refine ⟨vc, ?_⟩
    refine AWPL_nil ?_
    refine QB_normal ?_
    exact AWPB_wk [0, 1, 3, 2] mkWkR ((hAA _ _ _).1 hn21))

theorem ceg_rotakeep_FieldProducts_21_55 : (Region.ready .any reg_rotakeep_FieldProducts_21.toArray #[true, true, true, true, true, true, true, false, true, true, true, false, false, false, false, false] == [7, 12, 13]) = true := by kernel_rfl

set_option maxRecDepth 8000 in
set_option maxHeartbeats 4000000 in
theorem J_rotakeep_FieldProducts_21_hn24 {x_0 : Int} {x_1 : Int} {x_2 : List (List Int)} {a1_0 : Int} {a1_1 : Int} {a1_2 : List (List Int)} {y5 : Int × Int} {v : Int} {v1 : Int} {w0 : World} {Q : Exit → St → Prop} {AA : Nat → Array Bool → St → Prop} (hAA : ∀ g L st, AA g L st ↔ AWPB Try.prog w0 reg_rotakeep_FieldProducts_21.toArray Q g L st) (hn10 : AA 5 #[true, true, true, true, true, true, true, true, true, true, true, false, false, false, false, false] ⟨193, [(2, .ptr 0 0 0), (3, .ptr 1 0 0), (15, .int .i64 y5.1), (16, .int .i64 v), (17, .int .i64 v1), (95, .int .i64 (2 ^ x_1.toNat : Int)), (96, .int .i64 v1), (110, .agg [.int .i64 x_0, .int .i64 (x_2.length : Int), .nil]), (112, .int .i64 x_0), (115, .int .i64 (x_2.length : Int))], [some (.gen 44 3 [[.int .i64 x_0, .int .i64 x_1, .fn 1 x_2.length (fun i => [.ints .i64 (x_2.getD i [])])]]), some (.gen 44 3 [[.int .i64 a1_0, .int .i64 a1_1, .fn 1 a1_2.length (fun i => [.ints .i64 (a1_2.getD i [])])]])]⟩) (hn22 : AA 5 #[true, true, true, true, true, true, true, false, true, true, true, false, true, false, false, false] ⟨193, [(2, .ptr 0 0 0), (3, .ptr 1 0 0), (15, .int .i64 y5.1), (16, .int .i64 v), (17, .int .i64 v1), (18, .ptr 2 0 0), (95, .int .i64 (2 ^ x_1.toNat : Int)), (96, .int .i64 v1), (110, .agg [.int .i64 x_0, .int .i64 (x_2.length : Int), .nil]), (111, .ptr 0 0 0), (115, .int .i64 (x_2.length : Int))], [some (.gen 44 3 [[.int .i64 x_0, .int .i64 x_1, .fn 1 x_2.length (fun i => [.ints .i64 (x_2.getD i [])])]]), some (.gen 44 3 [[.int .i64 a1_0, .int .i64 a1_1, .fn 1 a1_2.length (fun i => [.ints .i64 (a1_2.getD i [])])]]), some (.gen 44 3 [[.int .i64 0, .int .i64 0, .nil]])]⟩) (hn23 : AA 5 #[true, true, true, true, true, true, true, false, true, true, true, false, false, true, false, false] ⟨193, [(2, .ptr 0 0 0), (3, .ptr 1 0 0), (15, .int .i64 y5.1), (16, .int .i64 v), (17, .int .i64 v1), (19, .ptr 2 0 0), (95, .int .i64 (2 ^ x_1.toNat : Int)), (96, .int .i64 v1), (110, .agg [.int .i64 x_0, .int .i64 (x_2.length : Int), .nil]), (111, .ptr 0 0 0), (115, .int .i64 (x_2.length : Int))], [some (.gen 44 3 [[.int .i64 x_0, .int .i64 x_1, .fn 1 x_2.length (fun i => [.ints .i64 (x_2.getD i [])])]]), some (.gen 44 3 [[.int .i64 a1_0, .int .i64 a1_1, .fn 1 a1_2.length (fun i => [.ints .i64 (a1_2.getD i [])])]]), some (.gen 44 3 [[.int .i64 0, .int .i64 0, .nil]])]⟩) : AA 6 #[true, true, true, true, true, true, true, false, true, true, true, false, false, false, false, false] ⟨193, [(2, .ptr 0 0 0), (3, .ptr 1 0 0), (15, .int .i64 y5.1), (16, .int .i64 v), (17, .int .i64 v1), (95, .int .i64 (2 ^ x_1.toNat : Int)), (96, .int .i64 v1), (110, .agg [.int .i64 x_0, .int .i64 (x_2.length : Int), .nil]), (111, .ptr 0 0 0), (115, .int .i64 (x_2.length : Int))], [some (.gen 44 3 [[.int .i64 x_0, .int .i64 x_1, .fn 1 x_2.length (fun i => [.ints .i64 (x_2.getD i [])])]]), some (.gen 44 3 [[.int .i64 a1_0, .int .i64 a1_1, .fn 1 a1_2.length (fun i => [.ints .i64 (a1_2.getD i [])])]])]⟩ := (hAA _ _ _).2 (by
  refine AWPB_three 7 12 13 _ _ _ ceg_rotakeep_FieldProducts_21_55 rfl rfl rfl ?_ ?_ ?_
  · skip
    refine AWPL_rn tab_ok 1 [2, 3, 15, 16, 17, 18, 19, 95, 96, 110, 112, 115, 116] fun c st' hr => ?_
    simp only [go_sem, reduceIte, reduceCtorEq, Nat.reduceEqDiff, Nat.reduceLT, Nat.reduceLeDiff, Nat.reduceBEq, Nat.reduceAdd, Nat.reduceMul, Nat.reduceSub, Nat.reducePow, Int.reduceLE, Int.reduceLT, Int.reduceNeg, Int.reduceToNat, Int.reduceAdd, Int.reduceSub, idO_app, lenO_app, lenO_app2, lenO_eta] at hr
    obtain ⟨rfl, rfl⟩ := hr
    refine ⟨vc, ?_⟩
    refine AWPL_nil ?_
    refine QB_normal ?_
    exact AWPB_wk [0, 1] mkWkR ((hAA _ _ _).1 hn10)
  · skip
    refine AWPL_rn tab_ok 1 [2, 3, 15, 16, 17, 18, 19, 95, 96, 110, 111, 112, 115, 116] fun c st' hr => ?_
    simp only [go_sem, reduceIte, reduceCtorEq, Nat.reduceEqDiff, Nat.reduceLT, Nat.reduceLeDiff, Nat.reduceBEq, Nat.reduceAdd, Nat.reduceMul, Nat.reduceSub, Nat.reducePow, Int.reduceLE, Int.reduceLT, Int.reduceNeg, Int.reduceToNat, Int.reduceAdd, Int.reduceSub, idO_app, lenO_app, lenO_app2, lenO_eta] at hr
    obtain ⟨rfl, rfl⟩ := hr
    refine ⟨vc, ?_⟩
    refine AWPL_nil ?_
    refine QB_normal ?_
    exact AWPB_wk [0, 1, 2] mkWkR ((hAA _ _ _).1 hn22)
  · skip
    refine AWPL_rn tab_ok 1 [2, 3, 15, 16, 17, 18, 19, 95, 96, 110, 111, 112, 115, 116] fun c st' hr => ?_
    simp only [go_sem, reduceIte, reduceCtorEq, Nat.reduceEqDiff, Nat.reduceLT, Nat.reduceLeDiff, Nat.reduceBEq, Nat.reduceAdd, Nat.reduceMul, Nat.reduceSub, Nat.reducePow, Int.reduceLE, Int.reduceLT, Int.reduceNeg, Int.reduceToNat, Int.reduceAdd, Int.reduceSub, idO_app, lenO_app, lenO_app2, lenO_eta] at hr
    obtain ⟨rfl, rfl⟩ := hr
    refine ⟨vc, ?_⟩
    refine AWPL_nil ?_
    refine QB_normal ?_
    exact AWPB_wk [0, 1, 2] mkWkR ((hAA _ _ _).1 hn23))

theorem ceg_rotakeep_FieldProducts_21_57 : (Region.noSelect reg_rotakeep_FieldProducts_21.toArray && Region.free .any reg_rotakeep_FieldProducts_21.toArray #[true, true, true, true, true, true, true, false, true, true, false, false, false, false, false, false] 10 && (Region.ready .any reg_rotakeep_FieldProducts_21.toArray #[true, true, true, true, true, true, true, false, true, true, false, false, false, false, false, false]).contains 10) = true := by kernel_rfl

set_option maxRecDepth 8000 in
set_option maxHeartbeats 4000000 in
theorem J_rotakeep_FieldProducts_21_hn25 {x_0 : Int} {x_1 : Int} {x_2 : List (List Int)} {a1_0 : Int} {a1_1 : Int} {a1_2 : List (List Int)} {y5 : Int × Int} {v : Int} {v1 : Int} {w0 : World} {Q : Exit → St → Prop} {AA : Nat → Array Bool → St → Prop} (hAA : ∀ g L st, AA g L st ↔ AWPB Try.prog w0 reg_rotakeep_FieldProducts_21.toArray Q g L st) (hn24 : AA 6 #[true, true, true, true, true, true, true, false, true, true, true, false, false, false, false, false] ⟨193, [(2, .ptr 0 0 0), (3, .ptr 1 0 0), (15, .int .i64 y5.1), (16, .int .i64 v), (17, .int .i64 v1), (95, .int .i64 (2 ^ x_1.toNat : Int)), (96, .int .i64 v1), (110, .agg [.int .i64 x_0, .int .i64 (x_2.length : Int), .nil]), (111, .ptr 0 0 0), (115, .int .i64 (x_2.length : Int))], [some (.gen 44 3 [[.int .i64 x_0, .int .i64 x_1, .fn 1 x_2.length (fun i => [.ints .i64 (x_2.getD i [])])]]), some (.gen 44 3 [[.int .i64 a1_0, .int .i64 a1_1, .fn 1 a1_2.length (fun i => [.ints .i64 (a1_2.getD i [])])]])]⟩) : AA 7 #[true, true, true, true, true, true, true, false, true, true, false, false, false, false, false, false] ⟨193, [(2, .ptr 0 0 0), (3, .ptr 1 0 0), (15, .int .i64 y5.1), (16, .int .i64 v), (17, .int .i64 v1), (95, .int .i64 (2 ^ x_1.toNat : Int)), (96, .int .i64 v1), (110, .agg [.int .i64 x_0, .int .i64 (x_2.length : Int), .nil]), (111, .ptr 0 0 0), (114, .fn 1 x_2.length (fun i => [.ints .i64 (x_2.getD i [])]))], [some (.gen 44 3 [[.int .i64 x_0, .int .i64 x_1, .fn 1 x_2.length (fun i => [.ints .i64 (x_2.getD i [])])]]), some (.gen 44 3 [[.int .i64 a1_0, .int .i64 a1_1, .fn 1 a1_2.length (fun i => [.ints .i64 (a1_2.getD i [])])]])]⟩ := (hAA _ _ _).2 (by
  refine AWPB_take2 tab_ok [2, 3, 15, 16, 17, 18, 19, 95, 96, 110, 111, 112, 115, 116] 10 _ rfl rfl rfl ceg_rotakeep_FieldProducts_21_57 fun c st' hr => ?_
  simp only [go_sem, reduceIte, reduceCtorEq, Nat.reduceEqDiff, Nat.reduceLT, Nat.reduceLeDiff, Nat.reduceBEq, Nat.reduceAdd, Nat.reduceMul, Nat.reduceSub, Nat.reducePow, Int.reduceLE, Int.reduceLT, Int.reduceNeg, Int.reduceToNat, Int.reduceAdd, Int.reduceSub, idO_app, lenO_app, lenO_app2, lenO_eta] at hr
  obtain ⟨rfl, rfl⟩ := hr
  refine ⟨vc, ?_⟩
  exact AWPB_wk [0, 1] mkWkR ((hAA _ _ _).1 hn24))

theorem ceg_rotakeep_FieldProducts_21_59 : (Region.noSelect reg_rotakeep_FieldProducts_21.toArray && Region.free .any reg_rotakeep_FieldProducts_21.toArray #[true, true, true, true, true, true, true, false, true, true, false, false, true, false, false, false] 10 && (Region.ready .any reg_rotakeep_FieldProducts_21.toArray #[true, true, true, true, true, true, true, false, true, true, false, false, true, false, false, false]).contains 10) = true := by kernel_rfl

set_option maxRecDepth 8000 in
set_option maxHeartbeats 4000000 in
theorem J_rotakeep_FieldProducts_21_hn26 {x_0 : Int} {x_1 : Int} {x_2 : List (List Int)} {a1_0 : Int} {a1_1 : Int} {a1_2 : List (List Int)} {y5 : Int × Int} {v : Int} {v1 : Int} {w0 : World} {Q : Exit → St → Prop} {AA : Nat → Array Bool → St → Prop} (hAA : ∀ g L st, AA g L st ↔ AWPB Try.prog w0 reg_rotakeep_FieldProducts_21.toArray Q g L st) (hn22 : AA 5 #[true, true, true, true, true, true, true, false, true, true, true, false, true, false, false, false] ⟨193, [(2, .ptr 0 0 0), (3, .ptr 1 0 0), (15, .int .i64 y5.1), (16, .int .i64 v), (17, .int .i64 v1), (18, .ptr 2 0 0), (95, .int .i64 (2 ^ x_1.toNat : Int)), (96, .int .i64 v1), (110, .agg [.int .i64 x_0, .int .i64 (x_2.length : Int), .nil]), (111, .ptr 0 0 0), (115, .int .i64 (x_2.length : Int))], [some (.gen 44 3 [[.int .i64 x_0, .int .i64 x_1, .fn 1 x_2.length (fun i => [.ints .i64 (x_2.getD i [])])]]), some (.gen 44 3 [[.int .i64 a1_0, .int .i64 a1_1, .fn 1 a1_2.length (fun i => [.ints .i64 (a1_2.getD i [])])]]), some (.gen 44 3 [[.int .i64 0, .int .i64 0, .nil]])]⟩) : AA 6 #[true, true, true, true, true, true, true, false, true, true, false, false, true, false, false, false] ⟨193, [(2, .ptr 0 0 0), (3, .ptr 1 0 0), (15, .int .i64 y5.1), (16, .int .i64 v), (17, .int .i64 v1), (18, .ptr 2 0 0), (95, .int .i64 (2 ^ x_1.toNat : Int)), (96, .int .i64 v1), (110, .agg [.int .i64 x_0, .int .i64 (x_2.length : Int), .nil]), (111, .ptr 0 0 0), (114, .fn 1 x_2.length (fun i => [.ints .i64 (x_2.getD i [])]))], [some (.gen 44 3 [[.int .i64 x_0, .int .i64 x_1, .fn 1 x_2.length (fun i => [.ints .i64 (x_2.getD i [])])]]), some (.gen 44 3 [[.int .i64 a1_0, .int .i64 a1_1, .fn 1 a1_2.length (fun i => [.ints .i64 (a1_2.getD i [])])]]), some (.gen 44 3 [[.int .i64 0, .int .i64 0, .nil]])]⟩ := (hAA _ _ _).2 (by
  refine AWPB_take2 tab_ok [2, 3, 15, 16, 17, 18, 19, 95, 96, 110, 111, 112, 115, 116] 10 _ rfl rfl rfl ceg_rotakeep_FieldProducts_21_59 fun c st' hr => ?_
  simp only [go_sem, reduceIte, reduceCtorEq, Nat.reduceEqDiff, Nat.reduceLT, Nat.reduceLeDiff, Nat.reduceBEq, Nat.reduceAdd, Nat.reduceMul, Nat.reduceSub, Nat.reducePow, Int.reduceLE, Int.reduceLT, Int.reduceNeg, Int.reduceToNat, Int.reduceAdd, Int.reduceSub, idO_app, lenO_app, lenO_app2, lenO_eta] at hr
  obtain ⟨rfl, rfl⟩ := hr
  refine ⟨vc, ?_⟩
  exact AWPB_wk [0, 1, 2] mkWkR ((hAA _ _ _).1 hn22))

theorem ceg_rotakeep_FieldProducts_21_61 : (Region.noSelect reg_rotakeep_FieldProducts_21.toArray && Region.free .any reg_rotakeep_FieldProducts_21.toArray #[true, true, true, true, true, true, true, false, true, true, false, false, true, true, false, false] 10 && (Region.ready .any reg_rotakeep_FieldProducts_21.toArray #[true, true, true, true, true, true, true, false, true, true, false, false, true, true, false, false]).contains 10) = true := by kernel_rfl

set_option maxRecDepth 8000 in
set_option maxHeartbeats 4000000 in
theorem J_rotakeep_FieldProducts_21_hn27 {x_0 : Int} {x_1 : Int} {x_2 : List (List Int)} {a1_0 : Int} {a1_1 : Int} {a1_2 : List (List Int)} {y5 : Int × Int} {v : Int} {v1 : Int} {w0 : World} {Q : Exit → St → Prop} {AA : Nat → Array Bool → St → Prop} (hAA : ∀ g L st, AA g L st ↔ AWPB Try.prog w0 reg_rotakeep_FieldProducts_21.toArray Q g L st) (hn21 : AA 4 #[true, true, true, true, true, true, true, false, true, true, true, false, true, true, false, false] ⟨193, [(2, .ptr 0 0 0), (3, .ptr 1 0 0), (15, .int .i64 y5.1), (16, .int .i64 v), (17, .int .i64 v1), (18, .ptr 2 0 0), (19, .ptr 3 0 0), (95, .int .i64 (2 ^ x_1.toNat : Int)), (96, .int .i64 v1), (110, .agg [.int .i64 x_0, .int .i64 (x_2.length : Int), .nil]), (111, .ptr 0 0 0), (115, .int .i64 (x_2.length : Int))], [some (.gen 44 3 [[.int .i64 x_0, .int .i64 x_1, .fn 1 x_2.length (fun i => [.ints .i64 (x_2.getD i [])])]]), some (.gen 44 3 [[.int .i64 a1_0, .int .i64 a1_1, .fn 1 a1_2.length (fun i => [.ints .i64 (a1_2.getD i [])])]]), some (.gen 44 3 [[.int .i64 0, .int .i64 0, .nil]]), some (.gen 44 3 [[.int .i64 0, .int .i64 0, .nil]])]⟩) : AA 5 #[true, true, true, true, true, true, true, false, true, true, false, false, true, true, false, false] ⟨193, [(2, .ptr 0 0 0), (3, .ptr 1 0 0), (15, .int .i64 y5.1), (16, .int .i64 v), (17, .int .i64 v1), (18, .ptr 2 0 0), (19, .ptr 3 0 0), (95, .int .i64 (2 ^ x_1.toNat : Int)), (96, .int .i64 v1), (110, .agg [.int .i64 x_0, .int .i64 (x_2.length : Int), .nil]), (111, .ptr 0 0 0), (114, .fn 1 x_2.length (fun i => [.ints .i64 (x_2.getD i [])]))], [some (.gen 44 3 [[.int .i64 x_0, .int .i64 x_1, .fn 1 x_2.length (fun i => [.ints .i64 (x_2.getD i [])])]]), some (.gen 44 3 [[.int .i64 a1_0, .int .i64 a1_1, .fn 1 a1_2.length (fun i => [.ints .i64 (a1_2.getD i [])])]]), some (.gen 44 3 [[.int .i64 0, .int .i64 0, .nil]]), some (.gen 44 3 [[.int .i64 0, .int .i64 0, .nil]])]⟩ := (hAA _ _ _).2 (by
  refine AWPB_take2 tab_ok [2, 3, 15, 16, 17, 18, 19, 95, 96, 110, 111, 112, 115, 116] 10 _ rfl rfl rfl ceg_rotakeep_FieldProducts_21_61 fun c st' hr => ?_
  simp only [go_sem, reduceIte, reduceCtorEq, Nat.reduceEqDiff, Nat.reduceLT, Nat.reduceLeDiff, Nat.reduceBEq, Nat.reduceAdd, Nat.reduceMul, Nat.reduceSub, Nat.reducePow, Int.reduceLE, Int.reduceLT, Int.reduceNeg, Int.reduceToNat, Int.reduceAdd, Int.reduceSub, idO_app, lenO_app, lenO_app2, lenO_eta] at hr
  obtain ⟨rfl, rfl⟩ := hr
  refine ⟨vc, ?_⟩
  exact AWPB_wk [0, 1, 2, 3] mkWkR ((hAA _ _ _).1 hn21))

theorem ceg_rotakeep_FieldProducts_21_63 : firstOk reg_rotakeep_FieldProducts_21.toArray #[true, true, true, true, true, true, true, false, true, false, false, false, true, true, true, false] 7 [11, 15] = true := by kernel_rfl

set_option maxRecDepth 8000 in
set_option maxHeartbeats 4000000 in
theorem J_rotakeep_FieldProducts_21_hn28 {x_0 : Int} {x_1 : Int} {x_2 : List (List Int)} {a1_0 : Int} {a1_1 : Int} {a1_2 : List (List Int)} {y5 : Int × Int} {v : Int} {v1 : Int} {w0 : World} {Q : Exit → St → Prop} {AA : Nat → Array Bool → St → Prop} (hAA : ∀ g L st, AA g L st ↔ AWPB Try.prog w0 reg_rotakeep_FieldProducts_21.toArray Q g L st) (hn14 : AA 4 #[true, true, true, true, true, true, true, true, true, false, false, false, true, true, true, false] ⟨193, [(2, .ptr 0 0 0), (3, .ptr 1 0 0), (15, .int .i64 y5.1), (16, .int .i64 v), (17, .int .i64 v1), (18, .ptr 2 0 0), (19, .ptr 3 0 0), (95, .int .i64 (2 ^ x_1.toNat : Int)), (96, .int .i64 v1), (112, .int .i64 x_0), (113, .ptr 0 0 2)], [some (.gen 44 3 [[.int .i64 x_0, .int .i64 x_1, .fn 1 x_2.length (fun i => [.ints .i64 (x_2.getD i [])])]]), some (.gen 44 3 [[.int .i64 a1_0, .int .i64 a1_1, .fn 1 a1_2.length (fun i => [.ints .i64 (a1_2.getD i [])])]]), some (.gen 44 3 [[.int .i64 x_0, .int .i64 (x_2.length : Int), .nil]]), some (.gen 44 3 [[.int .i64 0, .int .i64 0, .nil]])]⟩) : AA 5 #[true, true, true, true, true, true, true, false, true, false, false, false, true, true, true, false] ⟨193, [(2, .ptr 0 0 0), (3, .ptr 1 0 0), (15, .int .i64 y5.1), (16, .int .i64 v), (17, .int .i64 v1), (18, .ptr 2 0 0), (19, .ptr 3 0 0), (95, .int .i64 (2 ^ x_1.toNat : Int)), (96, .int .i64 v1), (111, .ptr 0 0 0), (113, .ptr 0 0 2)], [some (.gen 44 3 [[.int .i64 x_0, .int .i64 x_1, .fn 1 x_2.length (fun i => [.ints .i64 (x_2.getD i [])])]]), some (.gen 44 3 [[.int .i64 a1_0, .int .i64 a1_1, .fn 1 a1_2.length (fun i => [.ints .i64 (a1_2.getD i [])])]]), some (.gen 44 3 [[.int .i64 x_0, .int .i64 (x_2.length : Int), .nil]]), some (.gen 44 3 [[.int .i64 0, .int .i64 0, .nil]])]⟩ := (hAA _ _ _).2 (by
  refine AWPB_takeB tab_ok [2, 3, 15, 16, 17, 18, 19, 95, 96, 112, 113, 114, 115, 116] 7 [11, 15] _ rfl ceg_rotakeep_FieldProducts_21_63 fun c st' hr => ?_
  simp only [go_sem, reduceIte, reduceCtorEq, Nat.reduceEqDiff, Nat.reduceLT, Nat.reduceLeDiff, Nat.reduceBEq, Nat.reduceAdd, Nat.reduceMul, Nat.reduceSub, Nat.reducePow, Int.reduceLE, Int.reduceLT, Int.reduceNeg, Int.reduceToNat, Int.reduceAdd, Int.reduceSub, idO_app, lenO_app, lenO_app2, lenO_eta] at hr
  obtain ⟨rfl, rfl⟩ := hr
  refine ⟨vc, ?_⟩
  exact AWPB_wk [0, 1, 2, 3] mkWkR ((hAA _ _ _).1 hn14))

theorem ceg_rotakeep_FieldProducts_21_65 : (Region.ready .any reg_rotakeep_FieldProducts_21.toArray #[true, true, true, true, true, true, true, false, true, false, false, false, true, true, false, false] == [7, 9, 14]) = true := by kernel_rfl

set_option maxRecDepth 8000 in
set_option maxHeartbeats 4000000 in
theorem J_rotakeep_FieldProducts_21_hn29 {x_0 : Int} {x_1 : Int} {x_2 : List (List Int)} {a1_0 : Int} {a1_1 : Int} {a1_2 : List (List Int)} {y5 : Int × Int} {v : Int} {v1 : Int} {w0 : World} {Q : Exit → St → Prop} {AA : Nat → Array Bool → St → Prop} (hAA : ∀ g L st, AA g L st ↔ AWPB Try.prog w0 reg_rotakeep_FieldProducts_21.toArray Q g L st) (hn15 : AA 5 #[true, true, true, true, true, true, true, true, true, false, false, false, true, true, false, false] ⟨193, [(2, .ptr 0 0 0), (3, .ptr 1 0 0), (15, .int .i64 y5.1), (16, .int .i64 v), (17, .int .i64 v1), (18, .ptr 2 0 0), (19, .ptr 3 0 0), (95, .int .i64 (2 ^ x_1.toNat : Int)), (96, .int .i64 v1), (110, .agg [.int .i64 x_0, .int .i64 (x_2.length : Int), .nil]), (112, .int .i64 x_0), (113, .ptr 0 0 2)], [some (.gen 44 3 [[.int .i64 x_0, .int .i64 x_1, .fn 1 x_2.length (fun i => [.ints .i64 (x_2.getD i [])])]]), some (.gen 44 3 [[.int .i64 a1_0, .int .i64 a1_1, .fn 1 a1_2.length (fun i => [.ints .i64 (a1_2.getD i [])])]]), some (.gen 44 3 [[.int .i64 0, .int .i64 0, .nil]]), some (.gen 44 3 [[.int .i64 0, .int .i64 0, .nil]])]⟩) (hn27 : AA 5 #[true, true, true, true, true, true, true, false, true, true, false, false, true, true, false, false] ⟨193, [(2, .ptr 0 0 0), (3, .ptr 1 0 0), (15, .int .i64 y5.1), (16, .int .i64 v), (17, .int .i64 v1), (18, .ptr 2 0 0), (19, .ptr 3 0 0), (95, .int .i64 (2 ^ x_1.toNat : Int)), (96, .int .i64 v1), (110, .agg [.int .i64 x_0, .int .i64 (x_2.length : Int), .nil]), (111, .ptr 0 0 0), (114, .fn 1 x_2.length (fun i => [.ints .i64 (x_2.getD i [])]))], [some (.gen 44 3 [[.int .i64 x_0, .int .i64 x_1, .fn 1 x_2.length (fun i => [.ints .i64 (x_2.getD i [])])]]), some (.gen 44 3 [[.int .i64 a1_0, .int .i64 a1_1, .fn 1 a1_2.length (fun i => [.ints .i64 (a1_2.getD i [])])]]), some (.gen 44 3 [[.int .i64 0, .int .i64 0, .nil]]), some (.gen 44 3 [[.int .i64 0, .int .i64 0, .nil]])]⟩) (hn28 : AA 5 #[true, true, true, true, true, true, true, false, true, false, false, false, true, true, true, false] ⟨193, [(2, .ptr 0 0 0), (3, .ptr 1 0 0), (15, .int .i64 y5.1), (16, .int .i64 v), (17, .int .i64 v1), (18, .ptr 2 0 0), (19, .ptr 3 0 0), (95, .int .i64 (2 ^ x_1.toNat : Int)), (96, .int .i64 v1), (111, .ptr 0 0 0), (113, .ptr 0 0 2)], [some (.gen 44 3 [[.int .i64 x_0, .int .i64 x_1, .fn 1 x_2.length (fun i => [.ints .i64 (x_2.getD i [])])]]), some (.gen 44 3 [[.int .i64 a1_0, .int .i64 a1_1, .fn 1 a1_2.length (fun i => [.ints .i64 (a1_2.getD i [])])]]), some (.gen 44 3 [[.int .i64 x_0, .int .i64 (x_2.length : Int), .nil]]), some (.gen 44 3 [[.int .i64 0, .int .i64 0, .nil]])]⟩) : AA 6 #[true, true, true, true, true, true, true, false, true, false, false, false, true, true, false, false] ⟨193, [(2, .ptr 0 0 0), (3, .ptr 1 0 0), (15, .int .i64 y5.1), (16, .int .i64 v), (17, .int .i64 v1), (18, .ptr 2 0 0), (19, .ptr 3 0 0), (95, .int .i64 (2 ^ x_1.toNat : Int)), (96, .int .i64 v1), (110, .agg [.int .i64 x_0, .int .i64 (x_2.length : Int), .nil]), (111, .ptr 0 0 0), (113, .ptr 0 0 2)], [some (.gen 44 3 [[.int .i64 x_0, .int .i64 x_1, .fn 1 x_2.length (fun i => [.ints .i64 (x_2.getD i [])])]]), some (.gen 44 3 [[.int .i64 a1_0, .int .i64 a1_1, .fn 1 a1_2.length (fun i => [.ints .i64 (a1_2.getD i [])])]]), some (.gen 44 3 [[.int .i64 0, .int .i64 0, .nil]]), some (.gen 44 3 [[.int .i64 0, .int .i64 0, .nil]])]⟩ := (hAA _ _ _).2 (by
  refine AWPB_three 7 9 14 _ _ _ ceg_rotakeep_FieldProducts_21_65 rfl rfl rfl ?_ ?_ ?_
  · skip
    refine AWPL_rn tab_ok 1 [2, 3, 15, 16, 17, 18, 19, 95, 96, 110, 112, 113, 114, 115, 116] fun c st' hr => ?_
    simp only [go_sem, reduceIte, reduceCtorEq, Nat.reduceEqDiff, Nat.reduceLT, Nat.reduceLeDiff, Nat.reduceBEq, Nat.reduceAdd, Nat.reduceMul, Nat.reduceSub, Nat.reducePow, Int.reduceLE, Int.reduceLT, Int.reduceNeg, Int.reduceToNat, Int.reduceAdd, Int.reduceSub, idO_app, lenO_app, lenO_app2, lenO_eta] at hr
    obtain ⟨rfl, rfl⟩ := hr
    refine ⟨vc, ?_⟩
    refine AWPL_nil ?_
    refine QB_normal ?_
    exact AWPB_wk [0, 1, 2, 3] mkWkR ((hAA _ _ _).1 hn15)
  · skip
    refine AWPL_rn tab_ok 1 [2, 3, 15, 16, 17, 18, 19, 95, 96, 110, 111, 112, 114, 115, 116] fun c st' hr => ?_
    simp only [go_sem, reduceIte, reduceCtorEq, Nat.reduceEqDiff, Nat.reduceLT, Nat.reduceLeDiff, Nat.reduceBEq, Nat.reduceAdd, Nat.reduceMul, Nat.reduceSub, Nat.reducePow, Int.reduceLE, Int.reduceLT, Int.reduceNeg, Int.reduceToNat, Int.reduceAdd, Int.reduceSub, idO_app, lenO_app, lenO_app2, lenO_eta] at hr
    obtain ⟨rfl, rfl⟩ := hr
    refine ⟨vc, ?_⟩
    refine AWPL_nil ?_
    refine QB_normal ?_
    exact AWPB_wk [0, 1, 2, 3] mkWkR ((hAA _ _ _).1 hn27)
  · skip
    refine AWPL_rn tab_ok 1 [2, 3, 15, 16, 17, 18, 19, 95, 96, 111, 112, 113, 114, 115, 116] fun c st' hr => ?_
    simp only [go_sem, reduceIte, reduceCtorEq, Nat.reduceEqDiff, Nat.reduceLT, Nat.reduceLeDiff, Nat.reduceBEq, Nat.reduceAdd, Nat.reduceMul, Nat.reduceSub, Nat.reducePow, Int.reduceLE, Int.reduceLT, Int.reduceNeg, Int.reduceToNat, Int.reduceAdd, Int.reduceSub, idO_app, lenO_app, lenO_app2, lenO_eta] at hr
    obtain ⟨rfl, rfl⟩ := hr
    refine ⟨vc, ?_⟩
    refine AWPL_nil ?_
    refine QB_normal ?_
    exact AWPB_wk [0, 1, 2, 3] mkWkR ((hAA _ _ _).1 hn28))

theorem ceg_rotakeep_FieldProducts_21_67 : (Region.ready .any reg_rotakeep_FieldProducts_21.toArray #[true, true, true, true, true, true, true, false, true, false, false, false, true, false, false, false] == [7, 9, 13]) = true := by kernel_rfl

set_option maxRecDepth 8000 in
set_option maxHeartbeats 4000000 in
theorem J_rotakeep_FieldProducts_21_hn30 {x_0 : Int} {x_1 : Int} {x_2 : List (List Int)} {a1_0 : Int} {a1_1 : Int} {a1_2 : List (List Int)} {y5 : Int × Int} {v : Int} {v1 : Int} {w0 : World} {Q : Exit → St → Prop} {AA : Nat → Array Bool → St → Prop} (hAA : ∀ g L st, AA g L st ↔ AWPB Try.prog w0 reg_rotakeep_FieldProducts_21.toArray Q g L st) (hn16 : AA 6 #[true, true, true, true, true, true, true, true, true, false, false, false, true, false, false, false] ⟨193, [(2, .ptr 0 0 0), (3, .ptr 1 0 0), (15, .int .i64 y5.1), (16, .int .i64 v), (17, .int .i64 v1), (18, .ptr 2 0 0), (95, .int .i64 (2 ^ x_1.toNat : Int)), (96, .int .i64 v1), (110, .agg [.int .i64 x_0, .int .i64 (x_2.length : Int), .nil]), (112, .int .i64 x_0), (113, .ptr 0 0 2)], [some (.gen 44 3 [[.int .i64 x_0, .int .i64 x_1, .fn 1 x_2.length (fun i => [.ints .i64 (x_2.getD i [])])]]), some (.gen 44 3 [[.int .i64 a1_0, .int .i64 a1_1, .fn 1 a1_2.length (fun i => [.ints .i64 (a1_2.getD i [])])]]), some (.gen 44 3 [[.int .i64 0, .int .i64 0, .nil]])]⟩) (hn26 : AA 6 #[true, true, true, true, true, true, true, false, true, true, false, false, true, false, false, false] ⟨193, [(2, .ptr 0 0 0), (3, .ptr 1 0 0), (15, .int .i64 y5.1), (16, .int .i64 v), (17, .int .i64 v1), (18, .ptr 2 0 0), (95, .int .i64 (2 ^ x_1.toNat : Int)), (96, .int .i64 v1), (110, .agg [.int .i64 x_0, .int .i64 (x_2.length : Int), .nil]), (111, .ptr 0 0 0), (114, .fn 1 x_2.length (fun i => [.ints .i64 (x_2.getD i [])]))], [some (.gen 44 3 [[.int .i64 x_0, .int .i64 x_1, .fn 1 x_2.length (fun i => [.ints .i64 (x_2.getD i [])])]]), some (.gen 44 3 [[.int .i64 a1_0, .int .i64 a1_1, .fn 1 a1_2.length (fun i => [.ints .i64 (a1_2.getD i [])])]]), some (.gen 44 3 [[.int .i64 0, .int .i64 0, .nil]])]⟩) (hn29 : AA 6 #[true, true, true, true, true, true, true, false, true, false, false, false, true, true, false, false] ⟨193, [(2, .ptr 0 0 0), (3, .ptr 1 0 0), (15, .int .i64 y5.1), (16, .int .i64 v), (17, .int .i64 v1), (18, .ptr 2 0 0), (19, .ptr 3 0 0), (95, .int .i64 (2 ^ x_1.toNat : Int)), (96, .int .i64 v1), (110, .agg [.int .i64 x_0, .int .i64 (x_2.length : Int), .nil]), (111, .ptr 0 0 0), (113, .ptr 0 0 2)], [some (.gen 44 3 [[.int .i64 x_0, .int .i64 x_1, .fn 1 x_2.length (fun i => [.ints .i64 (x_2.getD i [])])]]), some (.gen 44 3 [[.int .i64 a1_0, .int .i64 a1_1, .fn 1 a1_2.length (fun i => [.ints .i64 (a1_2.getD i [])])]]), some (.gen 44 3 [[.int .i64 0, .int .i64 0, .nil]]), some (.gen 44 3 [[.int .i64 0, .int .i64 0, .nil]])]⟩) : AA 7 #[true, true, true, true, true, true, true, false, true, false, false, false, true, false, false, false] ⟨193, [(2, .ptr 0 0 0), (3, .ptr 1 0 0), (15, .int .i64 y5.1), (16, .int .i64 v), (17, .int .i64 v1), (18, .ptr 2 0 0), (95, .int .i64 (2 ^ x_1.toNat : Int)), (96, .int .i64 v1), (110, .agg [.int .i64 x_0, .int .i64 (x_2.length : Int), .nil]), (111, .ptr 0 0 0), (113, .ptr 0 0 2)], [some (.gen 44 3 [[.int .i64 x_0, .int .i64 x_1, .fn 1 x_2.length (fun i => [.ints .i64 (x_2.getD i [])])]]), some (.gen 44 3 [[.int .i64 a1_0, .int .i64 a1_1, .fn 1 a1_2.length (fun i => [.ints .i64 (a1_2.getD i [])])]]), some (.gen 44 3 [[.int .i64 0, .int .i64 0, .nil]])]⟩ := (hAA _ _ _).2 (by
  refine AWPB_three 7 9 13 _ _ _ ceg_rotakeep_FieldProducts_21_67 rfl rfl rfl ?_ ?_ ?_
  · skip
    refine AWPL_rn tab_ok 1 [2, 3, 15, 16, 17, 18, 19, 95, 96, 110, 112, 113, 114, 115, 116] fun c st' hr => ?_
    simp only [go_sem, reduceIte, reduceCtorEq, Nat.reduceEqDiff, Nat.reduceLT, Nat.reduceLeDiff, Nat.reduceBEq, Nat.reduceAdd, Nat.reduceMul, Nat.reduceSub, Nat.reducePow, Int.reduceLE, Int.reduceLT, Int.reduceNeg, Int.reduceToNat, Int.reduceAdd, Int.reduceSub, idO_app, lenO_app, lenO_app2, lenO_eta] at hr
    obtain ⟨rfl, rfl⟩ := hr
    refine ⟨vc, ?_⟩
    refine AWPL_nil ?_
    refine QB_normal ?_
    exact AWPB_wk [0, 1, 2] mkWkR ((hAA _ _ _).1 hn16)
  · skip
    refine AWPL_rn tab_ok 1 [2, 3, 15, 16, 17, 18, 19, 95, 96, 110, 111, 112, 114, 115, 116] fun c st' hr => ?_
    simp only [go_sem, reduceIte, reduceCtorEq, Nat.reduceEqDiff, Nat.reduceLT, Nat.reduceLeDiff, Nat.reduceBEq, Nat.reduceAdd, Nat.reduceMul, Nat.reduceSub, Nat.reducePow, Int.reduceLE, Int.reduceLT, Int.reduceNeg, Int.reduceToNat, Int.reduceAdd, Int.reduceSub, idO_app, lenO_app, lenO_app2, lenO_eta] at hr
    obtain ⟨rfl, rfl⟩ := hr
    refine ⟨vc, ?_⟩
    refine AWPL_nil ?_
    refine QB_normal ?_
    exact AWPB_wk [0, 1, 2] mkWkR ((hAA _ _ _).1 hn26)
  · skip
    refine AWPL_rn tab_ok 1 [2, 3, 15, 16, 17, 18, 19, 95, 96, 110, 111, 112, 113, 114, 115, 116] fun c st' hr => ?_
    simp only [go_sem, reduceIte, reduceCtorEq, Nat.reduceEqDiff, Nat.reduceLT, Nat.reduceLeDiff, Nat.reduceBEq, Nat.reduceAdd, Nat.reduceMul, Nat.reduceSub, Nat.reducePow, Int.reduceLE, Int.reduceLT, Int.reduceNeg, Int.reduceToNat, Int.reduceAdd, Int.reduceSub, idO_app, lenO_app, lenO_app2, lenO_eta] at hr
    obtain ⟨rfl, rfl⟩ := hr
    refine ⟨vc, ?_⟩
    refine AWPL_nil ?_
    refine QB_normal ?_
    exact AWPB_wk [0, 1, 2, 3] mkWkR ((hAA _ _ _).1 hn29))

theorem ceg_rotakeep_FieldProducts_21_69 : (Region.noSelect reg_rotakeep_FieldProducts_21.toArray && Region.free .any reg_rotakeep_FieldProducts_21.toArray #[true, true, true, true, true, true, true, false, true, true, false, false, false, true, false, false] 10 && (Region.ready .any reg_rotakeep_FieldProducts_21.toArray #[true, true, true, true, true, true, true, false, true, true, false, false, false, true, false, false]).contains 10) = true := by kernel_rfl

set_option maxRecDepth 8000 in
set_option maxHeartbeats 4000000 in
theorem J_rotakeep_FieldProducts_21_hn31 {x_0 : Int} {x_1 : Int} {x_2 : List (List Int)} {a1_0 : Int} {a1_1 : Int} {a1_2 : List (List Int)} {y5 : Int × Int} {v : Int} {v1 : Int} {w0 : World} {Q : Exit → St → Prop} {AA : Nat → Array Bool → St → Prop} (hAA : ∀ g L st, AA g L st ↔ AWPB Try.prog w0 reg_rotakeep_FieldProducts_21.toArray Q g L st) (hn23 : AA 5 #[true, true, true, true, true, true, true, false, true, true, true, false, false, true, false, false] ⟨193, [(2, .ptr 0 0 0), (3, .ptr 1 0 0), (15, .int .i64 y5.1), (16, .int .i64 v), (17, .int .i64 v1), (19, .ptr 2 0 0), (95, .int .i64 (2 ^ x_1.toNat : Int)), (96, .int .i64 v1), (110, .agg [.int .i64 x_0, .int .i64 (x_2.length : Int), .nil]), (111, .ptr 0 0 0), (115, .int .i64 (x_2.length : Int))], [some (.gen 44 3 [[.int .i64 x_0, .int .i64 x_1, .fn 1 x_2.length (fun i => [.ints .i64 (x_2.getD i [])])]]), some (.gen 44 3 [[.int .i64 a1_0, .int .i64 a1_1, .fn 1 a1_2.length (fun i => [.ints .i64 (a1_2.getD i [])])]]), some (.gen 44 3 [[.int .i64 0, .int .i64 0, .nil]])]⟩) : AA 6 #[true, true, true, true, true, true, true, false, true, true, false, false, false, true, false, false] ⟨193, [(2, .ptr 0 0 0), (3, .ptr 1 0 0), (15, .int .i64 y5.1), (16, .int .i64 v), (17, .int .i64 v1), (19, .ptr 2 0 0), (95, .int .i64 (2 ^ x_1.toNat : Int)), (96, .int .i64 v1), (110, .agg [.int .i64 x_0, .int .i64 (x_2.length : Int), .nil]), (111, .ptr 0 0 0), (114, .fn 1 x_2.length (fun i => [.ints .i64 (x_2.getD i [])]))], [some (.gen 44 3 [[.int .i64 x_0, .int .i64 x_1, .fn 1 x_2.length (fun i => [.ints .i64 (x_2.getD i [])])]]), some (.gen 44 3 [[.int .i64 a1_0, .int .i64 a1_1, .fn 1 a1_2.length (fun i => [.ints .i64 (a1_2.getD i [])])]]), some (.gen 44 3 [[.int .i64 0, .int .i64 0, .nil]])]⟩ := (hAA _ _ _).2 (by
  refine AWPB_take2 tab_ok [2, 3, 15, 16, 17, 18, 19, 95, 96, 110, 111, 112, 115, 116] 10 _ rfl rfl rfl ceg_rotakeep_FieldProducts_21_69 fun c st' hr => ?_
  simp only [go_sem, reduceIte, reduceCtorEq, Nat.reduceEqDiff, Nat.reduceLT, Nat.reduceLeDiff, Nat.reduceBEq, Nat.reduceAdd, Nat.reduceMul, Nat.reduceSub, Nat.reducePow, Int.reduceLE, Int.reduceLT, Int.reduceNeg, Int.reduceToNat, Int.reduceAdd, Int.reduceSub, idO_app, lenO_app, lenO_app2, lenO_eta] at hr
  obtain ⟨rfl, rfl⟩ := hr
  refine ⟨vc, ?_⟩
  exact AWPB_wk [0, 1, 2] mkWkR ((hAA _ _ _).1 hn23))

theorem ceg_rotakeep_FieldProducts_21_71 : (Region.ready .any reg_rotakeep_FieldProducts_21.toArray #[true, true, true, true, true, true, true, false, true, false, false, false, false, true, false, false] == [7, 9, 12]) = true := by kernel_rfl

set_option maxRecDepth 8000 in
set_option maxHeartbeats 4000000 in
theorem J_rotakeep_FieldProducts_21_hn32 {x_0 : Int} {x_1 : Int} {x_2 : List (List Int)} {a1_0 : Int} {a1_1 : Int} {a1_2 : List (List Int)} {y5 : Int × Int} {v : Int} {v1 : Int} {w0 : World} {Q : Exit → St → Prop} {AA : Nat → Array Bool → St → Prop} (hAA : ∀ g L st, AA g L st ↔ AWPB Try.prog w0 reg_rotakeep_FieldProducts_21.toArray Q g L st) (hn18 : AA 6 #[true, true, true, true, true, true, true, true, true, false, false, false, false, true, false, false] ⟨193, [(2, .ptr 0 0 0), (3, .ptr 1 0 0), (15, .int .i64 y5.1), (16, .int .i64 v), (17, .int .i64 v1), (19, .ptr 2 0 0), (95, .int .i64 (2 ^ x_1.toNat : Int)), (96, .int .i64 v1), (110, .agg [.int .i64 x_0, .int .i64 (x_2.length : Int), .nil]), (112, .int .i64 x_0), (113, .ptr 0 0 2)], [some (.gen 44 3 [[.int .i64 x_0, .int .i64 x_1, .fn 1 x_2.length (fun i => [.ints .i64 (x_2.getD i [])])]]), some (.gen 44 3 [[.int .i64 a1_0, .int .i64 a1_1, .fn 1 a1_2.length (fun i => [.ints .i64 (a1_2.getD i [])])]]), some (.gen 44 3 [[.int .i64 0, .int .i64 0, .nil]])]⟩) (hn31 : AA 6 #[true, true, true, true, true, true, true, false, true, true, false, false, false, true, false, false] ⟨193, [(2, .ptr 0 0 0), (3, .ptr 1 0 0), (15, .int .i64 y5.1), (16, .int .i64 v), (17, .int .i64 v1), (19, .ptr 2 0 0), (95, .int .i64 (2 ^ x_1.toNat : Int)), (96, .int .i64 v1), (110, .agg [.int .i64 x_0, .int .i64 (x_2.length : Int), .nil]), (111, .ptr 0 0 0), (114, .fn 1 x_2.length (fun i => [.ints .i64 (x_2.getD i [])]))], [some (.gen 44 3 [[.int .i64 x_0, .int .i64 x_1, .fn 1 x_2.length (fun i => [.ints .i64 (x_2.getD i [])])]]), some (.gen 44 3 [[.int .i64 a1_0, .int .i64 a1_1, .fn 1 a1_2.length (fun i => [.ints .i64 (a1_2.getD i [])])]]), some (.gen 44 3 [[.int .i64 0, .int .i64 0, .nil]])]⟩) (hn29 : AA 6 #[true, true, true, true, true, true, true, false, true, false, false, false, true, true, false, false] ⟨193, [(2, .ptr 0 0 0), (3, .ptr 1 0 0), (15, .int .i64 y5.1), (16, .int .i64 v), (17, .int .i64 v1), (18, .ptr 2 0 0), (19, .ptr 3 0 0), (95, .int .i64 (2 ^ x_1.toNat : Int)), (96, .int .i64 v1), (110, .agg [.int .i64 x_0, .int .i64 (x_2.length : Int), .nil]), (111, .ptr 0 0 0), (113, .ptr 0 0 2)], [some (.gen 44 3 [[.int .i64 x_0, .int .i64 x_1, .fn 1 x_2.length (fun i => [.ints .i64 (x_2.getD i [])])]]), some (.gen 44 3 [[.int .i64 a1_0, .int .i64 a1_1, .fn 1 a1_2.length (fun i => [.ints .i64 (a1_2.getD i [])])]]), some (.gen 44 3 [[.int .i64 0, .int .i64 0, .nil]]), some (.gen 44 3 [[.int .i64 0, .int .i64 0, .nil]])]⟩) : AA 7 #[true, true, true, true, true, true, true, false, true, false, false, false, false, true, false, false] ⟨193, [(2, .ptr 0 0 0), (3, .ptr 1 0 0), (15, .int .i64 y5.1), (16, .int .i64 v), (17, .int .i64 v1), (19, .ptr 2 0 0), (95, .int .i64 (2 ^ x_1.toNat : Int)), (96, .int .i64 v1), (110, .agg [.int .i64 x_0, .int .i64 (x_2.length : Int), .nil]), (111, .ptr 0 0 0), (113, .ptr 0 0 2)], [some (.gen 44 3 [[.int .i64 x_0, .int .i64 x_1, .fn 1 x_2.length (fun i => [.ints .i64 (x_2.getD i [])])]]), some (.gen 44 3 [[.int .i64 a1_0, .int .i64 a1_1, .fn 1 a1_2.length (fun i => [.ints .i64 (a1_2.getD i [])])]]), some (.gen 44 3 [[.int .i64 0, .int .i64 0, .nil]])]⟩ := (hAA _ _ _).2 (by
  refine AWPB_three 7 9 12 _ _ _ ceg_rotakeep_FieldProducts_21_71 rfl rfl rfl ?_ ?_ ?_
  · skip
    refine AWPL_rn tab_ok 1 [2, 3, 15, 16, 17, 18, 19, 95, 96, 110, 112, 113, 114, 115, 116] fun c st' hr => ?_
    simp only [go_sem, reduceIte, reduceCtorEq, Nat.reduceEqDiff, Nat.reduceLT, Nat.reduceLeDiff, Nat.reduceBEq, Nat.reduceAdd, Nat.reduceMul, Nat.reduceSub, Nat.reducePow, Int.reduceLE, Int.reduceLT, Int.reduceNeg, Int.reduceToNat, Int.reduceAdd, Int.reduceSub, idO_app, lenO_app, lenO_app2, lenO_eta] at hr
    obtain ⟨rfl, rfl⟩ := hr
    refine ⟨vc, ?_⟩
    refine AWPL_nil ?_
    refine QB_normal ?_
    exact AWPB_wk [0, 1, 2] mkWkR ((hAA _ _ _).1 hn18)
  · skip
    refine AWPL_rn tab_ok 1 [2, 3, 15, 16, 17, 18, 19, 95, 96, 110, 111, 112, 114, 115, 116] fun c st' hr => ?_
    simp only [go_sem, reduceIte, reduceCtorEq, Nat.reduceEqDiff, Nat.reduceLT, Nat.reduceLeDiff, Nat.reduceBEq, Nat.reduceAdd, Nat.reduceMul, Nat.reduceSub, Nat.reducePow, Int.reduceLE, Int.reduceLT, Int.reduceNeg, Int.reduceToNat, Int.reduceAdd, Int.reduceSub, idO_app, lenO_app, lenO_app2, lenO_eta] at hr
    obtain ⟨rfl, rfl⟩ := hr
    refine ⟨vc, ?_⟩
    refine AWPL_nil ?_
    refine QB_normal ?_
    exact AWPB_wk [0, 1, 2] mkWkR ((hAA _ _ _).1 hn31)
  · skip
    refine AWPL_rn tab_ok 1 [2, 3, 15, 16, 17, 18, 19, 95, 96, 110, 111, 112, 113, 114, 115, 116] fun c st' hr => ?_
    simp only [go_sem, reduceIte, reduceCtorEq, Nat.reduceEqDiff, Nat.reduceLT, Nat.reduceLeDiff, Nat.reduceBEq, Nat.reduceAdd, Nat.reduceMul, Nat.reduceSub, Nat.reducePow, Int.reduceLE, Int.reduceLT, Int.reduceNeg, Int.reduceToNat, Int.reduceAdd, Int.reduceSub, idO_app, lenO_app, lenO_app2, lenO_eta] at hr
    obtain ⟨rfl, rfl⟩ := hr
    refine ⟨vc, ?_⟩
    refine AWPL_nil ?_
    refine QB_normal ?_
    exact AWPB_wk [0, 1, 3, 2] mkWkR ((hAA _ _ _).1 hn29))

theorem ceg_rotakeep_FieldProducts_21_73 : (Region.ready .any reg_rotakeep_FieldProducts_21.toArray #[true, true, true, true, true, true, true, false, true, false, false, false, false, false, false, false] == [7, 9, 12, 13]) = true := by kernel_rfl

set_option maxRecDepth 8000 in
set_option maxHeartbeats 4000000 in
theorem J_rotakeep_FieldProducts_21_hn33 {x_0 : Int} {x_1 : Int} {x_2 : List (List Int)} {a1_0 : Int} {a1_1 : Int} {a1_2 : List (List Int)} {y5 : Int × Int} {v : Int} {v1 : Int} {w0 : World} {Q : Exit → St → Prop} {AA : Nat → Array Bool → St → Prop} (hAA : ∀ g L st, AA g L st ↔ AWPB Try.prog w0 reg_rotakeep_FieldProducts_21.toArray Q g L st) (hn19 : AA 7 #[true, true, true, true, true, true, true, true, true, false, false, false, false, false, false, false] ⟨193, [(2, .ptr 0 0 0), (3, .ptr 1 0 0), (15, .int .i64 y5.1), (16, .int .i64 v), (17, .int .i64 v1), (95, .int .i64 (2 ^ x_1.toNat : Int)), (96, .int .i64 v1), (110, .agg [.int .i64 x_0, .int .i64 (x_2.length : Int), .nil]), (112, .int .i64 x_0), (113, .ptr 0 0 2)], [some (.gen 44 3 [[.int .i64 x_0, .int .i64 x_1, .fn 1 x_2.length (fun i => [.ints .i64 (x_2.getD i [])])]]), some (.gen 44 3 [[.int .i64 a1_0, .int .i64 a1_1, .fn 1 a1_2.length (fun i => [.ints .i64 (a1_2.getD i [])])]])]⟩) (hn25 : AA 7 #[true, true, true, true, true, true, true, false, true, true, false, false, false, false, false, false] ⟨193, [(2, .ptr 0 0 0), (3, .ptr 1 0 0), (15, .int .i64 y5.1), (16, .int .i64 v), (17, .int .i64 v1), (95, .int .i64 (2 ^ x_1.toNat : Int)), (96, .int .i64 v1), (110, .agg [.int .i64 x_0, .int .i64 (x_2.length : Int), .nil]), (111, .ptr 0 0 0), (114, .fn 1 x_2.length (fun i => [.ints .i64 (x_2.getD i [])]))], [some (.gen 44 3 [[.int .i64 x_0, .int .i64 x_1, .fn 1 x_2.length (fun i => [.ints .i64 (x_2.getD i [])])]]), some (.gen 44 3 [[.int .i64 a1_0, .int .i64 a1_1, .fn 1 a1_2.length (fun i => [.ints .i64 (a1_2.getD i [])])]])]⟩) (hn30 : AA 7 #[true, true, true, true, true, true, true, false, true, false, false, false, true, false, false, false] ⟨193, [(2, .ptr 0 0 0), (3, .ptr 1 0 0), (15, .int .i64 y5.1), (16, .int .i64 v), (17, .int .i64 v1), (18, .ptr 2 0 0), (95, .int .i64 (2 ^ x_1.toNat : Int)), (96, .int .i64 v1), (110, .agg [.int .i64 x_0, .int .i64 (x_2.length : Int), .nil]), (111, .ptr 0 0 0), (113, .ptr 0 0 2)], [some (.gen 44 3 [[.int .i64 x_0, .int .i64 x_1, .fn 1 x_2.length (fun i => [.ints .i64 (x_2.getD i [])])]]), some (.gen 44 3 [[.int .i64 a1_0, .int .i64 a1_1, .fn 1 a1_2.length (fun i => [.ints .i64 (a1_2.getD i [])])]]), some (.gen 44 3 [[.int .i64 0, .int .i64 0, .nil]])]⟩) (hn32 : AA 7 #[true, true, true, true, true, true, true, false, true, false, false, false, false, true, false, false] ⟨193, [(2, .ptr 0 0 0), (3, .ptr 1 0 0), (15, .int .i64 y5.1), (16, .int .i64 v), (17, .int .i64 v1), (19, .ptr 2 0 0), (95, .int .i64 (2 ^ x_1.toNat : Int)), (96, .int .i64 v1), (110, .agg [.int .i64 x_0, .int .i64 (x_2.length : Int), .nil]), (111, .ptr 0 0 0), (113, .ptr 0 0 2)], [some (.gen 44 3 [[.int .i64 x_0, .int .i64 x_1, .fn 1 x_2.length (fun i => [.ints .i64 (x_2.getD i [])])]]), some (.gen 44 3 [[.int .i64 a1_0, .int .i64 a1_1, .fn 1 a1_2.length (fun i => [.ints .i64 (a1_2.getD i [])])]]), some (.gen 44 3 [[.int .i64 0, .int .i64 0, .nil]])]⟩) : AA 8 #[true, true, true, true, true, true, true, false, true, false, false, false, false, false, false, false] ⟨193, [(2, .ptr 0 0 0), (3, .ptr 1 0 0), (15, .int .i64 y5.1), (16, .int .i64 v), (17, .int .i64 v1), (95, .int .i64 (2 ^ x_1.toNat : Int)), (96, .int .i64 v1), (110, .agg [.int .i64 x_0, .int .i64 (x_2.length : Int), .nil]), (111, .ptr 0 0 0), (113, .ptr 0 0 2)], [some (.gen 44 3 [[.int .i64 x_0, .int .i64 x_1, .fn 1 x_2.length (fun i => [.ints .i64 (x_2.getD i [])])]]), some (.gen 44 3 [[.int .i64 a1_0, .int .i64 a1_1, .fn 1 a1_2.length (fun i => [.ints .i64 (a1_2.getD i [])])]])]⟩ := (hAA _ _ _).2 (by
  refine AWPB_four 7 9 12 13 _ _ _ _ ceg_rotakeep_FieldProducts_21_73 rfl rfl rfl rfl ?_ ?_ ?_ ?_
  · skip
    refine AWPL_rn tab_ok 1 [2, 3, 15, 16, 17, 18, 19, 95, 96, 110, 112, 113, 114, 115, 116] fun c st' hr => ?_
    simp only [go_sem, reduceIte, reduceCtorEq, Nat.reduceEqDiff, Nat.reduceLT, Nat.reduceLeDiff, Nat.reduceBEq, Nat.reduceAdd, Nat.reduceMul, Nat.reduceSub, Nat.reducePow, Int.reduceLE, Int.reduceLT, Int.reduceNeg, Int.reduceToNat, Int.reduceAdd, Int.reduceSub, idO_app, lenO_app, lenO_app2, lenO_eta] at hr
    obtain ⟨rfl, rfl⟩ := hr
    refine ⟨vc, ?_⟩
    refine AWPL_nil ?_
    refine QB_normal ?_
    exact AWPB_wk [0, 1] mkWkR ((hAA _ _ _).1 hn19)
  · skip
    refine AWPL_rn tab_ok 1 [2, 3, 15, 16, 17, 18, 19, 95, 96, 110, 111, 112, 114, 115, 116] fun c st' hr => ?_
    simp only [go_sem, reduceIte, reduceCtorEq, Nat.reduceEqDiff, Nat.reduceLT, Nat.reduceLeDiff, Nat.reduceBEq, Nat.reduceAdd, Nat.reduceMul, Nat.reduceSub, Nat.reducePow, Int.reduceLE, Int.reduceLT, Int.reduceNeg, Int.reduceToNat, Int.reduceAdd, Int.reduceSub, idO_app, lenO_app, lenO_app2, lenO_eta] at hr
    obtain ⟨rfl, rfl⟩ := hr
    refine ⟨vc, ?_⟩
    refine AWPL_nil ?_
    refine QB_normal ?_
    exact AWPB_wk [0, 1] mkWkR ((hAA _ _ _).1 hn25)
  · skip
    refine AWPL_rn tab_ok 1 [2, 3, 15, 16, 17, 18, 19, 95, 96, 110, 111, 112, 113, 114, 115, 116] fun c st' hr => ?_
    simp only [go_sem, reduceIte, reduceCtorEq, Nat.reduceEqDiff, Nat.reduceLT, Nat.reduceLeDiff, Nat.reduceBEq, Nat.reduceAdd, Nat.reduceMul, Nat.reduceSub, Nat.reducePow, Int.reduceLE, Int.reduceLT, Int.reduceNeg, Int.reduceToNat, Int.reduceAdd, Int.reduceSub, idO_app, lenO_app, lenO_app2, lenO_eta] at hr
    obtain ⟨rfl, rfl⟩ := hr
    refine ⟨vc, ?_⟩
    refine AWPL_nil ?_
    refine QB_normal ?_
    exact AWPB_wk [0, 1, 2] mkWkR ((hAA _ _ _).1 hn30)
  · skip
    refine AWPL_rn tab_ok 1 [2, 3, 15, 16, 17, 18, 19, 95, 96, 110, 111, 112, 113, 114, 115, 116] fun c st' hr => ?_
    simp only [go_sem, reduceIte, reduceCtorEq, Nat.reduceEqDiff, Nat.reduceLT, Nat.reduceLeDiff, Nat.reduceBEq, Nat.reduceAdd, Nat.reduceMul, Nat.reduceSub, Nat.reducePow, Int.reduceLE, Int.reduceLT, Int.reduceNeg, Int.reduceToNat, Int.reduceAdd, Int.reduceSub, idO_app, lenO_app, lenO_app2, lenO_eta] at hr
    obtain ⟨rfl, rfl⟩ := hr
    refine ⟨vc, ?_⟩
    refine AWPL_nil ?_
    refine QB_normal ?_
    exact AWPB_wk [0, 1, 2] mkWkR ((hAA _ _ _).1 hn32))

theorem ceg_rotakeep_FieldProducts_21_75 : (Region.noSelect reg_rotakeep_FieldProducts_21.toArray && Region.free .any reg_rotakeep_FieldProducts_21.toArray #[true, true, true, true, true, true, true, false, false, false, false, false, false, false, false, false] 8 && (Region.ready .any reg_rotakeep_FieldProducts_21.toArray #[true, true, true, true, true, true, true, false, false, false, false, false, false, false, false, false]).contains 8) = true := by kernel_rfl

set_option maxRecDepth 8000 in
set_option maxHeartbeats 4000000 in
theorem J_rotakeep_FieldProducts_21_hn34 {x_0 : Int} {x_1 : Int} {x_2 : List (List Int)} {a1_0 : Int} {a1_1 : Int} {a1_2 : List (List Int)} {y5 : Int × Int} {v : Int} {v1 : Int} {w0 : World} {Q : Exit → St → Prop} {AA : Nat → Array Bool → St → Prop} (hAA : ∀ g L st, AA g L st ↔ AWPB Try.prog w0 reg_rotakeep_FieldProducts_21.toArray Q g L st) (hn33 : AA 8 #[true, true, true, true, true, true, true, false, true, false, false, false, false, false, false, false] ⟨193, [(2, .ptr 0 0 0), (3, .ptr 1 0 0), (15, .int .i64 y5.1), (16, .int .i64 v), (17, .int .i64 v1), (95, .int .i64 (2 ^ x_1.toNat : Int)), (96, .int .i64 v1), (110, .agg [.int .i64 x_0, .int .i64 (x_2.length : Int), .nil]), (111, .ptr 0 0 0), (113, .ptr 0 0 2)], [some (.gen 44 3 [[.int .i64 x_0, .int .i64 x_1, .fn 1 x_2.length (fun i => [.ints .i64 (x_2.getD i [])])]]), some (.gen 44 3 [[.int .i64 a1_0, .int .i64 a1_1, .fn 1 a1_2.length (fun i => [.ints .i64 (a1_2.getD i [])])]])]⟩) : AA 9 #[true, true, true, true, true, true, true, false, false, false, false, false, false, false, false, false] ⟨193, [(2, .ptr 0 0 0), (3, .ptr 1 0 0), (15, .int .i64 y5.1), (16, .int .i64 v), (17, .int .i64 v1), (95, .int .i64 (2 ^ x_1.toNat : Int)), (96, .int .i64 v1), (110, .agg [.int .i64 x_0, .int .i64 (x_2.length : Int), .nil]), (111, .ptr 0 0 0)], [some (.gen 44 3 [[.int .i64 x_0, .int .i64 x_1, .fn 1 x_2.length (fun i => [.ints .i64 (x_2.getD i [])])]]), some (.gen 44 3 [[.int .i64 a1_0, .int .i64 a1_1, .fn 1 a1_2.length (fun i => [.ints .i64 (a1_2.getD i [])])]])]⟩ := (hAA _ _ _).2 (by
  refine AWPB_take2 tab_ok [2, 3, 15, 16, 17, 18, 19, 95, 96, 110, 111, 112, 113, 114, 115, 116] 8 _ rfl rfl rfl ceg_rotakeep_FieldProducts_21_75 fun c st' hr => ?_
  simp only [go_sem, reduceIte, reduceCtorEq, Nat.reduceEqDiff, Nat.reduceLT, Nat.reduceLeDiff, Nat.reduceBEq, Nat.reduceAdd, Nat.reduceMul, Nat.reduceSub, Nat.reducePow, Int.reduceLE, Int.reduceLT, Int.reduceNeg, Int.reduceToNat, Int.reduceAdd, Int.reduceSub, idO_app, lenO_app, lenO_app2, lenO_eta] at hr
  obtain ⟨rfl, rfl⟩ := hr
  refine ⟨vc, ?_⟩
  exact AWPB_wk [0, 1] mkWkR ((hAA _ _ _).1 hn33))

theorem ceg_rotakeep_FieldProducts_21_77 : (Region.noSelect reg_rotakeep_FieldProducts_21.toArray && Region.free .any reg_rotakeep_FieldProducts_21.toArray #[true, true, true, true, true, true, false, false, false, false, false, false, false, false, false, false] 6 && (Region.ready .any reg_rotakeep_FieldProducts_21.toArray #[true, true, true, true, true, true, false, false, false, false, false, false, false, false, false, false]).contains 6) = true := by kernel_rfl

set_option maxRecDepth 8000 in
set_option maxHeartbeats 4000000 in
theorem J_rotakeep_FieldProducts_21_hn35 {x_0 : Int} {x_1 : Int} {x_2 : List (List Int)} {a1_0 : Int} {a1_1 : Int} {a1_2 : List (List Int)} {y5 : Int × Int} {v : Int} {v1 : Int} {w0 : World} {Q : Exit → St → Prop} {AA : Nat → Array Bool → St → Prop} (hAA : ∀ g L st, AA g L st ↔ AWPB Try.prog w0 reg_rotakeep_FieldProducts_21.toArray Q g L st) (hn34 : AA 9 #[true, true, true, true, true, true, true, false, false, false, false, false, false, false, false, false] ⟨193, [(2, .ptr 0 0 0), (3, .ptr 1 0 0), (15, .int .i64 y5.1), (16, .int .i64 v), (17, .int .i64 v1), (95, .int .i64 (2 ^ x_1.toNat : Int)), (96, .int .i64 v1), (110, .agg [.int .i64 x_0, .int .i64 (x_2.length : Int), .nil]), (111, .ptr 0 0 0)], [some (.gen 44 3 [[.int .i64 x_0, .int .i64 x_1, .fn 1 x_2.length (fun i => [.ints .i64 (x_2.getD i [])])]]), some (.gen 44 3 [[.int .i64 a1_0, .int .i64 a1_1, .fn 1 a1_2.length (fun i => [.ints .i64 (a1_2.getD i [])])]])]⟩) : AA 10 #[true, true, true, true, true, true, false, false, false, false, false, false, false, false, false, false] ⟨193, [(2, .ptr 0 0 0), (3, .ptr 1 0 0), (15, .int .i64 y5.1), (16, .int .i64 v), (17, .int .i64 v1), (95, .int .i64 (2 ^ x_1.toNat : Int)), (96, .int .i64 v1), (110, .agg [.int .i64 x_0, .int .i64 (x_2.length : Int), .nil])], [some (.gen 44 3 [[.int .i64 x_0, .int .i64 x_1, .fn 1 x_2.length (fun i => [.ints .i64 (x_2.getD i [])])]]), some (.gen 44 3 [[.int .i64 a1_0, .int .i64 a1_1, .fn 1 a1_2.length (fun i => [.ints .i64 (a1_2.getD i [])])]])]⟩ := (hAA _ _ _).2 (by
  refine AWPB_take2 tab_ok [2, 3, 15, 16, 17, 18, 19, 95, 96, 110, 111, 112, 113, 114, 115, 116] 6 _ rfl rfl rfl ceg_rotakeep_FieldProducts_21_77 fun c st' hr => ?_
  simp only [go_sem, reduceIte, reduceCtorEq, Nat.reduceEqDiff, Nat.reduceLT, Nat.reduceLeDiff, Nat.reduceBEq, Nat.reduceAdd, Nat.reduceMul, Nat.reduceSub, Nat.reducePow, Int.reduceLE, Int.reduceLT, Int.reduceNeg, Int.reduceToNat, Int.reduceAdd, Int.reduceSub, idO_app, lenO_app, lenO_app2, lenO_eta] at hr
  obtain ⟨rfl, rfl⟩ := hr
  refine ⟨vc, ?_⟩
  exact AWPB_wk [0, 1] mkWkR ((hAA _ _ _).1 hn34))

set_option maxRecDepth 8000 in
set_option maxHeartbeats 4000000 in
theorem J_rotakeep_FieldProducts_21_hn36 {x_0 : Int} {x_1 : Int} {x_2 : List (List Int)} {a1_0 : Int} {a1_1 : Int} {a1_2 : List (List Int)} {y5 : Int × Int} {v : Int} {v1 : Int} {w0 : World} {Q : Exit → St → Prop} {AA : Nat → Array Bool → St → Prop} (hAA : ∀ g L st, AA g L st ↔ AWPB Try.prog w0 reg_rotakeep_FieldProducts_21.toArray Q g L st) (hn35 : AA 10 #[true, true, true, true, true, true, false, false, false, false, false, false, false, false, false, false] ⟨193, [(2, .ptr 0 0 0), (3, .ptr 1 0 0), (15, .int .i64 y5.1), (16, .int .i64 v), (17, .int .i64 v1), (95, .int .i64 (2 ^ x_1.toNat : Int)), (96, .int .i64 v1), (110, .agg [.int .i64 x_0, .int .i64 (x_2.length : Int), .nil])], [some (.gen 44 3 [[.int .i64 x_0, .int .i64 x_1, .fn 1 x_2.length (fun i => [.ints .i64 (x_2.getD i [])])]]), some (.gen 44 3 [[.int .i64 a1_0, .int .i64 a1_1, .fn 1 a1_2.length (fun i => [.ints .i64 (a1_2.getD i [])])]])]⟩) : AA 16 #[false, false, false, false, false, false, false, false, false, false, false, false, false, false, false, false] ⟨193, [(2, .ptr 0 0 0), (3, .ptr 1 0 0), (15, .int .i64 y5.1), (16, .int .i64 v), (17, .int .i64 v1), (95, .int .i64 (2 ^ x_1.toNat : Int)), (96, .int .i64 v1)], [some (.gen 44 3 [[.int .i64 x_0, .int .i64 x_1, .fn 1 x_2.length (fun i => [.ints .i64 (x_2.getD i [])])]]), some (.gen 44 3 [[.int .i64 a1_0, .int .i64 a1_1, .fn 1 a1_2.length (fun i => [.ints .i64 (a1_2.getD i [])])]])]⟩ := (hAA _ _ _).2 (by
  refine AWPB_takeB tab_ok [2, 3, 15, 16, 17, 18, 19, 95, 96, 105, 106, 107, 108, 109, 110, 111, 112, 113, 114, 115, 116] 0 [1, 5, 14, 15] _ rfl ceg_rotakeep_FieldProducts_21_1 fun c st' hr => ?_
  simp only [go_sem, reduceIte, reduceCtorEq, Nat.reduceEqDiff, Nat.reduceLT, Nat.reduceLeDiff, Nat.reduceBEq, Nat.reduceAdd, Nat.reduceMul, Nat.reduceSub, Nat.reducePow, Int.reduceLE, Int.reduceLT, Int.reduceNeg, Int.reduceToNat, Int.reduceAdd, Int.reduceSub, idO_app, lenO_app, lenO_app2, lenO_eta] at hr
  obtain ⟨rfl, rfl⟩ := hr
  refine ⟨vc, ?_⟩
  refine AWPB_takeB tab_ok [2, 3, 15, 16, 17, 18, 19, 95, 96, 106, 107, 108, 109, 110, 111, 112, 113, 114, 115, 116] 1 [5, 14, 15] _ rfl ceg_rotakeep_FieldProducts_21_2 fun c st' hr => ?_
  simp only [go_sem, reduceIte, reduceCtorEq, Nat.reduceEqDiff, Nat.reduceLT, Nat.reduceLeDiff, Nat.reduceBEq, Nat.reduceAdd, Nat.reduceMul, Nat.reduceSub, Nat.reducePow, Int.reduceLE, Int.reduceLT, Int.reduceNeg, Int.reduceToNat, Int.reduceAdd, Int.reduceSub, idO_app, lenO_app, lenO_app2, lenO_eta] at hr
  obtain ⟨rfl, rfl⟩ := hr
  refine ⟨vc, ?_⟩
  refine AWPB_takeB tab_ok [2, 3, 15, 16, 17, 18, 19, 95, 96, 106, 107, 108, 109, 110, 111, 112, 113, 114, 115, 116] 2 [3, 4, 5, 14, 15] _ rfl ceg_rotakeep_FieldProducts_21_3 fun c st' hr => ?_
  simp only [go_sem, reduceIte, reduceCtorEq, Nat.reduceEqDiff, Nat.reduceLT, Nat.reduceLeDiff, Nat.reduceBEq, Nat.reduceAdd, Nat.reduceMul, Nat.reduceSub, Nat.reducePow, Int.reduceLE, Int.reduceLT, Int.reduceNeg, Int.reduceToNat, Int.reduceAdd, Int.reduceSub, idO_app, lenO_app, lenO_app2, lenO_eta] at hr
  obtain ⟨rfl, rfl⟩ := hr
  refine ⟨vc, ?_⟩
  refine AWPB_takeB tab_ok [2, 3, 15, 16, 17, 18, 19, 95, 96, 106, 108, 109, 110, 111, 112, 113, 114, 115, 116] 3 [4, 5, 14, 15] _ rfl ceg_rotakeep_FieldProducts_21_4 fun c st' hr => ?_
  simp only [go_sem, reduceIte, reduceCtorEq, Nat.reduceEqDiff, Nat.reduceLT, Nat.reduceLeDiff, Nat.reduceBEq, Nat.reduceAdd, Nat.reduceMul, Nat.reduceSub, Nat.reducePow, Int.reduceLE, Int.reduceLT, Int.reduceNeg, Int.reduceToNat, Int.reduceAdd, Int.reduceSub, idO_app, lenO_app, lenO_app2, lenO_eta] at hr
  obtain ⟨rfl, rfl⟩ := hr
  refine ⟨vc, ?_⟩
  refine AWPB_takeB tab_ok [2, 3, 15, 16, 17, 18, 19, 95, 96, 106, 109, 110, 111, 112, 113, 114, 115, 116] 4 [5, 14, 15] _ rfl ceg_rotakeep_FieldProducts_21_5 fun c st' hr => ?_
  simp only [go_sem, reduceIte, reduceCtorEq, Nat.reduceEqDiff, Nat.reduceLT, Nat.reduceLeDiff, Nat.reduceBEq, Nat.reduceAdd, Nat.reduceMul, Nat.reduceSub, Nat.reducePow, Int.reduceLE, Int.reduceLT, Int.reduceNeg, Int.reduceToNat, Int.reduceAdd, Int.reduceSub, idO_app, lenO_app, lenO_app2, lenO_eta] at hr
  obtain ⟨rfl, rfl⟩ := hr
  refine ⟨vc, ?_⟩
  refine AWPB_takeB tab_ok [2, 3, 15, 16, 17, 18, 19, 95, 96, 110, 111, 112, 113, 114, 115, 116] 5 [14, 15] _ rfl ceg_rotakeep_FieldProducts_21_6 fun c st' hr => ?_
  simp only [go_sem, reduceIte, reduceCtorEq, Nat.reduceEqDiff, Nat.reduceLT, Nat.reduceLeDiff, Nat.reduceBEq, Nat.reduceAdd, Nat.reduceMul, Nat.reduceSub, Nat.reducePow, Int.reduceLE, Int.reduceLT, Int.reduceNeg, Int.reduceToNat, Int.reduceAdd, Int.reduceSub, idO_app, lenO_app, lenO_app2, lenO_eta] at hr
  obtain ⟨rfl, rfl⟩ := hr
  refine ⟨vc, ?_⟩
  exact AWPB_wk [0, 1] mkWkR ((hAA _ _ _).1 hn35))

/-- The operations of a drawn region. -/
def reg_rotakeep_FieldProducts_36 : List Oper := (⟨_, rfl⟩ : { l : List Oper // (Try.f5.body.bind (regIn 36)) = some l }).1

theorem ceg_rotakeep_FieldProducts_36_81 : firstOk reg_rotakeep_FieldProducts_36.toArray #[false, false, false, false, false, false, false, false, false, false, false, false] 2 [3, 5, 6, 7, 8, 9, 10, 11] = true := by kernel_rfl

theorem ceg_rotakeep_FieldProducts_36_82 : firstOk reg_rotakeep_FieldProducts_36.toArray #[false, false, true, false, false, false, false, false, false, false, false, false] 3 [5, 6, 7, 8, 9, 10, 11] = true := by kernel_rfl

theorem ceg_rotakeep_FieldProducts_36_83 : firstOk reg_rotakeep_FieldProducts_36.toArray #[false, false, true, true, false, false, false, false, false, false, false, false] 4 [5, 6, 7, 8, 9, 10, 11] = true := by kernel_rfl

theorem ceg_rotakeep_FieldProducts_36_84 : firstOk reg_rotakeep_FieldProducts_36.toArray #[false, false, true, true, true, false, false, false, false, false, false, false] 5 [6, 7, 8, 9, 10, 11] = true := by kernel_rfl

theorem ceg_rotakeep_FieldProducts_36_85 : firstOk reg_rotakeep_FieldProducts_36.toArray #[false, false, true, true, true, true, false, false, false, false, false, false] 6 [7, 8, 9, 10, 11] = true := by kernel_rfl

theorem ceg_rotakeep_FieldProducts_36_86 : firstOk reg_rotakeep_FieldProducts_36.toArray #[true, true, true, true, true, true, true, true, true, true, false, false] 10 [11] = true := by kernel_rfl

theorem ceg_rotakeep_FieldProducts_36_87 : (Region.ready .any reg_rotakeep_FieldProducts_36.toArray #[true, true, true, true, true, true, true, true, true, true, true, true] == []) = true := by kernel_rfl

theorem ceg_rotakeep_FieldProducts_36_88 : (Region.ready .any reg_rotakeep_FieldProducts_36.toArray #[true, true, true, true, true, true, true, true, true, true, true, false] == [11]) = true := by kernel_rfl

set_option maxRecDepth 8000 in
set_option maxHeartbeats 4000000 in
theorem J_rotakeep_FieldProducts_36_hn38 {x_0 : Int} {x_1 : Int} {x_2 : List (List Int)} {a1_0 : Int} {a1_1 : Int} {a1_2 : List (List Int)} {y5 : Int × Int} {v : Int} {v1 : Int} {v5 : List (List Int)} {y8 : List Int} {v9 : List (List Int)} {v10 : Int} (h7 : (0 ≤ y8.getD v10.toNat 0 ∧ y8.getD v10.toNat 0 < a1_2.length)) (h8 : ((a1_2.getD (y8.getD v10.toNat 0).toNat []).length ≤ 17592186044416)) (h9 : ((v9 ++ [(a1_2.getD (y8.getD v10.toNat 0).toNat [])]).length ≤ 1099511627776)) {w0 : World} {Q : Exit → St → Prop} {AA : Nat → Array Bool → St → Prop} (hAA : ∀ g L st, AA g L st ↔ AWPB Try.prog w0 reg_rotakeep_FieldProducts_36.toArray Q g L st) (hn37 : AA 0 #[true, true, true, true, true, true, true, true, true, true, true, true] ⟨193, [(2, .ptr 0 0 0), (3, .ptr 1 0 0), (15, .int .i64 y5.1), (16, .int .i64 v), (18, .ptr 2 0 0), (19, .ptr 5 0 0), (95, .int .i64 (2 ^ x_1.toNat : Int)), (96, .int .i64 v1), (147, .own 8 y8.length), (148, .int .i64 (y8.length : Int)), (149, .int .i64 v10)], [some (.gen 44 3 [[.int .i64 x_0, .int .i64 x_1, .fn 1 x_2.length (fun i => [.ints .i64 (x_2.getD i [])])]]), some (.gen 44 3 [[.int .i64 a1_0, .int .i64 a1_1, .fn 1 a1_2.length (fun i => [.ints .i64 (a1_2.getD i [])])]]), some (.gen 44 3 [[.int .i64 x_0, .int .i64 (x_2.length : Int), .own 3 v5.length]]), some (.outs 22 4 v5.length idO (lenO v5)), some (.rows 3 .i64 v5), some (.gen 44 3 [[.int .i64 x_0, .int .i64 (x_2.length : Int), .own 11 ((v9 ++ [(a1_2.getD (y8.getD v10.toNat 0).toNat [])]).length)]]), none, some (.rows 3 .i64 (v9 ++ [(a1_2.getD (y8.getD v10.toNat 0).toNat [])])), some (.ints 3 .i64 y8), none, none, some (.outs 22 7 ((v9 ++ [(a1_2.getD (y8.getD v10.toNat 0).toNat [])]).length) idO (lenO (v9 ++ [(a1_2.getD (y8.getD v10.toNat 0).toNat [])])))]⟩) : AA 1 #[true, true, true, true, true, true, true, true, true, true, true, false] ⟨193, [(2, .ptr 0 0 0), (3, .ptr 1 0 0), (15, .int .i64 y5.1), (16, .int .i64 v), (18, .ptr 2 0 0), (19, .ptr 5 0 0), (95, .int .i64 (2 ^ x_1.toNat : Int)), (96, .int .i64 v1), (147, .own 8 y8.length), (148, .int .i64 (y8.length : Int)), (149, .int .i64 v10), (162, .own 11 ((v9 ++ [(a1_2.getD (y8.getD v10.toNat 0).toNat [])]).length)), (163, .ptr 5 0 2)], [some (.gen 44 3 [[.int .i64 x_0, .int .i64 x_1, .fn 1 x_2.length (fun i => [.ints .i64 (x_2.getD i [])])]]), some (.gen 44 3 [[.int .i64 a1_0, .int .i64 a1_1, .fn 1 a1_2.length (fun i => [.ints .i64 (a1_2.getD i [])])]]), some (.gen 44 3 [[.int .i64 x_0, .int .i64 (x_2.length : Int), .own 3 v5.length]]), some (.outs 22 4 v5.length idO (lenO v5)), some (.rows 3 .i64 v5), some (.gen 44 3 [[.int .i64 x_0, .int .i64 (x_2.length : Int), .own 6 v9.length]]), none, some (.rows 3 .i64 (v9 ++ [(a1_2.getD (y8.getD v10.toNat 0).toNat [])])), some (.ints 3 .i64 y8), none, none, some (.outs 22 7 ((v9 ++ [(a1_2.getD (y8.getD v10.toNat 0).toNat [])]).length) idO (lenO (v9 ++ [(a1_2.getD (y8.getD v10.toNat 0).toNat [])])))]⟩ := (hAA _ _ _).2 (by
  refine AWPB_one 11 _ ceg_rotakeep_FieldProducts_36_88 rfl ?_
  refine AWPL_rn tab_ok 1 [2, 3, 15, 16, 18, 19, 95, 96, 147, 148, 149] fun c st' hr => ?_
  simp only [go_sem, reduceIte, reduceCtorEq, Nat.reduceEqDiff, Nat.reduceLT, Nat.reduceLeDiff, Nat.reduceBEq, Nat.reduceAdd, Nat.reduceMul, Nat.reduceSub, Nat.reducePow, Int.reduceLE, Int.reduceLT, Int.reduceNeg, Int.reduceToNat, Int.reduceAdd, Int.reduceSub, idO_app, lenO_app, lenO_app2, lenO_eta] at hr
  obtain ⟨rfl, rfl⟩ := hr
  refine ⟨vc, ?_⟩
  refine AWPL_nil ?_
  refine QB_normal ?_
  exact AWPB_wk [0, 1, 2, 3, 4, 5, 6, 7, 8, 9, 10, 11] mkWkR ((hAA _ _ _).1 hn37))

set_option maxRecDepth 8000 in
set_option maxHeartbeats 4000000 in
theorem J_rotakeep_FieldProducts_36_hn39 {x_0 : Int} {x_1 : Int} {x_2 : List (List Int)} {a1_0 : Int} {a1_1 : Int} {a1_2 : List (List Int)} {y5 : Int × Int} {v : Int} {v1 : Int} {v5 : List (List Int)} {y8 : List Int} {v9 : List (List Int)} {v10 : Int} (h7 : (0 ≤ y8.getD v10.toNat 0 ∧ y8.getD v10.toNat 0 < a1_2.length)) (h8 : ((a1_2.getD (y8.getD v10.toNat 0).toNat []).length ≤ 17592186044416)) (h9 : ((v9 ++ [(a1_2.getD (y8.getD v10.toNat 0).toNat [])]).length ≤ 1099511627776)) {w0 : World} {Q : Exit → St → Prop} {AA : Nat → Array Bool → St → Prop} (hAA : ∀ g L st, AA g L st ↔ AWPB Try.prog w0 reg_rotakeep_FieldProducts_36.toArray Q g L st) (hn38 : AA 1 #[true, true, true, true, true, true, true, true, true, true, true, false] ⟨193, [(2, .ptr 0 0 0), (3, .ptr 1 0 0), (15, .int .i64 y5.1), (16, .int .i64 v), (18, .ptr 2 0 0), (19, .ptr 5 0 0), (95, .int .i64 (2 ^ x_1.toNat : Int)), (96, .int .i64 v1), (147, .own 8 y8.length), (148, .int .i64 (y8.length : Int)), (149, .int .i64 v10), (162, .own 11 ((v9 ++ [(a1_2.getD (y8.getD v10.toNat 0).toNat [])]).length)), (163, .ptr 5 0 2)], [some (.gen 44 3 [[.int .i64 x_0, .int .i64 x_1, .fn 1 x_2.length (fun i => [.ints .i64 (x_2.getD i [])])]]), some (.gen 44 3 [[.int .i64 a1_0, .int .i64 a1_1, .fn 1 a1_2.length (fun i => [.ints .i64 (a1_2.getD i [])])]]), some (.gen 44 3 [[.int .i64 x_0, .int .i64 (x_2.length : Int), .own 3 v5.length]]), some (.outs 22 4 v5.length idO (lenO v5)), some (.rows 3 .i64 v5), some (.gen 44 3 [[.int .i64 x_0, .int .i64 (x_2.length : Int), .own 6 v9.length]]), none, some (.rows 3 .i64 (v9 ++ [(a1_2.getD (y8.getD v10.toNat 0).toNat [])])), some (.ints 3 .i64 y8), none, none, some (.outs 22 7 ((v9 ++ [(a1_2.getD (y8.getD v10.toNat 0).toNat [])]).length) idO (lenO (v9 ++ [(a1_2.getD (y8.getD v10.toNat 0).toNat [])])))]⟩) : AA 2 #[true, true, true, true, true, true, true, true, true, true, false, false] ⟨193, [(2, .ptr 0 0 0), (3, .ptr 1 0 0), (15, .int .i64 y5.1), (16, .int .i64 v), (18, .ptr 2 0 0), (19, .ptr 5 0 0), (95, .int .i64 (2 ^ x_1.toNat : Int)), (96, .int .i64 v1), (147, .own 8 y8.length), (148, .int .i64 (y8.length : Int)), (149, .int .i64 v10), (162, .own 11 ((v9 ++ [(a1_2.getD (y8.getD v10.toNat 0).toNat [])]).length))], [some (.gen 44 3 [[.int .i64 x_0, .int .i64 x_1, .fn 1 x_2.length (fun i => [.ints .i64 (x_2.getD i [])])]]), some (.gen 44 3 [[.int .i64 a1_0, .int .i64 a1_1, .fn 1 a1_2.length (fun i => [.ints .i64 (a1_2.getD i [])])]]), some (.gen 44 3 [[.int .i64 x_0, .int .i64 (x_2.length : Int), .own 3 v5.length]]), some (.outs 22 4 v5.length idO (lenO v5)), some (.rows 3 .i64 v5), some (.gen 44 3 [[.int .i64 x_0, .int .i64 (x_2.length : Int), .own 6 v9.length]]), none, some (.rows 3 .i64 (v9 ++ [(a1_2.getD (y8.getD v10.toNat 0).toNat [])])), some (.ints 3 .i64 y8), none, none, some (.outs 22 7 ((v9 ++ [(a1_2.getD (y8.getD v10.toNat 0).toNat [])]).length) idO (lenO (v9 ++ [(a1_2.getD (y8.getD v10.toNat 0).toNat [])])))]⟩ := (hAA _ _ _).2 (by
  refine AWPB_takeB tab_ok [2, 3, 15, 16, 18, 19, 95, 96, 147, 148, 149, 162, 163] 10 [11] _ rfl ceg_rotakeep_FieldProducts_36_86 fun c st' hr => ?_
  simp only [go_sem, reduceIte, reduceCtorEq, Nat.reduceEqDiff, Nat.reduceLT, Nat.reduceLeDiff, Nat.reduceBEq, Nat.reduceAdd, Nat.reduceMul, Nat.reduceSub, Nat.reducePow, Int.reduceLE, Int.reduceLT, Int.reduceNeg, Int.reduceToNat, Int.reduceAdd, Int.reduceSub, idO_app, lenO_app, lenO_app2, lenO_eta] at hr
  obtain ⟨rfl, rfl⟩ := hr
  refine ⟨vc, ?_⟩
  exact AWPB_wk [0, 1, 2, 3, 4, 5, 6, 7, 8, 9, 10, 11] mkWkR ((hAA _ _ _).1 hn38))

theorem ceg_rotakeep_FieldProducts_36_91 : (Region.ready .any reg_rotakeep_FieldProducts_36.toArray #[true, true, true, true, true, true, true, true, true, false, false, false] == [9]) = true := by kernel_rfl

set_option maxRecDepth 8000 in
set_option maxHeartbeats 4000000 in
theorem J_rotakeep_FieldProducts_36_hn40 {x_0 : Int} {x_1 : Int} {x_2 : List (List Int)} {a1_0 : Int} {a1_1 : Int} {a1_2 : List (List Int)} {y5 : Int × Int} {v : Int} {v1 : Int} {v5 : List (List Int)} {y8 : List Int} {v9 : List (List Int)} {v10 : Int} (h7 : (0 ≤ y8.getD v10.toNat 0 ∧ y8.getD v10.toNat 0 < a1_2.length)) (h8 : ((a1_2.getD (y8.getD v10.toNat 0).toNat []).length ≤ 17592186044416)) (h9 : ((v9 ++ [(a1_2.getD (y8.getD v10.toNat 0).toNat [])]).length ≤ 1099511627776)) {w0 : World} {Q : Exit → St → Prop} {AA : Nat → Array Bool → St → Prop} (hAA : ∀ g L st, AA g L st ↔ AWPB Try.prog w0 reg_rotakeep_FieldProducts_36.toArray Q g L st) (hn39 : AA 2 #[true, true, true, true, true, true, true, true, true, true, false, false] ⟨193, [(2, .ptr 0 0 0), (3, .ptr 1 0 0), (15, .int .i64 y5.1), (16, .int .i64 v), (18, .ptr 2 0 0), (19, .ptr 5 0 0), (95, .int .i64 (2 ^ x_1.toNat : Int)), (96, .int .i64 v1), (147, .own 8 y8.length), (148, .int .i64 (y8.length : Int)), (149, .int .i64 v10), (162, .own 11 ((v9 ++ [(a1_2.getD (y8.getD v10.toNat 0).toNat [])]).length))], [some (.gen 44 3 [[.int .i64 x_0, .int .i64 x_1, .fn 1 x_2.length (fun i => [.ints .i64 (x_2.getD i [])])]]), some (.gen 44 3 [[.int .i64 a1_0, .int .i64 a1_1, .fn 1 a1_2.length (fun i => [.ints .i64 (a1_2.getD i [])])]]), some (.gen 44 3 [[.int .i64 x_0, .int .i64 (x_2.length : Int), .own 3 v5.length]]), some (.outs 22 4 v5.length idO (lenO v5)), some (.rows 3 .i64 v5), some (.gen 44 3 [[.int .i64 x_0, .int .i64 (x_2.length : Int), .own 6 v9.length]]), none, some (.rows 3 .i64 (v9 ++ [(a1_2.getD (y8.getD v10.toNat 0).toNat [])])), some (.ints 3 .i64 y8), none, none, some (.outs 22 7 ((v9 ++ [(a1_2.getD (y8.getD v10.toNat 0).toNat [])]).length) idO (lenO (v9 ++ [(a1_2.getD (y8.getD v10.toNat 0).toNat [])])))]⟩) : AA 3 #[true, true, true, true, true, true, true, true, true, false, false, false] ⟨193, [(2, .ptr 0 0 0), (3, .ptr 1 0 0), (15, .int .i64 y5.1), (16, .int .i64 v), (18, .ptr 2 0 0), (19, .ptr 5 0 0), (95, .int .i64 (2 ^ x_1.toNat : Int)), (96, .int .i64 v1), (147, .own 8 y8.length), (148, .int .i64 (y8.length : Int)), (149, .int .i64 v10), (154, .own 6 v9.length), (161, .own 10 1)], [some (.gen 44 3 [[.int .i64 x_0, .int .i64 x_1, .fn 1 x_2.length (fun i => [.ints .i64 (x_2.getD i [])])]]), some (.gen 44 3 [[.int .i64 a1_0, .int .i64 a1_1, .fn 1 a1_2.length (fun i => [.ints .i64 (a1_2.getD i [])])]]), some (.gen 44 3 [[.int .i64 x_0, .int .i64 (x_2.length : Int), .own 3 v5.length]]), some (.outs 22 4 v5.length idO (lenO v5)), some (.rows 3 .i64 v5), some (.gen 44 3 [[.int .i64 x_0, .int .i64 (x_2.length : Int), .own 6 v9.length]]), some (.outs 22 7 v9.length idO (lenO v9)), some (.rows 3 .i64 (v9 ++ [(a1_2.getD (y8.getD v10.toNat 0).toNat [])])), some (.ints 3 .i64 y8), none, some (.gen 22 1 [[.row 7 v9.length ((a1_2.getD (y8.getD v10.toNat 0).toNat []).length)]])]⟩ := (hAA _ _ _).2 (by
  refine AWPB_one 9 _ ceg_rotakeep_FieldProducts_36_91 rfl ?_
  refine AWPL_rn tab_ok 1 [2, 3, 15, 16, 18, 19, 95, 96, 147, 148, 149, 162, 163] fun c st' hr => ?_
  simp only [go_sem, reduceIte, reduceCtorEq, Nat.reduceEqDiff, Nat.reduceLT, Nat.reduceLeDiff, Nat.reduceBEq, Nat.reduceAdd, Nat.reduceMul, Nat.reduceSub, Nat.reducePow, Int.reduceLE, Int.reduceLT, Int.reduceNeg, Int.reduceToNat, Int.reduceAdd, Int.reduceSub, idO_app, lenO_app, lenO_app2, lenO_eta] at hr
  obtain ⟨rfl, rfl⟩ := hr
  refine ⟨vc, ?_⟩
  refine AWPL_nil ?_
  refine QB_normal ?_
  exact AWPB_wk [0, 1, 2, 3, 4, 5, 6, 7, 8, 9, 10, 11] mkWkR ((hAA _ _ _).1 hn39))

theorem ceg_rotakeep_FieldProducts_36_93 : (Region.ready .any reg_rotakeep_FieldProducts_36.toArray #[true, true, true, true, true, true, true, true, false, false, false, false] == [8]) = true := by kernel_rfl

set_option maxRecDepth 8000 in
set_option maxHeartbeats 4000000 in
theorem J_rotakeep_FieldProducts_36_hn41 {x_0 : Int} {x_1 : Int} {x_2 : List (List Int)} {a1_0 : Int} {a1_1 : Int} {a1_2 : List (List Int)} {y5 : Int × Int} {v : Int} {v1 : Int} {v5 : List (List Int)} {y8 : List Int} {v9 : List (List Int)} {v10 : Int} (h7 : (0 ≤ y8.getD v10.toNat 0 ∧ y8.getD v10.toNat 0 < a1_2.length)) (h8 : ((a1_2.getD (y8.getD v10.toNat 0).toNat []).length ≤ 17592186044416)) (h9 : ((v9 ++ [(a1_2.getD (y8.getD v10.toNat 0).toNat [])]).length ≤ 1099511627776)) {w0 : World} {Q : Exit → St → Prop} {AA : Nat → Array Bool → St → Prop} (hAA : ∀ g L st, AA g L st ↔ AWPB Try.prog w0 reg_rotakeep_FieldProducts_36.toArray Q g L st) (hn40 : AA 3 #[true, true, true, true, true, true, true, true, true, false, false, false] ⟨193, [(2, .ptr 0 0 0), (3, .ptr 1 0 0), (15, .int .i64 y5.1), (16, .int .i64 v), (18, .ptr 2 0 0), (19, .ptr 5 0 0), (95, .int .i64 (2 ^ x_1.toNat : Int)), (96, .int .i64 v1), (147, .own 8 y8.length), (148, .int .i64 (y8.length : Int)), (149, .int .i64 v10), (154, .own 6 v9.length), (161, .own 10 1)], [some (.gen 44 3 [[.int .i64 x_0, .int .i64 x_1, .fn 1 x_2.length (fun i => [.ints .i64 (x_2.getD i [])])]]), some (.gen 44 3 [[.int .i64 a1_0, .int .i64 a1_1, .fn 1 a1_2.length (fun i => [.ints .i64 (a1_2.getD i [])])]]), some (.gen 44 3 [[.int .i64 x_0, .int .i64 (x_2.length : Int), .own 3 v5.length]]), some (.outs 22 4 v5.length idO (lenO v5)), some (.rows 3 .i64 v5), some (.gen 44 3 [[.int .i64 x_0, .int .i64 (x_2.length : Int), .own 6 v9.length]]), some (.outs 22 7 v9.length idO (lenO v9)), some (.rows 3 .i64 (v9 ++ [(a1_2.getD (y8.getD v10.toNat 0).toNat [])])), some (.ints 3 .i64 y8), none, some (.gen 22 1 [[.row 7 v9.length ((a1_2.getD (y8.getD v10.toNat 0).toNat []).length)]])]⟩) : AA 4 #[true, true, true, true, true, true, true, true, false, false, false, false] ⟨193, [(2, .ptr 0 0 0), (3, .ptr 1 0 0), (15, .int .i64 y5.1), (16, .int .i64 v), (18, .ptr 2 0 0), (19, .ptr 5 0 0), (95, .int .i64 (2 ^ x_1.toNat : Int)), (96, .int .i64 v1), (147, .own 8 y8.length), (148, .int .i64 (y8.length : Int)), (149, .int .i64 v10), (154, .own 6 v9.length), (160, .own 9 ((a1_2.getD (y8.getD v10.toNat 0).toNat []).length))], [some (.gen 44 3 [[.int .i64 x_0, .int .i64 x_1, .fn 1 x_2.length (fun i => [.ints .i64 (x_2.getD i [])])]]), some (.gen 44 3 [[.int .i64 a1_0, .int .i64 a1_1, .fn 1 a1_2.length (fun i => [.ints .i64 (a1_2.getD i [])])]]), some (.gen 44 3 [[.int .i64 x_0, .int .i64 (x_2.length : Int), .own 3 v5.length]]), some (.outs 22 4 v5.length idO (lenO v5)), some (.rows 3 .i64 v5), some (.gen 44 3 [[.int .i64 x_0, .int .i64 (x_2.length : Int), .own 6 v9.length]]), some (.outs 22 7 v9.length idO (lenO v9)), some (.rows 3 .i64 v9), some (.ints 3 .i64 y8), some (.ints 3 .i64 (a1_2.getD (y8.getD v10.toNat 0).toNat []))]⟩ := (hAA _ _ _).2 (by
  refine AWPB_one 8 _ ceg_rotakeep_FieldProducts_36_93 rfl ?_
  refine AWPL_gs' (gs_adopt 160 7 rfl (by first | rfl | (simp; done)) rfl rfl (by first | rfl | (simp [noPin]; done))) fun st' hr => ?_
  simp only [go_sem, reduceIte, reduceCtorEq, Nat.reduceEqDiff, Nat.reduceLT, Nat.reduceLeDiff, Nat.reduceBEq, Nat.reduceAdd, Nat.reduceMul, Nat.reduceSub, Nat.reducePow, Int.reduceLE, Int.reduceLT, Int.reduceNeg, Int.reduceToNat, Int.reduceAdd, Int.reduceSub, idO_app, lenO_app, lenO_app2, lenO_eta, List.set_cons_zero, List.set_cons_succ] at hr
  subst hr
  refine AWPL_rn tab_ok 1 [2, 3, 15, 16, 18, 19, 95, 96, 147, 148, 149, 154, 161, 162, 163] fun c st' hr => ?_
  simp only [go_sem, reduceIte, reduceCtorEq, Nat.reduceEqDiff, Nat.reduceLT, Nat.reduceLeDiff, Nat.reduceBEq, Nat.reduceAdd, Nat.reduceMul, Nat.reduceSub, Nat.reducePow, Int.reduceLE, Int.reduceLT, Int.reduceNeg, Int.reduceToNat, Int.reduceAdd, Int.reduceSub, idO_app, lenO_app, lenO_app2, lenO_eta] at hr
  obtain ⟨rfl, rfl⟩ := hr
  refine ⟨vc, ?_⟩
  refine AWPL_nil ?_
  refine QB_normal ?_
  exact AWPB_wk [0, 1, 2, 3, 4, 5, 6, 7, 8, 9, 10] mkWkR ((hAA _ _ _).1 hn40))

theorem ceg_rotakeep_FieldProducts_36_95 : (Region.ready .any reg_rotakeep_FieldProducts_36.toArray #[true, true, true, true, true, true, true, false, false, false, false, false] == [7]) = true := by kernel_rfl

set_option maxRecDepth 8000 in
set_option maxHeartbeats 4000000 in
theorem J_rotakeep_FieldProducts_36_hn42 {x_0 : Int} {x_1 : Int} {x_2 : List (List Int)} {a1_0 : Int} {a1_1 : Int} {a1_2 : List (List Int)} {y5 : Int × Int} {v : Int} {v1 : Int} {v5 : List (List Int)} {y8 : List Int} {v9 : List (List Int)} {v10 : Int} (h7 : (0 ≤ y8.getD v10.toNat 0 ∧ y8.getD v10.toNat 0 < a1_2.length)) (h8 : ((a1_2.getD (y8.getD v10.toNat 0).toNat []).length ≤ 17592186044416)) (h9 : ((v9 ++ [(a1_2.getD (y8.getD v10.toNat 0).toNat [])]).length ≤ 1099511627776)) {w0 : World} {Q : Exit → St → Prop} {AA : Nat → Array Bool → St → Prop} (hAA : ∀ g L st, AA g L st ↔ AWPB Try.prog w0 reg_rotakeep_FieldProducts_36.toArray Q g L st) (hn41 : AA 4 #[true, true, true, true, true, true, true, true, false, false, false, false] ⟨193, [(2, .ptr 0 0 0), (3, .ptr 1 0 0), (15, .int .i64 y5.1), (16, .int .i64 v), (18, .ptr 2 0 0), (19, .ptr 5 0 0), (95, .int .i64 (2 ^ x_1.toNat : Int)), (96, .int .i64 v1), (147, .own 8 y8.length), (148, .int .i64 (y8.length : Int)), (149, .int .i64 v10), (154, .own 6 v9.length), (160, .own 9 ((a1_2.getD (y8.getD v10.toNat 0).toNat []).length))], [some (.gen 44 3 [[.int .i64 x_0, .int .i64 x_1, .fn 1 x_2.length (fun i => [.ints .i64 (x_2.getD i [])])]]), some (.gen 44 3 [[.int .i64 a1_0, .int .i64 a1_1, .fn 1 a1_2.length (fun i => [.ints .i64 (a1_2.getD i [])])]]), some (.gen 44 3 [[.int .i64 x_0, .int .i64 (x_2.length : Int), .own 3 v5.length]]), some (.outs 22 4 v5.length idO (lenO v5)), some (.rows 3 .i64 v5), some (.gen 44 3 [[.int .i64 x_0, .int .i64 (x_2.length : Int), .own 6 v9.length]]), some (.outs 22 7 v9.length idO (lenO v9)), some (.rows 3 .i64 v9), some (.ints 3 .i64 y8), some (.ints 3 .i64 (a1_2.getD (y8.getD v10.toNat 0).toNat []))]⟩) : AA 5 #[true, true, true, true, true, true, true, false, false, false, false, false] ⟨193, [(2, .ptr 0 0 0), (3, .ptr 1 0 0), (15, .int .i64 y5.1), (16, .int .i64 v), (18, .ptr 2 0 0), (19, .ptr 5 0 0), (95, .int .i64 (2 ^ x_1.toNat : Int)), (96, .int .i64 v1), (147, .own 8 y8.length), (148, .int .i64 (y8.length : Int)), (149, .int .i64 v10), (154, .own 6 v9.length), (159, .ints .i64 (a1_2.getD (y8.getD v10.toNat 0).toNat []))], [some (.gen 44 3 [[.int .i64 x_0, .int .i64 x_1, .fn 1 x_2.length (fun i => [.ints .i64 (x_2.getD i [])])]]), some (.gen 44 3 [[.int .i64 a1_0, .int .i64 a1_1, .fn 1 a1_2.length (fun i => [.ints .i64 (a1_2.getD i [])])]]), some (.gen 44 3 [[.int .i64 x_0, .int .i64 (x_2.length : Int), .own 3 v5.length]]), some (.outs 22 4 v5.length idO (lenO v5)), some (.rows 3 .i64 v5), some (.gen 44 3 [[.int .i64 x_0, .int .i64 (x_2.length : Int), .own 6 v9.length]]), some (.outs 22 7 v9.length idO (lenO v9)), some (.rows 3 .i64 v9), some (.ints 3 .i64 y8)]⟩ := (hAA _ _ _).2 (by
  refine AWPB_one 7 _ ceg_rotakeep_FieldProducts_36_95 rfl ?_
  refine AWPL_cloneI [2, 3, 15, 16, 18, 19, 95, 96, 147, 148, 149, 154, 160, 161, 162, 163] 3 Try.laysNm215 rfl rfl pcT rfl Try.call32 (of_decide_eq_true rfl) rfl h8 rfl fun st' hr => ?_
  simp only [go_sem, reduceIte, reduceCtorEq, Nat.reduceEqDiff, Nat.reduceLT, Nat.reduceLeDiff, Nat.reduceBEq, Nat.reduceAdd, Nat.reduceMul, Nat.reduceSub, Nat.reducePow, Int.reduceLE, Int.reduceLT, Int.reduceNeg, Int.reduceToNat, Int.reduceAdd, Int.reduceSub, idO_app, lenO_app, lenO_app2, lenO_eta] at hr
  subst hr
  refine AWPL_nil ?_
  refine QB_normal ?_
  exact AWPB_wk [0, 1, 2, 3, 4, 5, 6, 7, 8, 9] mkWkR ((hAA _ _ _).1 hn41))

theorem ceg_rotakeep_FieldProducts_36_97 : firstOk reg_rotakeep_FieldProducts_36.toArray #[true, false, true, true, true, true, true, true, false, false, false, false] 1 [9, 10, 11] = true := by kernel_rfl

set_option maxRecDepth 8000 in
set_option maxHeartbeats 4000000 in
theorem J_rotakeep_FieldProducts_36_hn43 {x_0 : Int} {x_1 : Int} {x_2 : List (List Int)} {a1_0 : Int} {a1_1 : Int} {a1_2 : List (List Int)} {y5 : Int × Int} {v : Int} {v1 : Int} {v5 : List (List Int)} {y8 : List Int} {v9 : List (List Int)} {v10 : Int} (h7 : (0 ≤ y8.getD v10.toNat 0 ∧ y8.getD v10.toNat 0 < a1_2.length)) (h8 : ((a1_2.getD (y8.getD v10.toNat 0).toNat []).length ≤ 17592186044416)) (h9 : ((v9 ++ [(a1_2.getD (y8.getD v10.toNat 0).toNat [])]).length ≤ 1099511627776)) {w0 : World} {Q : Exit → St → Prop} {AA : Nat → Array Bool → St → Prop} (hAA : ∀ g L st, AA g L st ↔ AWPB Try.prog w0 reg_rotakeep_FieldProducts_36.toArray Q g L st) (hn41 : AA 4 #[true, true, true, true, true, true, true, true, false, false, false, false] ⟨193, [(2, .ptr 0 0 0), (3, .ptr 1 0 0), (15, .int .i64 y5.1), (16, .int .i64 v), (18, .ptr 2 0 0), (19, .ptr 5 0 0), (95, .int .i64 (2 ^ x_1.toNat : Int)), (96, .int .i64 v1), (147, .own 8 y8.length), (148, .int .i64 (y8.length : Int)), (149, .int .i64 v10), (154, .own 6 v9.length), (160, .own 9 ((a1_2.getD (y8.getD v10.toNat 0).toNat []).length))], [some (.gen 44 3 [[.int .i64 x_0, .int .i64 x_1, .fn 1 x_2.length (fun i => [.ints .i64 (x_2.getD i [])])]]), some (.gen 44 3 [[.int .i64 a1_0, .int .i64 a1_1, .fn 1 a1_2.length (fun i => [.ints .i64 (a1_2.getD i [])])]]), some (.gen 44 3 [[.int .i64 x_0, .int .i64 (x_2.length : Int), .own 3 v5.length]]), some (.outs 22 4 v5.length idO (lenO v5)), some (.rows 3 .i64 v5), some (.gen 44 3 [[.int .i64 x_0, .int .i64 (x_2.length : Int), .own 6 v9.length]]), some (.outs 22 7 v9.length idO (lenO v9)), some (.rows 3 .i64 v9), some (.ints 3 .i64 y8), some (.ints 3 .i64 (a1_2.getD (y8.getD v10.toNat 0).toNat []))]⟩) : AA 5 #[true, false, true, true, true, true, true, true, false, false, false, false] ⟨193, [(2, .ptr 0 0 0), (3, .ptr 1 0 0), (15, .int .i64 y5.1), (16, .int .i64 v), (18, .ptr 2 0 0), (19, .ptr 5 0 0), (95, .int .i64 (2 ^ x_1.toNat : Int)), (96, .int .i64 v1), (147, .own 8 y8.length), (148, .int .i64 (y8.length : Int)), (149, .int .i64 v10), (153, .ptr 5 0 2), (160, .own 9 ((a1_2.getD (y8.getD v10.toNat 0).toNat []).length))], [some (.gen 44 3 [[.int .i64 x_0, .int .i64 x_1, .fn 1 x_2.length (fun i => [.ints .i64 (x_2.getD i [])])]]), some (.gen 44 3 [[.int .i64 a1_0, .int .i64 a1_1, .fn 1 a1_2.length (fun i => [.ints .i64 (a1_2.getD i [])])]]), some (.gen 44 3 [[.int .i64 x_0, .int .i64 (x_2.length : Int), .own 3 v5.length]]), some (.outs 22 4 v5.length idO (lenO v5)), some (.rows 3 .i64 v5), some (.gen 44 3 [[.int .i64 x_0, .int .i64 (x_2.length : Int), .own 6 v9.length]]), some (.outs 22 7 v9.length idO (lenO v9)), some (.rows 3 .i64 v9), some (.ints 3 .i64 y8), some (.ints 3 .i64 (a1_2.getD (y8.getD v10.toNat 0).toNat []))]⟩ := (hAA _ _ _).2 (by
  refine AWPB_takeB tab_ok [2, 3, 15, 16, 18, 19, 95, 96, 147, 148, 149, 154, 160, 161, 162, 163] 1 [9, 10, 11] _ rfl ceg_rotakeep_FieldProducts_36_97 fun c st' hr => ?_
  simp only [go_sem, reduceIte, reduceCtorEq, Nat.reduceEqDiff, Nat.reduceLT, Nat.reduceLeDiff, Nat.reduceBEq, Nat.reduceAdd, Nat.reduceMul, Nat.reduceSub, Nat.reducePow, Int.reduceLE, Int.reduceLT, Int.reduceNeg, Int.reduceToNat, Int.reduceAdd, Int.reduceSub, idO_app, lenO_app, lenO_app2, lenO_eta] at hr
  obtain ⟨rfl, rfl⟩ := hr
  refine ⟨vc, ?_⟩
  exact AWPB_wk [0, 1, 2, 3, 4, 5, 6, 7, 8, 9] mkWkR ((hAA _ _ _).1 hn41))

theorem ceg_rotakeep_FieldProducts_36_99 : (Region.ready .any reg_rotakeep_FieldProducts_36.toArray #[true, false, true, true, true, true, true, false, false, false, false, false] == [1, 7]) = true := by kernel_rfl

set_option maxRecDepth 8000 in
set_option maxHeartbeats 4000000 in
theorem J_rotakeep_FieldProducts_36_hn44 {x_0 : Int} {x_1 : Int} {x_2 : List (List Int)} {a1_0 : Int} {a1_1 : Int} {a1_2 : List (List Int)} {y5 : Int × Int} {v : Int} {v1 : Int} {v5 : List (List Int)} {y8 : List Int} {v9 : List (List Int)} {v10 : Int} (h7 : (0 ≤ y8.getD v10.toNat 0 ∧ y8.getD v10.toNat 0 < a1_2.length)) (h8 : ((a1_2.getD (y8.getD v10.toNat 0).toNat []).length ≤ 17592186044416)) (h9 : ((v9 ++ [(a1_2.getD (y8.getD v10.toNat 0).toNat [])]).length ≤ 1099511627776)) {w0 : World} {Q : Exit → St → Prop} {AA : Nat → Array Bool → St → Prop} (hAA : ∀ g L st, AA g L st ↔ AWPB Try.prog w0 reg_rotakeep_FieldProducts_36.toArray Q g L st) (hn42 : AA 5 #[true, true, true, true, true, true, true, false, false, false, false, false] ⟨193, [(2, .ptr 0 0 0), (3, .ptr 1 0 0), (15, .int .i64 y5.1), (16, .int .i64 v), (18, .ptr 2 0 0), (19, .ptr 5 0 0), (95, .int .i64 (2 ^ x_1.toNat : Int)), (96, .int .i64 v1), (147, .own 8 y8.length), (148, .int .i64 (y8.length : Int)), (149, .int .i64 v10), (154, .own 6 v9.length), (159, .ints .i64 (a1_2.getD (y8.getD v10.toNat 0).toNat []))], [some (.gen 44 3 [[.int .i64 x_0, .int .i64 x_1, .fn 1 x_2.length (fun i => [.ints .i64 (x_2.getD i [])])]]), some (.gen 44 3 [[.int .i64 a1_0, .int .i64 a1_1, .fn 1 a1_2.length (fun i => [.ints .i64 (a1_2.getD i [])])]]), some (.gen 44 3 [[.int .i64 x_0, .int .i64 (x_2.length : Int), .own 3 v5.length]]), some (.outs 22 4 v5.length idO (lenO v5)), some (.rows 3 .i64 v5), some (.gen 44 3 [[.int .i64 x_0, .int .i64 (x_2.length : Int), .own 6 v9.length]]), some (.outs 22 7 v9.length idO (lenO v9)), some (.rows 3 .i64 v9), some (.ints 3 .i64 y8)]⟩) (hn43 : AA 5 #[true, false, true, true, true, true, true, true, false, false, false, false] ⟨193, [(2, .ptr 0 0 0), (3, .ptr 1 0 0), (15, .int .i64 y5.1), (16, .int .i64 v), (18, .ptr 2 0 0), (19, .ptr 5 0 0), (95, .int .i64 (2 ^ x_1.toNat : Int)), (96, .int .i64 v1), (147, .own 8 y8.length), (148, .int .i64 (y8.length : Int)), (149, .int .i64 v10), (153, .ptr 5 0 2), (160, .own 9 ((a1_2.getD (y8.getD v10.toNat 0).toNat []).length))], [some (.gen 44 3 [[.int .i64 x_0, .int .i64 x_1, .fn 1 x_2.length (fun i => [.ints .i64 (x_2.getD i [])])]]), some (.gen 44 3 [[.int .i64 a1_0, .int .i64 a1_1, .fn 1 a1_2.length (fun i => [.ints .i64 (a1_2.getD i [])])]]), some (.gen 44 3 [[.int .i64 x_0, .int .i64 (x_2.length : Int), .own 3 v5.length]]), some (.outs 22 4 v5.length idO (lenO v5)), some (.rows 3 .i64 v5), some (.gen 44 3 [[.int .i64 x_0, .int .i64 (x_2.length : Int), .own 6 v9.length]]), some (.outs 22 7 v9.length idO (lenO v9)), some (.rows 3 .i64 v9), some (.ints 3 .i64 y8), some (.ints 3 .i64 (a1_2.getD (y8.getD v10.toNat 0).toNat []))]⟩) : AA 6 #[true, false, true, true, true, true, true, false, false, false, false, false] ⟨193, [(2, .ptr 0 0 0), (3, .ptr 1 0 0), (15, .int .i64 y5.1), (16, .int .i64 v), (18, .ptr 2 0 0), (19, .ptr 5 0 0), (95, .int .i64 (2 ^ x_1.toNat : Int)), (96, .int .i64 v1), (147, .own 8 y8.length), (148, .int .i64 (y8.length : Int)), (149, .int .i64 v10), (153, .ptr 5 0 2), (159, .ints .i64 (a1_2.getD (y8.getD v10.toNat 0).toNat []))], [some (.gen 44 3 [[.int .i64 x_0, .int .i64 x_1, .fn 1 x_2.length (fun i => [.ints .i64 (x_2.getD i [])])]]), some (.gen 44 3 [[.int .i64 a1_0, .int .i64 a1_1, .fn 1 a1_2.length (fun i => [.ints .i64 (a1_2.getD i [])])]]), some (.gen 44 3 [[.int .i64 x_0, .int .i64 (x_2.length : Int), .own 3 v5.length]]), some (.outs 22 4 v5.length idO (lenO v5)), some (.rows 3 .i64 v5), some (.gen 44 3 [[.int .i64 x_0, .int .i64 (x_2.length : Int), .own 6 v9.length]]), some (.outs 22 7 v9.length idO (lenO v9)), some (.rows 3 .i64 v9), some (.ints 3 .i64 y8)]⟩ := (hAA _ _ _).2 (by
  refine AWPB_two 1 7 _ _ ceg_rotakeep_FieldProducts_36_99 rfl rfl ?_ ?_
  · skip
    refine AWPL_rn tab_ok 1 [2, 3, 15, 16, 18, 19, 95, 96, 147, 148, 149, 154, 159, 160, 161, 162, 163] fun c st' hr => ?_
    simp only [go_sem, reduceIte, reduceCtorEq, Nat.reduceEqDiff, Nat.reduceLT, Nat.reduceLeDiff, Nat.reduceBEq, Nat.reduceAdd, Nat.reduceMul, Nat.reduceSub, Nat.reducePow, Int.reduceLE, Int.reduceLT, Int.reduceNeg, Int.reduceToNat, Int.reduceAdd, Int.reduceSub, idO_app, lenO_app, lenO_app2, lenO_eta] at hr
    obtain ⟨rfl, rfl⟩ := hr
    refine ⟨vc, ?_⟩
    refine AWPL_nil ?_
    refine QB_normal ?_
    exact AWPB_wk [0, 1, 2, 3, 4, 5, 6, 7, 8] mkWkR ((hAA _ _ _).1 hn42)
  · skip
    refine AWPL_cloneI [2, 3, 15, 16, 18, 19, 95, 96, 147, 148, 149, 153, 154, 160, 161, 162, 163] 3 Try.laysNm215 rfl rfl pcT rfl Try.call32 (of_decide_eq_true rfl) rfl h8 rfl fun st' hr => ?_
    simp only [go_sem, reduceIte, reduceCtorEq, Nat.reduceEqDiff, Nat.reduceLT, Nat.reduceLeDiff, Nat.reduceBEq, Nat.reduceAdd, Nat.reduceMul, Nat.reduceSub, Nat.reducePow, Int.reduceLE, Int.reduceLT, Int.reduceNeg, Int.reduceToNat, Int.reduceAdd, Int.reduceSub, idO_app, lenO_app, lenO_app2, lenO_eta] at hr
    subst hr
    refine AWPL_nil ?_
    refine QB_normal ?_
    exact AWPB_wk [0, 1, 2, 3, 4, 5, 6, 7, 8, 9] mkWkR ((hAA _ _ _).1 hn43))

theorem ceg_rotakeep_FieldProducts_36_101 : (Region.noSelect reg_rotakeep_FieldProducts_36.toArray && Region.free .any reg_rotakeep_FieldProducts_36.toArray #[false, false, true, true, true, true, true, false, false, false, false, false] 0 && (Region.ready .any reg_rotakeep_FieldProducts_36.toArray #[false, false, true, true, true, true, true, false, false, false, false, false]).contains 0) = true := by kernel_rfl

set_option maxRecDepth 8000 in
set_option maxHeartbeats 4000000 in
theorem J_rotakeep_FieldProducts_36_hn45 {x_0 : Int} {x_1 : Int} {x_2 : List (List Int)} {a1_0 : Int} {a1_1 : Int} {a1_2 : List (List Int)} {y5 : Int × Int} {v : Int} {v1 : Int} {v5 : List (List Int)} {y8 : List Int} {v9 : List (List Int)} {v10 : Int} (h7 : (0 ≤ y8.getD v10.toNat 0 ∧ y8.getD v10.toNat 0 < a1_2.length)) (h8 : ((a1_2.getD (y8.getD v10.toNat 0).toNat []).length ≤ 17592186044416)) (h9 : ((v9 ++ [(a1_2.getD (y8.getD v10.toNat 0).toNat [])]).length ≤ 1099511627776)) {w0 : World} {Q : Exit → St → Prop} {AA : Nat → Array Bool → St → Prop} (hAA : ∀ g L st, AA g L st ↔ AWPB Try.prog w0 reg_rotakeep_FieldProducts_36.toArray Q g L st) (hn44 : AA 6 #[true, false, true, true, true, true, true, false, false, false, false, false] ⟨193, [(2, .ptr 0 0 0), (3, .ptr 1 0 0), (15, .int .i64 y5.1), (16, .int .i64 v), (18, .ptr 2 0 0), (19, .ptr 5 0 0), (95, .int .i64 (2 ^ x_1.toNat : Int)), (96, .int .i64 v1), (147, .own 8 y8.length), (148, .int .i64 (y8.length : Int)), (149, .int .i64 v10), (153, .ptr 5 0 2), (159, .ints .i64 (a1_2.getD (y8.getD v10.toNat 0).toNat []))], [some (.gen 44 3 [[.int .i64 x_0, .int .i64 x_1, .fn 1 x_2.length (fun i => [.ints .i64 (x_2.getD i [])])]]), some (.gen 44 3 [[.int .i64 a1_0, .int .i64 a1_1, .fn 1 a1_2.length (fun i => [.ints .i64 (a1_2.getD i [])])]]), some (.gen 44 3 [[.int .i64 x_0, .int .i64 (x_2.length : Int), .own 3 v5.length]]), some (.outs 22 4 v5.length idO (lenO v5)), some (.rows 3 .i64 v5), some (.gen 44 3 [[.int .i64 x_0, .int .i64 (x_2.length : Int), .own 6 v9.length]]), some (.outs 22 7 v9.length idO (lenO v9)), some (.rows 3 .i64 v9), some (.ints 3 .i64 y8)]⟩) : AA 7 #[false, false, true, true, true, true, true, false, false, false, false, false] ⟨193, [(2, .ptr 0 0 0), (3, .ptr 1 0 0), (15, .int .i64 y5.1), (16, .int .i64 v), (18, .ptr 2 0 0), (19, .ptr 5 0 0), (95, .int .i64 (2 ^ x_1.toNat : Int)), (96, .int .i64 v1), (147, .own 8 y8.length), (148, .int .i64 (y8.length : Int)), (149, .int .i64 v10), (159, .ints .i64 (a1_2.getD (y8.getD v10.toNat 0).toNat []))], [some (.gen 44 3 [[.int .i64 x_0, .int .i64 x_1, .fn 1 x_2.length (fun i => [.ints .i64 (x_2.getD i [])])]]), some (.gen 44 3 [[.int .i64 a1_0, .int .i64 a1_1, .fn 1 a1_2.length (fun i => [.ints .i64 (a1_2.getD i [])])]]), some (.gen 44 3 [[.int .i64 x_0, .int .i64 (x_2.length : Int), .own 3 v5.length]]), some (.outs 22 4 v5.length idO (lenO v5)), some (.rows 3 .i64 v5), some (.gen 44 3 [[.int .i64 x_0, .int .i64 (x_2.length : Int), .own 6 v9.length]]), some (.outs 22 7 v9.length idO (lenO v9)), some (.rows 3 .i64 v9), some (.ints 3 .i64 y8)]⟩ := (hAA _ _ _).2 (by
  refine AWPB_take2 tab_ok [2, 3, 15, 16, 18, 19, 95, 96, 147, 148, 149, 153, 154, 159, 160, 161, 162, 163] 0 _ rfl rfl rfl ceg_rotakeep_FieldProducts_36_101 fun c st' hr => ?_
  simp only [go_sem, reduceIte, reduceCtorEq, Nat.reduceEqDiff, Nat.reduceLT, Nat.reduceLeDiff, Nat.reduceBEq, Nat.reduceAdd, Nat.reduceMul, Nat.reduceSub, Nat.reducePow, Int.reduceLE, Int.reduceLT, Int.reduceNeg, Int.reduceToNat, Int.reduceAdd, Int.reduceSub, idO_app, lenO_app, lenO_app2, lenO_eta] at hr
  obtain ⟨rfl, rfl⟩ := hr
  refine ⟨vc, ?_⟩
  exact AWPB_wk [0, 1, 2, 3, 4, 5, 6, 7, 8] mkWkR ((hAA _ _ _).1 hn44))

set_option maxRecDepth 8000 in
set_option maxHeartbeats 4000000 in
theorem J_rotakeep_FieldProducts_36_hn46 {x_0 : Int} {x_1 : Int} {x_2 : List (List Int)} {a1_0 : Int} {a1_1 : Int} {a1_2 : List (List Int)} {y5 : Int × Int} {v : Int} {v1 : Int} {v5 : List (List Int)} {y8 : List Int} {v9 : List (List Int)} {v10 : Int} (h7 : (0 ≤ y8.getD v10.toNat 0 ∧ y8.getD v10.toNat 0 < a1_2.length)) (h8 : ((a1_2.getD (y8.getD v10.toNat 0).toNat []).length ≤ 17592186044416)) (h9 : ((v9 ++ [(a1_2.getD (y8.getD v10.toNat 0).toNat [])]).length ≤ 1099511627776)) {w0 : World} {Q : Exit → St → Prop} {AA : Nat → Array Bool → St → Prop} (hAA : ∀ g L st, AA g L st ↔ AWPB Try.prog w0 reg_rotakeep_FieldProducts_36.toArray Q g L st) (hn45 : AA 7 #[false, false, true, true, true, true, true, false, false, false, false, false] ⟨193, [(2, .ptr 0 0 0), (3, .ptr 1 0 0), (15, .int .i64 y5.1), (16, .int .i64 v), (18, .ptr 2 0 0), (19, .ptr 5 0 0), (95, .int .i64 (2 ^ x_1.toNat : Int)), (96, .int .i64 v1), (147, .own 8 y8.length), (148, .int .i64 (y8.length : Int)), (149, .int .i64 v10), (159, .ints .i64 (a1_2.getD (y8.getD v10.toNat 0).toNat []))], [some (.gen 44 3 [[.int .i64 x_0, .int .i64 x_1, .fn 1 x_2.length (fun i => [.ints .i64 (x_2.getD i [])])]]), some (.gen 44 3 [[.int .i64 a1_0, .int .i64 a1_1, .fn 1 a1_2.length (fun i => [.ints .i64 (a1_2.getD i [])])]]), some (.gen 44 3 [[.int .i64 x_0, .int .i64 (x_2.length : Int), .own 3 v5.length]]), some (.outs 22 4 v5.length idO (lenO v5)), some (.rows 3 .i64 v5), some (.gen 44 3 [[.int .i64 x_0, .int .i64 (x_2.length : Int), .own 6 v9.length]]), some (.outs 22 7 v9.length idO (lenO v9)), some (.rows 3 .i64 v9), some (.ints 3 .i64 y8)]⟩) : AA 12 #[false, false, false, false, false, false, false, false, false, false, false, false] ⟨193, [(2, .ptr 0 0 0), (3, .ptr 1 0 0), (15, .int .i64 y5.1), (16, .int .i64 v), (18, .ptr 2 0 0), (19, .ptr 5 0 0), (26, .int .i64 (y8.getD v10.toNat 0)), (95, .int .i64 (2 ^ x_1.toNat : Int)), (96, .int .i64 v1), (147, .own 8 y8.length), (148, .int .i64 (y8.length : Int)), (149, .int .i64 v10)], [some (.gen 44 3 [[.int .i64 x_0, .int .i64 x_1, .fn 1 x_2.length (fun i => [.ints .i64 (x_2.getD i [])])]]), some (.gen 44 3 [[.int .i64 a1_0, .int .i64 a1_1, .fn 1 a1_2.length (fun i => [.ints .i64 (a1_2.getD i [])])]]), some (.gen 44 3 [[.int .i64 x_0, .int .i64 (x_2.length : Int), .own 3 v5.length]]), some (.outs 22 4 v5.length idO (lenO v5)), some (.rows 3 .i64 v5), some (.gen 44 3 [[.int .i64 x_0, .int .i64 (x_2.length : Int), .own 6 v9.length]]), some (.outs 22 7 v9.length idO (lenO v9)), some (.rows 3 .i64 v9), some (.ints 3 .i64 y8)]⟩ := (hAA _ _ _).2 (by
  refine AWPB_takeB tab_ok [2, 3, 15, 16, 18, 19, 26, 95, 96, 147, 148, 149, 153, 154, 155, 156, 157, 158, 159, 160, 161, 162, 163] 2 [3, 5, 6, 7, 8, 9, 10, 11] _ rfl ceg_rotakeep_FieldProducts_36_81 fun c st' hr => ?_
  simp only [go_sem, reduceIte, reduceCtorEq, Nat.reduceEqDiff, Nat.reduceLT, Nat.reduceLeDiff, Nat.reduceBEq, Nat.reduceAdd, Nat.reduceMul, Nat.reduceSub, Nat.reducePow, Int.reduceLE, Int.reduceLT, Int.reduceNeg, Int.reduceToNat, Int.reduceAdd, Int.reduceSub, idO_app, lenO_app, lenO_app2, lenO_eta] at hr
  obtain ⟨rfl, rfl⟩ := hr
  refine ⟨vc, ?_⟩
  refine AWPB_takeB tab_ok [2, 3, 15, 16, 18, 19, 26, 95, 96, 147, 148, 149, 153, 154, 156, 157, 158, 159, 160, 161, 162, 163] 3 [5, 6, 7, 8, 9, 10, 11] _ rfl ceg_rotakeep_FieldProducts_36_82 fun c st' hr => ?_
  simp only [go_sem, reduceIte, reduceCtorEq, Nat.reduceEqDiff, Nat.reduceLT, Nat.reduceLeDiff, Nat.reduceBEq, Nat.reduceAdd, Nat.reduceMul, Nat.reduceSub, Nat.reducePow, Int.reduceLE, Int.reduceLT, Int.reduceNeg, Int.reduceToNat, Int.reduceAdd, Int.reduceSub, idO_app, lenO_app, lenO_app2, lenO_eta] at hr
  obtain ⟨rfl, rfl⟩ := hr
  refine ⟨vc, ?_⟩
  refine AWPB_takeB tab_ok [2, 3, 15, 16, 18, 19, 95, 96, 147, 148, 149, 153, 154, 156, 157, 158, 159, 160, 161, 162, 163] 4 [5, 6, 7, 8, 9, 10, 11] _ rfl ceg_rotakeep_FieldProducts_36_83 fun c st' hr => ?_
  simp only [go_sem, reduceIte, reduceCtorEq, Nat.reduceEqDiff, Nat.reduceLT, Nat.reduceLeDiff, Nat.reduceBEq, Nat.reduceAdd, Nat.reduceMul, Nat.reduceSub, Nat.reducePow, Int.reduceLE, Int.reduceLT, Int.reduceNeg, Int.reduceToNat, Int.reduceAdd, Int.reduceSub, idO_app, lenO_app, lenO_app2, lenO_eta] at hr
  obtain ⟨rfl, rfl⟩ := hr
  refine ⟨vc, ?_⟩
  refine AWPB_takeB tab_ok [2, 3, 15, 16, 18, 19, 95, 96, 147, 148, 149, 153, 154, 158, 159, 160, 161, 162, 163] 5 [6, 7, 8, 9, 10, 11] _ rfl ceg_rotakeep_FieldProducts_36_84 fun c st' hr => ?_
  simp only [go_sem, reduceIte, reduceCtorEq, Nat.reduceEqDiff, Nat.reduceLT, Nat.reduceLeDiff, Nat.reduceBEq, Nat.reduceAdd, Nat.reduceMul, Nat.reduceSub, Nat.reducePow, Int.reduceLE, Int.reduceLT, Int.reduceNeg, Int.reduceToNat, Int.reduceAdd, Int.reduceSub, idO_app, lenO_app, lenO_app2, lenO_eta] at hr
  obtain ⟨rfl, rfl⟩ := hr
  refine ⟨vc, ?_⟩
  refine AWPB_takeB tab_ok [2, 3, 15, 16, 18, 19, 95, 96, 147, 148, 149, 153, 154, 159, 160, 161, 162, 163] 6 [7, 8, 9, 10, 11] _ rfl ceg_rotakeep_FieldProducts_36_85 fun c st' hr => ?_
  simp only [go_sem, reduceIte, reduceCtorEq, Nat.reduceEqDiff, Nat.reduceLT, Nat.reduceLeDiff, Nat.reduceBEq, Nat.reduceAdd, Nat.reduceMul, Nat.reduceSub, Nat.reducePow, Int.reduceLE, Int.reduceLT, Int.reduceNeg, Int.reduceToNat, Int.reduceAdd, Int.reduceSub, idO_app, lenO_app, lenO_app2, lenO_eta] at hr
  obtain ⟨rfl, rfl⟩ := hr
  refine ⟨vc, ?_⟩
  exact AWPB_wk [0, 1, 2, 3, 4, 5, 6, 7, 8] mkWkR ((hAA _ _ _).1 hn45))

set_option maxRecDepth 8000 in
set_option maxHeartbeats 4000000 in
theorem W_rotakeep_FieldProducts {x_0 : Int} {x_1 : Int} {x_2 : List (List Int)} {a1_0 : Int} {a1_1 : Int} {a1_2 : List (List Int)} {r : Bool} (hK : rotakeep_FieldProducts x_0 x_1 x_2 a1_0 a1_1 a1_2 = some r) : Pure Try.prog 5 [.agg [.int .i64 x_0, .int .i64 x_1, .fn 1 x_2.length (fun i => [.ints .i64 (x_2.getD i [])])], .agg [.int .i64 a1_0, .int .i64 a1_1, .fn 1 a1_2.length (fun i => [.ints .i64 (a1_2.getD i [])])]] (.bool r) [] := by
  refine Pure_introF tab_ok (n := 193) (l := [.tmp 4]) Try.func5 rfl rfl rfl (by simp) fun hfact w0 => ?_
  simp only [factL1, fact1, fact0, factL0, lo, hi, maxLen, and_true] at hfact
  unfold rotakeep_FieldProducts at hK
  refine AWP_seq ?_
  -- region 0
  refine AWP_rg tab_ok [2, 3] fun c st' hr => ?_
  simp only [go_sem, reduceIte, reduceCtorEq, Nat.reduceEqDiff, Nat.reduceLT, Nat.reduceLeDiff, Nat.reduceBEq, Nat.reduceAdd, Nat.reduceMul, Nat.reduceSub, Nat.reducePow, Int.reduceLE, Int.reduceLT, Int.reduceNeg, Int.reduceToNat, Int.reduceAdd, Int.reduceSub, idO_app, lenO_app, lenO_app2, lenO_eta] at hr
  obtain ⟨rfl, rfl⟩ := hr
  refine ⟨vc, ?_⟩
  with_reducible refine thenC_normal ?_
  refine AWP_seq ?_
  refine AWP_seq ?_
  -- region 1
  refine AWP_rl ?_
  refine AWPL_rn tab_ok 1 [2, 3, 32] fun c st' hr => ?_
  simp only [go_sem, reduceIte, reduceCtorEq, Nat.reduceEqDiff, Nat.reduceLT, Nat.reduceLeDiff, Nat.reduceBEq, Nat.reduceAdd, Nat.reduceMul, Nat.reduceSub, Nat.reducePow, Int.reduceLE, Int.reduceLT, Int.reduceNeg, Int.reduceToNat, Int.reduceAdd, Int.reduceSub, idO_app, lenO_app, lenO_app2, lenO_eta] at hr
  obtain ⟨rfl, rfl⟩ := hr
  refine ⟨vc, ?_⟩
  refine AWPL_freeze 32 2 (y := .ints .i64 [2]) rfl (.one (.ownI _ _ _ _ _ [2] rfl (by simp) (by first | simp | exact List.take_of_length_le (by simp)))) fun st' hr => ?_
  simp only [go_sem, reduceIte, reduceCtorEq, Nat.reduceEqDiff, Nat.reduceLT, Nat.reduceLeDiff, Nat.reduceBEq, Nat.reduceAdd, Nat.reduceMul, Nat.reduceSub, Nat.reducePow, Int.reduceLE, Int.reduceLT, Int.reduceNeg, Int.reduceToNat, Int.reduceAdd, Int.reduceSub, idO_app, lenO_app, lenO_app2, lenO_eta, List.set_cons_zero, List.set_cons_succ] at hr
  subst hr
  refine AWPL_rn tab_ok 2 [2, 3, 34] fun c st' hr => ?_
  simp only [go_sem, reduceIte, reduceCtorEq, Nat.reduceEqDiff, Nat.reduceLT, Nat.reduceLeDiff, Nat.reduceBEq, Nat.reduceAdd, Nat.reduceMul, Nat.reduceSub, Nat.reducePow, Int.reduceLE, Int.reduceLT, Int.reduceNeg, Int.reduceToNat, Int.reduceAdd, Int.reduceSub, idO_app, lenO_app, lenO_app2, lenO_eta] at hr
  obtain ⟨rfl, rfl⟩ := hr
  refine ⟨vc, ?_⟩
  replace hK := bind_s hK
  obtain ⟨y, hy, hK⟩ := hK
  refine AWPL_callK [2, 3, 35] (W_field_Determinant hy) rfl rfl pcT rfl Try.call27 (.cons (.agg _ _ rfl (ArgsOk.get (.cons (.atom _ rfl) (.cons (.atom _ rfl) (.cons (.ownEnc (fun e => [.ints .i64 e]) [] [[2]] (by first | rfl | (simp; done)) (by first | rfl | (simp; done)) (fun _ => rfl) (fun _ => rfl)) .nil)))).2) .nil) (hscG trivial) (of_decide_eq_true rfl) (by first | rfl | simp [nI, nI1, nI0]) (by first | rfl | simp [nIB, nI0]) fun st' hr => ?_
  simp only [go_sem, reduceIte, reduceCtorEq, Nat.reduceEqDiff, Nat.reduceLT, Nat.reduceLeDiff, Nat.reduceBEq, Nat.reduceAdd, Nat.reduceMul, Nat.reduceSub, Nat.reducePow, Int.reduceLE, Int.reduceLT, Int.reduceNeg, Int.reduceToNat, Int.reduceAdd, Int.reduceSub, idO_app, lenO_app, lenO_app2, lenO_eta] at hr
  subst hr
  clear hy
  refine AWPL_rn tab_ok 5 [2, 3, 5, 6] fun c st' hr => ?_
  simp only [go_sem, reduceIte, reduceCtorEq, Nat.reduceEqDiff, Nat.reduceLT, Nat.reduceLeDiff, Nat.reduceBEq, Nat.reduceAdd, Nat.reduceMul, Nat.reduceSub, Nat.reducePow, Int.reduceLE, Int.reduceLT, Int.reduceNeg, Int.reduceToNat, Int.reduceAdd, Int.reduceSub, idO_app, lenO_app, lenO_app2, lenO_eta] at hr
  obtain ⟨rfl, rfl⟩ := hr
  refine ⟨vc, ?_⟩
  refine AWPL_nil ?_
  with_reducible refine thenC_normal ?_
  refine AWP_seq ?_
  -- region 2
  refine AWP_rg tab_ok [2, 3, 43] fun c st' hr => ?_
  simp only [go_sem, reduceIte, reduceCtorEq, Nat.reduceEqDiff, Nat.reduceLT, Nat.reduceLeDiff, Nat.reduceBEq, Nat.reduceAdd, Nat.reduceMul, Nat.reduceSub, Nat.reducePow, Int.reduceLE, Int.reduceLT, Int.reduceNeg, Int.reduceToNat, Int.reduceAdd, Int.reduceSub, idO_app, lenO_app, lenO_app2, lenO_eta] at hr
  obtain ⟨rfl, rfl⟩ := hr
  refine ⟨vc, ?_⟩
  with_reducible refine thenC_normal ?_
  refine AWP_condP ((y.2 ≠ 0 ∨ y.1 ≠ 2)) rfl bd (fun hb => ?_) (fun hb => ?_)
  · replace hK := ite_t hK hb
    refine AWP_seq ?_
    -- region 3
    refine AWP_rg tab_ok [4] fun c st' hr => ?_
    simp only [go_sem, reduceIte, reduceCtorEq, Nat.reduceEqDiff, Nat.reduceLT, Nat.reduceLeDiff, Nat.reduceBEq, Nat.reduceAdd, Nat.reduceMul, Nat.reduceSub, Nat.reducePow, Int.reduceLE, Int.reduceLT, Int.reduceNeg, Int.reduceToNat, Int.reduceAdd, Int.reduceSub, idO_app, lenO_app, lenO_app2, lenO_eta] at hr
    obtain ⟨rfl, rfl⟩ := hr
    refine ⟨vc, ?_⟩
    with_reducible refine thenC_normal ?_
    refine AWP_ret ?_
    with_reducible refine thenC_ret ?_
    cases hK
    refine EndsRW [] (.inl rfl) (of_decide_eq_true rfl) (by simp) rfl (fun c x hr => ?_) trivial
    simp only [go_sem, reduceIte, reduceCtorEq, Nat.reduceEqDiff, Nat.reduceLT, Nat.reduceLeDiff, Nat.reduceBEq, Nat.reduceAdd, Nat.reduceMul, Nat.reduceSub, Nat.reducePow, Int.reduceLE, Int.reduceLT, Int.reduceNeg, Int.reduceToNat, Int.reduceAdd, Int.reduceSub, idO_app, lenO_app, lenO_app2, lenO_eta] at hr
    obtain ⟨rfl, rfl⟩ := hr
    exact ⟨rfl, endR⟩
  · replace hK := ite_f hK hb
    refine AWP_skip ?_
    with_reducible refine thenC_normal ?_
    refine AWP_seq ?_
    -- region 4
    refine AWP_rl ?_
    refine AWPL_rn tab_ok 2 [2, 3, 45, 46] fun c st' hr => ?_
    simp only [go_sem, reduceIte, reduceCtorEq, Nat.reduceEqDiff, Nat.reduceLT, Nat.reduceLeDiff, Nat.reduceBEq, Nat.reduceAdd, Nat.reduceMul, Nat.reduceSub, Nat.reducePow, Int.reduceLE, Int.reduceLT, Int.reduceNeg, Int.reduceToNat, Int.reduceAdd, Int.reduceSub, idO_app, lenO_app, lenO_app2, lenO_eta] at hr
    obtain ⟨rfl, rfl⟩ := hr
    refine ⟨vc, ?_⟩
    replace hK := bind_s hK
    obtain ⟨y1, hy, hK⟩ := hK
    refine AWPL_callK [2, 3, 47] (W_field_Times hy) rfl rfl pcT rfl Try.call28 (.cons (.agg _ _ rfl (ArgsOk.get (.cons (.atom _ rfl) (.cons (.atom _ rfl) (.cons (.atom _ rfl) .nil)))).2) (.cons (.agg _ _ rfl (ArgsOk.get (.cons (.atom _ rfl) (.cons (.atom _ rfl) (.cons (.atom _ rfl) .nil)))).2) .nil)) (hscG trivial) (of_decide_eq_true rfl) (by first | rfl | simp [nI, nI1, nI0]) (by first | rfl | simp [nIB, nI0]) fun st' hr => ?_
    simp only [go_sem, reduceIte, reduceCtorEq, Nat.reduceEqDiff, Nat.reduceLT, Nat.reduceLeDiff, Nat.reduceBEq, Nat.reduceAdd, Nat.reduceMul, Nat.reduceSub, Nat.reducePow, Int.reduceLE, Int.reduceLT, Int.reduceNeg, Int.reduceToNat, Int.reduceAdd, Int.reduceSub, idO_app, lenO_app, lenO_app2, lenO_eta] at hr
    subst hr
    clear hy
    refine AWPL_rn tab_ok 6 [2, 3, 7, 8] fun c st' hr => ?_
    simp only [go_sem, reduceIte, reduceCtorEq, Nat.reduceEqDiff, Nat.reduceLT, Nat.reduceLeDiff, Nat.reduceBEq, Nat.reduceAdd, Nat.reduceMul, Nat.reduceSub, Nat.reducePow, Int.reduceLE, Int.reduceLT, Int.reduceNeg, Int.reduceToNat, Int.reduceAdd, Int.reduceSub, idO_app, lenO_app, lenO_app2, lenO_eta] at hr
    obtain ⟨rfl, rfl⟩ := hr
    refine ⟨vc, ?_⟩
    refine AWPL_nil ?_
    with_reducible refine thenC_normal ?_
    refine AWP_seq ?_
    refine AWP_seq ?_
    -- region 5
    refine AWP_rg tab_ok [2, 3, 7, 51] fun c st' hr => ?_
    simp only [go_sem, reduceIte, reduceCtorEq, Nat.reduceEqDiff, Nat.reduceLT, Nat.reduceLeDiff, Nat.reduceBEq, Nat.reduceAdd, Nat.reduceMul, Nat.reduceSub, Nat.reducePow, Int.reduceLE, Int.reduceLT, Int.reduceNeg, Int.reduceToNat, Int.reduceAdd, Int.reduceSub, idO_app, lenO_app, lenO_app2, lenO_eta] at hr
    obtain ⟨rfl, rfl⟩ := hr
    refine ⟨vc, ?_⟩
    with_reducible refine thenC_normal ?_
    refine AWP_condP (y1.2.2.2 ≠ 0) rfl bd (fun hb1 => ?_) (fun hb1 => ?_)
    · replace hK := ite_t hK hb1
      refine AWP_seq ?_
      -- region 6
      refine AWP_rg tab_ok [4] fun c st' hr => ?_
      simp only [go_sem, reduceIte, reduceCtorEq, Nat.reduceEqDiff, Nat.reduceLT, Nat.reduceLeDiff, Nat.reduceBEq, Nat.reduceAdd, Nat.reduceMul, Nat.reduceSub, Nat.reducePow, Int.reduceLE, Int.reduceLT, Int.reduceNeg, Int.reduceToNat, Int.reduceAdd, Int.reduceSub, idO_app, lenO_app, lenO_app2, lenO_eta] at hr
      obtain ⟨rfl, rfl⟩ := hr
      refine ⟨vc, ?_⟩
      with_reducible refine thenC_normal ?_
      refine AWP_ret ?_
      with_reducible refine thenC_ret ?_
      cases hK
      refine EndsRW [] (.inl rfl) (of_decide_eq_true rfl) (by simp) rfl (fun c x hr => ?_) trivial
      simp only [go_sem, reduceIte, reduceCtorEq, Nat.reduceEqDiff, Nat.reduceLT, Nat.reduceLeDiff, Nat.reduceBEq, Nat.reduceAdd, Nat.reduceMul, Nat.reduceSub, Nat.reducePow, Int.reduceLE, Int.reduceLT, Int.reduceNeg, Int.reduceToNat, Int.reduceAdd, Int.reduceSub, idO_app, lenO_app, lenO_app2, lenO_eta] at hr
      obtain ⟨rfl, rfl⟩ := hr
      exact ⟨rfl, endR⟩
    · replace hK := ite_f hK hb1
      refine AWP_skip ?_
      with_reducible refine thenC_normal ?_
      refine AWP_seqJ (fun _ => ⟨193, [(2, .ptr 0 0 0), (3, .ptr 1 0 0), (7, .ptr 2 0 0)], [some (.gen 44 3 [[.int .i64 x_0, .int .i64 x_1, .fn 1 x_2.length (fun i => [.ints .i64 (x_2.getD i [])])]]), some (.gen 44 3 [[.int .i64 a1_0, .int .i64 a1_1, .fn 1 a1_2.length (fun i => [.ints .i64 (a1_2.getD i [])])]]), some (.gen 44 3 [[.int .i64 y1.1, .int .i64 y1.2.1, .own 3 y1.2.2.1.length]]), some (.outs 22 4 y1.2.2.1.length idO (lenO y1.2.2.1)), some (.rows 3 .i64 y1.2.2.1)]⟩) hK ?_ ?_
      · clear hK; intro j hK; try dsimp only at hK
        refine AWP_seq ?_
        -- region 7
        refine AWP_rl ?_
        refine AWPL_rn tab_ok 1 [2, 3, 7, 57] fun c st' hr => ?_
        simp only [go_sem, reduceIte, reduceCtorEq, Nat.reduceEqDiff, Nat.reduceLT, Nat.reduceLeDiff, Nat.reduceBEq, Nat.reduceAdd, Nat.reduceMul, Nat.reduceSub, Nat.reducePow, Int.reduceLE, Int.reduceLT, Int.reduceNeg, Int.reduceToNat, Int.reduceAdd, Int.reduceSub, idO_app, lenO_app, lenO_app2, lenO_eta] at hr
        obtain ⟨rfl, rfl⟩ := hr
        refine ⟨vc, ?_⟩
        replace hK := bind_s hK
        obtain ⟨y2, hy, hK⟩ := hK
        refine AWPL_callK [2, 3, 7, 58] (W_field_Determinant hy) rfl rfl pcT rfl Try.call27 (.cons (.agg _ _ rfl (ArgsOk.get (.cons (.atom _ rfl) (.cons (.atom _ rfl) (.cons (.atom _ rfl) .nil)))).2) .nil) (hscG trivial) (of_decide_eq_true rfl) (by first | rfl | simp [nI, nI1, nI0]) (by first | rfl | simp [nIB, nI0]) fun st' hr => ?_
        simp only [go_sem, reduceIte, reduceCtorEq, Nat.reduceEqDiff, Nat.reduceLT, Nat.reduceLeDiff, Nat.reduceBEq, Nat.reduceAdd, Nat.reduceMul, Nat.reduceSub, Nat.reducePow, Int.reduceLE, Int.reduceLT, Int.reduceNeg, Int.reduceToNat, Int.reduceAdd, Int.reduceSub, idO_app, lenO_app, lenO_app2, lenO_eta] at hr
        subst hr
        clear hy
        refine AWPL_rn tab_ok 5 [2, 3, 7, 9, 10] fun c st' hr => ?_
        simp only [go_sem, reduceIte, reduceCtorEq, Nat.reduceEqDiff, Nat.reduceLT, Nat.reduceLeDiff, Nat.reduceBEq, Nat.reduceAdd, Nat.reduceMul, Nat.reduceSub, Nat.reducePow, Int.reduceLE, Int.reduceLT, Int.reduceNeg, Int.reduceToNat, Int.reduceAdd, Int.reduceSub, idO_app, lenO_app, lenO_app2, lenO_eta] at hr
        obtain ⟨rfl, rfl⟩ := hr
        refine ⟨vc, ?_⟩
        refine AWPL_nil ?_
        with_reducible refine thenC_normal ?_
        refine AWP_seq ?_
        -- region 8
        refine AWP_rg tab_ok [2, 3, 7, 9, 62] fun c st' hr => ?_
        simp only [go_sem, reduceIte, reduceCtorEq, Nat.reduceEqDiff, Nat.reduceLT, Nat.reduceLeDiff, Nat.reduceBEq, Nat.reduceAdd, Nat.reduceMul, Nat.reduceSub, Nat.reducePow, Int.reduceLE, Int.reduceLT, Int.reduceNeg, Int.reduceToNat, Int.reduceAdd, Int.reduceSub, idO_app, lenO_app, lenO_app2, lenO_eta] at hr
        obtain ⟨rfl, rfl⟩ := hr
        refine ⟨vc, ?_⟩
        with_reducible refine thenC_normal ?_
        refine AWP_condP (y2.2 = 0) rfl bd (fun hb2 => ?_) (fun hb2 => ?_)
        · replace hK := ite_t hK hb2
          refine AWP_seq ?_
          -- region 9
          refine AWP_rl ?_
          refine AWPL_rn tab_ok 1 [2, 3, 7, 9, 64] fun c st' hr => ?_
          simp only [go_sem, reduceIte, reduceCtorEq, Nat.reduceEqDiff, Nat.reduceLT, Nat.reduceLeDiff, Nat.reduceBEq, Nat.reduceAdd, Nat.reduceMul, Nat.reduceSub, Nat.reducePow, Int.reduceLE, Int.reduceLT, Int.reduceNeg, Int.reduceToNat, Int.reduceAdd, Int.reduceSub, idO_app, lenO_app, lenO_app2, lenO_eta] at hr
          obtain ⟨rfl, rfl⟩ := hr
          refine ⟨vc, ?_⟩
          replace hK := bind_s hK
          obtain ⟨y3, hy, hK⟩ := hK
          refine AWPL_callK [2, 3, 7, 9, 65] (W_field_Turned hy) rfl rfl pcT rfl Try.call29 (.cons (.agg _ _ rfl (ArgsOk.get (.cons (.atom _ rfl) (.cons (.atom _ rfl) (.cons (.atom _ rfl) .nil)))).2) .nil) (hscG trivial) (of_decide_eq_true rfl) (by first | rfl | simp [nI, nI1, nI0]) (by first | rfl | simp [nIB, nI0]) fun st' hr => ?_
          simp only [go_sem, reduceIte, reduceCtorEq, Nat.reduceEqDiff, Nat.reduceLT, Nat.reduceLeDiff, Nat.reduceBEq, Nat.reduceAdd, Nat.reduceMul, Nat.reduceSub, Nat.reducePow, Int.reduceLE, Int.reduceLT, Int.reduceNeg, Int.reduceToNat, Int.reduceAdd, Int.reduceSub, idO_app, lenO_app, lenO_app2, lenO_eta] at hr
          subst hr
          clear hy
          refine AWPL_rn tab_ok 6 [2, 3, 7, 9, 11, 12] fun c st' hr => ?_
          simp only [go_sem, reduceIte, reduceCtorEq, Nat.reduceEqDiff, Nat.reduceLT, Nat.reduceLeDiff, Nat.reduceBEq, Nat.reduceAdd, Nat.reduceMul, Nat.reduceSub, Nat.reducePow, Int.reduceLE, Int.reduceLT, Int.reduceNeg, Int.reduceToNat, Int.reduceAdd, Int.reduceSub, idO_app, lenO_app, lenO_app2, lenO_eta] at hr
          obtain ⟨rfl, rfl⟩ := hr
          refine ⟨vc, ?_⟩
          refine AWPL_nil ?_
          with_reducible refine thenC_normal ?_
          refine AWP_seq ?_
          -- region 10
          refine AWP_rl ?_
          refine AWPL_rn tab_ok 1 [2, 3, 7, 9, 12, 69] fun c st' hr => ?_
          simp only [go_sem, reduceIte, reduceCtorEq, Nat.reduceEqDiff, Nat.reduceLT, Nat.reduceLeDiff, Nat.reduceBEq, Nat.reduceAdd, Nat.reduceMul, Nat.reduceSub, Nat.reducePow, Int.reduceLE, Int.reduceLT, Int.reduceNeg, Int.reduceToNat, Int.reduceAdd, Int.reduceSub, idO_app, lenO_app, lenO_app2, lenO_eta] at hr
          obtain ⟨rfl, rfl⟩ := hr
          refine ⟨vc, ?_⟩
          replace hK := bind_s hK
          obtain ⟨y4, hy, hK⟩ := hK
          refine AWPL_callK [2, 3, 7, 9, 12, 70] (W_field_Determinant hy) rfl rfl pcT rfl Try.call27 (.cons (.agg _ _ rfl (ArgsOk.get (.cons (.atom _ rfl) (.cons (.atom _ rfl) (.cons (matArg (X := y3.2.2.1) (by first | rfl | (simp [getB, lenO_set]; done)) (by first | rfl | (simp [getB]; done)) (by first | rfl | (simp; done))) .nil)))).2) .nil) (hscG trivial) (of_decide_eq_true rfl) (by first | rfl | simp [nI, nI1, nI0]) (by first | rfl | simp [nIB, nI0]) fun st' hr => ?_
          simp only [go_sem, reduceIte, reduceCtorEq, Nat.reduceEqDiff, Nat.reduceLT, Nat.reduceLeDiff, Nat.reduceBEq, Nat.reduceAdd, Nat.reduceMul, Nat.reduceSub, Nat.reducePow, Int.reduceLE, Int.reduceLT, Int.reduceNeg, Int.reduceToNat, Int.reduceAdd, Int.reduceSub, idO_app, lenO_app, lenO_app2, lenO_eta] at hr
          subst hr
          clear hy
          refine AWPL_rn tab_ok 5 [2, 3, 7, 9, 12, 13, 14] fun c st' hr => ?_
          simp only [go_sem, reduceIte, reduceCtorEq, Nat.reduceEqDiff, Nat.reduceLT, Nat.reduceLeDiff, Nat.reduceBEq, Nat.reduceAdd, Nat.reduceMul, Nat.reduceSub, Nat.reducePow, Int.reduceLE, Int.reduceLT, Int.reduceNeg, Int.reduceToNat, Int.reduceAdd, Int.reduceSub, idO_app, lenO_app, lenO_app2, lenO_eta] at hr
          obtain ⟨rfl, rfl⟩ := hr
          refine ⟨vc, ?_⟩
          refine AWPL_nil ?_
          with_reducible refine thenC_normal ?_
          refine AWP_seq ?_
          -- region 11
          refine AWP_rg tab_ok [2, 3, 7, 83] fun c st' hr => ?_
          simp only [go_sem, reduceIte, reduceCtorEq, Nat.reduceEqDiff, Nat.reduceLT, Nat.reduceLeDiff, Nat.reduceBEq, Nat.reduceAdd, Nat.reduceMul, Nat.reduceSub, Nat.reducePow, Int.reduceLE, Int.reduceLT, Int.reduceNeg, Int.reduceToNat, Int.reduceAdd, Int.reduceSub, idO_app, lenO_app, lenO_app2, lenO_eta] at hr
          obtain ⟨rfl, rfl⟩ := hr
          refine ⟨vc, ?_⟩
          with_reducible refine thenC_normal ?_
          refine AWP_condP (((y3.2.2.2 ≠ 0 ∨ y4.2 ≠ 0) ∨ y4.1 ≠ y2.1)) rfl bd (fun hb3 => ?_) (fun hb3 => ?_)
          · replace hK := ite_t hK hb3
            refine AWP_seq ?_
            -- region 12
            refine AWP_rg tab_ok [4] fun c st' hr => ?_
            simp only [go_sem, reduceIte, reduceCtorEq, Nat.reduceEqDiff, Nat.reduceLT, Nat.reduceLeDiff, Nat.reduceBEq, Nat.reduceAdd, Nat.reduceMul, Nat.reduceSub, Nat.reducePow, Int.reduceLE, Int.reduceLT, Int.reduceNeg, Int.reduceToNat, Int.reduceAdd, Int.reduceSub, idO_app, lenO_app, lenO_app2, lenO_eta] at hr
            obtain ⟨rfl, rfl⟩ := hr
            refine ⟨vc, ?_⟩
            with_reducible refine thenC_normal ?_
            refine AWP_ret ?_
            with_reducible refine join_r ?_
            cases hK
            refine EndsRW [] (.inl rfl) (of_decide_eq_true rfl) (by simp) rfl (fun c x hr => ?_) trivial
            simp only [go_sem, reduceIte, reduceCtorEq, Nat.reduceEqDiff, Nat.reduceLT, Nat.reduceLeDiff, Nat.reduceBEq, Nat.reduceAdd, Nat.reduceMul, Nat.reduceSub, Nat.reducePow, Int.reduceLE, Int.reduceLT, Int.reduceNeg, Int.reduceToNat, Int.reduceAdd, Int.reduceSub, idO_app, lenO_app, lenO_app2, lenO_eta] at hr
            obtain ⟨rfl, rfl⟩ := hr
            exact ⟨rfl, endR⟩
          · replace hK := ite_f hK hb3
            refine AWP_skip ?_
            refine join_n () [0, 1, 6, 4, 5] hK mkWkR
        · replace hK := ite_f hK hb2
          refine AWP_skip ?_
          refine join_n () [0, 1, 6, 4, 5] hK mkWkR
      · clear hK; intro q hK
        try dsimp only at hK
        change AWP _ _ _ _ ⟨193, [(2, .ptr 0 0 0), (3, .ptr 1 0 0), (7, .ptr 2 0 0)], [some (.gen 44 3 [[.int .i64 x_0, .int .i64 x_1, .fn 1 x_2.length (fun i => [.ints .i64 (x_2.getD i [])])]]), some (.gen 44 3 [[.int .i64 a1_0, .int .i64 a1_1, .fn 1 a1_2.length (fun i => [.ints .i64 (a1_2.getD i [])])]]), some (.gen 44 3 [[.int .i64 y1.1, .int .i64 y1.2.1, .own 3 y1.2.2.1.length]]), some (.outs 22 4 y1.2.2.1.length idO (lenO y1.2.2.1)), some (.rows 3 .i64 y1.2.2.1)]⟩
        refine AWP_seq ?_
        -- region 13
        refine AWP_rl ?_
        refine AWPL_rn tab_ok 1 [2, 3, 85] fun c st' hr => ?_
        simp only [go_sem, reduceIte, reduceCtorEq, Nat.reduceEqDiff, Nat.reduceLT, Nat.reduceLeDiff, Nat.reduceBEq, Nat.reduceAdd, Nat.reduceMul, Nat.reduceSub, Nat.reducePow, Int.reduceLE, Int.reduceLT, Int.reduceNeg, Int.reduceToNat, Int.reduceAdd, Int.reduceSub, idO_app, lenO_app, lenO_app2, lenO_eta] at hr
        obtain ⟨rfl, rfl⟩ := hr
        refine ⟨vc, ?_⟩
        replace hK := bind_s hK
        obtain ⟨y5, hy, hK⟩ := hK
        refine AWPL_callK [2, 3, 86] (W_field_Determinant hy) rfl rfl pcT rfl Try.call27 (.cons (.agg _ _ rfl (ArgsOk.get (.cons (.atom _ rfl) (.cons (.atom _ rfl) (.cons (matArg (X := y1.2.2.1) (by first | rfl | (simp [getB, lenO_set]; done)) (by first | rfl | (simp [getB]; done)) (by first | rfl | (simp; done))) .nil)))).2) .nil) (hscG trivial) (of_decide_eq_true rfl) (by first | rfl | simp [nI, nI1, nI0]) (by first | rfl | simp [nIB, nI0]) fun st' hr => ?_
        simp only [go_sem, reduceIte, reduceCtorEq, Nat.reduceEqDiff, Nat.reduceLT, Nat.reduceLeDiff, Nat.reduceBEq, Nat.reduceAdd, Nat.reduceMul, Nat.reduceSub, Nat.reducePow, Int.reduceLE, Int.reduceLT, Int.reduceNeg, Int.reduceToNat, Int.reduceAdd, Int.reduceSub, idO_app, lenO_app, lenO_app2, lenO_eta] at hr
        subst hr
        clear hy
        refine AWPL_rn tab_ok 5 [2, 3, 8, 15] fun c st' hr => ?_
        simp only [go_sem, reduceIte, reduceCtorEq, Nat.reduceEqDiff, Nat.reduceLT, Nat.reduceLeDiff, Nat.reduceBEq, Nat.reduceAdd, Nat.reduceMul, Nat.reduceSub, Nat.reducePow, Int.reduceLE, Int.reduceLT, Int.reduceNeg, Int.reduceToNat, Int.reduceAdd, Int.reduceSub, idO_app, lenO_app, lenO_app2, lenO_eta] at hr
        obtain ⟨rfl, rfl⟩ := hr
        refine ⟨vc, ?_⟩
        refine AWPL_nil ?_
        with_reducible refine thenC_normal ?_
        refine AWP_seq ?_
        refine AWP_seq ?_
        -- region 14
        refine AWP_rg tab_ok [2, 3, 8, 15, 90] fun c st' hr => ?_
        simp only [go_sem, reduceIte, reduceCtorEq, Nat.reduceEqDiff, Nat.reduceLT, Nat.reduceLeDiff, Nat.reduceBEq, Nat.reduceAdd, Nat.reduceMul, Nat.reduceSub, Nat.reducePow, Int.reduceLE, Int.reduceLT, Int.reduceNeg, Int.reduceToNat, Int.reduceAdd, Int.reduceSub, idO_app, lenO_app, lenO_app2, lenO_eta] at hr
        obtain ⟨rfl, rfl⟩ := hr
        refine ⟨vc, ?_⟩
        with_reducible refine thenC_normal ?_
        refine AWP_condP (y5.2 ≠ 0) rfl bd (fun hb4 => ?_) (fun hb4 => ?_)
        · replace hK := ite_t hK hb4
          refine AWP_seq ?_
          -- region 15
          refine AWP_rg tab_ok [4] fun c st' hr => ?_
          simp only [go_sem, reduceIte, reduceCtorEq, Nat.reduceEqDiff, Nat.reduceLT, Nat.reduceLeDiff, Nat.reduceBEq, Nat.reduceAdd, Nat.reduceMul, Nat.reduceSub, Nat.reducePow, Int.reduceLE, Int.reduceLT, Int.reduceNeg, Int.reduceToNat, Int.reduceAdd, Int.reduceSub, idO_app, lenO_app, lenO_app2, lenO_eta] at hr
          obtain ⟨rfl, rfl⟩ := hr
          refine ⟨vc, ?_⟩
          with_reducible refine thenC_normal ?_
          refine AWP_ret ?_
          with_reducible refine thenC_ret ?_
          cases hK
          refine EndsRW [] (.inl rfl) (of_decide_eq_true rfl) (by simp) rfl (fun c x hr => ?_) trivial
          simp only [go_sem, reduceIte, reduceCtorEq, Nat.reduceEqDiff, Nat.reduceLT, Nat.reduceLeDiff, Nat.reduceBEq, Nat.reduceAdd, Nat.reduceMul, Nat.reduceSub, Nat.reducePow, Int.reduceLE, Int.reduceLT, Int.reduceNeg, Int.reduceToNat, Int.reduceAdd, Int.reduceSub, idO_app, lenO_app, lenO_app2, lenO_eta] at hr
          obtain ⟨rfl, rfl⟩ := hr
          exact ⟨rfl, endR⟩
        · replace hK := ite_f hK hb4
          refine AWP_skip ?_
          with_reducible refine thenC_normal ?_
          refine AWP_seq ?_
          -- region 16
          refine AWP_rg tab_ok [2, 3, 15, 16] fun c st' hr => ?_
          simp only [go_sem, reduceIte, reduceCtorEq, Nat.reduceEqDiff, Nat.reduceLT, Nat.reduceLeDiff, Nat.reduceBEq, Nat.reduceAdd, Nat.reduceMul, Nat.reduceSub, Nat.reducePow, Int.reduceLE, Int.reduceLT, Int.reduceNeg, Int.reduceToNat, Int.reduceAdd, Int.reduceSub, idO_app, lenO_app, lenO_app2, lenO_eta] at hr
          obtain ⟨rfl, rfl⟩ := hr
          refine ⟨vc, ?_⟩
          with_reducible refine thenC_normal ?_
          refine AWP_seq ?_
          refine AWP_seq ?_
          -- region 17
          replace hK := chk_some hK
          obtain ⟨h, hK⟩ := hK
          refine AWP_rg tab_ok [2, 3, 15, 16, 95, 96] fun c st' hr => ?_
          simp only [go_sem, reduceIte, reduceCtorEq, Nat.reduceEqDiff, Nat.reduceLT, Nat.reduceLeDiff, Nat.reduceBEq, Nat.reduceAdd, Nat.reduceMul, Nat.reduceSub, Nat.reducePow, Int.reduceLE, Int.reduceLT, Int.reduceNeg, Int.reduceToNat, Int.reduceAdd, Int.reduceSub, idO_app, lenO_app, lenO_app2, lenO_eta] at hr
          obtain ⟨rfl, rfl⟩ := hr
          refine ⟨vc, ?_⟩
          with_reducible refine thenC_normal ?_
          refine AWP_block ?_
          refine AWP_loopX 0 (fun ((v, v1) : Int × Int) => ⟨193, [(2, .ptr 0 0 0), (3, .ptr 1 0 0), (15, .int .i64 y5.1), (16, .int .i64 v), (95, .int .i64 (2 ^ x_1.toNat : Int)), (96, .int .i64 v1)], [some (.gen 44 3 [[.int .i64 x_0, .int .i64 x_1, .fn 1 x_2.length (fun i => [.ints .i64 (x_2.getD i [])])]]), some (.gen 44 3 [[.int .i64 a1_0, .int .i64 a1_1, .fn 1 a1_2.length (fun i => [.ints .i64 (a1_2.getD i [])])]])]⟩) (fun (v2 : Int) => ⟨193, [(2, .ptr 0 0 0), (15, .int .i64 y5.1), (16, .int .i64 v2)], [some (.gen 44 3 [[.int .i64 x_0, .int .i64 x_1, .fn 1 x_2.length (fun i => [.ints .i64 (x_2.getD i [])])]])]⟩) Sum.inl (0, 0) [0, 1] hK mkWkR ?_ ?_
          · clear hK; rintro ⟨v, v1⟩ b hK hpost1
            try dsimp only at hK
            change AWP _ _ _ _ ⟨193, [(2, .ptr 0 0 0), (3, .ptr 1 0 0), (15, .int .i64 y5.1), (16, .int .i64 v), (95, .int .i64 (2 ^ x_1.toNat : Int)), (96, .int .i64 v1)], [some (.gen 44 3 [[.int .i64 x_0, .int .i64 x_1, .fn 1 x_2.length (fun i => [.ints .i64 (x_2.getD i [])])]]), some (.gen 44 3 [[.int .i64 a1_0, .int .i64 a1_1, .fn 1 a1_2.length (fun i => [.ints .i64 (a1_2.getD i [])])]])]⟩
            refine AWP_seq ?_
            -- region 18
            refine AWP_rg tab_ok [2, 3, 15, 16, 95, 96, 97] fun c st' hr => ?_
            simp only [go_sem, reduceIte, reduceCtorEq, Nat.reduceEqDiff, Nat.reduceLT, Nat.reduceLeDiff, Nat.reduceBEq, Nat.reduceAdd, Nat.reduceMul, Nat.reduceSub, Nat.reducePow, Int.reduceLE, Int.reduceLT, Int.reduceNeg, Int.reduceToNat, Int.reduceAdd, Int.reduceSub, idO_app, lenO_app, lenO_app2, lenO_eta] at hr
            obtain ⟨rfl, rfl⟩ := hr
            refine ⟨vc, ?_⟩
            with_reducible refine thenC_normal ?_
            refine AWP_seq ?_
            refine AWP_condP (v1 < (2 ^ x_1.toNat : Int)) rfl bd (fun hb5 => ?_) (fun hb5 => ?_)
            · replace hK := ite_t hK hb5
              refine AWP_skip ?_
              with_reducible refine thenC_normal ?_
              refine AWP_seq ?_
              refine AWP_block ?_
              refine AWP_seq ?_
              -- region 19
              refine AWP_rg tab_ok [2, 3, 15, 16, 17, 95, 96] fun c st' hr => ?_
              simp only [go_sem, reduceIte, reduceCtorEq, Nat.reduceEqDiff, Nat.reduceLT, Nat.reduceLeDiff, Nat.reduceBEq, Nat.reduceAdd, Nat.reduceMul, Nat.reduceSub, Nat.reducePow, Int.reduceLE, Int.reduceLT, Int.reduceNeg, Int.reduceToNat, Int.reduceAdd, Int.reduceSub, idO_app, lenO_app, lenO_app2, lenO_eta] at hr
              obtain ⟨rfl, rfl⟩ := hr
              refine ⟨vc, ?_⟩
              with_reducible refine thenC_normal ?_
              refine AWP_seq ?_
              refine AWP_seq ?_
              -- region 20
              refine AWP_drawQ mixed (by kernel_rfl) ?_
              refine AWQL_rn tab_ok 1 [2, 3, 15, 16, 17, 95, 96, 99] fun c st' hr => ?_
              simp only [go_sem, reduceIte, reduceCtorEq, Nat.reduceEqDiff, Nat.reduceLT, Nat.reduceLeDiff, Nat.reduceBEq, Nat.reduceAdd, Nat.reduceMul, Nat.reduceSub, Nat.reducePow, Int.reduceLE, Int.reduceLT, Int.reduceNeg, Int.reduceToNat, Int.reduceAdd, Int.reduceSub, idO_app, lenO_app, lenO_app2, lenO_eta] at hr
              obtain ⟨rfl, rfl⟩ := hr
              refine ⟨vc, ?_⟩
              replace hK := bind_s hK
              obtain ⟨y6, hy, hK⟩ := hK
              refine AWQL_callK [2, 3, 15, 16, 17, 95, 96, 100] (W_rotaref_Size hy) rfl rfl pcT rfl Try.call30 (.cons (.atom _ rfl) .nil) (hscG trivial) (of_decide_eq_true rfl) rfl fun st' hr => ?_
              simp only [go_sem, reduceIte, reduceCtorEq, Nat.reduceEqDiff, Nat.reduceLT, Nat.reduceLeDiff, Nat.reduceBEq, Nat.reduceAdd, Nat.reduceMul, Nat.reduceSub, Nat.reducePow, Int.reduceLE, Int.reduceLT, Int.reduceNeg, Int.reduceToNat, Int.reduceAdd, Int.reduceSub, idO_app, lenO_app, lenO_app2, lenO_eta] at hr
              subst hr
              clear hy
              refine AWQL_rn tab_ok 4 [2, 3, 15, 16, 17, 95, 96, 104] fun c st' hr => ?_
              simp only [go_sem, reduceIte, reduceCtorEq, Nat.reduceEqDiff, Nat.reduceLT, Nat.reduceLeDiff, Nat.reduceBEq, Nat.reduceAdd, Nat.reduceMul, Nat.reduceSub, Nat.reducePow, Int.reduceLE, Int.reduceLT, Int.reduceNeg, Int.reduceToNat, Int.reduceAdd, Int.reduceSub, idO_app, lenO_app, lenO_app2, lenO_eta] at hr
              obtain ⟨rfl, rfl⟩ := hr
              refine ⟨vc, ?_⟩
              refine AWQL_nil ?_
              with_reducible refine thenC_normal ?_
              refine AWP_condP (y6 ≠ (x_2.length : Int)) rfl bd (fun hb6 => ?_) (fun hb6 => ?_)
              · replace hK := ite_t hK hb6
                refine AWP_exit ?_
                with_reducible refine thenC_exit (inBlockA_exit (thenC_normal ?_))
                -- region 43
                replace hK := chk_some hK
                obtain ⟨h1, hK⟩ := hK
                refine AWP_rg tab_ok [2, 3, 15, 16, 95, 96] fun c st' hr => ?_
                simp only [go_sem, reduceIte, reduceCtorEq, Nat.reduceEqDiff, Nat.reduceLT, Nat.reduceLeDiff, Nat.reduceBEq, Nat.reduceAdd, Nat.reduceMul, Nat.reduceSub, Nat.reducePow, Int.reduceLE, Int.reduceLT, Int.reduceNeg, Int.reduceToNat, Int.reduceAdd, Int.reduceSub, idO_app, lenO_app, lenO_app2, lenO_eta] at hr
                obtain ⟨rfl, rfl⟩ := hr
                refine ⟨vc, ?_⟩
                refine again_n (v, v1 + 1) [0, 1] hK mkWkR
              · replace hK := ite_f hK hb6
                refine AWP_skip ?_
                with_reducible refine thenC_normal ?_
                refine AWP_seq ?_
                -- region 21
                refine AWP_drawJ ⟨193, [(2, .ptr 0 0 0), (3, .ptr 1 0 0), (15, .int .i64 y5.1), (16, .int .i64 v), (17, .int .i64 v1), (18, .ptr 2 0 0), (19, .ptr 3 0 0), (95, .int .i64 (2 ^ x_1.toNat : Int)), (96, .int .i64 v1)], [some (.gen 44 3 [[.int .i64 x_0, .int .i64 x_1, .fn 1 x_2.length (fun i => [.ints .i64 (x_2.getD i [])])]]), some (.gen 44 3 [[.int .i64 a1_0, .int .i64 a1_1, .fn 1 a1_2.length (fun i => [.ints .i64 (a1_2.getD i [])])]]), some (.gen 44 3 [[.int .i64 x_0, .int .i64 (x_2.length : Int), .nil]]), some (.gen 44 3 [[.int .i64 x_0, .int .i64 (x_2.length : Int), .nil]])]⟩ mixed ?_ ?_
                · change AWPB _ _ reg_rotakeep_FieldProducts_21.toArray _ _ _ _
                  refine AWPB_memo fun AA hAA => ?_
                  have hn : AA 0 #[true, true, true, true, true, true, true, true, true, true, true, true, true, true, true, true] ⟨193, [(2, .ptr 0 0 0), (3, .ptr 1 0 0), (15, .int .i64 y5.1), (16, .int .i64 v), (17, .int .i64 v1), (18, .ptr 2 0 0), (19, .ptr 3 0 0), (95, .int .i64 (2 ^ x_1.toNat : Int)), (96, .int .i64 v1)], [some (.gen 44 3 [[.int .i64 x_0, .int .i64 x_1, .fn 1 x_2.length (fun i => [.ints .i64 (x_2.getD i [])])]]), some (.gen 44 3 [[.int .i64 a1_0, .int .i64 a1_1, .fn 1 a1_2.length (fun i => [.ints .i64 (a1_2.getD i [])])]]), some (.gen 44 3 [[.int .i64 x_0, .int .i64 (x_2.length : Int), .nil]]), some (.gen 44 3 [[.int .i64 x_0, .int .i64 (x_2.length : Int), .nil]])]⟩ := (hAA _ _ _).2 (by
                    exact AWPB_end [0, 1, 2, 3] ceg_rotakeep_FieldProducts_21_7 mkWkR)
                  have hn1 := J_rotakeep_FieldProducts_21_hn1 hAA hn
                  have hn2 := J_rotakeep_FieldProducts_21_hn2 hAA hn1
                  have hn3 := J_rotakeep_FieldProducts_21_hn3 hAA hn2
                  have hn4 := J_rotakeep_FieldProducts_21_hn4 hAA hn2
                  have hn5 := J_rotakeep_FieldProducts_21_hn5 hAA hn3 hn4
                  have hn6 := J_rotakeep_FieldProducts_21_hn6 hAA hn1
                  have hn7 := J_rotakeep_FieldProducts_21_hn7 hAA hn2 hn6
                  have hn8 := J_rotakeep_FieldProducts_21_hn8 hAA hn3 hn7
                  have hn9 := J_rotakeep_FieldProducts_21_hn9 hAA hn4 hn7
                  have hn10 := J_rotakeep_FieldProducts_21_hn10 hAA hn5 hn8 hn9
                  have hn11 := J_rotakeep_FieldProducts_21_hn11 hAA hn10
                  have hn12 := J_rotakeep_FieldProducts_21_hn12 hAA hn8
                  have hn13 := J_rotakeep_FieldProducts_21_hn13 hAA hn7
                  have hn14 := J_rotakeep_FieldProducts_21_hn14 hAA hn6
                  have hn15 := J_rotakeep_FieldProducts_21_hn15 hAA hn13 hn14
                  have hn16 := J_rotakeep_FieldProducts_21_hn16 hAA hn12 hn15
                  have hn17 := J_rotakeep_FieldProducts_21_hn17 hAA hn9
                  have hn18 := J_rotakeep_FieldProducts_21_hn18 hAA hn17 hn15
                  have hn19 := J_rotakeep_FieldProducts_21_hn19 hAA hn11 hn16 hn18
                  have hn20 := J_rotakeep_FieldProducts_21_hn20 hAA hn6
                  have hn21 := J_rotakeep_FieldProducts_21_hn21 hAA hn7 hn20
                  have hn22 := J_rotakeep_FieldProducts_21_hn22 hAA hn8 hn21
                  have hn23 := J_rotakeep_FieldProducts_21_hn23 hAA hn9 hn21
                  have hn24 := J_rotakeep_FieldProducts_21_hn24 hAA hn10 hn22 hn23
                  have hn25 := J_rotakeep_FieldProducts_21_hn25 hAA hn24
                  have hn26 := J_rotakeep_FieldProducts_21_hn26 hAA hn22
                  have hn27 := J_rotakeep_FieldProducts_21_hn27 hAA hn21
                  have hn28 := J_rotakeep_FieldProducts_21_hn28 hAA hn14
                  have hn29 := J_rotakeep_FieldProducts_21_hn29 hAA hn15 hn27 hn28
                  have hn30 := J_rotakeep_FieldProducts_21_hn30 hAA hn16 hn26 hn29
                  have hn31 := J_rotakeep_FieldProducts_21_hn31 hAA hn23
                  have hn32 := J_rotakeep_FieldProducts_21_hn32 hAA hn18 hn31 hn29
                  have hn33 := J_rotakeep_FieldProducts_21_hn33 hAA hn19 hn25 hn30 hn32
                  have hn34 := J_rotakeep_FieldProducts_21_hn34 hAA hn33
                  have hn35 := J_rotakeep_FieldProducts_21_hn35 hAA hn34
                  have hn36 := J_rotakeep_FieldProducts_21_hn36 hAA hn35
                  exact (hAA _ _ _).2 (AWPB_wk [0, 1] mkWkR ((hAA _ _ _).1 hn36))
                with_reducible refine thenC_normal ?_
                refine AWP_gs' (gs_rows0 3 .i64) fun st' hr => ?_
                simp only [go_sem, reduceIte, reduceCtorEq, Nat.reduceEqDiff, Nat.reduceLT, Nat.reduceLeDiff, Nat.reduceBEq, Nat.reduceAdd, Nat.reduceMul, Nat.reduceSub, Nat.reducePow, Int.reduceLE, Int.reduceLT, Int.reduceNeg, Int.reduceToNat, Int.reduceAdd, Int.reduceSub, idO_app, lenO_app, lenO_app2, lenO_eta, List.cons_append, List.nil_append] at hr
                subst hr
                refine AWP_ownH 2 2 (.outs 22 4 0 idO (lenO [])) rfl rfl rfl fun st' hr => ?_
                simp only [go_sem, reduceIte, reduceCtorEq, Nat.reduceEqDiff, Nat.reduceLT, Nat.reduceLeDiff, Nat.reduceBEq, Nat.reduceAdd, Nat.reduceMul, Nat.reduceSub, Nat.reducePow, Int.reduceLE, Int.reduceLT, Int.reduceNeg, Int.reduceToNat, Int.reduceAdd, Int.reduceSub, idO_app, lenO_app, lenO_app2, lenO_eta] at hr
                subst hr
                refine AWP_gs' (gs_rows0 3 .i64) fun st' hr => ?_
                simp only [go_sem, reduceIte, reduceCtorEq, Nat.reduceEqDiff, Nat.reduceLT, Nat.reduceLeDiff, Nat.reduceBEq, Nat.reduceAdd, Nat.reduceMul, Nat.reduceSub, Nat.reducePow, Int.reduceLE, Int.reduceLT, Int.reduceNeg, Int.reduceToNat, Int.reduceAdd, Int.reduceSub, idO_app, lenO_app, lenO_app2, lenO_eta, List.cons_append, List.nil_append] at hr
                subst hr
                refine AWP_ownH 3 2 (.outs 22 6 0 idO (lenO [])) rfl rfl rfl fun st' hr => ?_
                simp only [go_sem, reduceIte, reduceCtorEq, Nat.reduceEqDiff, Nat.reduceLT, Nat.reduceLeDiff, Nat.reduceBEq, Nat.reduceAdd, Nat.reduceMul, Nat.reduceSub, Nat.reducePow, Int.reduceLE, Int.reduceLT, Int.reduceNeg, Int.reduceToNat, Int.reduceAdd, Int.reduceSub, idO_app, lenO_app, lenO_app2, lenO_eta] at hr
                subst hr
                refine AWP_seq ?_
                refine AWP_seq ?_
                -- region 22
                refine AWP_rg tab_ok [2, 3, 15, 16, 17, 18, 19, 95, 96, 118, 119, 120] fun c st' hr => ?_
                simp only [go_sem, reduceIte, reduceCtorEq, Nat.reduceEqDiff, Nat.reduceLT, Nat.reduceLeDiff, Nat.reduceBEq, Nat.reduceAdd, Nat.reduceMul, Nat.reduceSub, Nat.reducePow, Int.reduceLE, Int.reduceLT, Int.reduceNeg, Int.reduceToNat, Int.reduceAdd, Int.reduceSub, idO_app, lenO_app, lenO_app2, lenO_eta] at hr
                obtain ⟨rfl, rfl⟩ := hr
                refine ⟨vc, ?_⟩
                with_reducible refine thenC_normal ?_
                refine AWP_block ?_
                refine AWP_loopX 2 (fun ((v3, v4) : List (List Int) × Int) => ⟨193, [(2, .ptr 0 0 0), (3, .ptr 1 0 0), (15, .int .i64 y5.1), (16, .int .i64 v), (17, .int .i64 v1), (18, .ptr 2 0 0), (19, .ptr 5 0 0), (95, .int .i64 (2 ^ x_1.toNat : Int)), (96, .int .i64 v1), (118, .fn 1 x_2.length (fun i => [.ints .i64 (x_2.getD i [])])), (119, .int .i64 (x_2.length : Int)), (120, .int .i64 v4)], [some (.gen 44 3 [[.int .i64 x_0, .int .i64 x_1, .fn 1 x_2.length (fun i => [.ints .i64 (x_2.getD i [])])]]), some (.gen 44 3 [[.int .i64 a1_0, .int .i64 a1_1, .fn 1 a1_2.length (fun i => [.ints .i64 (a1_2.getD i [])])]]), some (.gen 44 3 [[.int .i64 x_0, .int .i64 (x_2.length : Int), .own 3 v3.length]]), some (.outs 22 4 v3.length idO (lenO v3)), some (.rows 3 .i64 v3), some (.gen 44 3 [[.int .i64 x_0, .int .i64 (x_2.length : Int), .own 6 0]]), some (.outs 22 7 0 idO (lenO ([] : List (List Int)))), some (.rows 3 .i64 ([] : List (List Int)))]⟩) (fun (v5 : List (List Int)) => ⟨193, [(2, .ptr 0 0 0), (3, .ptr 1 0 0), (15, .int .i64 y5.1), (16, .int .i64 v), (17, .int .i64 v1), (18, .ptr 2 0 0), (19, .ptr 5 0 0), (95, .int .i64 (2 ^ x_1.toNat : Int)), (96, .int .i64 v1)], [some (.gen 44 3 [[.int .i64 x_0, .int .i64 x_1, .fn 1 x_2.length (fun i => [.ints .i64 (x_2.getD i [])])]]), some (.gen 44 3 [[.int .i64 a1_0, .int .i64 a1_1, .fn 1 a1_2.length (fun i => [.ints .i64 (a1_2.getD i [])])]]), some (.gen 44 3 [[.int .i64 x_0, .int .i64 (x_2.length : Int), .own 3 v5.length]]), some (.outs 22 4 v5.length idO (lenO v5)), some (.rows 3 .i64 v5), some (.gen 44 3 [[.int .i64 x_0, .int .i64 (x_2.length : Int), .own 6 0]]), some (.outs 22 7 0 idO (lenO ([] : List (List Int)))), some (.rows 3 .i64 ([] : List (List Int)))]⟩) (fun v => v) (([] : List (List Int)), 0) [0, 1, 2, 5, 4, 3, 7, 6] hK mkWkR ?_ ?_
                · clear hK; rintro ⟨v3, v4⟩ b1 hK hpost2
                  try dsimp only at hK
                  change AWP _ _ _ _ ⟨193, [(2, .ptr 0 0 0), (3, .ptr 1 0 0), (15, .int .i64 y5.1), (16, .int .i64 v), (17, .int .i64 v1), (18, .ptr 2 0 0), (19, .ptr 5 0 0), (95, .int .i64 (2 ^ x_1.toNat : Int)), (96, .int .i64 v1), (118, .fn 1 x_2.length (fun i => [.ints .i64 (x_2.getD i [])])), (119, .int .i64 (x_2.length : Int)), (120, .int .i64 v4)], [some (.gen 44 3 [[.int .i64 x_0, .int .i64 x_1, .fn 1 x_2.length (fun i => [.ints .i64 (x_2.getD i [])])]]), some (.gen 44 3 [[.int .i64 a1_0, .int .i64 a1_1, .fn 1 a1_2.length (fun i => [.ints .i64 (a1_2.getD i [])])]]), some (.gen 44 3 [[.int .i64 x_0, .int .i64 (x_2.length : Int), .own 3 v3.length]]), some (.outs 22 4 v3.length idO (lenO v3)), some (.rows 3 .i64 v3), some (.gen 44 3 [[.int .i64 x_0, .int .i64 (x_2.length : Int), .own 6 0]]), some (.outs 22 7 0 idO (lenO ([] : List (List Int)))), some (.rows 3 .i64 ([] : List (List Int)))]⟩
                  refine AWP_seq ?_
                  -- region 23
                  refine AWP_rg tab_ok [2, 3, 15, 16, 17, 18, 19, 95, 96, 118, 119, 120, 121] fun c st' hr => ?_
                  simp only [go_sem, reduceIte, reduceCtorEq, Nat.reduceEqDiff, Nat.reduceLT, Nat.reduceLeDiff, Nat.reduceBEq, Nat.reduceAdd, Nat.reduceMul, Nat.reduceSub, Nat.reducePow, Int.reduceLE, Int.reduceLT, Int.reduceNeg, Int.reduceToNat, Int.reduceAdd, Int.reduceSub, idO_app, lenO_app, lenO_app2, lenO_eta] at hr
                  obtain ⟨rfl, rfl⟩ := hr
                  refine ⟨vc, ?_⟩
                  with_reducible refine thenC_normal ?_
                  refine AWP_seq ?_
                  refine AWP_condP (v4 < (x_2.length : Int)) rfl bd (fun hb7 => ?_) (fun hb7 => ?_)
                  · replace hK := ite_t hK hb7
                    refine AWP_skip ?_
                    with_reducible refine thenC_normal ?_
                    refine AWP_seq ?_
                    refine AWP_block ?_
                    refine AWP_seq ?_
                    -- region 24
                    replace hK := chk_some hK
                    obtain ⟨h2, hK⟩ := hK
                    refine AWP_rg tab_ok [2, 3, 15, 16, 17, 18, 19, 21, 95, 96, 118, 119, 120] fun c st' hr => ?_
                    simp only [go_sem, reduceIte, reduceCtorEq, Nat.reduceEqDiff, Nat.reduceLT, Nat.reduceLeDiff, Nat.reduceBEq, Nat.reduceAdd, Nat.reduceMul, Nat.reduceSub, Nat.reducePow, Int.reduceLE, Int.reduceLT, Int.reduceNeg, Int.reduceToNat, Int.reduceAdd, Int.reduceSub, idO_app, lenO_app, lenO_app2, lenO_eta] at hr
                    obtain ⟨rfl, rfl⟩ := hr
                    refine ⟨vc, ?_⟩
                    with_reducible refine thenC_normal ?_
                    refine AWP_seq ?_
                    -- region 25
                    refine AWP_rg tab_ok [2, 3, 15, 16, 17, 18, 19, 21, 22, 95, 96, 118, 119, 120] fun c st' hr => ?_
                    simp only [go_sem, reduceIte, reduceCtorEq, Nat.reduceEqDiff, Nat.reduceLT, Nat.reduceLeDiff, Nat.reduceBEq, Nat.reduceAdd, Nat.reduceMul, Nat.reduceSub, Nat.reducePow, Int.reduceLE, Int.reduceLT, Int.reduceNeg, Int.reduceToNat, Int.reduceAdd, Int.reduceSub, idO_app, lenO_app, lenO_app2, lenO_eta] at hr
                    obtain ⟨rfl, rfl⟩ := hr
                    refine ⟨vc, ?_⟩
                    with_reducible refine thenC_normal ?_
                    refine AWP_own 22 (.ints 3 .i64 []) rfl rfl fun st' hr => ?_
                    simp only [go_sem, reduceIte, reduceCtorEq, Nat.reduceEqDiff, Nat.reduceLT, Nat.reduceLeDiff, Nat.reduceBEq, Nat.reduceAdd, Nat.reduceMul, Nat.reduceSub, Nat.reducePow, Int.reduceLE, Int.reduceLT, Int.reduceNeg, Int.reduceToNat, Int.reduceAdd, Int.reduceSub, idO_app, lenO_app, lenO_app2, lenO_eta] at hr
                    subst hr
                    refine AWP_seq ?_
                    refine AWP_seq ?_
                    -- region 26
                    refine AWP_rl ?_
                    refine AWPL_rn tab_ok 1 [2, 3, 15, 16, 17, 18, 19, 21, 22, 95, 96, 118, 119, 120, 124] fun c st' hr => ?_
                    simp only [go_sem, reduceIte, reduceCtorEq, Nat.reduceEqDiff, Nat.reduceLT, Nat.reduceLeDiff, Nat.reduceBEq, Nat.reduceAdd, Nat.reduceMul, Nat.reduceSub, Nat.reducePow, Int.reduceLE, Int.reduceLT, Int.reduceNeg, Int.reduceToNat, Int.reduceAdd, Int.reduceSub, idO_app, lenO_app, lenO_app2, lenO_eta] at hr
                    obtain ⟨rfl, rfl⟩ := hr
                    refine ⟨vc, ?_⟩
                    replace hK := bind_s hK
                    obtain ⟨y7, hy, hK⟩ := hK
                    refine AWPL_callK [2, 3, 15, 16, 17, 18, 19, 21, 22, 95, 96, 118, 119, 120, 125] (W_rotaref_Elements hy) rfl rfl pcT rfl Try.call31 (.cons (.atom _ rfl) .nil) (hscG trivial) (of_decide_eq_true rfl) (by first | rfl | simp [nI, nI1, nI0]) (by first | rfl | simp [nIB, nI0]) fun st' hr => ?_
                    simp only [go_sem, reduceIte, reduceCtorEq, Nat.reduceEqDiff, Nat.reduceLT, Nat.reduceLeDiff, Nat.reduceBEq, Nat.reduceAdd, Nat.reduceMul, Nat.reduceSub, Nat.reducePow, Int.reduceLE, Int.reduceLT, Int.reduceNeg, Int.reduceToNat, Int.reduceAdd, Int.reduceSub, idO_app, lenO_app, lenO_app2, lenO_eta] at hr
                    subst hr
                    clear hy
                    refine AWPL_rn tab_ok 2 [2, 3, 15, 16, 17, 18, 19, 21, 22, 95, 96, 118, 119, 120, 125, 126, 127] fun c st' hr => ?_
                    simp only [go_sem, reduceIte, reduceCtorEq, Nat.reduceEqDiff, Nat.reduceLT, Nat.reduceLeDiff, Nat.reduceBEq, Nat.reduceAdd, Nat.reduceMul, Nat.reduceSub, Nat.reducePow, Int.reduceLE, Int.reduceLT, Int.reduceNeg, Int.reduceToNat, Int.reduceAdd, Int.reduceSub, idO_app, lenO_app, lenO_app2, lenO_eta] at hr
                    obtain ⟨rfl, rfl⟩ := hr
                    refine ⟨vc, ?_⟩
                    refine AWPL_nil ?_
                    with_reducible refine thenC_normal ?_
                    refine AWP_block ?_
                    refine AWP_loopX 4 (fun ((v6, v7) : List Int × Int) => ⟨193, [(2, .ptr 0 0 0), (3, .ptr 1 0 0), (15, .int .i64 y5.1), (16, .int .i64 v), (17, .int .i64 v1), (18, .ptr 2 0 0), (19, .ptr 5 0 0), (21, .ints .i64 (x_2.getD v4.toNat [])), (22, .own 8 v6.length), (95, .int .i64 (2 ^ x_1.toNat : Int)), (96, .int .i64 v1), (118, .fn 1 x_2.length (fun i => [.ints .i64 (x_2.getD i [])])), (119, .int .i64 (x_2.length : Int)), (120, .int .i64 v4), (125, .own 9 y7.length), (126, .int .i64 (y7.length : Int)), (127, .int .i64 v7)], [some (.gen 44 3 [[.int .i64 x_0, .int .i64 x_1, .fn 1 x_2.length (fun i => [.ints .i64 (x_2.getD i [])])]]), some (.gen 44 3 [[.int .i64 a1_0, .int .i64 a1_1, .fn 1 a1_2.length (fun i => [.ints .i64 (a1_2.getD i [])])]]), some (.gen 44 3 [[.int .i64 x_0, .int .i64 (x_2.length : Int), .own 3 v3.length]]), some (.outs 22 4 v3.length idO (lenO v3)), some (.rows 3 .i64 v3), some (.gen 44 3 [[.int .i64 x_0, .int .i64 (x_2.length : Int), .own 6 0]]), some (.outs 22 7 0 idO (lenO ([] : List (List Int)))), some (.rows 3 .i64 ([] : List (List Int))), some (.ints 3 .i64 v6), some (.ints 3 .i64 y7)]⟩) (fun (v8 : List Int) => ⟨193, [(2, .ptr 0 0 0), (3, .ptr 1 0 0), (15, .int .i64 y5.1), (16, .int .i64 v), (17, .int .i64 v1), (18, .ptr 2 0 0), (19, .ptr 5 0 0), (22, .own 8 v8.length), (95, .int .i64 (2 ^ x_1.toNat : Int)), (96, .int .i64 v1), (118, .fn 1 x_2.length (fun i => [.ints .i64 (x_2.getD i [])])), (119, .int .i64 (x_2.length : Int)), (120, .int .i64 v4)], [some (.gen 44 3 [[.int .i64 x_0, .int .i64 x_1, .fn 1 x_2.length (fun i => [.ints .i64 (x_2.getD i [])])]]), some (.gen 44 3 [[.int .i64 a1_0, .int .i64 a1_1, .fn 1 a1_2.length (fun i => [.ints .i64 (a1_2.getD i [])])]]), some (.gen 44 3 [[.int .i64 x_0, .int .i64 (x_2.length : Int), .own 3 v3.length]]), some (.outs 22 4 v3.length idO (lenO v3)), some (.rows 3 .i64 v3), some (.gen 44 3 [[.int .i64 x_0, .int .i64 (x_2.length : Int), .own 6 0]]), some (.outs 22 7 0 idO (lenO ([] : List (List Int)))), some (.rows 3 .i64 ([] : List (List Int))), some (.ints 3 .i64 v8)]⟩) (fun v => v) ([], 0) [0, 1, 2, 3, 4, 5, 6, 7, 8, 9] hK mkWkR ?_ ?_
                    · clear hK; rintro ⟨v6, v7⟩ b2 hK hpost3
                      try dsimp only at hK
                      change AWP _ _ _ _ ⟨193, [(2, .ptr 0 0 0), (3, .ptr 1 0 0), (15, .int .i64 y5.1), (16, .int .i64 v), (17, .int .i64 v1), (18, .ptr 2 0 0), (19, .ptr 5 0 0), (21, .ints .i64 (x_2.getD v4.toNat [])), (22, .own 8 v6.length), (95, .int .i64 (2 ^ x_1.toNat : Int)), (96, .int .i64 v1), (118, .fn 1 x_2.length (fun i => [.ints .i64 (x_2.getD i [])])), (119, .int .i64 (x_2.length : Int)), (120, .int .i64 v4), (125, .own 9 y7.length), (126, .int .i64 (y7.length : Int)), (127, .int .i64 v7)], [some (.gen 44 3 [[.int .i64 x_0, .int .i64 x_1, .fn 1 x_2.length (fun i => [.ints .i64 (x_2.getD i [])])]]), some (.gen 44 3 [[.int .i64 a1_0, .int .i64 a1_1, .fn 1 a1_2.length (fun i => [.ints .i64 (a1_2.getD i [])])]]), some (.gen 44 3 [[.int .i64 x_0, .int .i64 (x_2.length : Int), .own 3 v3.length]]), some (.outs 22 4 v3.length idO (lenO v3)), some (.rows 3 .i64 v3), some (.gen 44 3 [[.int .i64 x_0, .int .i64 (x_2.length : Int), .own 6 0]]), some (.outs 22 7 0 idO (lenO ([] : List (List Int)))), some (.rows 3 .i64 ([] : List (List Int))), some (.ints 3 .i64 v6), some (.ints 3 .i64 y7)]⟩
                      refine AWP_seq ?_
                      -- region 27
                      refine AWP_rg tab_ok [2, 3, 15, 16, 17, 18, 19, 21, 22, 95, 96, 118, 119, 120, 125, 126, 127, 128] fun c st' hr => ?_
                      simp only [go_sem, reduceIte, reduceCtorEq, Nat.reduceEqDiff, Nat.reduceLT, Nat.reduceLeDiff, Nat.reduceBEq, Nat.reduceAdd, Nat.reduceMul, Nat.reduceSub, Nat.reducePow, Int.reduceLE, Int.reduceLT, Int.reduceNeg, Int.reduceToNat, Int.reduceAdd, Int.reduceSub, idO_app, lenO_app, lenO_app2, lenO_eta] at hr
                      obtain ⟨rfl, rfl⟩ := hr
                      refine ⟨vc, ?_⟩
                      with_reducible refine thenC_normal ?_
                      refine AWP_seq ?_
                      refine AWP_condP (v7 < (y7.length : Int)) rfl bd (fun hb8 => ?_) (fun hb8 => ?_)
                      · replace hK := ite_t hK hb8
                        refine AWP_skip ?_
                        with_reducible refine thenC_normal ?_
                        refine AWP_seq ?_
                        refine AWP_block ?_
                        refine AWP_seq ?_
                        -- region 28
                        replace hK := chk_some hK
                        obtain ⟨h3, hK⟩ := hK
                        refine AWP_rg tab_ok [2, 3, 15, 16, 17, 18, 19, 21, 22, 24, 95, 96, 118, 119, 120, 125, 126, 127] fun c st' hr => ?_
                        simp only [go_sem, reduceIte, reduceCtorEq, Nat.reduceEqDiff, Nat.reduceLT, Nat.reduceLeDiff, Nat.reduceBEq, Nat.reduceAdd, Nat.reduceMul, Nat.reduceSub, Nat.reducePow, Int.reduceLE, Int.reduceLT, Int.reduceNeg, Int.reduceToNat, Int.reduceAdd, Int.reduceSub, idO_app, lenO_app, lenO_app2, lenO_eta] at hr
                        obtain ⟨rfl, rfl⟩ := hr
                        refine ⟨vc, ?_⟩
                        with_reducible refine thenC_normal ?_
                        -- region 29
                        replace hK := chk_some hK
                        obtain ⟨h4, hK⟩ := hK
                        refine AWP_rg tab_ok [2, 3, 15, 16, 17, 18, 19, 21, 22, 95, 96, 118, 119, 120, 125, 126, 127] fun c st' hr => ?_
                        simp only [go_sem, reduceIte, reduceCtorEq, Nat.reduceEqDiff, Nat.reduceLT, Nat.reduceLeDiff, Nat.reduceBEq, Nat.reduceAdd, Nat.reduceMul, Nat.reduceSub, Nat.reducePow, Int.reduceLE, Int.reduceLT, Int.reduceNeg, Int.reduceToNat, Int.reduceAdd, Int.reduceSub, idO_app, lenO_app, lenO_app2, lenO_eta] at hr
                        obtain ⟨rfl, rfl⟩ := hr
                        refine ⟨vc, ?_⟩
                        with_reducible refine inBlockA_normal (thenC_normal ?_)
                        -- region 30
                        refine AWP_facts (by simp) fun hfx => ?_
                        simp only [factS, factV, fact1, fact0, factL0, lo, hi, maxLen, and_true, true_and] at hfx
                        refine AWP_rg tab_ok [2, 3, 15, 16, 17, 18, 19, 21, 22, 95, 96, 118, 119, 120, 125, 126, 127] fun c st' hr => ?_
                        simp only [go_sem, reduceIte, reduceCtorEq, Nat.reduceEqDiff, Nat.reduceLT, Nat.reduceLeDiff, Nat.reduceBEq, Nat.reduceAdd, Nat.reduceMul, Nat.reduceSub, Nat.reducePow, Int.reduceLE, Int.reduceLT, Int.reduceNeg, Int.reduceToNat, Int.reduceAdd, Int.reduceSub, idO_app, lenO_app, lenO_app2, lenO_eta] at hr
                        obtain ⟨rfl, rfl⟩ := hr
                        refine ⟨vc, ?_⟩
                        clear hfx
                        refine again_n (v6 ++ [(x_2.getD v4.toNat []).getD (y7.getD v7.toNat 0).toNat 0], v7 + 1) [0, 1, 2, 3, 4, 5, 6, 7, 11, 9] hK mkWkR
                      · replace hK := ite_f hK hb8
                        refine AWP_exit ?_
                        with_reducible refine thenC_exit (again_x ?_)
                        refine cutX_here v6 [0, 1, 2, 3, 4, 5, 6, 7, 8] (by have hq := hpost3 _ hK; exact hq) mkWkR
                    · clear hK; rintro v8 hK
                      try dsimp only at hK
                      refine exS ⟨193, [(2, .ptr 0 0 0), (3, .ptr 1 0 0), (15, .int .i64 y5.1), (16, .int .i64 v), (17, .int .i64 v1), (18, .ptr 2 0 0), (19, .ptr 5 0 0), (22, .own 8 v8.length), (95, .int .i64 (2 ^ x_1.toNat : Int)), (96, .int .i64 v1), (118, .fn 1 x_2.length (fun i => [.ints .i64 (x_2.getD i [])])), (119, .int .i64 (x_2.length : Int)), (120, .int .i64 v4)], [some (.gen 44 3 [[.int .i64 x_0, .int .i64 x_1, .fn 1 x_2.length (fun i => [.ints .i64 (x_2.getD i [])])]]), some (.gen 44 3 [[.int .i64 a1_0, .int .i64 a1_1, .fn 1 a1_2.length (fun i => [.ints .i64 (a1_2.getD i [])])]]), some (.gen 44 3 [[.int .i64 x_0, .int .i64 (x_2.length : Int), .own 3 v3.length]]), some (.outs 22 4 v3.length idO (lenO v3)), some (.rows 3 .i64 v3), some (.gen 44 3 [[.int .i64 x_0, .int .i64 (x_2.length : Int), .own 6 0]]), some (.outs 22 7 0 idO (lenO ([] : List (List Int)))), some (.rows 3 .i64 ([] : List (List Int))), some (.ints 3 .i64 v8)]⟩ rfl ?_
                      with_reducible refine inBlockA_exit (thenC_normal ?_)
                      -- region 31
                      refine AWP_rl ?_
                      refine AWPL_rn tab_ok 3 [2, 3, 15, 16, 17, 18, 19, 95, 96, 118, 119, 120, 140, 141] fun c st' hr => ?_
                      simp only [go_sem, reduceIte, reduceCtorEq, Nat.reduceEqDiff, Nat.reduceLT, Nat.reduceLeDiff, Nat.reduceBEq, Nat.reduceAdd, Nat.reduceMul, Nat.reduceSub, Nat.reducePow, Int.reduceLE, Int.reduceLT, Int.reduceNeg, Int.reduceToNat, Int.reduceAdd, Int.reduceSub, idO_app, lenO_app, lenO_app2, lenO_eta] at hr
                      obtain ⟨rfl, rfl⟩ := hr
                      refine ⟨vc, ?_⟩
                      refine AWPL_gs' (gs_adopt 141 4 rfl (by first | rfl | (simp; done)) rfl rfl (by first | rfl | (simp [noPin]; done))) fun st' hr => ?_
                      simp only [go_sem, reduceIte, reduceCtorEq, Nat.reduceEqDiff, Nat.reduceLT, Nat.reduceLeDiff, Nat.reduceBEq, Nat.reduceAdd, Nat.reduceMul, Nat.reduceSub, Nat.reducePow, Int.reduceLE, Int.reduceLT, Int.reduceNeg, Int.reduceToNat, Int.reduceAdd, Int.reduceSub, idO_app, lenO_app, lenO_app2, lenO_eta, List.set_cons_zero, List.set_cons_succ] at hr
                      subst hr
                      replace hK := chk_some hK
                      obtain ⟨h5, hK⟩ := hK
                      refine AWPL_rn tab_ok 4 [2, 3, 15, 16, 17, 18, 19, 95, 96, 118, 119, 120] fun c st' hr => ?_
                      simp only [go_sem, reduceIte, reduceCtorEq, Nat.reduceEqDiff, Nat.reduceLT, Nat.reduceLeDiff, Nat.reduceBEq, Nat.reduceAdd, Nat.reduceMul, Nat.reduceSub, Nat.reducePow, Int.reduceLE, Int.reduceLT, Int.reduceNeg, Int.reduceToNat, Int.reduceAdd, Int.reduceSub, idO_app, lenO_app, lenO_app2, lenO_eta] at hr
                      obtain ⟨rfl, rfl⟩ := hr
                      refine ⟨vc, ?_⟩
                      refine AWPL_nil ?_
                      with_reducible refine inBlockA_normal (thenC_normal ?_)
                      -- region 32
                      refine AWP_facts (by simp) fun hfx => ?_
                      simp only [factS, factV, fact1, fact0, factL0, lo, hi, maxLen, and_true, true_and] at hfx
                      refine AWP_rg tab_ok [2, 3, 15, 16, 17, 18, 19, 95, 96, 118, 119, 120] fun c st' hr => ?_
                      simp only [go_sem, reduceIte, reduceCtorEq, Nat.reduceEqDiff, Nat.reduceLT, Nat.reduceLeDiff, Nat.reduceBEq, Nat.reduceAdd, Nat.reduceMul, Nat.reduceSub, Nat.reducePow, Int.reduceLE, Int.reduceLT, Int.reduceNeg, Int.reduceToNat, Int.reduceAdd, Int.reduceSub, idO_app, lenO_app, lenO_app2, lenO_eta] at hr
                      obtain ⟨rfl, rfl⟩ := hr
                      refine ⟨vc, ?_⟩
                      clear hfx
                      refine again_n (v3 ++ [v8], v4 + 1) [0, 1, 2, 10, 4, 5, 6, 7] hK mkWkR
                  · replace hK := ite_f hK hb7
                    refine AWP_exit ?_
                    with_reducible refine thenC_exit (again_x ?_)
                    refine cutX_here v3 [0, 1, 2, 3, 4, 5, 6, 7] (by have hq := hpost2 _ hK; exact hq) mkWkR
                · clear hK; rintro v5 hK
                  try dsimp only at hK
                  refine exS ⟨193, [(2, .ptr 0 0 0), (3, .ptr 1 0 0), (15, .int .i64 y5.1), (16, .int .i64 v), (17, .int .i64 v1), (18, .ptr 2 0 0), (19, .ptr 5 0 0), (95, .int .i64 (2 ^ x_1.toNat : Int)), (96, .int .i64 v1)], [some (.gen 44 3 [[.int .i64 x_0, .int .i64 x_1, .fn 1 x_2.length (fun i => [.ints .i64 (x_2.getD i [])])]]), some (.gen 44 3 [[.int .i64 a1_0, .int .i64 a1_1, .fn 1 a1_2.length (fun i => [.ints .i64 (a1_2.getD i [])])]]), some (.gen 44 3 [[.int .i64 x_0, .int .i64 (x_2.length : Int), .own 3 v5.length]]), some (.outs 22 4 v5.length idO (lenO v5)), some (.rows 3 .i64 v5), some (.gen 44 3 [[.int .i64 x_0, .int .i64 (x_2.length : Int), .own 6 0]]), some (.outs 22 7 0 idO (lenO ([] : List (List Int)))), some (.rows 3 .i64 ([] : List (List Int)))]⟩ rfl ?_
                  with_reducible refine inBlockA_exit (thenC_normal ?_)
                  refine AWP_seq ?_
                  refine AWP_seq ?_
                  -- region 33
                  refine AWP_rl ?_
                  refine AWPL_rn tab_ok 1 [2, 3, 15, 16, 18, 19, 95, 96, 146] fun c st' hr => ?_
                  simp only [go_sem, reduceIte, reduceCtorEq, Nat.reduceEqDiff, Nat.reduceLT, Nat.reduceLeDiff, Nat.reduceBEq, Nat.reduceAdd, Nat.reduceMul, Nat.reduceSub, Nat.reducePow, Int.reduceLE, Int.reduceLT, Int.reduceNeg, Int.reduceToNat, Int.reduceAdd, Int.reduceSub, idO_app, lenO_app, lenO_app2, lenO_eta] at hr
                  obtain ⟨rfl, rfl⟩ := hr
                  refine ⟨vc, ?_⟩
                  replace hK := bind_s hK
                  obtain ⟨y8, hy, hK⟩ := hK
                  refine AWPL_callK [2, 3, 15, 16, 18, 19, 95, 96, 147] (W_rotaref_Elements hy) rfl rfl pcT rfl Try.call31 (.cons (.atom _ rfl) .nil) (hscG trivial) (of_decide_eq_true rfl) (by first | rfl | simp [nI, nI1, nI0]) (by first | rfl | simp [nIB, nI0]) fun st' hr => ?_
                  simp only [go_sem, reduceIte, reduceCtorEq, Nat.reduceEqDiff, Nat.reduceLT, Nat.reduceLeDiff, Nat.reduceBEq, Nat.reduceAdd, Nat.reduceMul, Nat.reduceSub, Nat.reducePow, Int.reduceLE, Int.reduceLT, Int.reduceNeg, Int.reduceToNat, Int.reduceAdd, Int.reduceSub, idO_app, lenO_app, lenO_app2, lenO_eta] at hr
                  subst hr
                  clear hy
                  refine AWPL_rn tab_ok 2 [2, 3, 15, 16, 18, 19, 95, 96, 147, 148, 149] fun c st' hr => ?_
                  simp only [go_sem, reduceIte, reduceCtorEq, Nat.reduceEqDiff, Nat.reduceLT, Nat.reduceLeDiff, Nat.reduceBEq, Nat.reduceAdd, Nat.reduceMul, Nat.reduceSub, Nat.reducePow, Int.reduceLE, Int.reduceLT, Int.reduceNeg, Int.reduceToNat, Int.reduceAdd, Int.reduceSub, idO_app, lenO_app, lenO_app2, lenO_eta] at hr
                  obtain ⟨rfl, rfl⟩ := hr
                  refine ⟨vc, ?_⟩
                  refine AWPL_nil ?_
                  with_reducible refine thenC_normal ?_
                  refine AWP_block ?_
                  refine AWP_loopX 6 (fun ((v9, v10) : List (List Int) × Int) => ⟨193, [(2, .ptr 0 0 0), (3, .ptr 1 0 0), (15, .int .i64 y5.1), (16, .int .i64 v), (18, .ptr 2 0 0), (19, .ptr 5 0 0), (95, .int .i64 (2 ^ x_1.toNat : Int)), (96, .int .i64 v1), (147, .own 8 y8.length), (148, .int .i64 (y8.length : Int)), (149, .int .i64 v10)], [some (.gen 44 3 [[.int .i64 x_0, .int .i64 x_1, .fn 1 x_2.length (fun i => [.ints .i64 (x_2.getD i [])])]]), some (.gen 44 3 [[.int .i64 a1_0, .int .i64 a1_1, .fn 1 a1_2.length (fun i => [.ints .i64 (a1_2.getD i [])])]]), some (.gen 44 3 [[.int .i64 x_0, .int .i64 (x_2.length : Int), .own 3 v5.length]]), some (.outs 22 4 v5.length idO (lenO v5)), some (.rows 3 .i64 v5), some (.gen 44 3 [[.int .i64 x_0, .int .i64 (x_2.length : Int), .own 6 v9.length]]), some (.outs 22 7 v9.length idO (lenO v9)), some (.rows 3 .i64 v9), some (.ints 3 .i64 y8)]⟩) (fun (v11 : List (List Int)) => ⟨193, [(2, .ptr 0 0 0), (3, .ptr 1 0 0), (15, .int .i64 y5.1), (16, .int .i64 v), (18, .ptr 2 0 0), (19, .ptr 5 0 0), (95, .int .i64 (2 ^ x_1.toNat : Int)), (96, .int .i64 v1)], [some (.gen 44 3 [[.int .i64 x_0, .int .i64 x_1, .fn 1 x_2.length (fun i => [.ints .i64 (x_2.getD i [])])]]), some (.gen 44 3 [[.int .i64 a1_0, .int .i64 a1_1, .fn 1 a1_2.length (fun i => [.ints .i64 (a1_2.getD i [])])]]), some (.gen 44 3 [[.int .i64 x_0, .int .i64 (x_2.length : Int), .own 3 v5.length]]), some (.outs 22 4 v5.length idO (lenO v5)), some (.rows 3 .i64 v5), some (.gen 44 3 [[.int .i64 x_0, .int .i64 (x_2.length : Int), .own 6 v11.length]]), some (.outs 22 7 v11.length idO (lenO v11)), some (.rows 3 .i64 v11)]⟩) (fun v => v) (([] : List (List Int)), 0) [0, 1, 2, 3, 4, 5, 6, 7, 8] hK mkWkR ?_ ?_
                  · clear hK; rintro ⟨v9, v10⟩ b3 hK hpost3
                    try dsimp only at hK
                    change AWP _ _ _ _ ⟨193, [(2, .ptr 0 0 0), (3, .ptr 1 0 0), (15, .int .i64 y5.1), (16, .int .i64 v), (18, .ptr 2 0 0), (19, .ptr 5 0 0), (95, .int .i64 (2 ^ x_1.toNat : Int)), (96, .int .i64 v1), (147, .own 8 y8.length), (148, .int .i64 (y8.length : Int)), (149, .int .i64 v10)], [some (.gen 44 3 [[.int .i64 x_0, .int .i64 x_1, .fn 1 x_2.length (fun i => [.ints .i64 (x_2.getD i [])])]]), some (.gen 44 3 [[.int .i64 a1_0, .int .i64 a1_1, .fn 1 a1_2.length (fun i => [.ints .i64 (a1_2.getD i [])])]]), some (.gen 44 3 [[.int .i64 x_0, .int .i64 (x_2.length : Int), .own 3 v5.length]]), some (.outs 22 4 v5.length idO (lenO v5)), some (.rows 3 .i64 v5), some (.gen 44 3 [[.int .i64 x_0, .int .i64 (x_2.length : Int), .own 6 v9.length]]), some (.outs 22 7 v9.length idO (lenO v9)), some (.rows 3 .i64 v9), some (.ints 3 .i64 y8)]⟩
                    refine AWP_seq ?_
                    -- region 34
                    refine AWP_rg tab_ok [2, 3, 15, 16, 18, 19, 95, 96, 147, 148, 149, 150] fun c st' hr => ?_
                    simp only [go_sem, reduceIte, reduceCtorEq, Nat.reduceEqDiff, Nat.reduceLT, Nat.reduceLeDiff, Nat.reduceBEq, Nat.reduceAdd, Nat.reduceMul, Nat.reduceSub, Nat.reducePow, Int.reduceLE, Int.reduceLT, Int.reduceNeg, Int.reduceToNat, Int.reduceAdd, Int.reduceSub, idO_app, lenO_app, lenO_app2, lenO_eta] at hr
                    obtain ⟨rfl, rfl⟩ := hr
                    refine ⟨vc, ?_⟩
                    with_reducible refine thenC_normal ?_
                    refine AWP_seq ?_
                    refine AWP_condP (v10 < (y8.length : Int)) rfl bd (fun hb9 => ?_) (fun hb9 => ?_)
                    · replace hK := ite_t hK hb9
                      refine AWP_skip ?_
                      with_reducible refine thenC_normal ?_
                      refine AWP_seq ?_
                      refine AWP_block ?_
                      refine AWP_seq ?_
                      -- region 35
                      replace hK := chk_some hK
                      obtain ⟨h6, hK⟩ := hK
                      refine AWP_rg tab_ok [2, 3, 15, 16, 18, 19, 26, 95, 96, 147, 148, 149] fun c st' hr => ?_
                      simp only [go_sem, reduceIte, reduceCtorEq, Nat.reduceEqDiff, Nat.reduceLT, Nat.reduceLeDiff, Nat.reduceBEq, Nat.reduceAdd, Nat.reduceMul, Nat.reduceSub, Nat.reducePow, Int.reduceLE, Int.reduceLT, Int.reduceNeg, Int.reduceToNat, Int.reduceAdd, Int.reduceSub, idO_app, lenO_app, lenO_app2, lenO_eta] at hr
                      obtain ⟨rfl, rfl⟩ := hr
                      refine ⟨vc, ?_⟩
                      with_reducible refine thenC_normal ?_
                      -- region 36
                      replace hK := chk_some hK
                      obtain ⟨h7, hK⟩ := hK
                      replace hK := chk_some hK
                      obtain ⟨h8, hK⟩ := hK
                      replace hK := chk_some hK
                      obtain ⟨h9, hK⟩ := hK
                      refine AWP_drawJ ⟨193, [(2, .ptr 0 0 0), (3, .ptr 1 0 0), (15, .int .i64 y5.1), (16, .int .i64 v), (18, .ptr 2 0 0), (19, .ptr 5 0 0), (95, .int .i64 (2 ^ x_1.toNat : Int)), (96, .int .i64 v1), (147, .own 8 y8.length), (148, .int .i64 (y8.length : Int)), (149, .int .i64 v10)], [some (.gen 44 3 [[.int .i64 x_0, .int .i64 x_1, .fn 1 x_2.length (fun i => [.ints .i64 (x_2.getD i [])])]]), some (.gen 44 3 [[.int .i64 a1_0, .int .i64 a1_1, .fn 1 a1_2.length (fun i => [.ints .i64 (a1_2.getD i [])])]]), some (.gen 44 3 [[.int .i64 x_0, .int .i64 (x_2.length : Int), .own 3 v5.length]]), some (.outs 22 4 v5.length idO (lenO v5)), some (.rows 3 .i64 v5), some (.gen 44 3 [[.int .i64 x_0, .int .i64 (x_2.length : Int), .own 11 ((v9 ++ [(a1_2.getD (y8.getD v10.toNat 0).toNat [])]).length)]]), none, some (.rows 3 .i64 (v9 ++ [(a1_2.getD (y8.getD v10.toNat 0).toNat [])])), some (.ints 3 .i64 y8), none, none, some (.outs 22 7 ((v9 ++ [(a1_2.getD (y8.getD v10.toNat 0).toNat [])]).length) idO (lenO (v9 ++ [(a1_2.getD (y8.getD v10.toNat 0).toNat [])])))]⟩ mixed ?_ ?_
                      · change AWPB _ _ reg_rotakeep_FieldProducts_36.toArray _ _ _ _
                        refine AWPB_memo fun AA hAA => ?_
                        have hn37 : AA 0 #[true, true, true, true, true, true, true, true, true, true, true, true] ⟨193, [(2, .ptr 0 0 0), (3, .ptr 1 0 0), (15, .int .i64 y5.1), (16, .int .i64 v), (18, .ptr 2 0 0), (19, .ptr 5 0 0), (95, .int .i64 (2 ^ x_1.toNat : Int)), (96, .int .i64 v1), (147, .own 8 y8.length), (148, .int .i64 (y8.length : Int)), (149, .int .i64 v10)], [some (.gen 44 3 [[.int .i64 x_0, .int .i64 x_1, .fn 1 x_2.length (fun i => [.ints .i64 (x_2.getD i [])])]]), some (.gen 44 3 [[.int .i64 a1_0, .int .i64 a1_1, .fn 1 a1_2.length (fun i => [.ints .i64 (a1_2.getD i [])])]]), some (.gen 44 3 [[.int .i64 x_0, .int .i64 (x_2.length : Int), .own 3 v5.length]]), some (.outs 22 4 v5.length idO (lenO v5)), some (.rows 3 .i64 v5), some (.gen 44 3 [[.int .i64 x_0, .int .i64 (x_2.length : Int), .own 11 ((v9 ++ [(a1_2.getD (y8.getD v10.toNat 0).toNat [])]).length)]]), none, some (.rows 3 .i64 (v9 ++ [(a1_2.getD (y8.getD v10.toNat 0).toNat [])])), some (.ints 3 .i64 y8), none, none, some (.outs 22 7 ((v9 ++ [(a1_2.getD (y8.getD v10.toNat 0).toNat [])]).length) idO (lenO (v9 ++ [(a1_2.getD (y8.getD v10.toNat 0).toNat [])])))]⟩ := (hAA _ _ _).2 (by
                          exact AWPB_end [0, 1, 2, 3, 4, 5, 6, 7, 8, 9, 10, 11] ceg_rotakeep_FieldProducts_36_87 mkWkR)
                        have hn38 := J_rotakeep_FieldProducts_36_hn38 h7 h8 h9 hAA hn37
                        have hn39 := J_rotakeep_FieldProducts_36_hn39 h7 h8 h9 hAA hn38
                        have hn40 := J_rotakeep_FieldProducts_36_hn40 h7 h8 h9 hAA hn39
                        have hn41 := J_rotakeep_FieldProducts_36_hn41 h7 h8 h9 hAA hn40
                        have hn42 := J_rotakeep_FieldProducts_36_hn42 h7 h8 h9 hAA hn41
                        have hn43 := J_rotakeep_FieldProducts_36_hn43 h7 h8 h9 hAA hn41
                        have hn44 := J_rotakeep_FieldProducts_36_hn44 h7 h8 h9 hAA hn42 hn43
                        have hn45 := J_rotakeep_FieldProducts_36_hn45 h7 h8 h9 hAA hn44
                        have hn46 := J_rotakeep_FieldProducts_36_hn46 h7 h8 h9 hAA hn45
                        exact (hAA _ _ _).2 (AWPB_wk [0, 1, 2, 3, 4, 5, 6, 7, 8] mkWkR ((hAA _ _ _).1 hn46))
                      with_reducible refine inBlockA_normal (thenC_normal ?_)
                      -- region 37
                      refine AWP_facts (by simp) fun hfx => ?_
                      simp only [factS, factV, fact1, fact0, factL0, lo, hi, maxLen, and_true, true_and] at hfx
                      refine AWP_rg tab_ok [2, 3, 15, 16, 18, 19, 95, 96, 147, 148, 149] fun c st' hr => ?_
                      simp only [go_sem, reduceIte, reduceCtorEq, Nat.reduceEqDiff, Nat.reduceLT, Nat.reduceLeDiff, Nat.reduceBEq, Nat.reduceAdd, Nat.reduceMul, Nat.reduceSub, Nat.reducePow, Int.reduceLE, Int.reduceLT, Int.reduceNeg, Int.reduceToNat, Int.reduceAdd, Int.reduceSub, idO_app, lenO_app, lenO_app2, lenO_eta] at hr
                      obtain ⟨rfl, rfl⟩ := hr
                      refine ⟨vc, ?_⟩
                      clear hfx
                      refine again_n (v9 ++ [(a1_2.getD (y8.getD v10.toNat 0).toNat [])], v10 + 1) [0, 1, 2, 3, 4, 5, 11, 7, 8] hK mkWkR
                    · replace hK := ite_f hK hb9
                      refine AWP_exit ?_
                      with_reducible refine thenC_exit (again_x ?_)
                      refine cutX_here v9 [0, 1, 2, 3, 4, 5, 6, 7] (by have hq := hpost3 _ hK; exact hq) mkWkR
                  · clear hK; rintro v11 hK
                    try dsimp only at hK
                    refine exS ⟨193, [(2, .ptr 0 0 0), (3, .ptr 1 0 0), (15, .int .i64 y5.1), (16, .int .i64 v), (18, .ptr 2 0 0), (19, .ptr 5 0 0), (95, .int .i64 (2 ^ x_1.toNat : Int)), (96, .int .i64 v1)], [some (.gen 44 3 [[.int .i64 x_0, .int .i64 x_1, .fn 1 x_2.length (fun i => [.ints .i64 (x_2.getD i [])])]]), some (.gen 44 3 [[.int .i64 a1_0, .int .i64 a1_1, .fn 1 a1_2.length (fun i => [.ints .i64 (a1_2.getD i [])])]]), some (.gen 44 3 [[.int .i64 x_0, .int .i64 (x_2.length : Int), .own 3 v5.length]]), some (.outs 22 4 v5.length idO (lenO v5)), some (.rows 3 .i64 v5), some (.gen 44 3 [[.int .i64 x_0, .int .i64 (x_2.length : Int), .own 6 v11.length]]), some (.outs 22 7 v11.length idO (lenO v11)), some (.rows 3 .i64 v11)]⟩ rfl ?_
                    with_reducible refine inBlockA_exit (thenC_normal ?_)
                    refine AWP_seq ?_
                    -- region 38
                    refine AWP_rl ?_
                    refine AWPL_rn tab_ok 1 [2, 3, 15, 16, 19, 95, 96, 166] fun c st' hr => ?_
                    simp only [go_sem, reduceIte, reduceCtorEq, Nat.reduceEqDiff, Nat.reduceLT, Nat.reduceLeDiff, Nat.reduceBEq, Nat.reduceAdd, Nat.reduceMul, Nat.reduceSub, Nat.reducePow, Int.reduceLE, Int.reduceLT, Int.reduceNeg, Int.reduceToNat, Int.reduceAdd, Int.reduceSub, idO_app, lenO_app, lenO_app2, lenO_eta] at hr
                    obtain ⟨rfl, rfl⟩ := hr
                    refine ⟨vc, ?_⟩
                    replace hK := bind_s hK
                    obtain ⟨y9, hy, hK⟩ := hK
                    refine AWPL_callK [2, 3, 15, 16, 19, 95, 96, 167] (W_field_Determinant hy) rfl rfl pcT rfl Try.call27 (.cons (.agg _ _ rfl (ArgsOk.get (.cons (.atom _ rfl) (.cons (.atom _ rfl) (.cons (matArg (X := v5) (by first | rfl | (simp [getB, lenO_set]; done)) (by first | rfl | (simp [getB]; done)) (by first | rfl | (simp; done))) .nil)))).2) .nil) (hscG trivial) (of_decide_eq_true rfl) (by first | rfl | simp [nI, nI1, nI0]) (by first | rfl | simp [nIB, nI0]) fun st' hr => ?_
                    simp only [go_sem, reduceIte, reduceCtorEq, Nat.reduceEqDiff, Nat.reduceLT, Nat.reduceLeDiff, Nat.reduceBEq, Nat.reduceAdd, Nat.reduceMul, Nat.reduceSub, Nat.reducePow, Int.reduceLE, Int.reduceLT, Int.reduceNeg, Int.reduceToNat, Int.reduceAdd, Int.reduceSub, idO_app, lenO_app, lenO_app2, lenO_eta] at hr
                    subst hr
                    clear hy
                    refine AWPL_rn tab_ok 5 [2, 3, 15, 16, 19, 27, 28, 95, 96] fun c st' hr => ?_
                    simp only [go_sem, reduceIte, reduceCtorEq, Nat.reduceEqDiff, Nat.reduceLT, Nat.reduceLeDiff, Nat.reduceBEq, Nat.reduceAdd, Nat.reduceMul, Nat.reduceSub, Nat.reducePow, Int.reduceLE, Int.reduceLT, Int.reduceNeg, Int.reduceToNat, Int.reduceAdd, Int.reduceSub, idO_app, lenO_app, lenO_app2, lenO_eta] at hr
                    obtain ⟨rfl, rfl⟩ := hr
                    refine ⟨vc, ?_⟩
                    refine AWPL_nil ?_
                    with_reducible refine thenC_normal ?_
                    refine AWP_seq ?_
                    -- region 39
                    refine AWP_rl ?_
                    refine AWPL_rn tab_ok 1 [2, 3, 15, 16, 27, 28, 95, 96, 171] fun c st' hr => ?_
                    simp only [go_sem, reduceIte, reduceCtorEq, Nat.reduceEqDiff, Nat.reduceLT, Nat.reduceLeDiff, Nat.reduceBEq, Nat.reduceAdd, Nat.reduceMul, Nat.reduceSub, Nat.reducePow, Int.reduceLE, Int.reduceLT, Int.reduceNeg, Int.reduceToNat, Int.reduceAdd, Int.reduceSub, idO_app, lenO_app, lenO_app2, lenO_eta] at hr
                    obtain ⟨rfl, rfl⟩ := hr
                    refine ⟨vc, ?_⟩
                    replace hK := bind_s hK
                    obtain ⟨y10, hy, hK⟩ := hK
                    refine AWPL_callK [2, 3, 15, 16, 27, 28, 95, 96, 172] (W_field_Determinant hy) rfl rfl pcT rfl Try.call27 (.cons (.agg _ _ rfl (ArgsOk.get (.cons (.atom _ rfl) (.cons (.atom _ rfl) (.cons (matArg (X := v11) (by first | rfl | (simp [getB, lenO_set]; done)) (by first | rfl | (simp [getB]; done)) (by first | rfl | (simp; done))) .nil)))).2) .nil) (hscG trivial) (of_decide_eq_true rfl) (by first | rfl | simp [nI, nI1, nI0]) (by first | rfl | simp [nIB, nI0]) fun st' hr => ?_
                    simp only [go_sem, reduceIte, reduceCtorEq, Nat.reduceEqDiff, Nat.reduceLT, Nat.reduceLeDiff, Nat.reduceBEq, Nat.reduceAdd, Nat.reduceMul, Nat.reduceSub, Nat.reducePow, Int.reduceLE, Int.reduceLT, Int.reduceNeg, Int.reduceToNat, Int.reduceAdd, Int.reduceSub, idO_app, lenO_app, lenO_app2, lenO_eta] at hr
                    subst hr
                    clear hy
                    refine AWPL_rn tab_ok 5 [2, 3, 15, 16, 27, 28, 29, 30, 95, 96] fun c st' hr => ?_
                    simp only [go_sem, reduceIte, reduceCtorEq, Nat.reduceEqDiff, Nat.reduceLT, Nat.reduceLeDiff, Nat.reduceBEq, Nat.reduceAdd, Nat.reduceMul, Nat.reduceSub, Nat.reducePow, Int.reduceLE, Int.reduceLT, Int.reduceNeg, Int.reduceToNat, Int.reduceAdd, Int.reduceSub, idO_app, lenO_app, lenO_app2, lenO_eta] at hr
                    obtain ⟨rfl, rfl⟩ := hr
                    refine ⟨vc, ?_⟩
                    refine AWPL_nil ?_
                    with_reducible refine thenC_normal ?_
                    refine AWP_seq ?_
                    refine AWP_seq ?_
                    -- region 40
                    refine AWP_rg tab_ok [2, 3, 15, 16, 27, 29, 95, 96, 180] fun c st' hr => ?_
                    simp only [go_sem, reduceIte, reduceCtorEq, Nat.reduceEqDiff, Nat.reduceLT, Nat.reduceLeDiff, Nat.reduceBEq, Nat.reduceAdd, Nat.reduceMul, Nat.reduceSub, Nat.reducePow, Int.reduceLE, Int.reduceLT, Int.reduceNeg, Int.reduceToNat, Int.reduceAdd, Int.reduceSub, idO_app, lenO_app, lenO_app2, lenO_eta] at hr
                    obtain ⟨rfl, rfl⟩ := hr
                    refine ⟨vc, ?_⟩
                    with_reducible refine thenC_normal ?_
                    refine AWP_condP ((y9.2 ≠ 0 ∨ y10.2 ≠ 0)) rfl bd (fun hb10 => ?_) (fun hb10 => ?_)
                    · replace hK := ite_t hK hb10
                      refine AWP_seq ?_
                      -- region 41
                      refine AWP_rg tab_ok [4] fun c st' hr => ?_
                      simp only [go_sem, reduceIte, reduceCtorEq, Nat.reduceEqDiff, Nat.reduceLT, Nat.reduceLeDiff, Nat.reduceBEq, Nat.reduceAdd, Nat.reduceMul, Nat.reduceSub, Nat.reducePow, Int.reduceLE, Int.reduceLT, Int.reduceNeg, Int.reduceToNat, Int.reduceAdd, Int.reduceSub, idO_app, lenO_app, lenO_app2, lenO_eta] at hr
                      obtain ⟨rfl, rfl⟩ := hr
                      refine ⟨vc, ?_⟩
                      with_reducible refine thenC_normal ?_
                      refine AWP_ret ?_
                      with_reducible refine thenC_ret (inBlockA_ret (thenC_ret (again_r (cutX_r (inBlockA_ret (thenC_ret ?_))))))
                      replace hK := hpost1 _ hK
                      try dsimp only at hK
                      cases hK
                      refine EndsRW [] (.inl rfl) (of_decide_eq_true rfl) (by simp) rfl (fun c x hr => ?_) trivial
                      simp only [go_sem, reduceIte, reduceCtorEq, Nat.reduceEqDiff, Nat.reduceLT, Nat.reduceLeDiff, Nat.reduceBEq, Nat.reduceAdd, Nat.reduceMul, Nat.reduceSub, Nat.reducePow, Int.reduceLE, Int.reduceLT, Int.reduceNeg, Int.reduceToNat, Int.reduceAdd, Int.reduceSub, idO_app, lenO_app, lenO_app2, lenO_eta] at hr
                      obtain ⟨rfl, rfl⟩ := hr
                      exact ⟨rfl, endR⟩
                    · replace hK := ite_f hK hb10
                      refine AWP_skip ?_
                      with_reducible refine thenC_normal ?_
                      -- region 42
                      replace hK := chk_some hK
                      obtain ⟨h10, hK⟩ := hK
                      refine AWP_rg tab_ok [2, 3, 15, 16, 95, 96] fun c st' hr => ?_
                      simp only [go_sem, reduceIte, reduceCtorEq, Nat.reduceEqDiff, Nat.reduceLT, Nat.reduceLeDiff, Nat.reduceBEq, Nat.reduceAdd, Nat.reduceMul, Nat.reduceSub, Nat.reducePow, Int.reduceLE, Int.reduceLT, Int.reduceNeg, Int.reduceToNat, Int.reduceAdd, Int.reduceSub, idO_app, lenO_app, lenO_app2, lenO_eta] at hr
                      obtain ⟨rfl, rfl⟩ := hr
                      refine ⟨vc, ?_⟩
                      with_reducible refine inBlockA_normal (thenC_normal ?_)
                      -- region 43
                      replace hK := chk_some hK
                      obtain ⟨h11, hK⟩ := hK
                      refine AWP_rg tab_ok [2, 3, 15, 16, 95, 96] fun c st' hr => ?_
                      simp only [go_sem, reduceIte, reduceCtorEq, Nat.reduceEqDiff, Nat.reduceLT, Nat.reduceLeDiff, Nat.reduceBEq, Nat.reduceAdd, Nat.reduceMul, Nat.reduceSub, Nat.reducePow, Int.reduceLE, Int.reduceLT, Int.reduceNeg, Int.reduceToNat, Int.reduceAdd, Int.reduceSub, idO_app, lenO_app, lenO_app2, lenO_eta] at hr
                      obtain ⟨rfl, rfl⟩ := hr
                      refine ⟨vc, ?_⟩
                      refine again_n (v + (y9.1 * y10.1), v1 + 1) [0, 1] hK mkWkR
            · replace hK := ite_f hK hb5
              refine AWP_exit ?_
              with_reducible refine thenC_exit (again_x ?_)
              refine cutX_here v [0] (by have hq := hpost1 _ hK; exact hq) mkWkR
          · clear hK; rintro v2 hK
            try dsimp only at hK
            refine exS ⟨193, [(2, .ptr 0 0 0), (15, .int .i64 y5.1), (16, .int .i64 v2)], [some (.gen 44 3 [[.int .i64 x_0, .int .i64 x_1, .fn 1 x_2.length (fun i => [.ints .i64 (x_2.getD i [])])]])]⟩ rfl ?_
            with_reducible refine inBlockA_exit (thenC_normal ?_)
            refine AWP_seq ?_
            -- region 44
            replace hK := chk_some hK
            obtain ⟨h12, hK⟩ := hK
            refine AWP_rg tab_ok [4] fun c st' hr => ?_
            simp only [go_sem, reduceIte, reduceCtorEq, Nat.reduceEqDiff, Nat.reduceLT, Nat.reduceLeDiff, Nat.reduceBEq, Nat.reduceAdd, Nat.reduceMul, Nat.reduceSub, Nat.reducePow, Int.reduceLE, Int.reduceLT, Int.reduceNeg, Int.reduceToNat, Int.reduceAdd, Int.reduceSub, idO_app, lenO_app, lenO_app2, lenO_eta] at hr
            obtain ⟨rfl, rfl⟩ := hr
            refine ⟨vc, ?_⟩
            with_reducible refine thenC_normal ?_
            refine AWP_ret ?_
            cases hK
            refine EndsRW [] (.inl rfl) (of_decide_eq_true rfl) (by simp) rfl (fun c x hr => ?_) trivial
            simp only [go_sem, reduceIte, reduceCtorEq, Nat.reduceEqDiff, Nat.reduceLT, Nat.reduceLeDiff, Nat.reduceBEq, Nat.reduceAdd, Nat.reduceMul, Nat.reduceSub, Nat.reducePow, Int.reduceLE, Int.reduceLT, Int.reduceNeg, Int.reduceToNat, Int.reduceAdd, Int.reduceSub, idO_app, lenO_app, lenO_app2, lenO_eta] at hr
            obtain ⟨rfl, rfl⟩ := hr
            exact ⟨rfl, endR⟩

end Go.SH
