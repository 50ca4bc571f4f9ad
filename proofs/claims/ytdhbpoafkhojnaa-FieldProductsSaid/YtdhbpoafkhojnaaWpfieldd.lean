/-
  That the code computes these functions: field_Determinant. By a program of mine (shal.py). Conditions: none.
-/
import Derived.Test.YtdhbpoafkhojnaaAxT
import Derived.Test.YtdhbpoafkhojnaaAxR
import Derived.Test.YtdhbpoafkhojnaaAxTx
import Derived.Test.YtdhbpoafkhojnaaAxTk
import Derived.Test.YtdhbpoafkhojnaaAxRx
import Derived.Test.YtdhbpoafkhojnaaAxJm
import Derived.Test.YtdhbpoafkhojnaaAxW
import Derived.Test.YtdhbpoafkhojnaaSpfieldd
import Derived.Test.YtdhbpoafkhojnaaWpfieldm
import Derived.Test.YtdhbpoafkhojnaaWpkindsm
set_option linter.unusedVariables false
set_option linter.unusedSimpArgs false
namespace Go.SH
open Go Go.AX Go.AX.Try Go.Proofs

/-- The operations of a drawn region. -/
def reg_field_Determinant_17 : List Oper := (⟨_, rfl⟩ : { l : List Oper // (Try.f27.body.bind (regIn 17)) = some l }).1

theorem ceg_field_Determinant_17_1 : firstOk reg_field_Determinant_17.toArray #[false, false, false, false, false, false, false, false, false, false, false, false, false, false, false, false, false, false, false, false] 0 [1, 16, 17, 18, 19] = true := by kernel_rfl

theorem ceg_field_Determinant_17_2 : firstOk reg_field_Determinant_17.toArray #[true, false, false, false, false, false, false, false, false, false, false, false, false, false, false, false, false, false, false, false] 1 [16, 17, 18, 19] = true := by kernel_rfl

theorem ceg_field_Determinant_17_3 : firstOk reg_field_Determinant_17.toArray #[true, true, false, false, false, false, false, false, false, false, false, false, false, false, false, false, false, false, false, false] 2 [16, 17, 18, 19] = true := by kernel_rfl

theorem ceg_field_Determinant_17_4 : firstOk reg_field_Determinant_17.toArray #[true, true, true, false, false, false, false, false, false, false, false, false, false, false, false, false, false, false, false, false] 6 [7, 9, 10, 16, 17, 18, 19] = true := by kernel_rfl

theorem ceg_field_Determinant_17_5 : firstOk reg_field_Determinant_17.toArray #[true, true, true, false, false, false, true, false, false, false, false, false, false, false, false, false, false, false, false, false] 7 [9, 10, 16, 17, 18, 19] = true := by kernel_rfl

theorem ceg_field_Determinant_17_6 : firstOk reg_field_Determinant_17.toArray #[true, true, true, false, false, false, true, true, false, false, false, false, false, false, false, false, false, false, false, false] 8 [9, 10, 16, 17, 18, 19] = true := by kernel_rfl

theorem ceg_field_Determinant_17_7 : firstOk reg_field_Determinant_17.toArray #[true, true, true, false, false, false, true, true, true, false, false, false, false, false, false, false, false, false, false, false] 9 [10, 16, 17, 18, 19] = true := by kernel_rfl

theorem ceg_field_Determinant_17_8 : firstOk reg_field_Determinant_17.toArray #[true, true, true, false, false, false, true, true, true, true, false, false, false, false, false, false, false, false, false, false] 10 [16, 17, 18, 19] = true := by kernel_rfl

theorem ceg_field_Determinant_17_9 : firstOk reg_field_Determinant_17.toArray #[true, true, true, false, false, false, true, true, true, true, true, false, false, false, false, false, false, false, false, false] 11 [12, 14, 15, 16, 17, 18, 19] = true := by kernel_rfl

theorem ceg_field_Determinant_17_10 : firstOk reg_field_Determinant_17.toArray #[true, true, true, false, false, false, true, true, true, true, true, true, false, false, false, false, false, false, false, false] 12 [14, 15, 16, 17, 18, 19] = true := by kernel_rfl

theorem ceg_field_Determinant_17_11 : firstOk reg_field_Determinant_17.toArray #[true, true, true, false, false, false, true, true, true, true, true, true, true, false, false, false, false, false, false, false] 13 [14, 15, 16, 17, 18, 19] = true := by kernel_rfl

theorem ceg_field_Determinant_17_12 : firstOk reg_field_Determinant_17.toArray #[true, true, true, false, false, false, true, true, true, true, true, true, true, true, false, false, false, false, false, false] 14 [15, 16, 17, 18, 19] = true := by kernel_rfl

theorem ceg_field_Determinant_17_13 : firstOk reg_field_Determinant_17.toArray #[true, true, true, false, false, false, true, true, true, true, true, true, true, true, true, false, false, false, false, false] 15 [16, 17, 18, 19] = true := by kernel_rfl

theorem ceg_field_Determinant_17_14 : firstOk reg_field_Determinant_17.toArray #[true, true, true, false, false, false, true, true, true, true, true, true, true, true, true, true, false, false, false, false] 16 [17, 18, 19] = true := by kernel_rfl

theorem ceg_field_Determinant_17_15 : firstOk reg_field_Determinant_17.toArray #[true, true, true, true, true, true, true, true, true, true, true, true, true, true, true, true, true, true, false, false] 18 [19] = true := by kernel_rfl

theorem ceg_field_Determinant_17_16 : (Region.ready .any reg_field_Determinant_17.toArray #[true, true, true, true, true, true, true, true, true, true, true, true, true, true, true, true, true, true, true, true] == []) = true := by kernel_rfl

theorem ceg_field_Determinant_17_17 : (Region.ready .any reg_field_Determinant_17.toArray #[true, true, true, true, true, true, true, true, true, true, true, true, true, true, true, true, true, true, true, false] == [19]) = true := by kernel_rfl

set_option maxRecDepth 8000 in
set_option maxHeartbeats 4000000 in
theorem J_field_Determinant_17_hn1 {y1 : Int × Int × List (List Int)} {v : List (List Int)} {v1 : Int} {v2 : Int} {v5 : Int} (h2 : (0 ≤ v2 ∧ v2 < v.length)) (h3 : (0 ≤ v5 ∧ v5 < v.length)) (h4 : (0 ≤ v5 ∧ v5 < v.length)) (h5 : (0 ≤ v2 ∧ v2 < v.length)) {w0 : World} {Q : Exit → St → Prop} {AA : Nat → Array Bool → St → Prop} (hAA : ∀ g L st, AA g L st ↔ AWPB Try.prog w0 reg_field_Determinant_17.toArray Q g L st) (hn : AA 0 #[true, true, true, true, true, true, true, true, true, true, true, true, true, true, true, true, true, true, true, true] ⟨167, [(5, .ptr 0 0 0), (6, .int .i64 v1), (7, .int .i64 v2), (27, .int .i64 y1.2.1), (28, .int .i64 v2)], [some (.gen 44 3 [[.int .i64 y1.1, .int .i64 y1.2.1, .own 1 v.length]]), some (.outs 22 2 v.length (fun m => if m = v2.toNat then some v5.toNat else if m = v5.toNat then some v2.toNat else idO m) (fun m => if m = v2.toNat then (v.getD v5.toNat []).length else if m = v5.toNat then (v.getD v2.toNat []).length else lenO v m)), some (.rows 3 .i64 v)]⟩) : AA 1 #[true, true, true, true, true, true, true, true, true, true, true, true, true, true, true, true, true, true, true, false] ⟨167, [(5, .ptr 0 0 0), (6, .int .i64 v1), (7, .int .i64 v2), (27, .int .i64 y1.2.1), (28, .int .i64 v2), (71, .row 2 v5.toNat ((v.getD v5.toNat []).length)), (73, .ptr 1 v2.toNat 0)], [some (.gen 44 3 [[.int .i64 y1.1, .int .i64 y1.2.1, .own 1 v.length]]), some (.outs 22 2 v.length (fun m => if m = v5.toNat then some v2.toNat else idO m) (fun m => if m = v5.toNat then (v.getD v2.toNat []).length else lenO v m)), some (.rows 3 .i64 v)]⟩ := (hAA _ _ _).2 (by
  refine AWPB_one 19 _ ceg_field_Determinant_17_17 rfl ?_
  refine AWPL_rn tab_ok 1 [5, 6, 7, 27, 28] fun c st' hr => ?_
  simp only [go_sem, reduceIte, reduceCtorEq, Nat.reduceEqDiff, Nat.reduceLT, Nat.reduceLeDiff, Nat.reduceBEq, Nat.reduceAdd, Nat.reduceMul, Nat.reduceSub, Nat.reducePow, Int.reduceLE, Int.reduceLT, Int.reduceNeg, Int.reduceToNat, Int.reduceAdd, Int.reduceSub, idO_app, lenO_app, lenO_app2, lenO_eta] at hr
  obtain ⟨rfl, rfl⟩ := hr
  refine ⟨vc, ?_⟩
  refine AWPL_nil ?_
  refine QB_normal ?_
  exact AWPB_wk [0, 1, 2] mkWkR ((hAA _ _ _).1 hn))

set_option maxRecDepth 8000 in
set_option maxHeartbeats 4000000 in
theorem J_field_Determinant_17_hn2 {y1 : Int × Int × List (List Int)} {v : List (List Int)} {v1 : Int} {v2 : Int} {v5 : Int} (h2 : (0 ≤ v2 ∧ v2 < v.length)) (h3 : (0 ≤ v5 ∧ v5 < v.length)) (h4 : (0 ≤ v5 ∧ v5 < v.length)) (h5 : (0 ≤ v2 ∧ v2 < v.length)) {w0 : World} {Q : Exit → St → Prop} {AA : Nat → Array Bool → St → Prop} (hAA : ∀ g L st, AA g L st ↔ AWPB Try.prog w0 reg_field_Determinant_17.toArray Q g L st) (hn1 : AA 1 #[true, true, true, true, true, true, true, true, true, true, true, true, true, true, true, true, true, true, true, false] ⟨167, [(5, .ptr 0 0 0), (6, .int .i64 v1), (7, .int .i64 v2), (27, .int .i64 y1.2.1), (28, .int .i64 v2), (71, .row 2 v5.toNat ((v.getD v5.toNat []).length)), (73, .ptr 1 v2.toNat 0)], [some (.gen 44 3 [[.int .i64 y1.1, .int .i64 y1.2.1, .own 1 v.length]]), some (.outs 22 2 v.length (fun m => if m = v5.toNat then some v2.toNat else idO m) (fun m => if m = v5.toNat then (v.getD v2.toNat []).length else lenO v m)), some (.rows 3 .i64 v)]⟩) : AA 2 #[true, true, true, true, true, true, true, true, true, true, true, true, true, true, true, true, true, true, false, false] ⟨167, [(5, .ptr 0 0 0), (6, .int .i64 v1), (7, .int .i64 v2), (27, .int .i64 y1.2.1), (28, .int .i64 v2), (60, .own 1 v.length), (61, .int .i64 v2), (71, .row 2 v5.toNat ((v.getD v5.toNat []).length))], [some (.gen 44 3 [[.int .i64 y1.1, .int .i64 y1.2.1, .own 1 v.length]]), some (.outs 22 2 v.length (fun m => if m = v5.toNat then some v2.toNat else idO m) (fun m => if m = v5.toNat then (v.getD v2.toNat []).length else lenO v m)), some (.rows 3 .i64 v)]⟩ := (hAA _ _ _).2 (by
  refine AWPB_takeB tab_ok [5, 6, 7, 27, 28, 71, 73] 18 [19] _ rfl ceg_field_Determinant_17_15 fun c st' hr => ?_
  simp only [go_sem, reduceIte, reduceCtorEq, Nat.reduceEqDiff, Nat.reduceLT, Nat.reduceLeDiff, Nat.reduceBEq, Nat.reduceAdd, Nat.reduceMul, Nat.reduceSub, Nat.reducePow, Int.reduceLE, Int.reduceLT, Int.reduceNeg, Int.reduceToNat, Int.reduceAdd, Int.reduceSub, idO_app, lenO_app, lenO_app2, lenO_eta] at hr
  obtain ⟨rfl, rfl⟩ := hr
  refine ⟨vc, ?_⟩
  exact AWPB_wk [0, 1, 2] mkWkR ((hAA _ _ _).1 hn1))

theorem ceg_field_Determinant_17_20 : (Region.ready .any reg_field_Determinant_17.toArray #[true, true, true, true, true, true, true, true, true, true, true, true, true, true, true, true, true, false, false, false] == [17]) = true := by kernel_rfl

set_option maxRecDepth 8000 in
set_option maxHeartbeats 4000000 in
theorem J_field_Determinant_17_hn3 {y1 : Int × Int × List (List Int)} {v : List (List Int)} {v1 : Int} {v2 : Int} {v5 : Int} (h2 : (0 ≤ v2 ∧ v2 < v.length)) (h3 : (0 ≤ v5 ∧ v5 < v.length)) (h4 : (0 ≤ v5 ∧ v5 < v.length)) (h5 : (0 ≤ v2 ∧ v2 < v.length)) {w0 : World} {Q : Exit → St → Prop} {AA : Nat → Array Bool → St → Prop} (hAA : ∀ g L st, AA g L st ↔ AWPB Try.prog w0 reg_field_Determinant_17.toArray Q g L st) (hn2 : AA 2 #[true, true, true, true, true, true, true, true, true, true, true, true, true, true, true, true, true, true, false, false] ⟨167, [(5, .ptr 0 0 0), (6, .int .i64 v1), (7, .int .i64 v2), (27, .int .i64 y1.2.1), (28, .int .i64 v2), (60, .own 1 v.length), (61, .int .i64 v2), (71, .row 2 v5.toNat ((v.getD v5.toNat []).length))], [some (.gen 44 3 [[.int .i64 y1.1, .int .i64 y1.2.1, .own 1 v.length]]), some (.outs 22 2 v.length (fun m => if m = v5.toNat then some v2.toNat else idO m) (fun m => if m = v5.toNat then (v.getD v2.toNat []).length else lenO v m)), some (.rows 3 .i64 v)]⟩) : AA 3 #[true, true, true, true, true, true, true, true, true, true, true, true, true, true, true, true, true, false, false, false] ⟨167, [(5, .ptr 0 0 0), (6, .int .i64 v1), (7, .int .i64 v2), (27, .int .i64 y1.2.1), (28, .int .i64 v2), (60, .own 1 v.length), (61, .int .i64 v2), (66, .row 2 v2.toNat ((v.getD v2.toNat []).length)), (71, .row 2 v5.toNat ((v.getD v5.toNat []).length)), (72, .ptr 1 v5.toNat 0)], [some (.gen 44 3 [[.int .i64 y1.1, .int .i64 y1.2.1, .own 1 v.length]]), some (.outs 22 2 v.length idO (lenO v)), some (.rows 3 .i64 v)]⟩ := (hAA _ _ _).2 (by
  refine AWPB_one 17 _ ceg_field_Determinant_17_20 rfl ?_
  refine AWPL_rn tab_ok 1 [5, 6, 7, 27, 28, 60, 61, 71, 73] fun c st' hr => ?_
  simp only [go_sem, reduceIte, reduceCtorEq, Nat.reduceEqDiff, Nat.reduceLT, Nat.reduceLeDiff, Nat.reduceBEq, Nat.reduceAdd, Nat.reduceMul, Nat.reduceSub, Nat.reducePow, Int.reduceLE, Int.reduceLT, Int.reduceNeg, Int.reduceToNat, Int.reduceAdd, Int.reduceSub, idO_app, lenO_app, lenO_app2, lenO_eta] at hr
  obtain ⟨rfl, rfl⟩ := hr
  refine ⟨vc, ?_⟩
  refine AWPL_nil ?_
  refine QB_normal ?_
  exact AWPB_wk [0, 1, 2] mkWkR ((hAA _ _ _).1 hn2))

theorem ceg_field_Determinant_17_22 : firstOk reg_field_Determinant_17.toArray #[true, true, true, true, false, true, true, true, true, true, true, true, true, true, true, true, true, true, false, false] 4 [18, 19] = true := by kernel_rfl

set_option maxRecDepth 8000 in
set_option maxHeartbeats 4000000 in
theorem J_field_Determinant_17_hn4 {y1 : Int × Int × List (List Int)} {v : List (List Int)} {v1 : Int} {v2 : Int} {v5 : Int} (h2 : (0 ≤ v2 ∧ v2 < v.length)) (h3 : (0 ≤ v5 ∧ v5 < v.length)) (h4 : (0 ≤ v5 ∧ v5 < v.length)) (h5 : (0 ≤ v2 ∧ v2 < v.length)) {w0 : World} {Q : Exit → St → Prop} {AA : Nat → Array Bool → St → Prop} (hAA : ∀ g L st, AA g L st ↔ AWPB Try.prog w0 reg_field_Determinant_17.toArray Q g L st) (hn2 : AA 2 #[true, true, true, true, true, true, true, true, true, true, true, true, true, true, true, true, true, true, false, false] ⟨167, [(5, .ptr 0 0 0), (6, .int .i64 v1), (7, .int .i64 v2), (27, .int .i64 y1.2.1), (28, .int .i64 v2), (60, .own 1 v.length), (61, .int .i64 v2), (71, .row 2 v5.toNat ((v.getD v5.toNat []).length))], [some (.gen 44 3 [[.int .i64 y1.1, .int .i64 y1.2.1, .own 1 v.length]]), some (.outs 22 2 v.length (fun m => if m = v5.toNat then some v2.toNat else idO m) (fun m => if m = v5.toNat then (v.getD v2.toNat []).length else lenO v m)), some (.rows 3 .i64 v)]⟩) : AA 3 #[true, true, true, true, false, true, true, true, true, true, true, true, true, true, true, true, true, true, false, false] ⟨167, [(5, .ptr 0 0 0), (6, .int .i64 v1), (7, .int .i64 v2), (27, .int .i64 y1.2.1), (28, .int .i64 v2), (59, .ptr 0 0 2), (61, .int .i64 v2), (71, .row 2 v5.toNat ((v.getD v5.toNat []).length))], [some (.gen 44 3 [[.int .i64 y1.1, .int .i64 y1.2.1, .own 1 v.length]]), some (.outs 22 2 v.length (fun m => if m = v5.toNat then some v2.toNat else idO m) (fun m => if m = v5.toNat then (v.getD v2.toNat []).length else lenO v m)), some (.rows 3 .i64 v)]⟩ := (hAA _ _ _).2 (by
  refine AWPB_takeB tab_ok [5, 6, 7, 27, 28, 60, 61, 71, 73] 4 [18, 19] _ rfl ceg_field_Determinant_17_22 fun c st' hr => ?_
  simp only [go_sem, reduceIte, reduceCtorEq, Nat.reduceEqDiff, Nat.reduceLT, Nat.reduceLeDiff, Nat.reduceBEq, Nat.reduceAdd, Nat.reduceMul, Nat.reduceSub, Nat.reducePow, Int.reduceLE, Int.reduceLT, Int.reduceNeg, Int.reduceToNat, Int.reduceAdd, Int.reduceSub, idO_app, lenO_app, lenO_app2, lenO_eta] at hr
  obtain ⟨rfl, rfl⟩ := hr
  refine ⟨vc, ?_⟩
  exact AWPB_wk [0, 1, 2] mkWkR ((hAA _ _ _).1 hn2))

theorem ceg_field_Determinant_17_24 : (Region.ready .any reg_field_Determinant_17.toArray #[true, true, true, true, false, true, true, true, true, true, true, true, true, true, true, true, true, false, false, false] == [4, 17]) = true := by kernel_rfl

set_option maxRecDepth 8000 in
set_option maxHeartbeats 4000000 in
theorem J_field_Determinant_17_hn5 {y1 : Int × Int × List (List Int)} {v : List (List Int)} {v1 : Int} {v2 : Int} {v5 : Int} (h2 : (0 ≤ v2 ∧ v2 < v.length)) (h3 : (0 ≤ v5 ∧ v5 < v.length)) (h4 : (0 ≤ v5 ∧ v5 < v.length)) (h5 : (0 ≤ v2 ∧ v2 < v.length)) {w0 : World} {Q : Exit → St → Prop} {AA : Nat → Array Bool → St → Prop} (hAA : ∀ g L st, AA g L st ↔ AWPB Try.prog w0 reg_field_Determinant_17.toArray Q g L st) (hn3 : AA 3 #[true, true, true, true, true, true, true, true, true, true, true, true, true, true, true, true, true, false, false, false] ⟨167, [(5, .ptr 0 0 0), (6, .int .i64 v1), (7, .int .i64 v2), (27, .int .i64 y1.2.1), (28, .int .i64 v2), (60, .own 1 v.length), (61, .int .i64 v2), (66, .row 2 v2.toNat ((v.getD v2.toNat []).length)), (71, .row 2 v5.toNat ((v.getD v5.toNat []).length)), (72, .ptr 1 v5.toNat 0)], [some (.gen 44 3 [[.int .i64 y1.1, .int .i64 y1.2.1, .own 1 v.length]]), some (.outs 22 2 v.length idO (lenO v)), some (.rows 3 .i64 v)]⟩) (hn4 : AA 3 #[true, true, true, true, false, true, true, true, true, true, true, true, true, true, true, true, true, true, false, false] ⟨167, [(5, .ptr 0 0 0), (6, .int .i64 v1), (7, .int .i64 v2), (27, .int .i64 y1.2.1), (28, .int .i64 v2), (59, .ptr 0 0 2), (61, .int .i64 v2), (71, .row 2 v5.toNat ((v.getD v5.toNat []).length))], [some (.gen 44 3 [[.int .i64 y1.1, .int .i64 y1.2.1, .own 1 v.length]]), some (.outs 22 2 v.length (fun m => if m = v5.toNat then some v2.toNat else idO m) (fun m => if m = v5.toNat then (v.getD v2.toNat []).length else lenO v m)), some (.rows 3 .i64 v)]⟩) : AA 4 #[true, true, true, true, false, true, true, true, true, true, true, true, true, true, true, true, true, false, false, false] ⟨167, [(5, .ptr 0 0 0), (6, .int .i64 v1), (7, .int .i64 v2), (27, .int .i64 y1.2.1), (28, .int .i64 v2), (59, .ptr 0 0 2), (61, .int .i64 v2), (66, .row 2 v2.toNat ((v.getD v2.toNat []).length)), (71, .row 2 v5.toNat ((v.getD v5.toNat []).length)), (72, .ptr 1 v5.toNat 0)], [some (.gen 44 3 [[.int .i64 y1.1, .int .i64 y1.2.1, .own 1 v.length]]), some (.outs 22 2 v.length idO (lenO v)), some (.rows 3 .i64 v)]⟩ := (hAA _ _ _).2 (by
  refine AWPB_two 4 17 _ _ ceg_field_Determinant_17_24 rfl rfl ?_ ?_
  · skip
    refine AWPL_rn tab_ok 1 [5, 6, 7, 27, 28, 60, 61, 66, 71, 72, 73] fun c st' hr => ?_
    simp only [go_sem, reduceIte, reduceCtorEq, Nat.reduceEqDiff, Nat.reduceLT, Nat.reduceLeDiff, Nat.reduceBEq, Nat.reduceAdd, Nat.reduceMul, Nat.reduceSub, Nat.reducePow, Int.reduceLE, Int.reduceLT, Int.reduceNeg, Int.reduceToNat, Int.reduceAdd, Int.reduceSub, idO_app, lenO_app, lenO_app2, lenO_eta] at hr
    obtain ⟨rfl, rfl⟩ := hr
    refine ⟨vc, ?_⟩
    refine AWPL_nil ?_
    refine QB_normal ?_
    exact AWPB_wk [0, 1, 2] mkWkR ((hAA _ _ _).1 hn3)
  · skip
    refine AWPL_rn tab_ok 1 [5, 6, 7, 27, 28, 59, 60, 61, 71, 73] fun c st' hr => ?_
    simp only [go_sem, reduceIte, reduceCtorEq, Nat.reduceEqDiff, Nat.reduceLT, Nat.reduceLeDiff, Nat.reduceBEq, Nat.reduceAdd, Nat.reduceMul, Nat.reduceSub, Nat.reducePow, Int.reduceLE, Int.reduceLT, Int.reduceNeg, Int.reduceToNat, Int.reduceAdd, Int.reduceSub, idO_app, lenO_app, lenO_app2, lenO_eta] at hr
    obtain ⟨rfl, rfl⟩ := hr
    refine ⟨vc, ?_⟩
    refine AWPL_nil ?_
    refine QB_normal ?_
    exact AWPB_wk [0, 1, 2] mkWkR ((hAA _ _ _).1 hn4))

theorem ceg_field_Determinant_17_26 : (Region.noSelect reg_field_Determinant_17.toArray && Region.free .any reg_field_Determinant_17.toArray #[true, true, true, true, false, false, true, true, true, true, true, true, true, true, true, true, true, false, false, false] 5 && (Region.ready .any reg_field_Determinant_17.toArray #[true, true, true, true, false, false, true, true, true, true, true, true, true, true, true, true, true, false, false, false]).contains 5) = true := by kernel_rfl

set_option maxRecDepth 8000 in
set_option maxHeartbeats 4000000 in
theorem J_field_Determinant_17_hn6 {y1 : Int × Int × List (List Int)} {v : List (List Int)} {v1 : Int} {v2 : Int} {v5 : Int} (h2 : (0 ≤ v2 ∧ v2 < v.length)) (h3 : (0 ≤ v5 ∧ v5 < v.length)) (h4 : (0 ≤ v5 ∧ v5 < v.length)) (h5 : (0 ≤ v2 ∧ v2 < v.length)) {w0 : World} {Q : Exit → St → Prop} {AA : Nat → Array Bool → St → Prop} (hAA : ∀ g L st, AA g L st ↔ AWPB Try.prog w0 reg_field_Determinant_17.toArray Q g L st) (hn5 : AA 4 #[true, true, true, true, false, true, true, true, true, true, true, true, true, true, true, true, true, false, false, false] ⟨167, [(5, .ptr 0 0 0), (6, .int .i64 v1), (7, .int .i64 v2), (27, .int .i64 y1.2.1), (28, .int .i64 v2), (59, .ptr 0 0 2), (61, .int .i64 v2), (66, .row 2 v2.toNat ((v.getD v2.toNat []).length)), (71, .row 2 v5.toNat ((v.getD v5.toNat []).length)), (72, .ptr 1 v5.toNat 0)], [some (.gen 44 3 [[.int .i64 y1.1, .int .i64 y1.2.1, .own 1 v.length]]), some (.outs 22 2 v.length idO (lenO v)), some (.rows 3 .i64 v)]⟩) : AA 5 #[true, true, true, true, false, false, true, true, true, true, true, true, true, true, true, true, true, false, false, false] ⟨167, [(5, .ptr 0 0 0), (6, .int .i64 v1), (7, .int .i64 v2), (27, .int .i64 y1.2.1), (28, .int .i64 v2), (59, .ptr 0 0 2), (66, .row 2 v2.toNat ((v.getD v2.toNat []).length)), (71, .row 2 v5.toNat ((v.getD v5.toNat []).length)), (72, .ptr 1 v5.toNat 0)], [some (.gen 44 3 [[.int .i64 y1.1, .int .i64 y1.2.1, .own 1 v.length]]), some (.outs 22 2 v.length idO (lenO v)), some (.rows 3 .i64 v)]⟩ := (hAA _ _ _).2 (by
  refine AWPB_take2 tab_ok [5, 6, 7, 27, 28, 59, 60, 61, 66, 71, 72, 73] 5 _ rfl rfl rfl ceg_field_Determinant_17_26 fun c st' hr => ?_
  simp only [go_sem, reduceIte, reduceCtorEq, Nat.reduceEqDiff, Nat.reduceLT, Nat.reduceLeDiff, Nat.reduceBEq, Nat.reduceAdd, Nat.reduceMul, Nat.reduceSub, Nat.reducePow, Int.reduceLE, Int.reduceLT, Int.reduceNeg, Int.reduceToNat, Int.reduceAdd, Int.reduceSub, idO_app, lenO_app, lenO_app2, lenO_eta] at hr
  obtain ⟨rfl, rfl⟩ := hr
  refine ⟨vc, ?_⟩
  exact AWPB_wk [0, 1, 2] mkWkR ((hAA _ _ _).1 hn5))

theorem ceg_field_Determinant_17_28 : (Region.noSelect reg_field_Determinant_17.toArray && Region.free .any reg_field_Determinant_17.toArray #[true, true, true, false, false, false, true, true, true, true, true, true, true, true, true, true, true, false, false, false] 3 && (Region.ready .any reg_field_Determinant_17.toArray #[true, true, true, false, false, false, true, true, true, true, true, true, true, true, true, true, true, false, false, false]).contains 3) = true := by kernel_rfl

set_option maxRecDepth 8000 in
set_option maxHeartbeats 4000000 in
theorem J_field_Determinant_17_hn7 {y1 : Int × Int × List (List Int)} {v : List (List Int)} {v1 : Int} {v2 : Int} {v5 : Int} (h2 : (0 ≤ v2 ∧ v2 < v.length)) (h3 : (0 ≤ v5 ∧ v5 < v.length)) (h4 : (0 ≤ v5 ∧ v5 < v.length)) (h5 : (0 ≤ v2 ∧ v2 < v.length)) {w0 : World} {Q : Exit → St → Prop} {AA : Nat → Array Bool → St → Prop} (hAA : ∀ g L st, AA g L st ↔ AWPB Try.prog w0 reg_field_Determinant_17.toArray Q g L st) (hn6 : AA 5 #[true, true, true, true, false, false, true, true, true, true, true, true, true, true, true, true, true, false, false, false] ⟨167, [(5, .ptr 0 0 0), (6, .int .i64 v1), (7, .int .i64 v2), (27, .int .i64 y1.2.1), (28, .int .i64 v2), (59, .ptr 0 0 2), (66, .row 2 v2.toNat ((v.getD v2.toNat []).length)), (71, .row 2 v5.toNat ((v.getD v5.toNat []).length)), (72, .ptr 1 v5.toNat 0)], [some (.gen 44 3 [[.int .i64 y1.1, .int .i64 y1.2.1, .own 1 v.length]]), some (.outs 22 2 v.length idO (lenO v)), some (.rows 3 .i64 v)]⟩) : AA 6 #[true, true, true, false, false, false, true, true, true, true, true, true, true, true, true, true, true, false, false, false] ⟨167, [(5, .ptr 0 0 0), (6, .int .i64 v1), (7, .int .i64 v2), (27, .int .i64 y1.2.1), (28, .int .i64 v2), (66, .row 2 v2.toNat ((v.getD v2.toNat []).length)), (71, .row 2 v5.toNat ((v.getD v5.toNat []).length)), (72, .ptr 1 v5.toNat 0)], [some (.gen 44 3 [[.int .i64 y1.1, .int .i64 y1.2.1, .own 1 v.length]]), some (.outs 22 2 v.length idO (lenO v)), some (.rows 3 .i64 v)]⟩ := (hAA _ _ _).2 (by
  refine AWPB_take2 tab_ok [5, 6, 7, 27, 28, 59, 60, 61, 66, 71, 72, 73] 3 _ rfl rfl rfl ceg_field_Determinant_17_28 fun c st' hr => ?_
  simp only [go_sem, reduceIte, reduceCtorEq, Nat.reduceEqDiff, Nat.reduceLT, Nat.reduceLeDiff, Nat.reduceBEq, Nat.reduceAdd, Nat.reduceMul, Nat.reduceSub, Nat.reducePow, Int.reduceLE, Int.reduceLT, Int.reduceNeg, Int.reduceToNat, Int.reduceAdd, Int.reduceSub, idO_app, lenO_app, lenO_app2, lenO_eta] at hr
  obtain ⟨rfl, rfl⟩ := hr
  refine ⟨vc, ?_⟩
  exact AWPB_wk [0, 1, 2] mkWkR ((hAA _ _ _).1 hn6))

set_option maxRecDepth 8000 in
set_option maxHeartbeats 4000000 in
theorem J_field_Determinant_17_hn8 {y1 : Int × Int × List (List Int)} {v : List (List Int)} {v1 : Int} {v2 : Int} {v5 : Int} (h2 : (0 ≤ v2 ∧ v2 < v.length)) (h3 : (0 ≤ v5 ∧ v5 < v.length)) (h4 : (0 ≤ v5 ∧ v5 < v.length)) (h5 : (0 ≤ v2 ∧ v2 < v.length)) {w0 : World} {Q : Exit → St → Prop} {AA : Nat → Array Bool → St → Prop} (hAA : ∀ g L st, AA g L st ↔ AWPB Try.prog w0 reg_field_Determinant_17.toArray Q g L st) (hn7 : AA 6 #[true, true, true, false, false, false, true, true, true, true, true, true, true, true, true, true, true, false, false, false] ⟨167, [(5, .ptr 0 0 0), (6, .int .i64 v1), (7, .int .i64 v2), (27, .int .i64 y1.2.1), (28, .int .i64 v2), (66, .row 2 v2.toNat ((v.getD v2.toNat []).length)), (71, .row 2 v5.toNat ((v.getD v5.toNat []).length)), (72, .ptr 1 v5.toNat 0)], [some (.gen 44 3 [[.int .i64 y1.1, .int .i64 y1.2.1, .own 1 v.length]]), some (.outs 22 2 v.length idO (lenO v)), some (.rows 3 .i64 v)]⟩) : AA 20 #[false, false, false, false, false, false, false, false, false, false, false, false, false, false, false, false, false, false, false, false] ⟨167, [(5, .ptr 0 0 0), (6, .int .i64 v1), (7, .int .i64 v2), (8, .int .i64 v5), (27, .int .i64 y1.2.1), (28, .int .i64 v2)], [some (.gen 44 3 [[.int .i64 y1.1, .int .i64 y1.2.1, .own 1 v.length]]), some (.outs 22 2 v.length idO (lenO v)), some (.rows 3 .i64 v)]⟩ := (hAA _ _ _).2 (by
  refine AWPB_takeB tab_ok [5, 6, 7, 8, 27, 28, 56, 57, 58, 59, 60, 61, 62, 63, 64, 65, 66, 67, 68, 69, 70, 71, 72, 73] 0 [1, 16, 17, 18, 19] _ rfl ceg_field_Determinant_17_1 fun c st' hr => ?_
  simp only [go_sem, reduceIte, reduceCtorEq, Nat.reduceEqDiff, Nat.reduceLT, Nat.reduceLeDiff, Nat.reduceBEq, Nat.reduceAdd, Nat.reduceMul, Nat.reduceSub, Nat.reducePow, Int.reduceLE, Int.reduceLT, Int.reduceNeg, Int.reduceToNat, Int.reduceAdd, Int.reduceSub, idO_app, lenO_app, lenO_app2, lenO_eta] at hr
  obtain ⟨rfl, rfl⟩ := hr
  refine ⟨vc, ?_⟩
  refine AWPB_takeB tab_ok [5, 6, 7, 8, 27, 28, 57, 58, 59, 60, 61, 62, 63, 64, 65, 66, 67, 68, 69, 70, 71, 72, 73] 1 [16, 17, 18, 19] _ rfl ceg_field_Determinant_17_2 fun c st' hr => ?_
  simp only [go_sem, reduceIte, reduceCtorEq, Nat.reduceEqDiff, Nat.reduceLT, Nat.reduceLeDiff, Nat.reduceBEq, Nat.reduceAdd, Nat.reduceMul, Nat.reduceSub, Nat.reducePow, Int.reduceLE, Int.reduceLT, Int.reduceNeg, Int.reduceToNat, Int.reduceAdd, Int.reduceSub, idO_app, lenO_app, lenO_app2, lenO_eta] at hr
  obtain ⟨rfl, rfl⟩ := hr
  refine ⟨vc, ?_⟩
  refine AWPB_takeB tab_ok [5, 6, 7, 8, 27, 28, 57, 58, 59, 60, 61, 62, 63, 64, 65, 66, 67, 68, 69, 70, 71, 72, 73] 2 [16, 17, 18, 19] _ rfl ceg_field_Determinant_17_3 fun c st' hr => ?_
  simp only [go_sem, reduceIte, reduceCtorEq, Nat.reduceEqDiff, Nat.reduceLT, Nat.reduceLeDiff, Nat.reduceBEq, Nat.reduceAdd, Nat.reduceMul, Nat.reduceSub, Nat.reducePow, Int.reduceLE, Int.reduceLT, Int.reduceNeg, Int.reduceToNat, Int.reduceAdd, Int.reduceSub, idO_app, lenO_app, lenO_app2, lenO_eta] at hr
  obtain ⟨rfl, rfl⟩ := hr
  refine ⟨vc, ?_⟩
  refine AWPB_takeB tab_ok [5, 6, 7, 8, 27, 28, 57, 58, 59, 60, 61, 62, 63, 64, 65, 66, 67, 68, 69, 70, 71, 72, 73] 6 [7, 9, 10, 16, 17, 18, 19] _ rfl ceg_field_Determinant_17_4 fun c st' hr => ?_
  simp only [go_sem, reduceIte, reduceCtorEq, Nat.reduceEqDiff, Nat.reduceLT, Nat.reduceLeDiff, Nat.reduceBEq, Nat.reduceAdd, Nat.reduceMul, Nat.reduceSub, Nat.reducePow, Int.reduceLE, Int.reduceLT, Int.reduceNeg, Int.reduceToNat, Int.reduceAdd, Int.reduceSub, idO_app, lenO_app, lenO_app2, lenO_eta] at hr
  obtain ⟨rfl, rfl⟩ := hr
  refine ⟨vc, ?_⟩
  refine AWPB_takeB tab_ok [5, 6, 7, 8, 27, 28, 57, 58, 59, 60, 61, 63, 64, 65, 66, 67, 68, 69, 70, 71, 72, 73] 7 [9, 10, 16, 17, 18, 19] _ rfl ceg_field_Determinant_17_5 fun c st' hr => ?_
  simp only [go_sem, reduceIte, reduceCtorEq, Nat.reduceEqDiff, Nat.reduceLT, Nat.reduceLeDiff, Nat.reduceBEq, Nat.reduceAdd, Nat.reduceMul, Nat.reduceSub, Nat.reducePow, Int.reduceLE, Int.reduceLT, Int.reduceNeg, Int.reduceToNat, Int.reduceAdd, Int.reduceSub, idO_app, lenO_app, lenO_app2, lenO_eta] at hr
  obtain ⟨rfl, rfl⟩ := hr
  refine ⟨vc, ?_⟩
  refine AWPB_takeB tab_ok [5, 6, 7, 8, 27, 28, 57, 58, 59, 60, 61, 63, 64, 65, 66, 67, 68, 69, 70, 71, 72, 73] 8 [9, 10, 16, 17, 18, 19] _ rfl ceg_field_Determinant_17_6 fun c st' hr => ?_
  simp only [go_sem, reduceIte, reduceCtorEq, Nat.reduceEqDiff, Nat.reduceLT, Nat.reduceLeDiff, Nat.reduceBEq, Nat.reduceAdd, Nat.reduceMul, Nat.reduceSub, Nat.reducePow, Int.reduceLE, Int.reduceLT, Int.reduceNeg, Int.reduceToNat, Int.reduceAdd, Int.reduceSub, idO_app, lenO_app, lenO_app2, lenO_eta] at hr
  obtain ⟨rfl, rfl⟩ := hr
  refine ⟨vc, ?_⟩
  refine AWPB_takeB tab_ok [5, 6, 7, 8, 27, 28, 57, 58, 59, 60, 61, 65, 66, 67, 68, 69, 70, 71, 72, 73] 9 [10, 16, 17, 18, 19] _ rfl ceg_field_Determinant_17_7 fun c st' hr => ?_
  simp only [go_sem, reduceIte, reduceCtorEq, Nat.reduceEqDiff, Nat.reduceLT, Nat.reduceLeDiff, Nat.reduceBEq, Nat.reduceAdd, Nat.reduceMul, Nat.reduceSub, Nat.reducePow, Int.reduceLE, Int.reduceLT, Int.reduceNeg, Int.reduceToNat, Int.reduceAdd, Int.reduceSub, idO_app, lenO_app, lenO_app2, lenO_eta] at hr
  obtain ⟨rfl, rfl⟩ := hr
  refine ⟨vc, ?_⟩
  refine AWPB_takeB tab_ok [5, 6, 7, 8, 27, 28, 57, 58, 59, 60, 61, 66, 67, 68, 69, 70, 71, 72, 73] 10 [16, 17, 18, 19] _ rfl ceg_field_Determinant_17_8 fun c st' hr => ?_
  simp only [go_sem, reduceIte, reduceCtorEq, Nat.reduceEqDiff, Nat.reduceLT, Nat.reduceLeDiff, Nat.reduceBEq, Nat.reduceAdd, Nat.reduceMul, Nat.reduceSub, Nat.reducePow, Int.reduceLE, Int.reduceLT, Int.reduceNeg, Int.reduceToNat, Int.reduceAdd, Int.reduceSub, idO_app, lenO_app, lenO_app2, lenO_eta] at hr
  obtain ⟨rfl, rfl⟩ := hr
  refine ⟨vc, ?_⟩
  refine AWPB_takeB tab_ok [5, 6, 7, 8, 27, 28, 57, 58, 59, 60, 61, 66, 67, 68, 69, 70, 71, 72, 73] 11 [12, 14, 15, 16, 17, 18, 19] _ rfl ceg_field_Determinant_17_9 fun c st' hr => ?_
  simp only [go_sem, reduceIte, reduceCtorEq, Nat.reduceEqDiff, Nat.reduceLT, Nat.reduceLeDiff, Nat.reduceBEq, Nat.reduceAdd, Nat.reduceMul, Nat.reduceSub, Nat.reducePow, Int.reduceLE, Int.reduceLT, Int.reduceNeg, Int.reduceToNat, Int.reduceAdd, Int.reduceSub, idO_app, lenO_app, lenO_app2, lenO_eta] at hr
  obtain ⟨rfl, rfl⟩ := hr
  refine ⟨vc, ?_⟩
  refine AWPB_takeB tab_ok [5, 6, 7, 8, 27, 28, 57, 58, 59, 60, 61, 66, 68, 69, 70, 71, 72, 73] 12 [14, 15, 16, 17, 18, 19] _ rfl ceg_field_Determinant_17_10 fun c st' hr => ?_
  simp only [go_sem, reduceIte, reduceCtorEq, Nat.reduceEqDiff, Nat.reduceLT, Nat.reduceLeDiff, Nat.reduceBEq, Nat.reduceAdd, Nat.reduceMul, Nat.reduceSub, Nat.reducePow, Int.reduceLE, Int.reduceLT, Int.reduceNeg, Int.reduceToNat, Int.reduceAdd, Int.reduceSub, idO_app, lenO_app, lenO_app2, lenO_eta] at hr
  obtain ⟨rfl, rfl⟩ := hr
  refine ⟨vc, ?_⟩
  refine AWPB_takeB tab_ok [5, 6, 7, 27, 28, 57, 58, 59, 60, 61, 66, 68, 69, 70, 71, 72, 73] 13 [14, 15, 16, 17, 18, 19] _ rfl ceg_field_Determinant_17_11 fun c st' hr => ?_
  simp only [go_sem, reduceIte, reduceCtorEq, Nat.reduceEqDiff, Nat.reduceLT, Nat.reduceLeDiff, Nat.reduceBEq, Nat.reduceAdd, Nat.reduceMul, Nat.reduceSub, Nat.reducePow, Int.reduceLE, Int.reduceLT, Int.reduceNeg, Int.reduceToNat, Int.reduceAdd, Int.reduceSub, idO_app, lenO_app, lenO_app2, lenO_eta] at hr
  obtain ⟨rfl, rfl⟩ := hr
  refine ⟨vc, ?_⟩
  refine AWPB_takeB tab_ok [5, 6, 7, 27, 28, 57, 58, 59, 60, 61, 66, 70, 71, 72, 73] 14 [15, 16, 17, 18, 19] _ rfl ceg_field_Determinant_17_12 fun c st' hr => ?_
  simp only [go_sem, reduceIte, reduceCtorEq, Nat.reduceEqDiff, Nat.reduceLT, Nat.reduceLeDiff, Nat.reduceBEq, Nat.reduceAdd, Nat.reduceMul, Nat.reduceSub, Nat.reducePow, Int.reduceLE, Int.reduceLT, Int.reduceNeg, Int.reduceToNat, Int.reduceAdd, Int.reduceSub, idO_app, lenO_app, lenO_app2, lenO_eta] at hr
  obtain ⟨rfl, rfl⟩ := hr
  refine ⟨vc, ?_⟩
  refine AWPB_takeB tab_ok [5, 6, 7, 27, 28, 57, 58, 59, 60, 61, 66, 71, 72, 73] 15 [16, 17, 18, 19] _ rfl ceg_field_Determinant_17_13 fun c st' hr => ?_
  simp only [go_sem, reduceIte, reduceCtorEq, Nat.reduceEqDiff, Nat.reduceLT, Nat.reduceLeDiff, Nat.reduceBEq, Nat.reduceAdd, Nat.reduceMul, Nat.reduceSub, Nat.reducePow, Int.reduceLE, Int.reduceLT, Int.reduceNeg, Int.reduceToNat, Int.reduceAdd, Int.reduceSub, idO_app, lenO_app, lenO_app2, lenO_eta] at hr
  obtain ⟨rfl, rfl⟩ := hr
  refine ⟨vc, ?_⟩
  refine AWPB_takeB tab_ok [5, 6, 7, 27, 28, 59, 60, 61, 66, 71, 72, 73] 16 [17, 18, 19] _ rfl ceg_field_Determinant_17_14 fun c st' hr => ?_
  simp only [go_sem, reduceIte, reduceCtorEq, Nat.reduceEqDiff, Nat.reduceLT, Nat.reduceLeDiff, Nat.reduceBEq, Nat.reduceAdd, Nat.reduceMul, Nat.reduceSub, Nat.reducePow, Int.reduceLE, Int.reduceLT, Int.reduceNeg, Int.reduceToNat, Int.reduceAdd, Int.reduceSub, idO_app, lenO_app, lenO_app2, lenO_eta] at hr
  obtain ⟨rfl, rfl⟩ := hr
  refine ⟨vc, ?_⟩
  exact AWPB_wk [0, 1, 2] mkWkR ((hAA _ _ _).1 hn7))

set_option maxRecDepth 8000 in
set_option maxHeartbeats 4000000 in
theorem W_field_Determinant {x_0 : Int} {x_1 : Int} {x_2 : List (List Int)} {r : Int × Int} (hK : field_Determinant x_0 x_1 x_2 = some r) : Pure Try.prog 27 [.agg [.int .i64 x_0, .int .i64 x_1, .fn 1 x_2.length (fun i => [.ints .i64 (x_2.getD i [])])]] (.tup [.int .i64 r.1, .int .i64 r.2]) [] := by
  refine Pure_introF tab_ok (n := 167) (l := [.tmp 2, .tmp 3]) Try.func27 rfl rfl rfl (by simp) fun hfact w0 => ?_
  simp only [factL1, fact1, fact0, factL0, lo, hi, maxLen, and_true] at hfact
  unfold field_Determinant at hK
  refine AWP_seq ?_
  -- region 0
  refine AWP_rg tab_ok [1] fun c st' hr => ?_
  simp only [go_sem, reduceIte, reduceCtorEq, Nat.reduceEqDiff, Nat.reduceLT, Nat.reduceLeDiff, Nat.reduceBEq, Nat.reduceAdd, Nat.reduceMul, Nat.reduceSub, Nat.reducePow, Int.reduceLE, Int.reduceLT, Int.reduceNeg, Int.reduceToNat, Int.reduceAdd, Int.reduceSub, idO_app, lenO_app, lenO_app2, lenO_eta] at hr
  obtain ⟨rfl, rfl⟩ := hr
  refine ⟨vc, ?_⟩
  with_reducible refine thenC_normal ?_
  refine AWP_seq ?_
  refine AWP_seq ?_
  -- region 1
  refine AWP_rl ?_
  refine AWPL_rn tab_ok 1 [1, 13] fun c st' hr => ?_
  simp only [go_sem, reduceIte, reduceCtorEq, Nat.reduceEqDiff, Nat.reduceLT, Nat.reduceLeDiff, Nat.reduceBEq, Nat.reduceAdd, Nat.reduceMul, Nat.reduceSub, Nat.reducePow, Int.reduceLE, Int.reduceLT, Int.reduceNeg, Int.reduceToNat, Int.reduceAdd, Int.reduceSub, idO_app, lenO_app, lenO_app2, lenO_eta] at hr
  obtain ⟨rfl, rfl⟩ := hr
  refine ⟨vc, ?_⟩
  replace hK := bind_s hK
  obtain ⟨y, hy, hK⟩ := hK
  refine AWPL_callK [1, 14] (W_kinds_CheckMatrix hy) rfl rfl pcT rfl Try.call78 (.cons (.agg _ _ rfl (ArgsOk.get (.cons (.atom _ rfl) (.cons (.atom _ rfl) (.cons (.atom _ rfl) .nil)))).2) .nil) (hscG trivial) (of_decide_eq_true rfl) (by first | rfl | simp [nI, nI1, nI0]) (by first | rfl | simp [nIB, nI0]) fun st' hr => ?_
  simp only [go_sem, reduceIte, reduceCtorEq, Nat.reduceEqDiff, Nat.reduceLT, Nat.reduceLeDiff, Nat.reduceBEq, Nat.reduceAdd, Nat.reduceMul, Nat.reduceSub, Nat.reducePow, Int.reduceLE, Int.reduceLT, Int.reduceNeg, Int.reduceToNat, Int.reduceAdd, Int.reduceSub, idO_app, lenO_app, lenO_app2, lenO_eta] at hr
  subst hr
  clear hy
  refine AWPL_rn tab_ok 1 [1, 4] fun c st' hr => ?_
  simp only [go_sem, reduceIte, reduceCtorEq, Nat.reduceEqDiff, Nat.reduceLT, Nat.reduceLeDiff, Nat.reduceBEq, Nat.reduceAdd, Nat.reduceMul, Nat.reduceSub, Nat.reducePow, Int.reduceLE, Int.reduceLT, Int.reduceNeg, Int.reduceToNat, Int.reduceAdd, Int.reduceSub, idO_app, lenO_app, lenO_app2, lenO_eta] at hr
  obtain ⟨rfl, rfl⟩ := hr
  refine ⟨vc, ?_⟩
  refine AWPL_nil ?_
  with_reducible refine thenC_normal ?_
  refine AWP_seq ?_
  -- region 2
  refine AWP_rg tab_ok [1, 4, 16] fun c st' hr => ?_
  simp only [go_sem, reduceIte, reduceCtorEq, Nat.reduceEqDiff, Nat.reduceLT, Nat.reduceLeDiff, Nat.reduceBEq, Nat.reduceAdd, Nat.reduceMul, Nat.reduceSub, Nat.reducePow, Int.reduceLE, Int.reduceLT, Int.reduceNeg, Int.reduceToNat, Int.reduceAdd, Int.reduceSub, idO_app, lenO_app, lenO_app2, lenO_eta] at hr
  obtain ⟨rfl, rfl⟩ := hr
  refine ⟨vc, ?_⟩
  with_reducible refine thenC_normal ?_
  refine AWP_condP (y ≠ 0) rfl bd (fun hb => ?_) (fun hb => ?_)
  · replace hK := ite_t hK hb
    refine AWP_seq ?_
    -- region 3
    refine AWP_rg tab_ok [2, 3] fun c st' hr => ?_
    simp only [go_sem, reduceIte, reduceCtorEq, Nat.reduceEqDiff, Nat.reduceLT, Nat.reduceLeDiff, Nat.reduceBEq, Nat.reduceAdd, Nat.reduceMul, Nat.reduceSub, Nat.reducePow, Int.reduceLE, Int.reduceLT, Int.reduceNeg, Int.reduceToNat, Int.reduceAdd, Int.reduceSub, idO_app, lenO_app, lenO_app2, lenO_eta] at hr
    obtain ⟨rfl, rfl⟩ := hr
    refine ⟨vc, ?_⟩
    with_reducible refine thenC_normal ?_
    refine AWP_ret ?_
    with_reducible refine thenC_ret ?_
    cases hK
    refine EndsRW [] (.inl rfl) (of_decide_eq_true rfl) (by simp) rfl (fun c x hr => ?_) trivial
    simp only [go_sem, reduceIte, reduceCtorEq, Nat.reduceEqDiff, Nat.reduceLT, Nat.reduceLeDiff, Nat.reduceBEq, Nat.reduceAdd, Nat.reduceMul, Nat.reduceSub, Nat.reducePow, Int.reduceLE, Int.reduceLT, Int.reduceNeg, Int.reduceToNat, Int.reduceAdd, Int.reduceSub, idO_app, lenO_app, lenO_app2, lenO_eta] at hr
    obtain ⟨rfl, rfl⟩ := hr
    exact ⟨rfl, endR⟩
  · replace hK := ite_f hK hb
    refine AWP_skip ?_
    with_reducible refine thenC_normal ?_
    refine AWP_seq ?_
    refine AWP_seq ?_
    -- region 4
    refine AWP_rg tab_ok [1, 23] fun c st' hr => ?_
    simp only [go_sem, reduceIte, reduceCtorEq, Nat.reduceEqDiff, Nat.reduceLT, Nat.reduceLeDiff, Nat.reduceBEq, Nat.reduceAdd, Nat.reduceMul, Nat.reduceSub, Nat.reducePow, Int.reduceLE, Int.reduceLT, Int.reduceNeg, Int.reduceToNat, Int.reduceAdd, Int.reduceSub, idO_app, lenO_app, lenO_app2, lenO_eta] at hr
    obtain ⟨rfl, rfl⟩ := hr
    refine ⟨vc, ?_⟩
    with_reducible refine thenC_normal ?_
    refine AWP_condP ((x_2.length : Int) ≠ x_1) rfl bd (fun hb1 => ?_) (fun hb1 => ?_)
    · replace hK := ite_t hK hb1
      refine AWP_seq ?_
      -- region 5
      refine AWP_rg tab_ok [2, 3] fun c st' hr => ?_
      simp only [go_sem, reduceIte, reduceCtorEq, Nat.reduceEqDiff, Nat.reduceLT, Nat.reduceLeDiff, Nat.reduceBEq, Nat.reduceAdd, Nat.reduceMul, Nat.reduceSub, Nat.reducePow, Int.reduceLE, Int.reduceLT, Int.reduceNeg, Int.reduceToNat, Int.reduceAdd, Int.reduceSub, idO_app, lenO_app, lenO_app2, lenO_eta] at hr
      obtain ⟨rfl, rfl⟩ := hr
      refine ⟨vc, ?_⟩
      with_reducible refine thenC_normal ?_
      refine AWP_ret ?_
      with_reducible refine thenC_ret ?_
      cases hK
      refine EndsRW [] (.inl rfl) (of_decide_eq_true rfl) (by simp) rfl (fun c x hr => ?_) trivial
      simp only [go_sem, reduceIte, reduceCtorEq, Nat.reduceEqDiff, Nat.reduceLT, Nat.reduceLeDiff, Nat.reduceBEq, Nat.reduceAdd, Nat.reduceMul, Nat.reduceSub, Nat.reducePow, Int.reduceLE, Int.reduceLT, Int.reduceNeg, Int.reduceToNat, Int.reduceAdd, Int.reduceSub, idO_app, lenO_app, lenO_app2, lenO_eta] at hr
      obtain ⟨rfl, rfl⟩ := hr
      exact ⟨rfl, endR⟩
    · replace hK := ite_f hK hb1
      refine AWP_skip ?_
      with_reducible refine thenC_normal ?_
      refine AWP_seq ?_
      -- region 6
      refine AWP_rl ?_
      refine AWPL_rn tab_ok 1 [24] fun c st' hr => ?_
      simp only [go_sem, reduceIte, reduceCtorEq, Nat.reduceEqDiff, Nat.reduceLT, Nat.reduceLeDiff, Nat.reduceBEq, Nat.reduceAdd, Nat.reduceMul, Nat.reduceSub, Nat.reducePow, Int.reduceLE, Int.reduceLT, Int.reduceNeg, Int.reduceToNat, Int.reduceAdd, Int.reduceSub, idO_app, lenO_app, lenO_app2, lenO_eta] at hr
      obtain ⟨rfl, rfl⟩ := hr
      refine ⟨vc, ?_⟩
      replace hK := bind_s hK
      obtain ⟨y1, hy, hK⟩ := hK
      refine AWPL_callK [25] (W_field_twin hy) rfl rfl pcT rfl Try.call82 (.cons (.agg _ _ rfl (ArgsOk.get (.cons (.atom _ rfl) (.cons (.atom _ rfl) (.cons (.atom _ rfl) .nil)))).2) .nil) (hscG trivial) (of_decide_eq_true rfl) (by first | rfl | simp [nI, nI1, nI0]) (by first | rfl | simp [nIB, nI0]) fun st' hr => ?_
      simp only [go_sem, reduceIte, reduceCtorEq, Nat.reduceEqDiff, Nat.reduceLT, Nat.reduceLeDiff, Nat.reduceBEq, Nat.reduceAdd, Nat.reduceMul, Nat.reduceSub, Nat.reducePow, Int.reduceLE, Int.reduceLT, Int.reduceNeg, Int.reduceToNat, Int.reduceAdd, Int.reduceSub, idO_app, lenO_app, lenO_app2, lenO_eta] at hr
      subst hr
      clear hy
      refine AWPL_rn tab_ok 2 [5] fun c st' hr => ?_
      simp only [go_sem, reduceIte, reduceCtorEq, Nat.reduceEqDiff, Nat.reduceLT, Nat.reduceLeDiff, Nat.reduceBEq, Nat.reduceAdd, Nat.reduceMul, Nat.reduceSub, Nat.reducePow, Int.reduceLE, Int.reduceLT, Int.reduceNeg, Int.reduceToNat, Int.reduceAdd, Int.reduceSub, idO_app, lenO_app, lenO_app2, lenO_eta] at hr
      obtain ⟨rfl, rfl⟩ := hr
      refine ⟨vc, ?_⟩
      refine AWPL_nil ?_
      with_reducible refine thenC_normal ?_
      refine AWP_seq ?_
      -- region 7
      refine AWP_rg tab_ok [5, 6] fun c st' hr => ?_
      simp only [go_sem, reduceIte, reduceCtorEq, Nat.reduceEqDiff, Nat.reduceLT, Nat.reduceLeDiff, Nat.reduceBEq, Nat.reduceAdd, Nat.reduceMul, Nat.reduceSub, Nat.reducePow, Int.reduceLE, Int.reduceLT, Int.reduceNeg, Int.reduceToNat, Int.reduceAdd, Int.reduceSub, idO_app, lenO_app, lenO_app2, lenO_eta] at hr
      obtain ⟨rfl, rfl⟩ := hr
      refine ⟨vc, ?_⟩
      with_reducible refine thenC_normal ?_
      refine AWP_seq ?_
      refine AWP_seq ?_
      -- region 8
      refine AWP_rg tab_ok [5, 6, 27, 28] fun c st' hr => ?_
      simp only [go_sem, reduceIte, reduceCtorEq, Nat.reduceEqDiff, Nat.reduceLT, Nat.reduceLeDiff, Nat.reduceBEq, Nat.reduceAdd, Nat.reduceMul, Nat.reduceSub, Nat.reducePow, Int.reduceLE, Int.reduceLT, Int.reduceNeg, Int.reduceToNat, Int.reduceAdd, Int.reduceSub, idO_app, lenO_app, lenO_app2, lenO_eta] at hr
      obtain ⟨rfl, rfl⟩ := hr
      refine ⟨vc, ?_⟩
      with_reducible refine thenC_normal ?_
      refine AWP_block ?_
      refine AWP_loopX 0 (fun ((v, v1, v2) : List (List Int) × Int × Int) => ⟨167, [(5, .ptr 0 0 0), (6, .int .i64 v1), (27, .int .i64 y1.2.1), (28, .int .i64 v2)], [some (.gen 44 3 [[.int .i64 y1.1, .int .i64 y1.2.1, .own 1 v.length]]), some (.outs 22 2 v.length idO (lenO v)), some (.rows 3 .i64 v)]⟩) (fun (v3 : Int) => ⟨167, [(6, .int .i64 v3)], []⟩) Sum.inl (y1.2.2, 1, 0) [3, 1, 2] hK mkWkR ?_ ?_
      · clear hK; rintro ⟨v, v1, v2⟩ b hK hpost1
        try dsimp only at hK
        change AWP _ _ _ _ ⟨167, [(5, .ptr 0 0 0), (6, .int .i64 v1), (27, .int .i64 y1.2.1), (28, .int .i64 v2)], [some (.gen 44 3 [[.int .i64 y1.1, .int .i64 y1.2.1, .own 1 v.length]]), some (.outs 22 2 v.length idO (lenO v)), some (.rows 3 .i64 v)]⟩
        refine AWP_seq ?_
        -- region 9
        refine AWP_rg tab_ok [5, 6, 27, 28, 29] fun c st' hr => ?_
        simp only [go_sem, reduceIte, reduceCtorEq, Nat.reduceEqDiff, Nat.reduceLT, Nat.reduceLeDiff, Nat.reduceBEq, Nat.reduceAdd, Nat.reduceMul, Nat.reduceSub, Nat.reducePow, Int.reduceLE, Int.reduceLT, Int.reduceNeg, Int.reduceToNat, Int.reduceAdd, Int.reduceSub, idO_app, lenO_app, lenO_app2, lenO_eta] at hr
        obtain ⟨rfl, rfl⟩ := hr
        refine ⟨vc, ?_⟩
        with_reducible refine thenC_normal ?_
        refine AWP_seq ?_
        refine AWP_condP (v2 < y1.2.1) rfl bd (fun hb2 => ?_) (fun hb2 => ?_)
        · replace hK := ite_t hK hb2
          refine AWP_skip ?_
          with_reducible refine thenC_normal ?_
          refine AWP_seq ?_
          refine AWP_block ?_
          refine AWP_seq ?_
          -- region 10
          refine AWP_rg tab_ok [5, 6, 7, 27, 28] fun c st' hr => ?_
          simp only [go_sem, reduceIte, reduceCtorEq, Nat.reduceEqDiff, Nat.reduceLT, Nat.reduceLeDiff, Nat.reduceBEq, Nat.reduceAdd, Nat.reduceMul, Nat.reduceSub, Nat.reducePow, Int.reduceLE, Int.reduceLT, Int.reduceNeg, Int.reduceToNat, Int.reduceAdd, Int.reduceSub, idO_app, lenO_app, lenO_app2, lenO_eta] at hr
          obtain ⟨rfl, rfl⟩ := hr
          refine ⟨vc, ?_⟩
          with_reducible refine thenC_normal ?_
          refine AWP_seq ?_
          -- region 11
          refine AWP_rg tab_ok [5, 6, 7, 8, 27, 28] fun c st' hr => ?_
          simp only [go_sem, reduceIte, reduceCtorEq, Nat.reduceEqDiff, Nat.reduceLT, Nat.reduceLeDiff, Nat.reduceBEq, Nat.reduceAdd, Nat.reduceMul, Nat.reduceSub, Nat.reducePow, Int.reduceLE, Int.reduceLT, Int.reduceNeg, Int.reduceToNat, Int.reduceAdd, Int.reduceSub, idO_app, lenO_app, lenO_app2, lenO_eta] at hr
          obtain ⟨rfl, rfl⟩ := hr
          refine ⟨vc, ?_⟩
          with_reducible refine thenC_normal ?_
          refine AWP_seq ?_
          refine AWP_block ?_
          refine AWP_loopX 2 (fun (v4 : Int) => ⟨167, [(5, .ptr 0 0 0), (6, .int .i64 v1), (7, .int .i64 v2), (8, .int .i64 v4), (27, .int .i64 y1.2.1), (28, .int .i64 v2)], [some (.gen 44 3 [[.int .i64 y1.1, .int .i64 y1.2.1, .own 1 v.length]]), some (.outs 22 2 v.length idO (lenO v)), some (.rows 3 .i64 v)]⟩) (fun (v5 : Int) => ⟨167, [(5, .ptr 0 0 0), (6, .int .i64 v1), (7, .int .i64 v2), (8, .int .i64 v5), (27, .int .i64 y1.2.1), (28, .int .i64 v2)], [some (.gen 44 3 [[.int .i64 y1.1, .int .i64 y1.2.1, .own 1 v.length]]), some (.outs 22 2 v.length idO (lenO v)), some (.rows 3 .i64 v)]⟩) (fun v => v) v2 [0, 1, 2] hK mkWkR ?_ ?_
          · clear hK; rintro v4 b1 hK hpost2
            try dsimp only at hK
            change AWP _ _ _ _ ⟨167, [(5, .ptr 0 0 0), (6, .int .i64 v1), (7, .int .i64 v2), (8, .int .i64 v4), (27, .int .i64 y1.2.1), (28, .int .i64 v2)], [some (.gen 44 3 [[.int .i64 y1.1, .int .i64 y1.2.1, .own 1 v.length]]), some (.outs 22 2 v.length idO (lenO v)), some (.rows 3 .i64 v)]⟩
            refine AWP_seq ?_
            refine AWP_seq ?_
            -- region 12
            replace hK := chk_some hK
            obtain ⟨h, hK⟩ := hK
            refine AWP_rg tab_ok [5, 6, 7, 8, 27, 28, 46] fun c st' hr => ?_
            simp only [go_sem, reduceIte, reduceCtorEq, Nat.reduceEqDiff, Nat.reduceLT, Nat.reduceLeDiff, Nat.reduceBEq, Nat.reduceAdd, Nat.reduceMul, Nat.reduceSub, Nat.reducePow, Int.reduceLE, Int.reduceLT, Int.reduceNeg, Int.reduceToNat, Int.reduceAdd, Int.reduceSub, idO_app, lenO_app, lenO_app2, lenO_eta] at hr
            obtain ⟨rfl, rfl⟩ := hr
            refine ⟨vc, ?_⟩
            with_reducible refine thenC_normal ?_
            refine AWP_condP ((v4 < y1.2.1 ∧ (v.getD v4.toNat []).getD v2.toNat 0 = 0)) rfl bd (fun hb3 => ?_) (fun hb3 => ?_)
            · replace hK := ite_t hK hb3
              refine AWP_skip ?_
              with_reducible refine thenC_normal ?_
              refine AWP_block ?_
              -- region 13
              replace hK := chk_some hK
              obtain ⟨h1, hK⟩ := hK
              refine AWP_rg tab_ok [5, 6, 7, 8, 27, 28] fun c st' hr => ?_
              simp only [go_sem, reduceIte, reduceCtorEq, Nat.reduceEqDiff, Nat.reduceLT, Nat.reduceLeDiff, Nat.reduceBEq, Nat.reduceAdd, Nat.reduceMul, Nat.reduceSub, Nat.reducePow, Int.reduceLE, Int.reduceLT, Int.reduceNeg, Int.reduceToNat, Int.reduceAdd, Int.reduceSub, idO_app, lenO_app, lenO_app2, lenO_eta] at hr
              obtain ⟨rfl, rfl⟩ := hr
              refine ⟨vc, ?_⟩
              with_reducible refine inBlockA_normal ?_
              refine again_n (v4 + 1) [0, 1, 2] hK mkWkR
            · replace hK := ite_f hK hb3
              refine AWP_exit ?_
              with_reducible refine thenC_exit (again_x ?_)
              refine cutX_here v4 [0, 1, 2] (by have hq := hpost2 _ hK; exact hq) mkWkR
          · clear hK; rintro v5 hK
            try dsimp only at hK
            refine exS ⟨167, [(5, .ptr 0 0 0), (6, .int .i64 v1), (7, .int .i64 v2), (8, .int .i64 v5), (27, .int .i64 y1.2.1), (28, .int .i64 v2)], [some (.gen 44 3 [[.int .i64 y1.1, .int .i64 y1.2.1, .own 1 v.length]]), some (.outs 22 2 v.length idO (lenO v)), some (.rows 3 .i64 v)]⟩ rfl ?_
            with_reducible refine inBlockA_exit (thenC_normal ?_)
            refine AWP_seq ?_
            refine AWP_seq ?_
            -- region 14
            refine AWP_rg tab_ok [5, 6, 7, 8, 27, 28, 52] fun c st' hr => ?_
            simp only [go_sem, reduceIte, reduceCtorEq, Nat.reduceEqDiff, Nat.reduceLT, Nat.reduceLeDiff, Nat.reduceBEq, Nat.reduceAdd, Nat.reduceMul, Nat.reduceSub, Nat.reducePow, Int.reduceLE, Int.reduceLT, Int.reduceNeg, Int.reduceToNat, Int.reduceAdd, Int.reduceSub, idO_app, lenO_app, lenO_app2, lenO_eta] at hr
            obtain ⟨rfl, rfl⟩ := hr
            refine ⟨vc, ?_⟩
            with_reducible refine thenC_normal ?_
            refine AWP_condP (v5 = y1.2.1) rfl bd (fun hb4 => ?_) (fun hb4 => ?_)
            · replace hK := ite_t hK hb4
              refine AWP_seq ?_
              -- region 15
              refine AWP_rg tab_ok [2, 3] fun c st' hr => ?_
              simp only [go_sem, reduceIte, reduceCtorEq, Nat.reduceEqDiff, Nat.reduceLT, Nat.reduceLeDiff, Nat.reduceBEq, Nat.reduceAdd, Nat.reduceMul, Nat.reduceSub, Nat.reducePow, Int.reduceLE, Int.reduceLT, Int.reduceNeg, Int.reduceToNat, Int.reduceAdd, Int.reduceSub, idO_app, lenO_app, lenO_app2, lenO_eta] at hr
              obtain ⟨rfl, rfl⟩ := hr
              refine ⟨vc, ?_⟩
              with_reducible refine thenC_normal ?_
              refine AWP_ret ?_
              with_reducible refine thenC_ret (inBlockA_ret (thenC_ret (again_r (cutX_r (inBlockA_ret (thenC_ret ?_))))))
              replace hK := hpost1 _ hK
              try dsimp only at hK
              cases hK
              refine EndsRW [] (.inl rfl) (of_decide_eq_true rfl) (by simp) rfl (fun c x hr => ?_) trivial
              simp only [go_sem, reduceIte, reduceCtorEq, Nat.reduceEqDiff, Nat.reduceLT, Nat.reduceLeDiff, Nat.reduceBEq, Nat.reduceAdd, Nat.reduceMul, Nat.reduceSub, Nat.reducePow, Int.reduceLE, Int.reduceLT, Int.reduceNeg, Int.reduceToNat, Int.reduceAdd, Int.reduceSub, idO_app, lenO_app, lenO_app2, lenO_eta] at hr
              obtain ⟨rfl, rfl⟩ := hr
              exact ⟨rfl, endR⟩
            · replace hK := ite_f hK hb4
              refine AWP_skip ?_
              with_reducible refine thenC_normal ?_
              refine AWP_seqJ (fun (v6, v7) => ⟨167, [(5, .ptr 0 0 0), (6, .int .i64 v7), (7, .int .i64 v2), (27, .int .i64 y1.2.1), (28, .int .i64 v2)], [some (.gen 44 3 [[.int .i64 y1.1, .int .i64 y1.2.1, .own 1 v6.length]]), some (.outs 22 2 v6.length idO (lenO v6)), some (.rows 3 .i64 v6)]⟩) hK ?_ ?_
              · clear hK; intro j hK; try dsimp only at hK
                refine AWP_seq ?_
                -- region 16
                refine AWP_rg tab_ok [5, 6, 7, 8, 27, 28, 55] fun c st' hr => ?_
                simp only [go_sem, reduceIte, reduceCtorEq, Nat.reduceEqDiff, Nat.reduceLT, Nat.reduceLeDiff, Nat.reduceBEq, Nat.reduceAdd, Nat.reduceMul, Nat.reduceSub, Nat.reducePow, Int.reduceLE, Int.reduceLT, Int.reduceNeg, Int.reduceToNat, Int.reduceAdd, Int.reduceSub, idO_app, lenO_app, lenO_app2, lenO_eta] at hr
                obtain ⟨rfl, rfl⟩ := hr
                refine ⟨vc, ?_⟩
                with_reducible refine thenC_normal ?_
                refine AWP_condP (v5 ≠ v2) rfl bd (fun hb5 => ?_) (fun hb5 => ?_)
                · replace hK := ite_t hK hb5
                  refine AWP_seq ?_
                  -- region 17
                  replace hK := chk_some hK
                  obtain ⟨h2, hK⟩ := hK
                  replace hK := chk_some hK
                  obtain ⟨h3, hK⟩ := hK
                  replace hK := chk_some hK
                  obtain ⟨h4, hK⟩ := hK
                  replace hK := chk_some hK
                  obtain ⟨h5, hK⟩ := hK
                  refine AWP_drawJ ⟨167, [(5, .ptr 0 0 0), (6, .int .i64 v1), (7, .int .i64 v2), (27, .int .i64 y1.2.1), (28, .int .i64 v2)], [some (.gen 44 3 [[.int .i64 y1.1, .int .i64 y1.2.1, .own 1 v.length]]), some (.outs 22 2 v.length (fun m => if m = v2.toNat then some v5.toNat else if m = v5.toNat then some v2.toNat else idO m) (fun m => if m = v2.toNat then (v.getD v5.toNat []).length else if m = v5.toNat then (v.getD v2.toNat []).length else lenO v m)), some (.rows 3 .i64 v)]⟩ mixed ?_ ?_
                  · change AWPB _ _ reg_field_Determinant_17.toArray _ _ _ _
                    refine AWPB_memo fun AA hAA => ?_
                    have hn : AA 0 #[true, true, true, true, true, true, true, true, true, true, true, true, true, true, true, true, true, true, true, true] ⟨167, [(5, .ptr 0 0 0), (6, .int .i64 v1), (7, .int .i64 v2), (27, .int .i64 y1.2.1), (28, .int .i64 v2)], [some (.gen 44 3 [[.int .i64 y1.1, .int .i64 y1.2.1, .own 1 v.length]]), some (.outs 22 2 v.length (fun m => if m = v2.toNat then some v5.toNat else if m = v5.toNat then some v2.toNat else idO m) (fun m => if m = v2.toNat then (v.getD v5.toNat []).length else if m = v5.toNat then (v.getD v2.toNat []).length else lenO v m)), some (.rows 3 .i64 v)]⟩ := (hAA _ _ _).2 (by
                      exact AWPB_end [0, 1, 2] ceg_field_Determinant_17_16 mkWkR)
                    have hn1 := J_field_Determinant_17_hn1 h2 h3 h4 h5 hAA hn
                    have hn2 := J_field_Determinant_17_hn2 h2 h3 h4 h5 hAA hn1
                    have hn3 := J_field_Determinant_17_hn3 h2 h3 h4 h5 hAA hn2
                    have hn4 := J_field_Determinant_17_hn4 h2 h3 h4 h5 hAA hn2
                    have hn5 := J_field_Determinant_17_hn5 h2 h3 h4 h5 hAA hn3 hn4
                    have hn6 := J_field_Determinant_17_hn6 h2 h3 h4 h5 hAA hn5
                    have hn7 := J_field_Determinant_17_hn7 h2 h3 h4 h5 hAA hn6
                    have hn8 := J_field_Determinant_17_hn8 h2 h3 h4 h5 hAA hn7
                    exact (hAA _ _ _).2 (AWPB_wk [0, 1, 2] mkWkR ((hAA _ _ _).1 hn8))
                  with_reducible refine thenC_normal ?_
                  refine AWP_gs' (gs_swap 1 2 v5.toNat v2.toNat (X := v) rfl rfl rfl (by first | omega | grind) (by first | omega | grind) (by first | rfl | (simp [noR2, noR1, noR0]; done)) (by first | rfl | (simp [noRH, noRB, noR0]; done)) (by first | rfl | (simp [noPin]; done))) fun st' hr => ?_
                  simp only [go_sem, reduceIte, reduceCtorEq, Nat.reduceEqDiff, Nat.reduceLT, Nat.reduceLeDiff, Nat.reduceBEq, Nat.reduceAdd, Nat.reduceMul, Nat.reduceSub, Nat.reducePow, Int.reduceLE, Int.reduceLT, Int.reduceNeg, Int.reduceToNat, Int.reduceAdd, Int.reduceSub, idO_app, lenO_app, lenO_app2, lenO_eta, List.cons_append, List.nil_append, List.set_cons_zero, List.set_cons_succ] at hr
                  subst hr
                  -- region 18
                  replace hK := chk_some hK
                  obtain ⟨h6, hK⟩ := hK
                  refine AWP_rg tab_ok [5, 6, 7, 27, 28] fun c st' hr => ?_
                  simp only [go_sem, reduceIte, reduceCtorEq, Nat.reduceEqDiff, Nat.reduceLT, Nat.reduceLeDiff, Nat.reduceBEq, Nat.reduceAdd, Nat.reduceMul, Nat.reduceSub, Nat.reducePow, Int.reduceLE, Int.reduceLT, Int.reduceNeg, Int.reduceToNat, Int.reduceAdd, Int.reduceSub, idO_app, lenO_app, lenO_app2, lenO_eta] at hr
                  obtain ⟨rfl, rfl⟩ := hr
                  refine ⟨vc, ?_⟩
                  refine join_n ((v.set v5.toNat (v.getD v2.toNat [])).set v2.toNat (v.getD v5.toNat []), Int.tmod (y1.1 - v1) y1.1) [0, 1, 2] hK mkWkR
                · replace hK := ite_f hK hb5
                  refine AWP_skip ?_
                  refine join_n (v, v1) [0, 1, 2] hK mkWkR
              · clear hK; intro q hK; obtain ⟨v6, v7⟩ := q
                try dsimp only at hK
                change AWP _ _ _ _ ⟨167, [(5, .ptr 0 0 0), (6, .int .i64 v7), (7, .int .i64 v2), (27, .int .i64 y1.2.1), (28, .int .i64 v2)], [some (.gen 44 3 [[.int .i64 y1.1, .int .i64 y1.2.1, .own 1 v6.length]]), some (.outs 22 2 v6.length idO (lenO v6)), some (.rows 3 .i64 v6)]⟩
                refine AWP_seq ?_
                -- region 19
                replace hK := chk_some hK
                obtain ⟨h7, hK⟩ := hK
                refine AWP_dr tab_ok [5, 6, 7, 27, 28] mixed (by kernel_rfl) fun c st' hr => ?_
                simp only [go_sem, reduceIte, reduceCtorEq, Nat.reduceEqDiff, Nat.reduceLT, Nat.reduceLeDiff, Nat.reduceBEq, Nat.reduceAdd, Nat.reduceMul, Nat.reduceSub, Nat.reducePow, Int.reduceLE, Int.reduceLT, Int.reduceNeg, Int.reduceToNat, Int.reduceAdd, Int.reduceSub, idO_app, lenO_app, lenO_app2, lenO_eta] at hr
                obtain ⟨rfl, rfl⟩ := hr
                refine ⟨vc, ?_⟩
                with_reducible refine thenC_normal ?_
                refine AWP_seq ?_
                -- region 20
                refine AWP_drawQ mixed (by kernel_rfl) ?_
                replace hK := chk_some hK
                obtain ⟨h8, hK⟩ := hK
                refine AWQL_rn tab_ok 10 [5, 6, 7, 27, 28, 101, 103] fun c st' hr => ?_
                simp only [go_sem, reduceIte, reduceCtorEq, Nat.reduceEqDiff, Nat.reduceLT, Nat.reduceLeDiff, Nat.reduceBEq, Nat.reduceAdd, Nat.reduceMul, Nat.reduceSub, Nat.reducePow, Int.reduceLE, Int.reduceLT, Int.reduceNeg, Int.reduceToNat, Int.reduceAdd, Int.reduceSub, idO_app, lenO_app, lenO_app2, lenO_eta] at hr
                obtain ⟨rfl, rfl⟩ := hr
                refine ⟨vc, ?_⟩
                replace hK := bind_s hK
                obtain ⟨y2, hy, hK⟩ := hK
                refine AWQL_callK [5, 6, 7, 27, 28, 104] (W_field_inverse hy) rfl rfl pcT rfl Try.call83 (.cons (.atom _ rfl) (.cons (.atom _ rfl) .nil)) (hscG trivial) (of_decide_eq_true rfl) rfl fun st' hr => ?_
                simp only [go_sem, reduceIte, reduceCtorEq, Nat.reduceEqDiff, Nat.reduceLT, Nat.reduceLeDiff, Nat.reduceBEq, Nat.reduceAdd, Nat.reduceMul, Nat.reduceSub, Nat.reducePow, Int.reduceLE, Int.reduceLT, Int.reduceNeg, Int.reduceToNat, Int.reduceAdd, Int.reduceSub, idO_app, lenO_app, lenO_app2, lenO_eta] at hr
                subst hr
                clear hy
                refine AWQL_rn tab_ok 1 [5, 6, 7, 9, 27, 28] fun c st' hr => ?_
                simp only [go_sem, reduceIte, reduceCtorEq, Nat.reduceEqDiff, Nat.reduceLT, Nat.reduceLeDiff, Nat.reduceBEq, Nat.reduceAdd, Nat.reduceMul, Nat.reduceSub, Nat.reducePow, Int.reduceLE, Int.reduceLT, Int.reduceNeg, Int.reduceToNat, Int.reduceAdd, Int.reduceSub, idO_app, lenO_app, lenO_app2, lenO_eta] at hr
                obtain ⟨rfl, rfl⟩ := hr
                refine ⟨vc, ?_⟩
                refine AWQL_nil ?_
                with_reducible refine thenC_normal ?_
                refine AWP_seq ?_
                -- region 21
                replace hK := chk_some hK
                obtain ⟨h9, hK⟩ := hK
                refine AWP_rg tab_ok [5, 6, 7, 9, 10, 27, 28] fun c st' hr => ?_
                simp only [go_sem, reduceIte, reduceCtorEq, Nat.reduceEqDiff, Nat.reduceLT, Nat.reduceLeDiff, Nat.reduceBEq, Nat.reduceAdd, Nat.reduceMul, Nat.reduceSub, Nat.reducePow, Int.reduceLE, Int.reduceLT, Int.reduceNeg, Int.reduceToNat, Int.reduceAdd, Int.reduceSub, idO_app, lenO_app, lenO_app2, lenO_eta] at hr
                obtain ⟨rfl, rfl⟩ := hr
                refine ⟨vc, ?_⟩
                with_reducible refine thenC_normal ?_
                refine AWP_block ?_
                refine AWP_loopX 4 (fun ((v8, v9) : List (List Int) × Int) => ⟨167, [(5, .ptr 0 0 0), (6, .int .i64 (Int.tmod (v7 * ((v6.getD v2.toNat []).getD v2.toNat 0)) y1.1)), (7, .int .i64 v2), (9, .int .i64 y2), (10, .int .i64 v9), (27, .int .i64 y1.2.1), (28, .int .i64 v2)], [some (.gen 44 3 [[.int .i64 y1.1, .int .i64 y1.2.1, .own 1 v8.length]]), some (.outs 22 2 v8.length idO (lenO v8)), some (.rows 3 .i64 v8)]⟩) (fun (v10 : List (List Int)) => ⟨167, [(5, .ptr 0 0 0), (6, .int .i64 (Int.tmod (v7 * ((v6.getD v2.toNat []).getD v2.toNat 0)) y1.1)), (27, .int .i64 y1.2.1), (28, .int .i64 v2)], [some (.gen 44 3 [[.int .i64 y1.1, .int .i64 y1.2.1, .own 1 v10.length]]), some (.outs 22 2 v10.length idO (lenO v10)), some (.rows 3 .i64 v10)]⟩) (fun v => v) (v6, v2 + 1) [0, 1, 2] hK mkWkR ?_ ?_
                · clear hK; rintro ⟨v8, v9⟩ b2 hK hpost3
                  try dsimp only at hK
                  change AWP _ _ _ _ ⟨167, [(5, .ptr 0 0 0), (6, .int .i64 (Int.tmod (v7 * ((v6.getD v2.toNat []).getD v2.toNat 0)) y1.1)), (7, .int .i64 v2), (9, .int .i64 y2), (10, .int .i64 v9), (27, .int .i64 y1.2.1), (28, .int .i64 v2)], [some (.gen 44 3 [[.int .i64 y1.1, .int .i64 y1.2.1, .own 1 v8.length]]), some (.outs 22 2 v8.length idO (lenO v8)), some (.rows 3 .i64 v8)]⟩
                  refine AWP_seq ?_
                  refine AWP_seq ?_
                  -- region 22
                  refine AWP_rg tab_ok [5, 6, 7, 9, 10, 27, 28, 110] fun c st' hr => ?_
                  simp only [go_sem, reduceIte, reduceCtorEq, Nat.reduceEqDiff, Nat.reduceLT, Nat.reduceLeDiff, Nat.reduceBEq, Nat.reduceAdd, Nat.reduceMul, Nat.reduceSub, Nat.reducePow, Int.reduceLE, Int.reduceLT, Int.reduceNeg, Int.reduceToNat, Int.reduceAdd, Int.reduceSub, idO_app, lenO_app, lenO_app2, lenO_eta] at hr
                  obtain ⟨rfl, rfl⟩ := hr
                  refine ⟨vc, ?_⟩
                  with_reducible refine thenC_normal ?_
                  refine AWP_condP (v9 < y1.2.1) rfl bd (fun hb6 => ?_) (fun hb6 => ?_)
                  · replace hK := ite_t hK hb6
                    refine AWP_skip ?_
                    with_reducible refine thenC_normal ?_
                    refine AWP_seq ?_
                    refine AWP_block ?_
                    refine AWP_seq ?_
                    -- region 24
                    replace hK := chk_some hK
                    obtain ⟨h10, hK⟩ := hK
                    refine AWP_dr tab_ok [5, 6, 7, 9, 10, 11, 27, 28] mixed (by kernel_rfl) fun c st' hr => ?_
                    simp only [go_sem, reduceIte, reduceCtorEq, Nat.reduceEqDiff, Nat.reduceLT, Nat.reduceLeDiff, Nat.reduceBEq, Nat.reduceAdd, Nat.reduceMul, Nat.reduceSub, Nat.reducePow, Int.reduceLE, Int.reduceLT, Int.reduceNeg, Int.reduceToNat, Int.reduceAdd, Int.reduceSub, idO_app, lenO_app, lenO_app2, lenO_eta] at hr
                    obtain ⟨rfl, rfl⟩ := hr
                    refine ⟨vc, ?_⟩
                    with_reducible refine thenC_normal ?_
                    refine AWP_seq ?_
                    -- region 25
                    refine AWP_rg tab_ok [5, 6, 7, 9, 10, 11, 12, 27, 28] fun c st' hr => ?_
                    simp only [go_sem, reduceIte, reduceCtorEq, Nat.reduceEqDiff, Nat.reduceLT, Nat.reduceLeDiff, Nat.reduceBEq, Nat.reduceAdd, Nat.reduceMul, Nat.reduceSub, Nat.reducePow, Int.reduceLE, Int.reduceLT, Int.reduceNeg, Int.reduceToNat, Int.reduceAdd, Int.reduceSub, idO_app, lenO_app, lenO_app2, lenO_eta] at hr
                    obtain ⟨rfl, rfl⟩ := hr
                    refine ⟨vc, ?_⟩
                    with_reducible refine thenC_normal ?_
                    refine AWP_block ?_
                    refine AWP_loopX 6 (fun ((v11, v12) : List (List Int) × Int) => ⟨167, [(5, .ptr 0 0 0), (6, .int .i64 (Int.tmod (v7 * ((v6.getD v2.toNat []).getD v2.toNat 0)) y1.1)), (7, .int .i64 v2), (9, .int .i64 y2), (10, .int .i64 v9), (11, .int .i64 (Int.tmod (((v8.getD v9.toNat []).getD v2.toNat 0) * y2) y1.1)), (12, .int .i64 v12), (27, .int .i64 y1.2.1), (28, .int .i64 v2)], [some (.gen 44 3 [[.int .i64 y1.1, .int .i64 y1.2.1, .own 1 v11.length]]), some (.outs 22 2 v11.length idO (lenO v11)), some (.rows 3 .i64 v11)]⟩) (fun (v13 : List (List Int)) => ⟨167, [(5, .ptr 0 0 0), (6, .int .i64 (Int.tmod (v7 * ((v6.getD v2.toNat []).getD v2.toNat 0)) y1.1)), (7, .int .i64 v2), (9, .int .i64 y2), (10, .int .i64 v9), (27, .int .i64 y1.2.1), (28, .int .i64 v2)], [some (.gen 44 3 [[.int .i64 y1.1, .int .i64 y1.2.1, .own 1 v13.length]]), some (.outs 22 2 v13.length idO (lenO v13)), some (.rows 3 .i64 v13)]⟩) (fun v => v) (v8, v2) [0, 1, 2] hK mkWkR ?_ ?_
                    · clear hK; rintro ⟨v11, v12⟩ b3 hK hpost4
                      try dsimp only at hK
                      change AWP _ _ _ _ ⟨167, [(5, .ptr 0 0 0), (6, .int .i64 (Int.tmod (v7 * ((v6.getD v2.toNat []).getD v2.toNat 0)) y1.1)), (7, .int .i64 v2), (9, .int .i64 y2), (10, .int .i64 v9), (11, .int .i64 (Int.tmod (((v8.getD v9.toNat []).getD v2.toNat 0) * y2) y1.1)), (12, .int .i64 v12), (27, .int .i64 y1.2.1), (28, .int .i64 v2)], [some (.gen 44 3 [[.int .i64 y1.1, .int .i64 y1.2.1, .own 1 v11.length]]), some (.outs 22 2 v11.length idO (lenO v11)), some (.rows 3 .i64 v11)]⟩
                      refine AWP_seq ?_
                      refine AWP_seq ?_
                      -- region 26
                      refine AWP_rg tab_ok [5, 6, 7, 9, 10, 11, 12, 27, 28, 130] fun c st' hr => ?_
                      simp only [go_sem, reduceIte, reduceCtorEq, Nat.reduceEqDiff, Nat.reduceLT, Nat.reduceLeDiff, Nat.reduceBEq, Nat.reduceAdd, Nat.reduceMul, Nat.reduceSub, Nat.reducePow, Int.reduceLE, Int.reduceLT, Int.reduceNeg, Int.reduceToNat, Int.reduceAdd, Int.reduceSub, idO_app, lenO_app, lenO_app2, lenO_eta] at hr
                      obtain ⟨rfl, rfl⟩ := hr
                      refine ⟨vc, ?_⟩
                      with_reducible refine thenC_normal ?_
                      refine AWP_condP (v12 < y1.2.1) rfl bd (fun hb7 => ?_) (fun hb7 => ?_)
                      · replace hK := ite_t hK hb7
                        refine AWP_skip ?_
                        with_reducible refine thenC_normal ?_
                        refine AWP_seq ?_
                        refine AWP_block ?_
                        -- region 28
                        replace hK := chk_some hK
                        obtain ⟨h11, hK⟩ := hK
                        refine AWP_dt tab_ok 32 [5, 6, 7, 9, 10, 11, 12, 27, 28] mixed (by kernel_rfl) fun c st' hr => ?_
                        simp only [go_sem, reduceIte, reduceCtorEq, Nat.reduceEqDiff, Nat.reduceLT, Nat.reduceLeDiff, Nat.reduceBEq, Nat.reduceAdd, Nat.reduceMul, Nat.reduceSub, Nat.reducePow, Int.reduceLE, Int.reduceLT, Int.reduceNeg, Int.reduceToNat, Int.reduceAdd, Int.reduceSub, idO_app, lenO_app, lenO_app2, lenO_eta] at hr
                        obtain ⟨rfl, rfl⟩ := hr
                        refine ⟨vc, ?_⟩
                        with_reducible refine inBlockA_normal (thenC_normal ?_)
                        -- region 27
                        replace hK := chk_some hK
                        obtain ⟨h12, hK⟩ := hK
                        refine AWP_rg tab_ok [5, 6, 7, 9, 10, 11, 12, 27, 28] fun c st' hr => ?_
                        simp only [go_sem, reduceIte, reduceCtorEq, Nat.reduceEqDiff, Nat.reduceLT, Nat.reduceLeDiff, Nat.reduceBEq, Nat.reduceAdd, Nat.reduceMul, Nat.reduceSub, Nat.reducePow, Int.reduceLE, Int.reduceLT, Int.reduceNeg, Int.reduceToNat, Int.reduceAdd, Int.reduceSub, idO_app, lenO_app, lenO_app2, lenO_eta] at hr
                        obtain ⟨rfl, rfl⟩ := hr
                        refine ⟨vc, ?_⟩
                        refine again_n (v11.set v9.toNat ((v11.getD v9.toNat []).set v12.toNat (Int.tmod (((v11.getD v9.toNat []).getD v12.toNat 0) + ((y1.1 - (Int.tmod (((v8.getD v9.toNat []).getD v2.toNat 0) * y2) y1.1)) * ((v11.getD v2.toNat []).getD v12.toNat 0))) y1.1)), v12 + 1) [0, 1, 2] hK mkWkR
                      · replace hK := ite_f hK hb7
                        refine AWP_exit ?_
                        with_reducible refine thenC_exit (again_x ?_)
                        refine cutX_here v11 [0, 1, 2] (by have hq := hpost4 _ hK; exact hq) mkWkR
                    · clear hK; rintro v13 hK
                      try dsimp only at hK
                      refine exS ⟨167, [(5, .ptr 0 0 0), (6, .int .i64 (Int.tmod (v7 * ((v6.getD v2.toNat []).getD v2.toNat 0)) y1.1)), (7, .int .i64 v2), (9, .int .i64 y2), (10, .int .i64 v9), (27, .int .i64 y1.2.1), (28, .int .i64 v2)], [some (.gen 44 3 [[.int .i64 y1.1, .int .i64 y1.2.1, .own 1 v13.length]]), some (.outs 22 2 v13.length idO (lenO v13)), some (.rows 3 .i64 v13)]⟩ rfl ?_
                      with_reducible refine inBlockA_exit (inBlockA_normal (thenC_normal ?_))
                      -- region 23
                      replace hK := chk_some hK
                      obtain ⟨h13, hK⟩ := hK
                      refine AWP_rg tab_ok [5, 6, 7, 9, 10, 27, 28] fun c st' hr => ?_
                      simp only [go_sem, reduceIte, reduceCtorEq, Nat.reduceEqDiff, Nat.reduceLT, Nat.reduceLeDiff, Nat.reduceBEq, Nat.reduceAdd, Nat.reduceMul, Nat.reduceSub, Nat.reducePow, Int.reduceLE, Int.reduceLT, Int.reduceNeg, Int.reduceToNat, Int.reduceAdd, Int.reduceSub, idO_app, lenO_app, lenO_app2, lenO_eta] at hr
                      obtain ⟨rfl, rfl⟩ := hr
                      refine ⟨vc, ?_⟩
                      refine again_n (v13, v9 + 1) [0, 1, 2] hK mkWkR
                  · replace hK := ite_f hK hb6
                    refine AWP_exit ?_
                    with_reducible refine thenC_exit (again_x ?_)
                    refine cutX_here v8 [0, 1, 2] (by have hq := hpost3 _ hK; exact hq) mkWkR
                · clear hK; rintro v10 hK
                  try dsimp only at hK
                  refine exS ⟨167, [(5, .ptr 0 0 0), (6, .int .i64 (Int.tmod (v7 * ((v6.getD v2.toNat []).getD v2.toNat 0)) y1.1)), (27, .int .i64 y1.2.1), (28, .int .i64 v2)], [some (.gen 44 3 [[.int .i64 y1.1, .int .i64 y1.2.1, .own 1 v10.length]]), some (.outs 22 2 v10.length idO (lenO v10)), some (.rows 3 .i64 v10)]⟩ rfl ?_
                  with_reducible refine inBlockA_exit (inBlockA_normal (thenC_normal ?_))
                  -- region 29
                  replace hK := chk_some hK
                  obtain ⟨h14, hK⟩ := hK
                  refine AWP_rg tab_ok [5, 6, 27, 28] fun c st' hr => ?_
                  simp only [go_sem, reduceIte, reduceCtorEq, Nat.reduceEqDiff, Nat.reduceLT, Nat.reduceLeDiff, Nat.reduceBEq, Nat.reduceAdd, Nat.reduceMul, Nat.reduceSub, Nat.reducePow, Int.reduceLE, Int.reduceLT, Int.reduceNeg, Int.reduceToNat, Int.reduceAdd, Int.reduceSub, idO_app, lenO_app, lenO_app2, lenO_eta] at hr
                  obtain ⟨rfl, rfl⟩ := hr
                  refine ⟨vc, ?_⟩
                  refine again_n (v10, Int.tmod (v7 * ((v6.getD v2.toNat []).getD v2.toNat 0)) y1.1, v2 + 1) [0, 1, 2] hK mkWkR
        · replace hK := ite_f hK hb2
          refine AWP_exit ?_
          with_reducible refine thenC_exit (again_x ?_)
          refine cutX_here v1 [] (by have hq := hpost1 _ hK; exact hq) mkWkR
      · clear hK; rintro v3 hK
        try dsimp only at hK
        refine exS ⟨167, [(6, .int .i64 v3)], []⟩ rfl ?_
        with_reducible refine inBlockA_exit (thenC_normal ?_)
        refine AWP_seq ?_
        -- region 30
        refine AWP_rg tab_ok [2, 3] fun c st' hr => ?_
        simp only [go_sem, reduceIte, reduceCtorEq, Nat.reduceEqDiff, Nat.reduceLT, Nat.reduceLeDiff, Nat.reduceBEq, Nat.reduceAdd, Nat.reduceMul, Nat.reduceSub, Nat.reducePow, Int.reduceLE, Int.reduceLT, Int.reduceNeg, Int.reduceToNat, Int.reduceAdd, Int.reduceSub, idO_app, lenO_app, lenO_app2, lenO_eta] at hr
        obtain ⟨rfl, rfl⟩ := hr
        refine ⟨vc, ?_⟩
        with_reducible refine thenC_normal ?_
        refine AWP_ret ?_
        cases hK
        refine EndsRW [] (.inl rfl) (of_decide_eq_true rfl) (by simp) rfl (fun c x hr => ?_) trivial
        simp only [go_sem, reduceIte, reduceCtorEq, Nat.reduceEqDiff, Nat.reduceLT, Nat.reduceLeDiff, Nat.reduceBEq, Nat.reduceAdd, Nat.reduceMul, Nat.reduceSub, Nat.reducePow, Int.reduceLE, Int.reduceLT, Int.reduceNeg, Int.reduceToNat, Int.reduceAdd, Int.reduceSub, idO_app, lenO_app, lenO_app2, lenO_eta] at hr
        obtain ⟨rfl, rfl⟩ := hr
        exact ⟨rfl, endR⟩

end Go.SH
