/-
  That the code computes these functions: field_reduced, field_Reduced. By a program of mine (shal.py). Conditions: none.
-/
import Derived.Test.YtlpikingpnenkaaAxT
import Derived.Test.YtlpikingpnenkaaAxR
import Derived.Test.YtlpikingpnenkaaAxTx
import Derived.Test.YtlpikingpnenkaaAxTk
import Derived.Test.YtlpikingpnenkaaAxCr
import Derived.Test.YtlpikingpnenkaaAxRx
import Derived.Test.YtlpikingpnenkaaAxGc
import Derived.Test.YtlpikingpnenkaaAxJm
import Derived.Test.YtlpikingpnenkaaAxW
import Derived.Test.YtlpikingpnenkaaSp
import Derived.Test.YtlpikingpnenkaaWpfieldm
import Derived.Test.YtlpikingpnenkaaWpkindsm
set_option linter.unusedVariables false
set_option linter.unusedSimpArgs false
set_option maxRecDepth 8000
set_option maxHeartbeats 4000000
namespace Go.SH
open Go Go.AX Go.AX.Try Go.Proofs

/-- The operations of a drawn region. -/
def reg_field_reduced_10 : List Oper := (⟨_, rfl⟩ : { l : List Oper // (Try.f179.body.bind (regIn 10)) = some l }).1

theorem ceg_field_reduced_10_1 : firstOk reg_field_reduced_10.toArray #[false, false, false, false, false, false, false, false, false, false, false, false, false, false, false, false, false, false, false, false, false, false, false, false, false, false, false, false] 0 [1, 2, 3, 24, 25, 26, 27] = true := by kernel_rfl

theorem ceg_field_reduced_10_2 : firstOk reg_field_reduced_10.toArray #[true, false, false, false, false, false, false, false, false, false, false, false, false, false, false, false, false, false, false, false, false, false, false, false, false, false, false, false] 1 [2, 3, 24, 25, 26, 27] = true := by kernel_rfl

theorem ceg_field_reduced_10_3 : firstOk reg_field_reduced_10.toArray #[true, true, false, false, false, false, false, false, false, false, false, false, false, false, false, false, false, false, false, false, false, false, false, false, false, false, false, false] 2 [3, 24, 25, 26, 27] = true := by kernel_rfl

theorem ceg_field_reduced_10_4 : firstOk reg_field_reduced_10.toArray #[true, true, true, false, false, false, false, false, false, false, false, false, false, false, false, false, false, false, false, false, false, false, false, false, false, false, false, false] 3 [24, 25, 26, 27] = true := by kernel_rfl

theorem ceg_field_reduced_10_5 : firstOk reg_field_reduced_10.toArray #[true, true, true, true, false, false, false, false, false, false, false, false, false, false, false, false, false, false, false, false, false, false, false, false, false, false, false, false] 4 [24, 25, 26, 27] = true := by kernel_rfl

theorem ceg_field_reduced_10_6 : firstOk reg_field_reduced_10.toArray #[true, true, true, true, true, false, false, false, false, false, false, false, false, false, false, false, false, false, false, false, false, false, false, false, false, false, false, false] 5 [6, 7, 8, 24, 25, 26, 27] = true := by kernel_rfl

theorem ceg_field_reduced_10_7 : firstOk reg_field_reduced_10.toArray #[true, true, true, true, true, true, false, false, false, false, false, false, false, false, false, false, false, false, false, false, false, false, false, false, false, false, false, false] 6 [7, 8, 24, 25, 26, 27] = true := by kernel_rfl

theorem ceg_field_reduced_10_8 : firstOk reg_field_reduced_10.toArray #[true, true, true, true, true, true, true, false, false, false, false, false, false, false, false, false, false, false, false, false, false, false, false, false, false, false, false, false] 7 [8, 24, 25, 26, 27] = true := by kernel_rfl

theorem ceg_field_reduced_10_9 : firstOk reg_field_reduced_10.toArray #[true, true, true, true, true, true, true, true, false, false, false, false, false, false, false, false, false, false, false, false, false, false, false, false, false, false, false, false] 8 [24, 25, 26, 27] = true := by kernel_rfl

theorem ceg_field_reduced_10_10 : firstOk reg_field_reduced_10.toArray #[true, true, true, true, true, true, true, true, true, false, false, false, false, false, false, false, false, false, false, false, false, false, false, false, false, false, false, false] 10 [11, 12, 13, 15, 16, 24, 25, 26, 27] = true := by kernel_rfl

theorem ceg_field_reduced_10_11 : firstOk reg_field_reduced_10.toArray #[true, true, true, true, true, true, true, true, true, false, true, false, false, false, false, false, false, false, false, false, false, false, false, false, false, false, false, false] 11 [12, 13, 15, 16, 24, 25, 26, 27] = true := by kernel_rfl

theorem ceg_field_reduced_10_12 : firstOk reg_field_reduced_10.toArray #[true, true, true, true, true, true, true, true, true, false, true, true, false, false, false, false, false, false, false, false, false, false, false, false, false, false, false, false] 12 [13, 15, 16, 24, 25, 26, 27] = true := by kernel_rfl

theorem ceg_field_reduced_10_13 : firstOk reg_field_reduced_10.toArray #[true, true, true, true, true, true, true, true, true, false, true, true, true, false, false, false, false, false, false, false, false, false, false, false, false, false, false, false] 13 [15, 16, 24, 25, 26, 27] = true := by kernel_rfl

theorem ceg_field_reduced_10_14 : firstOk reg_field_reduced_10.toArray #[true, true, true, true, true, true, true, true, true, false, true, true, true, true, false, false, false, false, false, false, false, false, false, false, false, false, false, false] 14 [15, 16, 24, 25, 26, 27] = true := by kernel_rfl

theorem ceg_field_reduced_10_15 : firstOk reg_field_reduced_10.toArray #[true, true, true, true, true, true, true, true, true, false, true, true, true, true, true, false, false, false, false, false, false, false, false, false, false, false, false, false] 15 [16, 24, 25, 26, 27] = true := by kernel_rfl

theorem ceg_field_reduced_10_16 : firstOk reg_field_reduced_10.toArray #[true, true, true, true, true, true, true, true, true, false, true, true, true, true, true, true, false, false, false, false, false, false, false, false, false, false, false, false] 16 [24, 25, 26, 27] = true := by kernel_rfl

theorem ceg_field_reduced_10_17 : firstOk reg_field_reduced_10.toArray #[true, true, true, true, true, true, true, true, true, false, true, true, true, true, true, true, true, false, false, false, false, false, false, false, false, false, false, false] 17 [18, 19, 20, 22, 23, 24, 25, 26, 27] = true := by kernel_rfl

theorem ceg_field_reduced_10_18 : firstOk reg_field_reduced_10.toArray #[true, true, true, true, true, true, true, true, true, false, true, true, true, true, true, true, true, true, false, false, false, false, false, false, false, false, false, false] 18 [19, 20, 22, 23, 24, 25, 26, 27] = true := by kernel_rfl

theorem ceg_field_reduced_10_19 : firstOk reg_field_reduced_10.toArray #[true, true, true, true, true, true, true, true, true, false, true, true, true, true, true, true, true, true, true, false, false, false, false, false, false, false, false, false] 19 [20, 22, 23, 24, 25, 26, 27] = true := by kernel_rfl

theorem ceg_field_reduced_10_20 : firstOk reg_field_reduced_10.toArray #[true, true, true, true, true, true, true, true, true, false, true, true, true, true, true, true, true, true, true, true, false, false, false, false, false, false, false, false] 20 [22, 23, 24, 25, 26, 27] = true := by kernel_rfl

theorem ceg_field_reduced_10_21 : firstOk reg_field_reduced_10.toArray #[true, true, true, true, true, true, true, true, true, false, true, true, true, true, true, true, true, true, true, true, true, false, false, false, false, false, false, false] 21 [22, 23, 24, 25, 26, 27] = true := by kernel_rfl

theorem ceg_field_reduced_10_22 : firstOk reg_field_reduced_10.toArray #[true, true, true, true, true, true, true, true, true, false, true, true, true, true, true, true, true, true, true, true, true, true, false, false, false, false, false, false] 22 [23, 24, 25, 26, 27] = true := by kernel_rfl

theorem ceg_field_reduced_10_23 : firstOk reg_field_reduced_10.toArray #[true, true, true, true, true, true, true, true, true, false, true, true, true, true, true, true, true, true, true, true, true, true, true, false, false, false, false, false] 23 [24, 25, 26, 27] = true := by kernel_rfl

theorem ceg_field_reduced_10_24 : firstOk reg_field_reduced_10.toArray #[true, true, true, true, true, true, true, true, true, false, true, true, true, true, true, true, true, true, true, true, true, true, true, true, false, false, false, false] 24 [25, 26, 27] = true := by kernel_rfl

theorem ceg_field_reduced_10_25 : firstOk reg_field_reduced_10.toArray #[true, true, true, true, true, true, true, true, true, true, true, true, true, true, true, true, true, true, true, true, true, true, true, true, true, true, false, false] 26 [27] = true := by kernel_rfl

theorem ceg_field_reduced_10_26 : (Region.ready .any reg_field_reduced_10.toArray #[true, true, true, true, true, true, true, true, true, true, true, true, true, true, true, true, true, true, true, true, true, true, true, true, true, true, true, true] == []) = true := by kernel_rfl

theorem ceg_field_reduced_10_27 : (Region.ready .any reg_field_reduced_10.toArray #[true, true, true, true, true, true, true, true, true, true, true, true, true, true, true, true, true, true, true, true, true, true, true, true, true, true, true, false] == [27]) = true := by kernel_rfl

theorem J_field_reduced_10_hn1 {q0 : Int × Int × List (List Int)} {v : List Int} {v1 : Int} {q01 : List (List Int)} {v4 : Int} {pl0 : AX.Loc} (h3 : (0 ≤ v4 ∧ v4 < q01.length)) (h4 : (0 ≤ (v.length : Int) ∧ (v.length : Int) < q01.length)) (h5 : (0 ≤ (v.length : Int) ∧ (v.length : Int) < q01.length)) (h6 : (0 ≤ v4 ∧ v4 < q01.length)) {w0 : World} {Q : Exit → St → Prop} {AA : Nat → Array Bool → St → Prop} (hAA : ∀ g L st, AA g L st ↔ AWPB Try.prog w0 reg_field_reduced_10.toArray Q g L st) (hn : AA 0 #[true, true, true, true, true, true, true, true, true, true, true, true, true, true, true, true, true, true, true, true, true, true, true, true, true, true, true, true] ⟨237, [(0, .ptr 0 0 0), (3, .own 4 v.length), (4, .int .i64 v1), (5, .int .i64 (v.length : Int))], [some (.gen 65 3 [[.int .i64 q0.1, .int .i64 q0.2.1, .own 1 q01.length]]), some (.outs 22 2 q01.length (fun m => if m = v4.toNat then some ((v.length : Int).toNat) else if m = (v.length : Int).toNat then some v4.toNat else idO m) (fun m => if m = v4.toNat then (q01.getD ((v.length : Int).toNat) []).length else if m = (v.length : Int).toNat then (q01.getD v4.toNat []).length else lenO q01 m)), some (.rows 3 .i64 q01), some (.pin 0 pl0), some (.ints 3 .i64 v)]⟩) : AA 1 #[true, true, true, true, true, true, true, true, true, true, true, true, true, true, true, true, true, true, true, true, true, true, true, true, true, true, true, false] ⟨237, [(0, .ptr 0 0 0), (3, .own 4 v.length), (4, .int .i64 v1), (5, .int .i64 (v.length : Int)), (85, .row 2 ((v.length : Int).toNat) ((q01.getD ((v.length : Int).toNat) []).length)), (87, .ptr 1 v4.toNat 0)], [some (.gen 65 3 [[.int .i64 q0.1, .int .i64 q0.2.1, .own 1 q01.length]]), some (.outs 22 2 q01.length (fun m => if m = (v.length : Int).toNat then some v4.toNat else idO m) (fun m => if m = (v.length : Int).toNat then (q01.getD v4.toNat []).length else lenO q01 m)), some (.rows 3 .i64 q01), some (.pin 0 pl0), some (.ints 3 .i64 v)]⟩ := (hAA _ _ _).2 (by
  refine AWPB_one 27 _ ceg_field_reduced_10_27 rfl ?_
  refine AWPL_rn tab_ok 1 [0, 3, 4, 5] fun c st' hr => ?_
  simp only [go_sem, idO_app, lenO_app, lenO_app2, lenO_eta] at hr
  obtain ⟨rfl, rfl⟩ := hr
  refine ⟨vc, ?_⟩
  refine AWPL_nil ?_
  refine QB_normal ?_
  exact AWPB_wk [0, 1, 2, 3, 4] mkWkR ((hAA _ _ _).1 hn))

theorem J_field_reduced_10_hn2 {q0 : Int × Int × List (List Int)} {v : List Int} {v1 : Int} {q01 : List (List Int)} {v4 : Int} {pl0 : AX.Loc} (h3 : (0 ≤ v4 ∧ v4 < q01.length)) (h4 : (0 ≤ (v.length : Int) ∧ (v.length : Int) < q01.length)) (h5 : (0 ≤ (v.length : Int) ∧ (v.length : Int) < q01.length)) (h6 : (0 ≤ v4 ∧ v4 < q01.length)) {w0 : World} {Q : Exit → St → Prop} {AA : Nat → Array Bool → St → Prop} (hAA : ∀ g L st, AA g L st ↔ AWPB Try.prog w0 reg_field_reduced_10.toArray Q g L st) (hn1 : AA 1 #[true, true, true, true, true, true, true, true, true, true, true, true, true, true, true, true, true, true, true, true, true, true, true, true, true, true, true, false] ⟨237, [(0, .ptr 0 0 0), (3, .own 4 v.length), (4, .int .i64 v1), (5, .int .i64 (v.length : Int)), (85, .row 2 ((v.length : Int).toNat) ((q01.getD ((v.length : Int).toNat) []).length)), (87, .ptr 1 v4.toNat 0)], [some (.gen 65 3 [[.int .i64 q0.1, .int .i64 q0.2.1, .own 1 q01.length]]), some (.outs 22 2 q01.length (fun m => if m = (v.length : Int).toNat then some v4.toNat else idO m) (fun m => if m = (v.length : Int).toNat then (q01.getD v4.toNat []).length else lenO q01 m)), some (.rows 3 .i64 q01), some (.pin 0 pl0), some (.ints 3 .i64 v)]⟩) : AA 2 #[true, true, true, true, true, true, true, true, true, true, true, true, true, true, true, true, true, true, true, true, true, true, true, true, true, true, false, false] ⟨237, [(0, .ptr 0 0 0), (3, .own 4 v.length), (4, .int .i64 v1), (5, .int .i64 (v.length : Int)), (70, .own 1 q01.length), (71, .int .i64 v4), (85, .row 2 ((v.length : Int).toNat) ((q01.getD ((v.length : Int).toNat) []).length))], [some (.gen 65 3 [[.int .i64 q0.1, .int .i64 q0.2.1, .own 1 q01.length]]), some (.outs 22 2 q01.length (fun m => if m = (v.length : Int).toNat then some v4.toNat else idO m) (fun m => if m = (v.length : Int).toNat then (q01.getD v4.toNat []).length else lenO q01 m)), some (.rows 3 .i64 q01), some (.pin 0 pl0), some (.ints 3 .i64 v)]⟩ := (hAA _ _ _).2 (by
  refine AWPB_takeB tab_ok [0, 3, 4, 5, 85, 87] 26 [27] _ rfl ceg_field_reduced_10_25 fun c st' hr => ?_
  simp only [go_sem, idO_app, lenO_app, lenO_app2, lenO_eta] at hr
  obtain ⟨rfl, rfl⟩ := hr
  refine ⟨vc, ?_⟩
  exact AWPB_wk [0, 1, 2, 3, 4] mkWkR ((hAA _ _ _).1 hn1))

theorem ceg_field_reduced_10_30 : (Region.ready .any reg_field_reduced_10.toArray #[true, true, true, true, true, true, true, true, true, true, true, true, true, true, true, true, true, true, true, true, true, true, true, true, true, false, false, false] == [25]) = true := by kernel_rfl

theorem J_field_reduced_10_hn3 {q0 : Int × Int × List (List Int)} {v : List Int} {v1 : Int} {q01 : List (List Int)} {v4 : Int} {pl0 : AX.Loc} (h3 : (0 ≤ v4 ∧ v4 < q01.length)) (h4 : (0 ≤ (v.length : Int) ∧ (v.length : Int) < q01.length)) (h5 : (0 ≤ (v.length : Int) ∧ (v.length : Int) < q01.length)) (h6 : (0 ≤ v4 ∧ v4 < q01.length)) {w0 : World} {Q : Exit → St → Prop} {AA : Nat → Array Bool → St → Prop} (hAA : ∀ g L st, AA g L st ↔ AWPB Try.prog w0 reg_field_reduced_10.toArray Q g L st) (hn2 : AA 2 #[true, true, true, true, true, true, true, true, true, true, true, true, true, true, true, true, true, true, true, true, true, true, true, true, true, true, false, false] ⟨237, [(0, .ptr 0 0 0), (3, .own 4 v.length), (4, .int .i64 v1), (5, .int .i64 (v.length : Int)), (70, .own 1 q01.length), (71, .int .i64 v4), (85, .row 2 ((v.length : Int).toNat) ((q01.getD ((v.length : Int).toNat) []).length))], [some (.gen 65 3 [[.int .i64 q0.1, .int .i64 q0.2.1, .own 1 q01.length]]), some (.outs 22 2 q01.length (fun m => if m = (v.length : Int).toNat then some v4.toNat else idO m) (fun m => if m = (v.length : Int).toNat then (q01.getD v4.toNat []).length else lenO q01 m)), some (.rows 3 .i64 q01), some (.pin 0 pl0), some (.ints 3 .i64 v)]⟩) : AA 3 #[true, true, true, true, true, true, true, true, true, true, true, true, true, true, true, true, true, true, true, true, true, true, true, true, true, false, false, false] ⟨237, [(0, .ptr 0 0 0), (3, .own 4 v.length), (4, .int .i64 v1), (5, .int .i64 (v.length : Int)), (70, .own 1 q01.length), (71, .int .i64 v4), (78, .row 2 v4.toNat ((q01.getD v4.toNat []).length)), (85, .row 2 ((v.length : Int).toNat) ((q01.getD ((v.length : Int).toNat) []).length)), (86, .ptr 1 ((v.length : Int).toNat) 0)], [some (.gen 65 3 [[.int .i64 q0.1, .int .i64 q0.2.1, .own 1 q01.length]]), some (.outs 22 2 q01.length idO (lenO q01)), some (.rows 3 .i64 q01), some (.pin 0 pl0), some (.ints 3 .i64 v)]⟩ := (hAA _ _ _).2 (by
  refine AWPB_one 25 _ ceg_field_reduced_10_30 rfl ?_
  refine AWPL_rn tab_ok 1 [0, 3, 4, 5, 70, 71, 85, 87] fun c st' hr => ?_
  simp only [go_sem, idO_app, lenO_app, lenO_app2, lenO_eta] at hr
  obtain ⟨rfl, rfl⟩ := hr
  refine ⟨vc, ?_⟩
  refine AWPL_nil ?_
  refine QB_normal ?_
  exact AWPB_wk [0, 1, 2, 3, 4] mkWkR ((hAA _ _ _).1 hn2))

theorem ceg_field_reduced_10_32 : (Region.noSelect reg_field_reduced_10.toArray && Region.free .any reg_field_reduced_10.toArray #[true, true, true, true, true, true, true, true, true, false, true, true, true, true, true, true, true, true, true, true, true, true, true, true, true, false, false, false] 9 && (Region.ready .any reg_field_reduced_10.toArray #[true, true, true, true, true, true, true, true, true, false, true, true, true, true, true, true, true, true, true, true, true, true, true, true, true, false, false, false]).contains 9) = true := by kernel_rfl

theorem J_field_reduced_10_hn4 {q0 : Int × Int × List (List Int)} {v : List Int} {v1 : Int} {q01 : List (List Int)} {v4 : Int} {pl0 : AX.Loc} (h3 : (0 ≤ v4 ∧ v4 < q01.length)) (h4 : (0 ≤ (v.length : Int) ∧ (v.length : Int) < q01.length)) (h5 : (0 ≤ (v.length : Int) ∧ (v.length : Int) < q01.length)) (h6 : (0 ≤ v4 ∧ v4 < q01.length)) {w0 : World} {Q : Exit → St → Prop} {AA : Nat → Array Bool → St → Prop} (hAA : ∀ g L st, AA g L st ↔ AWPB Try.prog w0 reg_field_reduced_10.toArray Q g L st) (hn3 : AA 3 #[true, true, true, true, true, true, true, true, true, true, true, true, true, true, true, true, true, true, true, true, true, true, true, true, true, false, false, false] ⟨237, [(0, .ptr 0 0 0), (3, .own 4 v.length), (4, .int .i64 v1), (5, .int .i64 (v.length : Int)), (70, .own 1 q01.length), (71, .int .i64 v4), (78, .row 2 v4.toNat ((q01.getD v4.toNat []).length)), (85, .row 2 ((v.length : Int).toNat) ((q01.getD ((v.length : Int).toNat) []).length)), (86, .ptr 1 ((v.length : Int).toNat) 0)], [some (.gen 65 3 [[.int .i64 q0.1, .int .i64 q0.2.1, .own 1 q01.length]]), some (.outs 22 2 q01.length idO (lenO q01)), some (.rows 3 .i64 q01), some (.pin 0 pl0), some (.ints 3 .i64 v)]⟩) : AA 4 #[true, true, true, true, true, true, true, true, true, false, true, true, true, true, true, true, true, true, true, true, true, true, true, true, true, false, false, false] ⟨237, [(0, .ptr 0 0 0), (3, .own 4 v.length), (4, .int .i64 v1), (5, .int .i64 (v.length : Int)), (6, .int .i64 v4), (70, .own 1 q01.length), (78, .row 2 v4.toNat ((q01.getD v4.toNat []).length)), (85, .row 2 ((v.length : Int).toNat) ((q01.getD ((v.length : Int).toNat) []).length)), (86, .ptr 1 ((v.length : Int).toNat) 0)], [some (.gen 65 3 [[.int .i64 q0.1, .int .i64 q0.2.1, .own 1 q01.length]]), some (.outs 22 2 q01.length idO (lenO q01)), some (.rows 3 .i64 q01), some (.pin 0 pl0), some (.ints 3 .i64 v)]⟩ := (hAA _ _ _).2 (by
  refine AWPB_take2 tab_ok [0, 3, 4, 5, 70, 71, 78, 85, 86, 87] 9 _ rfl rfl rfl ceg_field_reduced_10_32 fun c st' hr => ?_
  simp only [go_sem, idO_app, lenO_app, lenO_app2, lenO_eta] at hr
  obtain ⟨rfl, rfl⟩ := hr
  refine ⟨vc, ?_⟩
  exact AWPB_wk [0, 1, 2, 3, 4] mkWkR ((hAA _ _ _).1 hn3))

theorem J_field_reduced_10_hn5 {q0 : Int × Int × List (List Int)} {v : List Int} {v1 : Int} {q01 : List (List Int)} {v4 : Int} {pl0 : AX.Loc} (h3 : (0 ≤ v4 ∧ v4 < q01.length)) (h4 : (0 ≤ (v.length : Int) ∧ (v.length : Int) < q01.length)) (h5 : (0 ≤ (v.length : Int) ∧ (v.length : Int) < q01.length)) (h6 : (0 ≤ v4 ∧ v4 < q01.length)) {w0 : World} {Q : Exit → St → Prop} {AA : Nat → Array Bool → St → Prop} (hAA : ∀ g L st, AA g L st ↔ AWPB Try.prog w0 reg_field_reduced_10.toArray Q g L st) (hn4 : AA 4 #[true, true, true, true, true, true, true, true, true, false, true, true, true, true, true, true, true, true, true, true, true, true, true, true, true, false, false, false] ⟨237, [(0, .ptr 0 0 0), (3, .own 4 v.length), (4, .int .i64 v1), (5, .int .i64 (v.length : Int)), (6, .int .i64 v4), (70, .own 1 q01.length), (78, .row 2 v4.toNat ((q01.getD v4.toNat []).length)), (85, .row 2 ((v.length : Int).toNat) ((q01.getD ((v.length : Int).toNat) []).length)), (86, .ptr 1 ((v.length : Int).toNat) 0)], [some (.gen 65 3 [[.int .i64 q0.1, .int .i64 q0.2.1, .own 1 q01.length]]), some (.outs 22 2 q01.length idO (lenO q01)), some (.rows 3 .i64 q01), some (.pin 0 pl0), some (.ints 3 .i64 v)]⟩) : AA 28 #[false, false, false, false, false, false, false, false, false, false, false, false, false, false, false, false, false, false, false, false, false, false, false, false, false, false, false, false] ⟨237, [(0, .ptr 0 0 0), (3, .own 4 v.length), (4, .int .i64 v1), (5, .int .i64 (v.length : Int)), (6, .int .i64 v4)], [some (.gen 65 3 [[.int .i64 q0.1, .int .i64 q0.2.1, .own 1 q01.length]]), some (.outs 22 2 q01.length idO (lenO q01)), some (.rows 3 .i64 q01), some (.pin 0 pl0), some (.ints 3 .i64 v)]⟩ := (hAA _ _ _).2 (by
  refine AWPB_takeB tab_ok [0, 3, 4, 5, 6, 62, 63, 64, 65, 66, 67, 68, 69, 70, 71, 72, 73, 74, 75, 76, 77, 78, 79, 80, 81, 82, 83, 84, 85, 86, 87] 0 [1, 2, 3, 24, 25, 26, 27] _ rfl ceg_field_reduced_10_1 fun c st' hr => ?_
  simp only [go_sem, idO_app, lenO_app, lenO_app2, lenO_eta] at hr
  obtain ⟨rfl, rfl⟩ := hr
  refine ⟨vc, ?_⟩
  refine AWPB_takeB tab_ok [0, 3, 4, 5, 6, 63, 64, 65, 66, 67, 68, 69, 70, 71, 72, 73, 74, 75, 76, 77, 78, 79, 80, 81, 82, 83, 84, 85, 86, 87] 1 [2, 3, 24, 25, 26, 27] _ rfl ceg_field_reduced_10_2 fun c st' hr => ?_
  simp only [go_sem, idO_app, lenO_app, lenO_app2, lenO_eta] at hr
  obtain ⟨rfl, rfl⟩ := hr
  refine ⟨vc, ?_⟩
  refine AWPB_takeB tab_ok [0, 3, 4, 5, 6, 64, 65, 66, 67, 68, 69, 70, 71, 72, 73, 74, 75, 76, 77, 78, 79, 80, 81, 82, 83, 84, 85, 86, 87] 2 [3, 24, 25, 26, 27] _ rfl ceg_field_reduced_10_3 fun c st' hr => ?_
  simp only [go_sem, idO_app, lenO_app, lenO_app2, lenO_eta] at hr
  obtain ⟨rfl, rfl⟩ := hr
  refine ⟨vc, ?_⟩
  refine AWPB_takeB tab_ok [0, 3, 4, 5, 6, 65, 66, 67, 68, 69, 70, 71, 72, 73, 74, 75, 76, 77, 78, 79, 80, 81, 82, 83, 84, 85, 86, 87] 3 [24, 25, 26, 27] _ rfl ceg_field_reduced_10_4 fun c st' hr => ?_
  simp only [go_sem, idO_app, lenO_app, lenO_app2, lenO_eta] at hr
  obtain ⟨rfl, rfl⟩ := hr
  refine ⟨vc, ?_⟩
  refine AWPB_takeB tab_ok [0, 3, 4, 5, 6, 65, 66, 67, 68, 69, 70, 71, 72, 73, 74, 75, 76, 77, 78, 79, 80, 81, 82, 83, 84, 85, 86, 87] 4 [24, 25, 26, 27] _ rfl ceg_field_reduced_10_5 fun c st' hr => ?_
  simp only [go_sem, idO_app, lenO_app, lenO_app2, lenO_eta] at hr
  obtain ⟨rfl, rfl⟩ := hr
  refine ⟨vc, ?_⟩
  refine AWPB_takeB tab_ok [0, 3, 4, 5, 6, 65, 66, 67, 68, 69, 70, 71, 72, 73, 74, 75, 76, 77, 78, 79, 80, 81, 82, 83, 84, 85, 86, 87] 5 [6, 7, 8, 24, 25, 26, 27] _ rfl ceg_field_reduced_10_6 fun c st' hr => ?_
  simp only [go_sem, idO_app, lenO_app, lenO_app2, lenO_eta] at hr
  obtain ⟨rfl, rfl⟩ := hr
  refine ⟨vc, ?_⟩
  refine AWPB_takeB tab_ok [0, 3, 4, 5, 6, 65, 66, 68, 69, 70, 71, 72, 73, 74, 75, 76, 77, 78, 79, 80, 81, 82, 83, 84, 85, 86, 87] 6 [7, 8, 24, 25, 26, 27] _ rfl ceg_field_reduced_10_7 fun c st' hr => ?_
  simp only [go_sem, idO_app, lenO_app, lenO_app2, lenO_eta] at hr
  obtain ⟨rfl, rfl⟩ := hr
  refine ⟨vc, ?_⟩
  refine AWPB_takeB tab_ok [0, 3, 4, 5, 6, 65, 66, 69, 70, 71, 72, 73, 74, 75, 76, 77, 78, 79, 80, 81, 82, 83, 84, 85, 86, 87] 7 [8, 24, 25, 26, 27] _ rfl ceg_field_reduced_10_8 fun c st' hr => ?_
  simp only [go_sem, idO_app, lenO_app, lenO_app2, lenO_eta] at hr
  obtain ⟨rfl, rfl⟩ := hr
  refine ⟨vc, ?_⟩
  refine AWPB_takeB tab_ok [0, 3, 4, 5, 6, 65, 66, 70, 71, 72, 73, 74, 75, 76, 77, 78, 79, 80, 81, 82, 83, 84, 85, 86, 87] 8 [24, 25, 26, 27] _ rfl ceg_field_reduced_10_9 fun c st' hr => ?_
  simp only [go_sem, idO_app, lenO_app, lenO_app2, lenO_eta] at hr
  obtain ⟨rfl, rfl⟩ := hr
  refine ⟨vc, ?_⟩
  refine AWPB_takeB tab_ok [0, 3, 4, 5, 6, 65, 66, 70, 71, 72, 73, 74, 75, 76, 77, 78, 79, 80, 81, 82, 83, 84, 85, 86, 87] 10 [11, 12, 13, 15, 16, 24, 25, 26, 27] _ rfl ceg_field_reduced_10_10 fun c st' hr => ?_
  simp only [go_sem, idO_app, lenO_app, lenO_app2, lenO_eta] at hr
  obtain ⟨rfl, rfl⟩ := hr
  refine ⟨vc, ?_⟩
  refine AWPB_takeB tab_ok [0, 3, 4, 5, 6, 65, 66, 70, 71, 73, 74, 75, 76, 77, 78, 79, 80, 81, 82, 83, 84, 85, 86, 87] 11 [12, 13, 15, 16, 24, 25, 26, 27] _ rfl ceg_field_reduced_10_11 fun c st' hr => ?_
  simp only [go_sem, idO_app, lenO_app, lenO_app2, lenO_eta] at hr
  obtain ⟨rfl, rfl⟩ := hr
  refine ⟨vc, ?_⟩
  refine AWPB_takeB tab_ok [0, 3, 4, 5, 6, 65, 66, 70, 71, 74, 75, 76, 77, 78, 79, 80, 81, 82, 83, 84, 85, 86, 87] 12 [13, 15, 16, 24, 25, 26, 27] _ rfl ceg_field_reduced_10_12 fun c st' hr => ?_
  simp only [go_sem, idO_app, lenO_app, lenO_app2, lenO_eta] at hr
  obtain ⟨rfl, rfl⟩ := hr
  refine ⟨vc, ?_⟩
  refine AWPB_takeB tab_ok [0, 3, 4, 5, 6, 65, 66, 70, 71, 75, 76, 77, 78, 79, 80, 81, 82, 83, 84, 85, 86, 87] 13 [15, 16, 24, 25, 26, 27] _ rfl ceg_field_reduced_10_13 fun c st' hr => ?_
  simp only [go_sem, idO_app, lenO_app, lenO_app2, lenO_eta] at hr
  obtain ⟨rfl, rfl⟩ := hr
  refine ⟨vc, ?_⟩
  refine AWPB_takeB tab_ok [0, 3, 4, 5, 6, 65, 66, 70, 71, 75, 76, 77, 78, 79, 80, 81, 82, 83, 84, 85, 86, 87] 14 [15, 16, 24, 25, 26, 27] _ rfl ceg_field_reduced_10_14 fun c st' hr => ?_
  simp only [go_sem, idO_app, lenO_app, lenO_app2, lenO_eta] at hr
  obtain ⟨rfl, rfl⟩ := hr
  refine ⟨vc, ?_⟩
  refine AWPB_takeB tab_ok [0, 3, 4, 5, 6, 65, 66, 70, 71, 77, 78, 79, 80, 81, 82, 83, 84, 85, 86, 87] 15 [16, 24, 25, 26, 27] _ rfl ceg_field_reduced_10_15 fun c st' hr => ?_
  simp only [go_sem, idO_app, lenO_app, lenO_app2, lenO_eta] at hr
  obtain ⟨rfl, rfl⟩ := hr
  refine ⟨vc, ?_⟩
  refine AWPB_takeB tab_ok [0, 3, 4, 5, 6, 65, 66, 70, 71, 78, 79, 80, 81, 82, 83, 84, 85, 86, 87] 16 [24, 25, 26, 27] _ rfl ceg_field_reduced_10_16 fun c st' hr => ?_
  simp only [go_sem, idO_app, lenO_app, lenO_app2, lenO_eta] at hr
  obtain ⟨rfl, rfl⟩ := hr
  refine ⟨vc, ?_⟩
  refine AWPB_takeB tab_ok [0, 3, 4, 5, 6, 65, 66, 70, 71, 78, 79, 80, 81, 82, 83, 84, 85, 86, 87] 17 [18, 19, 20, 22, 23, 24, 25, 26, 27] _ rfl ceg_field_reduced_10_17 fun c st' hr => ?_
  simp only [go_sem, idO_app, lenO_app, lenO_app2, lenO_eta] at hr
  obtain ⟨rfl, rfl⟩ := hr
  refine ⟨vc, ?_⟩
  refine AWPB_takeB tab_ok [0, 3, 4, 5, 6, 65, 66, 70, 71, 78, 80, 81, 82, 83, 84, 85, 86, 87] 18 [19, 20, 22, 23, 24, 25, 26, 27] _ rfl ceg_field_reduced_10_18 fun c st' hr => ?_
  simp only [go_sem, idO_app, lenO_app, lenO_app2, lenO_eta] at hr
  obtain ⟨rfl, rfl⟩ := hr
  refine ⟨vc, ?_⟩
  refine AWPB_takeB tab_ok [0, 3, 4, 5, 6, 65, 66, 70, 71, 78, 81, 82, 83, 84, 85, 86, 87] 19 [20, 22, 23, 24, 25, 26, 27] _ rfl ceg_field_reduced_10_19 fun c st' hr => ?_
  simp only [go_sem, idO_app, lenO_app, lenO_app2, lenO_eta] at hr
  obtain ⟨rfl, rfl⟩ := hr
  refine ⟨vc, ?_⟩
  refine AWPB_takeB tab_ok [0, 3, 4, 5, 6, 65, 66, 70, 71, 78, 82, 83, 84, 85, 86, 87] 20 [22, 23, 24, 25, 26, 27] _ rfl ceg_field_reduced_10_20 fun c st' hr => ?_
  simp only [go_sem, idO_app, lenO_app, lenO_app2, lenO_eta] at hr
  obtain ⟨rfl, rfl⟩ := hr
  refine ⟨vc, ?_⟩
  refine AWPB_takeB tab_ok [0, 3, 4, 5, 6, 65, 66, 70, 71, 78, 82, 83, 84, 85, 86, 87] 21 [22, 23, 24, 25, 26, 27] _ rfl ceg_field_reduced_10_21 fun c st' hr => ?_
  simp only [go_sem, idO_app, lenO_app, lenO_app2, lenO_eta] at hr
  obtain ⟨rfl, rfl⟩ := hr
  refine ⟨vc, ?_⟩
  refine AWPB_takeB tab_ok [0, 3, 4, 5, 6, 65, 66, 70, 71, 78, 84, 85, 86, 87] 22 [23, 24, 25, 26, 27] _ rfl ceg_field_reduced_10_22 fun c st' hr => ?_
  simp only [go_sem, idO_app, lenO_app, lenO_app2, lenO_eta] at hr
  obtain ⟨rfl, rfl⟩ := hr
  refine ⟨vc, ?_⟩
  refine AWPB_takeB tab_ok [0, 3, 4, 5, 6, 65, 66, 70, 71, 78, 85, 86, 87] 23 [24, 25, 26, 27] _ rfl ceg_field_reduced_10_23 fun c st' hr => ?_
  simp only [go_sem, idO_app, lenO_app, lenO_app2, lenO_eta] at hr
  obtain ⟨rfl, rfl⟩ := hr
  refine ⟨vc, ?_⟩
  refine AWPB_takeB tab_ok [0, 3, 4, 5, 6, 70, 71, 78, 85, 86, 87] 24 [25, 26, 27] _ rfl ceg_field_reduced_10_24 fun c st' hr => ?_
  simp only [go_sem, idO_app, lenO_app, lenO_app2, lenO_eta] at hr
  obtain ⟨rfl, rfl⟩ := hr
  refine ⟨vc, ?_⟩
  exact AWPB_wk [0, 1, 2, 3, 4] mkWkR ((hAA _ _ _).1 hn4))


theorem W_field_reduced {q0 : Int × Int × List (List Int)} {r : List Int × (Int × Int × List (List Int))} (hK : field_reduced q0 = some r) : InG Try.prog 179 [(.gen 65 3 [[.int .i64 q0.1, .int .i64 q0.2.1, .own 1 q0.2.2.length]]), (.outs 22 2 q0.2.2.length idO (lenO q0.2.2)), (.rows 3 .i64 q0.2.2)] 1 (fun _ => [.ptr 0 0 0]) (.own 3 r.1.length) [(.gen 65 3 [[.int .i64 r.2.1, .int .i64 r.2.2.1, .own 1 r.2.2.2.length]]), (.outs 22 2 r.2.2.2.length idO (lenO r.2.2.2)), (.rows 3 .i64 r.2.2.2), (.ints 3 .i64 r.1)] := by
  refine InG_intro tab_ok (n := 237) (l := [.tmp 2]) Try.func179 rfl rfl rfl (fun ls => by first | (split <;> simp) | simp) (of_decide_eq_true rfl) (of_decide_eq_true rfl) rfl rfl rfl (by simp [renB, ren0, renI, List.range, List.range.loop]) (of_decide_eq_true rfl) (of_decide_eq_true rfl) fun w0 ls hls => ?_
  obtain ⟨pl0, rfl⟩ : ∃ pl0, ls = [pl0] := by
    match ls, hls with
    | [a], _ => exact ⟨a, rfl⟩
  simp only [pinL, List.map_cons, List.map_nil, List.cons_append, List.nil_append, Nat.zero_add, Nat.reduceAdd]
  unfold field_reduced at hK
  refine AWP_seq ?_
  refine AWP_rg tab_ok [0] fun c st' hr => ?_
  simp only [go_sem, idO_app, lenO_app, lenO_app2, lenO_eta] at hr
  obtain ⟨rfl, rfl⟩ := hr
  refine ⟨vc, ?_⟩
  with_reducible refine thenC_normal ?_
  refine AWP_seq ?_
  refine AWP_rg tab_ok [0, 3] fun c st' hr => ?_
  simp only [go_sem, idO_app, lenO_app, lenO_app2, lenO_eta] at hr
  obtain ⟨rfl, rfl⟩ := hr
  refine ⟨vc, ?_⟩
  with_reducible refine thenC_normal ?_
  refine AWP_own 3 (.ints 3 .i64 []) rfl rfl fun st' hr => ?_
  simp only [go_sem, idO_app, lenO_app, lenO_app2, lenO_eta] at hr
  subst hr
  refine AWP_seq ?_
  refine AWP_seq ?_
  refine AWP_rg tab_ok [0, 3, 4] fun c st' hr => ?_
  simp only [go_sem, idO_app, lenO_app, lenO_app2, lenO_eta] at hr
  obtain ⟨rfl, rfl⟩ := hr
  refine ⟨vc, ?_⟩
  with_reducible refine thenC_normal ?_
  refine AWP_block ?_
  refine AWP_loopX 0 (fun ((q01, v, v1) : List (List Int) × List Int × Int) => ⟨237, [(0, .ptr 0 0 0), (3, .own 4 v.length), (4, .int .i64 v1)], [some (.gen 65 3 [[.int .i64 q0.1, .int .i64 q0.2.1, .own 1 q01.length]]), some (.outs 22 2 q01.length idO (lenO q01)), some (.rows 3 .i64 q01), some (.pin 0 pl0), some (.ints 3 .i64 v)]⟩) (fun ((q02, v2) : List (List Int) × List Int) => ⟨237, [(0, .ptr 0 0 0), (3, .own 4 v2.length)], [some (.gen 65 3 [[.int .i64 q0.1, .int .i64 q0.2.1, .own 1 q02.length]]), some (.outs 22 2 q02.length idO (lenO q02)), some (.rows 3 .i64 q02), some (.pin 0 pl0), some (.ints 3 .i64 v2)]⟩) (fun v => v) (q0.2.2, [], 0) [0, 1, 2, 3, 4] hK mkWkR ?_ ?_
  ·clear hK; rintro ⟨q01, v, v1⟩ b hK hpost1
   try dsimp only at hK
   change AWP _ _ _ _ ⟨237, [(0, .ptr 0 0 0), (3, .own 4 v.length), (4, .int .i64 v1)], [some (.gen 65 3 [[.int .i64 q0.1, .int .i64 q0.2.1, .own 1 q01.length]]), some (.outs 22 2 q01.length idO (lenO q01)), some (.rows 3 .i64 q01), some (.pin 0 pl0), some (.ints 3 .i64 v)]⟩
   refine AWP_seq ?_
   refine AWP_seq ?_
   refine AWP_rg tab_ok [0, 3, 4, 27] fun c st' hr => ?_
   simp only [go_sem, idO_app, lenO_app, lenO_app2, lenO_eta] at hr
   obtain ⟨rfl, rfl⟩ := hr
   refine ⟨vc, ?_⟩
   with_reducible refine thenC_normal ?_
   refine AWP_condP ((v1 < q0.2.1 ∧ (v.length : Int) < (q01.length : Int))) rfl bd (fun hb => ?_) (fun hb => ?_)
   ·replace hK := ite_t hK hb
    refine AWP_skip ?_
    with_reducible refine thenC_normal ?_
    refine AWP_seq ?_
    refine AWP_block ?_
    refine AWP_seq ?_
    refine AWP_rg tab_ok [0, 3, 4, 5] fun c st' hr => ?_
    simp only [go_sem, idO_app, lenO_app, lenO_app2, lenO_eta] at hr
    obtain ⟨rfl, rfl⟩ := hr
    refine ⟨vc, ?_⟩
    with_reducible refine thenC_normal ?_
    refine AWP_seq ?_
    refine AWP_rg tab_ok [0, 3, 4, 5, 6] fun c st' hr => ?_
    simp only [go_sem, idO_app, lenO_app, lenO_app2, lenO_eta] at hr
    obtain ⟨rfl, rfl⟩ := hr
    refine ⟨vc, ?_⟩
    with_reducible refine thenC_normal ?_
    refine AWP_seq ?_
    refine AWP_block ?_
    refine AWP_loopX 2 (fun (v3 : Int) => ⟨237, [(0, .ptr 0 0 0), (3, .own 4 v.length), (4, .int .i64 v1), (5, .int .i64 (v.length : Int)), (6, .int .i64 v3)], [some (.gen 65 3 [[.int .i64 q0.1, .int .i64 q0.2.1, .own 1 q01.length]]), some (.outs 22 2 q01.length idO (lenO q01)), some (.rows 3 .i64 q01), some (.pin 0 pl0), some (.ints 3 .i64 v)]⟩) (fun (v4 : Int) => ⟨237, [(0, .ptr 0 0 0), (3, .own 4 v.length), (4, .int .i64 v1), (5, .int .i64 (v.length : Int)), (6, .int .i64 v4)], [some (.gen 65 3 [[.int .i64 q0.1, .int .i64 q0.2.1, .own 1 q01.length]]), some (.outs 22 2 q01.length idO (lenO q01)), some (.rows 3 .i64 q01), some (.pin 0 pl0), some (.ints 3 .i64 v)]⟩) (fun v => v) (v.length : Int) [0, 1, 2, 3, 4] hK mkWkR ?_ ?_
    ·clear hK; rintro v3 b1 hK hpost2
     try dsimp only at hK
     change AWP _ _ _ _ ⟨237, [(0, .ptr 0 0 0), (3, .own 4 v.length), (4, .int .i64 v1), (5, .int .i64 (v.length : Int)), (6, .int .i64 v3)], [some (.gen 65 3 [[.int .i64 q0.1, .int .i64 q0.2.1, .own 1 q01.length]]), some (.outs 22 2 q01.length idO (lenO q01)), some (.rows 3 .i64 q01), some (.pin 0 pl0), some (.ints 3 .i64 v)]⟩
     refine AWP_seq ?_
     refine AWP_seq ?_
     replace hK := chk_some hK
     obtain ⟨h, hK⟩ := hK
     refine AWP_rg tab_ok [0, 3, 4, 5, 6, 52] fun c st' hr => ?_
     simp only [go_sem, idO_app, lenO_app, lenO_app2, lenO_eta] at hr
     obtain ⟨rfl, rfl⟩ := hr
     refine ⟨vc, ?_⟩
     with_reducible refine thenC_normal ?_
     refine AWP_condP ((v3 < (q01.length : Int) ∧ (q01.getD v3.toNat []).getD v1.toNat 0 = 0)) rfl bd (fun hb1 => ?_) (fun hb1 => ?_)
     ·replace hK := ite_t hK hb1
      refine AWP_skip ?_
      with_reducible refine thenC_normal ?_
      refine AWP_block ?_
      replace hK := chk_some hK
      obtain ⟨h1, hK⟩ := hK
      refine AWP_rg tab_ok [0, 3, 4, 5, 6] fun c st' hr => ?_
      simp only [go_sem, idO_app, lenO_app, lenO_app2, lenO_eta] at hr
      obtain ⟨rfl, rfl⟩ := hr
      refine ⟨vc, ?_⟩
      with_reducible refine inBlockA_normal ?_
      refine again_n (v3 + 1) [0, 1, 2, 3, 4] hK mkWkR
     ·replace hK := ite_f hK hb1
      refine AWP_exit ?_
      with_reducible refine thenC_exit (again_x ?_)
      refine cutX_here v3 [0, 1, 2, 3, 4] (by have hq := hpost2 _ hK; exact hq) mkWkR
    ·clear hK; rintro v4 hK
     try dsimp only at hK
     refine exS ⟨237, [(0, .ptr 0 0 0), (3, .own 4 v.length), (4, .int .i64 v1), (5, .int .i64 (v.length : Int)), (6, .int .i64 v4)], [some (.gen 65 3 [[.int .i64 q0.1, .int .i64 q0.2.1, .own 1 q01.length]]), some (.outs 22 2 q01.length idO (lenO q01)), some (.rows 3 .i64 q01), some (.pin 0 pl0), some (.ints 3 .i64 v)]⟩ rfl ?_
     with_reducible refine inBlockA_exit (thenC_normal ?_)
     refine AWP_seq ?_
     refine AWP_seq ?_
     refine AWP_rg tab_ok [0, 3, 4, 5, 6, 61] fun c st' hr => ?_
     simp only [go_sem, idO_app, lenO_app, lenO_app2, lenO_eta] at hr
     obtain ⟨rfl, rfl⟩ := hr
     refine ⟨vc, ?_⟩
     with_reducible refine thenC_normal ?_
     refine AWP_condP (v4 = (q01.length : Int)) rfl bd (fun hb2 => ?_) (fun hb2 => ?_)
     ·replace hK := ite_t hK hb2
      refine AWP_exit ?_
      with_reducible refine thenC_exit (inBlockA_exit (thenC_normal ?_))
      replace hK := chk_some hK
      obtain ⟨h2, hK⟩ := hK
      refine AWP_rg tab_ok [0, 3, 4] fun c st' hr => ?_
      simp only [go_sem, idO_app, lenO_app, lenO_app2, lenO_eta] at hr
      obtain ⟨rfl, rfl⟩ := hr
      refine ⟨vc, ?_⟩
      refine again_n (q01, v, v1 + 1) [0, 1, 2, 3, 4] hK mkWkR
     ·replace hK := ite_f hK hb2
      refine AWP_skip ?_
      with_reducible refine thenC_normal ?_
      refine AWP_seq ?_
      replace hK := chk_some hK
      obtain ⟨h3, hK⟩ := hK
      replace hK := chk_some hK
      obtain ⟨h4, hK⟩ := hK
      replace hK := chk_some hK
      obtain ⟨h5, hK⟩ := hK
      replace hK := chk_some hK
      obtain ⟨h6, hK⟩ := hK
      refine AWP_drawJ ⟨237, [(0, .ptr 0 0 0), (3, .own 4 v.length), (4, .int .i64 v1), (5, .int .i64 (v.length : Int))], [some (.gen 65 3 [[.int .i64 q0.1, .int .i64 q0.2.1, .own 1 q01.length]]), some (.outs 22 2 q01.length (fun m => if m = v4.toNat then some ((v.length : Int).toNat) else if m = (v.length : Int).toNat then some v4.toNat else idO m) (fun m => if m = v4.toNat then (q01.getD ((v.length : Int).toNat) []).length else if m = (v.length : Int).toNat then (q01.getD v4.toNat []).length else lenO q01 m)), some (.rows 3 .i64 q01), some (.pin 0 pl0), some (.ints 3 .i64 v)]⟩ mixed ?_ ?_
      ·change AWPB _ _ reg_field_reduced_10.toArray _ _ _ _
       refine AWPB_memo fun AA hAA => ?_
       have hn : AA 0 #[true, true, true, true, true, true, true, true, true, true, true, true, true, true, true, true, true, true, true, true, true, true, true, true, true, true, true, true] ⟨237, [(0, .ptr 0 0 0), (3, .own 4 v.length), (4, .int .i64 v1), (5, .int .i64 (v.length : Int))], [some (.gen 65 3 [[.int .i64 q0.1, .int .i64 q0.2.1, .own 1 q01.length]]), some (.outs 22 2 q01.length (fun m => if m = v4.toNat then some ((v.length : Int).toNat) else if m = (v.length : Int).toNat then some v4.toNat else idO m) (fun m => if m = v4.toNat then (q01.getD ((v.length : Int).toNat) []).length else if m = (v.length : Int).toNat then (q01.getD v4.toNat []).length else lenO q01 m)), some (.rows 3 .i64 q01), some (.pin 0 pl0), some (.ints 3 .i64 v)]⟩ := (hAA _ _ _).2 (by
        exact AWPB_end [0, 1, 2, 3, 4] ceg_field_reduced_10_26 mkWkR)
       have hn1 := J_field_reduced_10_hn1 h3 h4 h5 h6 hAA hn
       have hn2 := J_field_reduced_10_hn2 h3 h4 h5 h6 hAA hn1
       have hn3 := J_field_reduced_10_hn3 h3 h4 h5 h6 hAA hn2
       have hn4 := J_field_reduced_10_hn4 h3 h4 h5 h6 hAA hn3
       have hn5 := J_field_reduced_10_hn5 h3 h4 h5 h6 hAA hn4
       exact (hAA _ _ _).2 (AWPB_wk [0, 1, 2, 3, 4] mkWkR ((hAA _ _ _).1 hn5))
      with_reducible refine thenC_normal ?_
      refine AWP_gs' (gs_swap 1 2 ((v.length : Int).toNat) v4.toNat (X := q01) rfl rfl rfl (by first | omega | grind) (by first | omega | grind) (by first | rfl | (simp [noR2, noR1, noR0]; done)) (by first | rfl | (simp [noRH, noRB, noR0]; done)) (by first | rfl | (simp [noPin]; done))) fun st' hr => ?_
      simp only [go_sem, idO_app, lenO_app, lenO_app2, lenO_eta, List.cons_append, List.nil_append, List.set_cons_zero, List.set_cons_succ] at hr
      subst hr
      refine AWP_seq ?_
      refine AWP_drawQ mixed (by kernel_rfl) ?_
      replace hK := chk_some hK
      obtain ⟨h7, hK⟩ := hK
      refine AWQL_rn tab_ok 14 [0, 3, 4, 5, 97, 101] fun c st' hr => ?_
      simp only [go_sem, idO_app, lenO_app, lenO_app2, lenO_eta] at hr
      obtain ⟨rfl, rfl⟩ := hr
      refine ⟨vc, ?_⟩
      replace hK := bind_s hK
      obtain ⟨y, hy, hK⟩ := hK
      refine AWQL_callK [0, 3, 4, 5, 102] (W_field_inverse hy) rfl rfl pcT rfl Try.call221 (.cons (.atom _ rfl) (.cons (.atom _ rfl) .nil)) (hscG trivial) (of_decide_eq_true rfl) rfl fun st' hr => ?_
      simp only [go_sem, idO_app, lenO_app, lenO_app2, lenO_eta] at hr
      subst hr
      clear hy
      refine AWQL_rn tab_ok 1 [0, 3, 4, 5, 7] fun c st' hr => ?_
      simp only [go_sem, idO_app, lenO_app, lenO_app2, lenO_eta] at hr
      obtain ⟨rfl, rfl⟩ := hr
      refine ⟨vc, ?_⟩
      refine AWQL_nil ?_
      with_reducible refine thenC_normal ?_
      refine AWP_seq ?_
      refine AWP_seq ?_
      replace hK := chk_some hK
      obtain ⟨h8, hK⟩ := hK
      refine AWP_rg tab_ok [0, 3, 4, 5, 7, 110, 111] fun c st' hr => ?_
      simp only [go_sem, idO_app, lenO_app, lenO_app2, lenO_eta] at hr
      obtain ⟨rfl, rfl⟩ := hr
      refine ⟨vc, ?_⟩
      with_reducible refine thenC_normal ?_
      refine AWP_block ?_
      refine AWP_loopX 4 (fun ((q03, v5) : List (List Int) × Int) => ⟨237, [(0, .ptr 0 0 0), (3, .own 4 v.length), (4, .int .i64 v1), (5, .int .i64 (v.length : Int)), (7, .int .i64 y), (110, .int .i64 ((((q01.set ((v.length : Int).toNat) (q01.getD v4.toNat [])).set v4.toNat (q01.getD ((v.length : Int).toNat) [])).getD ((v.length : Int).toNat) []).length : Int)), (111, .int .i64 v5)], [some (.gen 65 3 [[.int .i64 q0.1, .int .i64 q0.2.1, .own 1 q03.length]]), some (.outs 22 2 q03.length idO (lenO q03)), some (.rows 3 .i64 q03), some (.pin 0 pl0), some (.ints 3 .i64 v)]⟩) (fun (q04 : List (List Int)) => ⟨237, [(0, .ptr 0 0 0), (3, .own 4 v.length), (4, .int .i64 v1), (5, .int .i64 (v.length : Int))], [some (.gen 65 3 [[.int .i64 q0.1, .int .i64 q0.2.1, .own 1 q04.length]]), some (.outs 22 2 q04.length idO (lenO q04)), some (.rows 3 .i64 q04), some (.pin 0 pl0), some (.ints 3 .i64 v)]⟩) (fun v => v) ((q01.set ((v.length : Int).toNat) (q01.getD v4.toNat [])).set v4.toNat (q01.getD ((v.length : Int).toNat) []), 0) [0, 1, 2, 3, 4] hK mkWkR ?_ ?_
      ·clear hK; rintro ⟨q03, v5⟩ b2 hK hpost3
       try dsimp only at hK
       change AWP _ _ _ _ ⟨237, [(0, .ptr 0 0 0), (3, .own 4 v.length), (4, .int .i64 v1), (5, .int .i64 (v.length : Int)), (7, .int .i64 y), (110, .int .i64 ((((q01.set ((v.length : Int).toNat) (q01.getD v4.toNat [])).set v4.toNat (q01.getD ((v.length : Int).toNat) [])).getD ((v.length : Int).toNat) []).length : Int)), (111, .int .i64 v5)], [some (.gen 65 3 [[.int .i64 q0.1, .int .i64 q0.2.1, .own 1 q03.length]]), some (.outs 22 2 q03.length idO (lenO q03)), some (.rows 3 .i64 q03), some (.pin 0 pl0), some (.ints 3 .i64 v)]⟩
       refine AWP_seq ?_
       refine AWP_rg tab_ok [0, 3, 4, 5, 7, 110, 111, 112] fun c st' hr => ?_
       simp only [go_sem, idO_app, lenO_app, lenO_app2, lenO_eta] at hr
       obtain ⟨rfl, rfl⟩ := hr
       refine ⟨vc, ?_⟩
       with_reducible refine thenC_normal ?_
       refine AWP_seq ?_
       refine AWP_condP (v5 < ((((q01.set ((v.length : Int).toNat) (q01.getD v4.toNat [])).set v4.toNat (q01.getD ((v.length : Int).toNat) [])).getD ((v.length : Int).toNat) []).length : Int)) rfl bd (fun hb3 => ?_) (fun hb3 => ?_)
       ·replace hK := ite_t hK hb3
        refine AWP_skip ?_
        with_reducible refine thenC_normal ?_
        refine AWP_seq ?_
        refine AWP_block ?_
        refine AWP_seq ?_
        refine AWP_rg tab_ok [0, 3, 4, 5, 7, 8, 110, 111] fun c st' hr => ?_
        simp only [go_sem, idO_app, lenO_app, lenO_app2, lenO_eta] at hr
        obtain ⟨rfl, rfl⟩ := hr
        refine ⟨vc, ?_⟩
        with_reducible refine thenC_normal ?_
        replace hK := chk_some hK
        obtain ⟨h9, hK⟩ := hK
        refine AWP_dt tab_ok 26 [0, 3, 4, 5, 7, 110, 111] mixed (by kernel_rfl) fun c st' hr => ?_
        simp only [go_sem, idO_app, lenO_app, lenO_app2, lenO_eta] at hr
        obtain ⟨rfl, rfl⟩ := hr
        refine ⟨vc, ?_⟩
        with_reducible refine inBlockA_normal (thenC_normal ?_)
        refine AWP_facts (by simp) fun hfx => ?_
        simp only [factS, factV, fact1, fact0, factL0, lo, hi, maxLen, and_true, true_and] at hfx
        refine AWP_rg tab_ok [0, 3, 4, 5, 7, 110, 111] fun c st' hr => ?_
        simp only [go_sem, idO_app, lenO_app, lenO_app2, lenO_eta] at hr
        obtain ⟨rfl, rfl⟩ := hr
        refine ⟨vc, ?_⟩
        clear hfx
        refine again_n (q03.set ((v.length : Int).toNat) ((q03.getD ((v.length : Int).toNat) []).set v5.toNat (Int.tmod (((q03.getD ((v.length : Int).toNat) []).getD v5.toNat 0) * y) q0.1)), v5 + 1) [0, 1, 2, 3, 4] hK mkWkR
       ·replace hK := ite_f hK hb3
        refine AWP_exit ?_
        with_reducible refine thenC_exit (again_x ?_)
        refine cutX_here q03 [0, 1, 2, 3, 4] (by have hq := hpost3 _ hK; exact hq) mkWkR
      ·clear hK; rintro q04 hK
       try dsimp only at hK
       refine exS ⟨237, [(0, .ptr 0 0 0), (3, .own 4 v.length), (4, .int .i64 v1), (5, .int .i64 (v.length : Int))], [some (.gen 65 3 [[.int .i64 q0.1, .int .i64 q0.2.1, .own 1 q04.length]]), some (.outs 22 2 q04.length idO (lenO q04)), some (.rows 3 .i64 q04), some (.pin 0 pl0), some (.ints 3 .i64 v)]⟩ rfl ?_
       with_reducible refine inBlockA_exit (thenC_normal ?_)
       refine AWP_seq ?_
       refine AWP_seq ?_
       refine AWP_rg tab_ok [0, 3, 4, 5, 145, 146] fun c st' hr => ?_
       simp only [go_sem, idO_app, lenO_app, lenO_app2, lenO_eta] at hr
       obtain ⟨rfl, rfl⟩ := hr
       refine ⟨vc, ?_⟩
       with_reducible refine thenC_normal ?_
       refine AWP_block ?_
       refine AWP_loopX 6 (fun ((q05, v6) : List (List Int) × Int) => ⟨237, [(0, .ptr 0 0 0), (3, .own 4 v.length), (4, .int .i64 v1), (5, .int .i64 (v.length : Int)), (145, .int .i64 (q04.length : Int)), (146, .int .i64 v6)], [some (.gen 65 3 [[.int .i64 q0.1, .int .i64 q0.2.1, .own 1 q05.length]]), some (.outs 22 2 q05.length idO (lenO q05)), some (.rows 3 .i64 q05), some (.pin 0 pl0), some (.ints 3 .i64 v)]⟩) (fun (q06 : List (List Int)) => ⟨237, [(0, .ptr 0 0 0), (3, .own 4 v.length), (4, .int .i64 v1)], [some (.gen 65 3 [[.int .i64 q0.1, .int .i64 q0.2.1, .own 1 q06.length]]), some (.outs 22 2 q06.length idO (lenO q06)), some (.rows 3 .i64 q06), some (.pin 0 pl0), some (.ints 3 .i64 v)]⟩) (fun v => v) (q04, 0) [0, 1, 2, 3, 4] hK mkWkR ?_ ?_
       ·clear hK; rintro ⟨q05, v6⟩ b3 hK hpost4
        try dsimp only at hK
        change AWP _ _ _ _ ⟨237, [(0, .ptr 0 0 0), (3, .own 4 v.length), (4, .int .i64 v1), (5, .int .i64 (v.length : Int)), (145, .int .i64 (q04.length : Int)), (146, .int .i64 v6)], [some (.gen 65 3 [[.int .i64 q0.1, .int .i64 q0.2.1, .own 1 q05.length]]), some (.outs 22 2 q05.length idO (lenO q05)), some (.rows 3 .i64 q05), some (.pin 0 pl0), some (.ints 3 .i64 v)]⟩
        refine AWP_seq ?_
        refine AWP_rg tab_ok [0, 3, 4, 5, 145, 146, 147] fun c st' hr => ?_
        simp only [go_sem, idO_app, lenO_app, lenO_app2, lenO_eta] at hr
        obtain ⟨rfl, rfl⟩ := hr
        refine ⟨vc, ?_⟩
        with_reducible refine thenC_normal ?_
        refine AWP_seq ?_
        refine AWP_condP (v6 < (q04.length : Int)) rfl bd (fun hb4 => ?_) (fun hb4 => ?_)
        ·replace hK := ite_t hK hb4
         refine AWP_skip ?_
         with_reducible refine thenC_normal ?_
         refine AWP_seq ?_
         refine AWP_block ?_
         refine AWP_seq ?_
         refine AWP_rg tab_ok [0, 3, 4, 5, 9, 145, 146] fun c st' hr => ?_
         simp only [go_sem, idO_app, lenO_app, lenO_app2, lenO_eta] at hr
         obtain ⟨rfl, rfl⟩ := hr
         refine ⟨vc, ?_⟩
         with_reducible refine thenC_normal ?_
         refine AWP_seq ?_
         replace hK := chk_some hK
         obtain ⟨h10, hK⟩ := hK
         refine AWP_rg tab_ok [0, 3, 4, 5, 9, 10, 145, 146] fun c st' hr => ?_
         simp only [go_sem, idO_app, lenO_app, lenO_app2, lenO_eta] at hr
         obtain ⟨rfl, rfl⟩ := hr
         refine ⟨vc, ?_⟩
         with_reducible refine thenC_normal ?_
         refine AWP_seq ?_
         refine AWP_seq ?_
         refine AWP_rg tab_ok [0, 3, 4, 5, 9, 10, 145, 146, 165] fun c st' hr => ?_
         simp only [go_sem, idO_app, lenO_app, lenO_app2, lenO_eta] at hr
         obtain ⟨rfl, rfl⟩ := hr
         refine ⟨vc, ?_⟩
         with_reducible refine thenC_normal ?_
         refine AWP_condP ((v6 = (v.length : Int) ∨ (q05.getD v6.toNat []).getD v1.toNat 0 = 0)) rfl bd (fun hb5 => ?_) (fun hb5 => ?_)
         ·replace hK := ite_t hK hb5
          refine AWP_exit ?_
          with_reducible refine thenC_exit (inBlockA_exit (thenC_normal ?_))
          refine AWP_facts (by simp) fun hfx => ?_
          simp only [factS, factV, fact1, fact0, factL0, lo, hi, maxLen, and_true, true_and] at hfx
          refine AWP_rg tab_ok [0, 3, 4, 5, 145, 146] fun c st' hr => ?_
          simp only [go_sem, idO_app, lenO_app, lenO_app2, lenO_eta] at hr
          obtain ⟨rfl, rfl⟩ := hr
          refine ⟨vc, ?_⟩
          clear hfx
          refine again_n (q05, v6 + 1) [0, 1, 2, 3, 4] hK mkWkR
         ·replace hK := ite_f hK hb5
          refine AWP_skip ?_
          with_reducible refine thenC_normal ?_
          refine AWP_seq ?_
          replace hK := chk_some hK
          obtain ⟨h11, hK⟩ := hK
          refine AWP_rg tab_ok [0, 3, 4, 5, 9, 10, 145, 146, 173, 174] fun c st' hr => ?_
          simp only [go_sem, idO_app, lenO_app, lenO_app2, lenO_eta] at hr
          obtain ⟨rfl, rfl⟩ := hr
          refine ⟨vc, ?_⟩
          with_reducible refine thenC_normal ?_
          refine AWP_block ?_
          refine AWP_loopX 8 (fun ((q07, v7) : List (List Int) × Int) => ⟨237, [(0, .ptr 0 0 0), (3, .own 4 v.length), (4, .int .i64 v1), (5, .int .i64 (v.length : Int)), (9, .int .i64 v6), (10, .int .i64 ((q05.getD v6.toNat []).getD v1.toNat 0)), (145, .int .i64 (q04.length : Int)), (146, .int .i64 v6), (173, .int .i64 ((q05.getD v6.toNat []).length : Int)), (174, .int .i64 v7)], [some (.gen 65 3 [[.int .i64 q0.1, .int .i64 q0.2.1, .own 1 q07.length]]), some (.outs 22 2 q07.length idO (lenO q07)), some (.rows 3 .i64 q07), some (.pin 0 pl0), some (.ints 3 .i64 v)]⟩) (fun (q08 : List (List Int)) => ⟨237, [(0, .ptr 0 0 0), (3, .own 4 v.length), (4, .int .i64 v1), (5, .int .i64 (v.length : Int)), (145, .int .i64 (q04.length : Int)), (146, .int .i64 v6)], [some (.gen 65 3 [[.int .i64 q0.1, .int .i64 q0.2.1, .own 1 q08.length]]), some (.outs 22 2 q08.length idO (lenO q08)), some (.rows 3 .i64 q08), some (.pin 0 pl0), some (.ints 3 .i64 v)]⟩) (fun v => v) (q05, 0) [0, 1, 2, 3, 4] hK mkWkR ?_ ?_
          ·clear hK; rintro ⟨q07, v7⟩ b4 hK hpost5
           try dsimp only at hK
           change AWP _ _ _ _ ⟨237, [(0, .ptr 0 0 0), (3, .own 4 v.length), (4, .int .i64 v1), (5, .int .i64 (v.length : Int)), (9, .int .i64 v6), (10, .int .i64 ((q05.getD v6.toNat []).getD v1.toNat 0)), (145, .int .i64 (q04.length : Int)), (146, .int .i64 v6), (173, .int .i64 ((q05.getD v6.toNat []).length : Int)), (174, .int .i64 v7)], [some (.gen 65 3 [[.int .i64 q0.1, .int .i64 q0.2.1, .own 1 q07.length]]), some (.outs 22 2 q07.length idO (lenO q07)), some (.rows 3 .i64 q07), some (.pin 0 pl0), some (.ints 3 .i64 v)]⟩
           refine AWP_seq ?_
           refine AWP_rg tab_ok [0, 3, 4, 5, 9, 10, 145, 146, 173, 174, 175] fun c st' hr => ?_
           simp only [go_sem, idO_app, lenO_app, lenO_app2, lenO_eta] at hr
           obtain ⟨rfl, rfl⟩ := hr
           refine ⟨vc, ?_⟩
           with_reducible refine thenC_normal ?_
           refine AWP_seq ?_
           refine AWP_condP (v7 < ((q05.getD v6.toNat []).length : Int)) rfl bd (fun hb6 => ?_) (fun hb6 => ?_)
           ·replace hK := ite_t hK hb6
            refine AWP_skip ?_
            with_reducible refine thenC_normal ?_
            refine AWP_seq ?_
            refine AWP_block ?_
            refine AWP_seq ?_
            refine AWP_rg tab_ok [0, 3, 4, 5, 9, 10, 11, 145, 146, 173, 174] fun c st' hr => ?_
            simp only [go_sem, idO_app, lenO_app, lenO_app2, lenO_eta] at hr
            obtain ⟨rfl, rfl⟩ := hr
            refine ⟨vc, ?_⟩
            with_reducible refine thenC_normal ?_
            replace hK := chk_some hK
            obtain ⟨h12, hK⟩ := hK
            refine AWP_dt tab_ok 42 [0, 3, 4, 5, 9, 10, 145, 146, 173, 174] mixed (by kernel_rfl) fun c st' hr => ?_
            simp only [go_sem, idO_app, lenO_app, lenO_app2, lenO_eta] at hr
            obtain ⟨rfl, rfl⟩ := hr
            refine ⟨vc, ?_⟩
            with_reducible refine inBlockA_normal (thenC_normal ?_)
            replace hK := chk_some hK
            obtain ⟨h13, hK⟩ := hK
            refine AWP_rg tab_ok [0, 3, 4, 5, 9, 10, 145, 146, 173, 174] fun c st' hr => ?_
            simp only [go_sem, idO_app, lenO_app, lenO_app2, lenO_eta] at hr
            obtain ⟨rfl, rfl⟩ := hr
            refine ⟨vc, ?_⟩
            refine again_n (q07.set v6.toNat ((q07.getD v6.toNat []).set v7.toNat (Int.tmod (((q07.getD v6.toNat []).getD v7.toNat 0) + ((q0.1 - ((q05.getD v6.toNat []).getD v1.toNat 0)) * ((q07.getD ((v.length : Int).toNat) []).getD v7.toNat 0))) q0.1)), v7 + 1) [0, 1, 2, 3, 4] hK mkWkR
           ·replace hK := ite_f hK hb6
            refine AWP_exit ?_
            with_reducible refine thenC_exit (again_x ?_)
            refine cutX_here q07 [0, 1, 2, 3, 4] (by have hq := hpost5 _ hK; exact hq) mkWkR
          ·clear hK; rintro q08 hK
           try dsimp only at hK
           refine exS ⟨237, [(0, .ptr 0 0 0), (3, .own 4 v.length), (4, .int .i64 v1), (5, .int .i64 (v.length : Int)), (145, .int .i64 (q04.length : Int)), (146, .int .i64 v6)], [some (.gen 65 3 [[.int .i64 q0.1, .int .i64 q0.2.1, .own 1 q08.length]]), some (.outs 22 2 q08.length idO (lenO q08)), some (.rows 3 .i64 q08), some (.pin 0 pl0), some (.ints 3 .i64 v)]⟩ rfl ?_
           with_reducible refine inBlockA_exit (inBlockA_normal (thenC_normal ?_))
           refine AWP_facts (by simp) fun hfx => ?_
           simp only [factS, factV, fact1, fact0, factL0, lo, hi, maxLen, and_true, true_and] at hfx
           refine AWP_rg tab_ok [0, 3, 4, 5, 145, 146] fun c st' hr => ?_
           simp only [go_sem, idO_app, lenO_app, lenO_app2, lenO_eta] at hr
           obtain ⟨rfl, rfl⟩ := hr
           refine ⟨vc, ?_⟩
           clear hfx
           refine again_n (q08, v6 + 1) [0, 1, 2, 3, 4] hK mkWkR
        ·replace hK := ite_f hK hb4
         refine AWP_exit ?_
         with_reducible refine thenC_exit (again_x ?_)
         refine cutX_here q05 [0, 1, 2, 3, 4] (by have hq := hpost4 _ hK; exact hq) mkWkR
       ·clear hK; rintro q06 hK
        try dsimp only at hK
        refine exS ⟨237, [(0, .ptr 0 0 0), (3, .own 4 v.length), (4, .int .i64 v1)], [some (.gen 65 3 [[.int .i64 q0.1, .int .i64 q0.2.1, .own 1 q06.length]]), some (.outs 22 2 q06.length idO (lenO q06)), some (.rows 3 .i64 q06), some (.pin 0 pl0), some (.ints 3 .i64 v)]⟩ rfl ?_
        with_reducible refine inBlockA_exit (thenC_normal ?_)
        replace hK := chk_some hK
        obtain ⟨h14, hK⟩ := hK
        refine AWP_rg tab_ok [0, 3, 4] fun c st' hr => ?_
        simp only [go_sem, idO_app, lenO_app, lenO_app2, lenO_eta] at hr
        obtain ⟨rfl, rfl⟩ := hr
        refine ⟨vc, ?_⟩
        with_reducible refine inBlockA_normal (thenC_normal ?_)
        replace hK := chk_some hK
        obtain ⟨h15, hK⟩ := hK
        refine AWP_rg tab_ok [0, 3, 4] fun c st' hr => ?_
        simp only [go_sem, idO_app, lenO_app, lenO_app2, lenO_eta] at hr
        obtain ⟨rfl, rfl⟩ := hr
        refine ⟨vc, ?_⟩
        refine again_n (q06, v ++ [v1], v1 + 1) [0, 1, 2, 3, 6] hK mkWkR
   ·replace hK := ite_f hK hb
    refine AWP_exit ?_
    with_reducible refine thenC_exit (again_x ?_)
    refine cutX_here (q01, v) [0, 1, 2, 3, 4] (by have hq := hpost1 _ hK; exact hq) mkWkR
  ·clear hK; rintro ⟨q02, v2⟩ hK
   try dsimp only at hK
   refine exS ⟨237, [(0, .ptr 0 0 0), (3, .own 4 v2.length)], [some (.gen 65 3 [[.int .i64 q0.1, .int .i64 q0.2.1, .own 1 q02.length]]), some (.outs 22 2 q02.length idO (lenO q02)), some (.rows 3 .i64 q02), some (.pin 0 pl0), some (.ints 3 .i64 v2)]⟩ rfl ?_
   with_reducible refine inBlockA_exit (thenC_normal ?_)
   refine AWP_seq ?_
   refine AWP_rl ?_
   replace hK := chk_some hK
   obtain ⟨h16, hK⟩ := hK
   refine AWPL_rn tab_ok 8 [3, 225, 232] fun c st' hr => ?_
   simp only [go_sem, idO_app, lenO_app, lenO_app2, lenO_eta] at hr
   obtain ⟨rfl, rfl⟩ := hr
   refine ⟨vc, ?_⟩
   replace hK := chk_some hK
   obtain ⟨h17, hK⟩ := hK
   refine AWPL_gR [3, 225, 233] [1, 2] [.own 0 ((v2.length : Int).toNat)] [some (.gen 65 3 [[.int .i64 q0.1, .int .i64 q0.2.1, .own 1 q02.length]]), none, none, some (.pin 0 pl0), some (.ints 3 .i64 v2), some (.outs 22 6 ((q02.take ((v2.length : Int).toNat)).length) idO (lenO (q02.take ((v2.length : Int).toNat)))), some (.rows 3 .i64 (q02.take ((v2.length : Int).toNat)))] (r' := .own 5 ((q02.take ((v2.length : Int).toNat)).length)) (Try.cloneRows h17.1 h17.2) rfl rfl pcT rfl Try.call105 (of_decide_eq_true rfl) ⟨rfl, rfl, trivial⟩ rfl (hscG trivial) (of_decide_eq_true rfl) rfl rfl rfl (of_decide_eq_true rfl) rfl fun st' hr => ?_
   simp only [go_sem, idO_app, lenO_app, lenO_app2, lenO_eta] at hr
   subst hr
   refine AWPL_rn tab_ok 3 [3] fun c st' hr => ?_
   simp only [go_sem, idO_app, lenO_app, lenO_app2, lenO_eta] at hr
   obtain ⟨rfl, rfl⟩ := hr
   refine ⟨vc, ?_⟩
   refine AWPL_nil ?_
   with_reducible refine thenC_normal ?_
   refine AWP_seq ?_
   refine AWP_rg tab_ok [2] fun c st' hr => ?_
   simp only [go_sem, idO_app, lenO_app, lenO_app2, lenO_eta] at hr
   obtain ⟨rfl, rfl⟩ := hr
   refine ⟨vc, ?_⟩
   with_reducible refine thenC_normal ?_
   refine AWP_ret ?_
   cases hK
   refine EndsRW [0, 5, 6, 4, 3] (.inl rfl) (of_decide_eq_true rfl) (by simp) rfl (fun c x hr => ?_) endHR
   simp only [go_sem, idO_app, lenO_app, lenO_app2, lenO_eta] at hr
   obtain ⟨rfl, rfl⟩ := hr
   exact ⟨rfl, endR⟩


theorem W_field_Reduced {x_0 : Int} {x_1 : Int} {x_2 : List (List Int)} {r : Int × Int × List (List Int) × Int} (hK : field_Reduced x_0 x_1 x_2 = some r) : Pure Try.prog 137 [.agg [.int .i64 x_0, .int .i64 x_1, .fn 1 x_2.length (fun i => [.ints .i64 (x_2.getD i [])])]] (.tup [.agg [.int .i64 r.1, .int .i64 r.2.1, .own 0 r.2.2.1.length], .int .i64 r.2.2.2]) [(.outs 22 1 r.2.2.1.length idO (lenO r.2.2.1)), (.rows 3 .i64 r.2.2.1)] := by
  refine Pure_introF tab_ok (n := 16) (l := [.cell 2 65, .tmp 3]) Try.func137 rfl rfl rfl (by simp) fun hfact w0 => ?_
  simp only [factL1, fact1, fact0, factL0, lo, hi, maxLen, and_true] at hfact
  unfold field_Reduced at hK
  refine AWP_seq ?_
  refine AWP_rg tab_ok [1, 2] fun c st' hr => ?_
  simp only [go_sem, idO_app, lenO_app, lenO_app2, lenO_eta] at hr
  obtain ⟨rfl, rfl⟩ := hr
  refine ⟨vc, ?_⟩
  with_reducible refine thenC_normal ?_
  refine AWP_gs' (gs_rows0 3 .i64) fun st' hr => ?_
  simp only [go_sem, idO_app, lenO_app, lenO_app2, lenO_eta, List.cons_append, List.nil_append] at hr
  subst hr
  refine AWP_ownH 1 2 (.outs 22 2 0 idO (lenO [])) rfl rfl rfl fun st' hr => ?_
  simp only [go_sem, idO_app, lenO_app, lenO_app2, lenO_eta] at hr
  subst hr
  refine AWP_seq ?_
  refine AWP_seq ?_
  refine AWP_rl ?_
  refine AWPL_rn tab_ok 1 [1, 2, 6] fun c st' hr => ?_
  simp only [go_sem, idO_app, lenO_app, lenO_app2, lenO_eta] at hr
  obtain ⟨rfl, rfl⟩ := hr
  refine ⟨vc, ?_⟩
  replace hK := bind_s hK
  obtain ⟨y, hy, hK⟩ := hK
  refine AWPL_callK [1, 2, 7] (W_kinds_CheckMatrix hy) rfl rfl pcT rfl Try.call82 (.cons (.agg _ _ rfl (ArgsOk.get (.cons (.atom _ rfl) (.cons (.atom _ rfl) (.cons (.atom _ rfl) .nil)))).2) .nil) (hscG trivial) (of_decide_eq_true rfl) (by first | rfl | simp [nI, nI1, nI0]) (by first | rfl | simp [nIB, nI0]) fun st' hr => ?_
  simp only [go_sem, idO_app, lenO_app, lenO_app2, lenO_eta] at hr
  subst hr
  clear hy
  refine AWPL_rn tab_ok 1 [1, 2, 4] fun c st' hr => ?_
  simp only [go_sem, idO_app, lenO_app, lenO_app2, lenO_eta] at hr
  obtain ⟨rfl, rfl⟩ := hr
  refine ⟨vc, ?_⟩
  refine AWPL_nil ?_
  with_reducible refine thenC_normal ?_
  refine AWP_seq ?_
  refine AWP_rg tab_ok [1, 2, 4, 9] fun c st' hr => ?_
  simp only [go_sem, idO_app, lenO_app, lenO_app2, lenO_eta] at hr
  obtain ⟨rfl, rfl⟩ := hr
  refine ⟨vc, ?_⟩
  with_reducible refine thenC_normal ?_
  refine AWP_condP (y ≠ 0) rfl bd (fun hb => ?_) (fun hb => ?_)
  ·replace hK := ite_t hK hb
   refine AWP_seq ?_
   refine AWP_rg tab_ok [2, 3] fun c st' hr => ?_
   simp only [go_sem, idO_app, lenO_app, lenO_app2, lenO_eta] at hr
   obtain ⟨rfl, rfl⟩ := hr
   refine ⟨vc, ?_⟩
   with_reducible refine thenC_normal ?_
   refine AWP_gs' (gs_rows0 3 .i64) fun st' hr => ?_
   simp only [go_sem, idO_app, lenO_app, lenO_app2, lenO_eta, List.cons_append, List.nil_append] at hr
   subst hr
   refine AWP_ownH 1 2 (.outs 22 4 0 idO (lenO [])) rfl rfl rfl fun st' hr => ?_
   simp only [go_sem, idO_app, lenO_app, lenO_app2, lenO_eta] at hr
   subst hr
   refine AWP_ret ?_
   with_reducible refine thenC_ret ?_
   cases hK
   refine EndsRW [5, 4] (.inl rfl) (of_decide_eq_true rfl) (by simp) rfl (fun c x hr => ?_) endHR
   simp only [go_sem, idO_app, lenO_app, lenO_app2, lenO_eta] at hr
   obtain ⟨rfl, rfl⟩ := hr
   exact ⟨rfl, endR⟩
  ·replace hK := ite_f hK hb
   refine AWP_skip ?_
   with_reducible refine thenC_normal ?_
   refine AWP_seq ?_
   refine AWP_rl ?_
   refine AWPL_rn tab_ok 1 [2, 12] fun c st' hr => ?_
   simp only [go_sem, idO_app, lenO_app, lenO_app2, lenO_eta] at hr
   obtain ⟨rfl, rfl⟩ := hr
   refine ⟨vc, ?_⟩
   replace hK := bind_s hK
   obtain ⟨y1, hy, hK⟩ := hK
   refine AWPL_callK [2, 13] (W_field_twin hy) rfl rfl pcT rfl Try.call178 (.cons (.agg _ _ rfl (ArgsOk.get (.cons (.atom _ rfl) (.cons (.atom _ rfl) (.cons (.atom _ rfl) .nil)))).2) .nil) (hscG trivial) (of_decide_eq_true rfl) (by first | rfl | simp [nI, nI1, nI0]) (by first | rfl | simp [nIB, nI0]) fun st' hr => ?_
   simp only [go_sem, idO_app, lenO_app, lenO_app2, lenO_eta] at hr
   subst hr
   clear hy
   refine AWPL_rn tab_ok 2 [2, 5] fun c st' hr => ?_
   simp only [go_sem, idO_app, lenO_app, lenO_app2, lenO_eta] at hr
   obtain ⟨rfl, rfl⟩ := hr
   refine ⟨vc, ?_⟩
   refine AWPL_nil ?_
   with_reducible refine thenC_normal ?_
   refine AWP_seq ?_
   refine AWP_rl ?_
   replace hK := bind_s hK
   obtain ⟨y2, hy, hK⟩ := hK
   refine AWPL_gR [2, 5] [6, 4, 5] [.ptr 0 0 0] [some (.gen 65 3 [[.int .i64 x_0, .int .i64 x_1, .fn 1 x_2.length (fun i => [.ints .i64 (x_2.getD i [])])]]), some (.gen 65 3 [[.int .i64 0, .int .i64 0, .own 3 0]]), some (.rows 3 .i64 ([] : List (List Int))), some (.outs 22 2 0 idO (lenO ([] : List (List Int)))), none, none, some (.gen 65 3 [[.int .i64 y2.2.1, .int .i64 y2.2.2.1, .own 7 y2.2.2.2.length]]), some (.outs 22 8 y2.2.2.2.length idO (lenO y2.2.2.2)), some (.rows 3 .i64 y2.2.2.2), some (.ints 3 .i64 y2.1)] (r' := .own 9 y2.1.length) (W_field_reduced hy) rfl rfl pcT rfl Try.call179 (of_decide_eq_true rfl) ⟨rfl, rfl, rfl, trivial⟩ rfl (hscG trivial) (of_decide_eq_true rfl) rfl rfl rfl (of_decide_eq_true rfl) rfl fun st' hr => ?_
   simp only [go_sem, idO_app, lenO_app, lenO_app2, lenO_eta] at hr
   subst hr
   clear hy
   refine AWPL_nil ?_
   with_reducible refine thenC_normal ?_
   refine AWP_seq ?_
   refine AWP_rg tab_ok [2, 3] fun c st' hr => ?_
   simp only [go_sem, idO_app, lenO_app, lenO_app2, lenO_eta] at hr
   obtain ⟨rfl, rfl⟩ := hr
   refine ⟨vc, ?_⟩
   with_reducible refine thenC_normal ?_
   refine AWP_ret ?_
   cases hK
   refine EndsRW [7, 8] (.inl rfl) (of_decide_eq_true rfl) (by simp) rfl (fun c x hr => ?_) endHR
   simp only [go_sem, idO_app, lenO_app, lenO_app2, lenO_eta] at hr
   obtain ⟨rfl, rfl⟩ := hr
   exact ⟨rfl, endR⟩

end Go.SH
