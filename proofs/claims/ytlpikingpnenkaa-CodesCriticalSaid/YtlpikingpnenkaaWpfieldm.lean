/-
  That the code computes these functions: field_twin, field_inverse. By a program of mine (shal.py). Conditions: none.
-/
import Derived.Test.YtlpikingpnenkaaAxT
import Derived.Test.YtlpikingpnenkaaAxR
import Derived.Test.YtlpikingpnenkaaAxTx
import Derived.Test.YtlpikingpnenkaaAxTk
import Derived.Test.YtlpikingpnenkaaAxRx
import Derived.Test.YtlpikingpnenkaaAxJm
import Derived.Test.YtlpikingpnenkaaAxZ
import Derived.Test.YtlpikingpnenkaaAxW
import Derived.Test.YtlpikingpnenkaaAxP
import Derived.Test.YtlpikingpnenkaaShelf
import Derived.Test.YtlpikingpnenkaaSp
set_option linter.unusedVariables false
set_option linter.unusedSimpArgs false
set_option maxRecDepth 8000
set_option maxHeartbeats 4000000
namespace Go.SH
open Go Go.AX Go.AX.Try Go.Proofs

/-- The operations of a drawn region. -/
def reg_field_twin_5 : List Oper := (⟨_, rfl⟩ : { l : List Oper // (Try.f178.body.bind (regIn 5)) = some l }).1

theorem ceg_field_twin_5_1 : firstOk reg_field_twin_5.toArray #[false, false, false, false, false, false, false, false] 2 [3, 4, 5, 6, 7] = true := by kernel_rfl

theorem ceg_field_twin_5_2 : firstOk reg_field_twin_5.toArray #[true, true, true, true, true, true, false, false] 6 [7] = true := by kernel_rfl

theorem ceg_field_twin_5_3 : (Region.ready .any reg_field_twin_5.toArray #[true, true, true, true, true, true, true, true] == []) = true := by kernel_rfl

theorem ceg_field_twin_5_4 : (Region.ready .any reg_field_twin_5.toArray #[true, true, true, true, true, true, true, false] == [7]) = true := by kernel_rfl

theorem J_field_twin_5_hn1 {x_0 : Int} {x_1 : Int} {x_2 : List (List Int)} {out0 : List (List Int)} {v : Int} (h1 : ((x_2.getD v.toNat []).length ≤ 17592186044416)) (h2 : ((out0 ++ [(x_2.getD v.toNat [])]).length ≤ 1099511627776)) {w0 : World} {Q : Exit → St → Prop} {AA : Nat → Array Bool → St → Prop} (hAA : ∀ g L st, AA g L st ↔ AWPB Try.prog w0 reg_field_twin_5.toArray Q g L st) (hn : AA 0 #[true, true, true, true, true, true, true, true] ⟨27, [(2, .ptr 0 0 0), (3, .ptr 3 0 0), (12, .fn 1 x_2.length (fun i => [.ints .i64 (x_2.getD i [])])), (13, .int .i64 (x_2.length : Int)), (14, .int .i64 v)], [some (.gen 65 3 [[.int .i64 0, .int .i64 0, .own 1 0]]), some (.outs 22 2 0 idO (lenO ([] : List (List Int)))), some (.rows 3 .i64 ([] : List (List Int))), some (.gen 65 3 [[.int .i64 x_0, .int .i64 x_1, .own 8 ((out0 ++ [(x_2.getD v.toNat [])]).length)]]), none, some (.rows 3 .i64 (out0 ++ [(x_2.getD v.toNat [])])), none, none, some (.outs 22 5 ((out0 ++ [(x_2.getD v.toNat [])]).length) idO (lenO (out0 ++ [(x_2.getD v.toNat [])])))]⟩) : AA 1 #[true, true, true, true, true, true, true, false] ⟨27, [(2, .ptr 0 0 0), (3, .ptr 3 0 0), (12, .fn 1 x_2.length (fun i => [.ints .i64 (x_2.getD i [])])), (13, .int .i64 (x_2.length : Int)), (14, .int .i64 v), (23, .own 8 ((out0 ++ [(x_2.getD v.toNat [])]).length)), (24, .ptr 3 0 2)], [some (.gen 65 3 [[.int .i64 0, .int .i64 0, .own 1 0]]), some (.outs 22 2 0 idO (lenO ([] : List (List Int)))), some (.rows 3 .i64 ([] : List (List Int))), some (.gen 65 3 [[.int .i64 x_0, .int .i64 x_1, .own 4 out0.length]]), none, some (.rows 3 .i64 (out0 ++ [(x_2.getD v.toNat [])])), none, none, some (.outs 22 5 ((out0 ++ [(x_2.getD v.toNat [])]).length) idO (lenO (out0 ++ [(x_2.getD v.toNat [])])))]⟩ := (hAA _ _ _).2 (by
  refine AWPB_one 7 _ ceg_field_twin_5_4 rfl ?_
  refine AWPL_rn tab_ok 1 [2, 3, 12, 13, 14] fun c st' hr => ?_
  simp only [go_sem, idO_app, lenO_app, lenO_app2, lenO_eta] at hr
  obtain ⟨rfl, rfl⟩ := hr
  refine ⟨vc, ?_⟩
  refine AWPL_nil ?_
  refine QB_normal ?_
  exact AWPB_wk [0, 1, 2, 3, 4, 5, 6, 7, 8] mkWkR ((hAA _ _ _).1 hn))

theorem J_field_twin_5_hn2 {x_0 : Int} {x_1 : Int} {x_2 : List (List Int)} {out0 : List (List Int)} {v : Int} (h1 : ((x_2.getD v.toNat []).length ≤ 17592186044416)) (h2 : ((out0 ++ [(x_2.getD v.toNat [])]).length ≤ 1099511627776)) {w0 : World} {Q : Exit → St → Prop} {AA : Nat → Array Bool → St → Prop} (hAA : ∀ g L st, AA g L st ↔ AWPB Try.prog w0 reg_field_twin_5.toArray Q g L st) (hn1 : AA 1 #[true, true, true, true, true, true, true, false] ⟨27, [(2, .ptr 0 0 0), (3, .ptr 3 0 0), (12, .fn 1 x_2.length (fun i => [.ints .i64 (x_2.getD i [])])), (13, .int .i64 (x_2.length : Int)), (14, .int .i64 v), (23, .own 8 ((out0 ++ [(x_2.getD v.toNat [])]).length)), (24, .ptr 3 0 2)], [some (.gen 65 3 [[.int .i64 0, .int .i64 0, .own 1 0]]), some (.outs 22 2 0 idO (lenO ([] : List (List Int)))), some (.rows 3 .i64 ([] : List (List Int))), some (.gen 65 3 [[.int .i64 x_0, .int .i64 x_1, .own 4 out0.length]]), none, some (.rows 3 .i64 (out0 ++ [(x_2.getD v.toNat [])])), none, none, some (.outs 22 5 ((out0 ++ [(x_2.getD v.toNat [])]).length) idO (lenO (out0 ++ [(x_2.getD v.toNat [])])))]⟩) : AA 2 #[true, true, true, true, true, true, false, false] ⟨27, [(2, .ptr 0 0 0), (3, .ptr 3 0 0), (12, .fn 1 x_2.length (fun i => [.ints .i64 (x_2.getD i [])])), (13, .int .i64 (x_2.length : Int)), (14, .int .i64 v), (23, .own 8 ((out0 ++ [(x_2.getD v.toNat [])]).length))], [some (.gen 65 3 [[.int .i64 0, .int .i64 0, .own 1 0]]), some (.outs 22 2 0 idO (lenO ([] : List (List Int)))), some (.rows 3 .i64 ([] : List (List Int))), some (.gen 65 3 [[.int .i64 x_0, .int .i64 x_1, .own 4 out0.length]]), none, some (.rows 3 .i64 (out0 ++ [(x_2.getD v.toNat [])])), none, none, some (.outs 22 5 ((out0 ++ [(x_2.getD v.toNat [])]).length) idO (lenO (out0 ++ [(x_2.getD v.toNat [])])))]⟩ := (hAA _ _ _).2 (by
  refine AWPB_takeB tab_ok [2, 3, 12, 13, 14, 23, 24] 6 [7] _ rfl ceg_field_twin_5_2 fun c st' hr => ?_
  simp only [go_sem, idO_app, lenO_app, lenO_app2, lenO_eta] at hr
  obtain ⟨rfl, rfl⟩ := hr
  refine ⟨vc, ?_⟩
  exact AWPB_wk [0, 1, 2, 3, 4, 5, 6, 7, 8] mkWkR ((hAA _ _ _).1 hn1))

theorem ceg_field_twin_5_7 : (Region.ready .any reg_field_twin_5.toArray #[true, true, true, true, true, false, false, false] == [5]) = true := by kernel_rfl

theorem J_field_twin_5_hn3 {x_0 : Int} {x_1 : Int} {x_2 : List (List Int)} {out0 : List (List Int)} {v : Int} (h1 : ((x_2.getD v.toNat []).length ≤ 17592186044416)) (h2 : ((out0 ++ [(x_2.getD v.toNat [])]).length ≤ 1099511627776)) {w0 : World} {Q : Exit → St → Prop} {AA : Nat → Array Bool → St → Prop} (hAA : ∀ g L st, AA g L st ↔ AWPB Try.prog w0 reg_field_twin_5.toArray Q g L st) (hn2 : AA 2 #[true, true, true, true, true, true, false, false] ⟨27, [(2, .ptr 0 0 0), (3, .ptr 3 0 0), (12, .fn 1 x_2.length (fun i => [.ints .i64 (x_2.getD i [])])), (13, .int .i64 (x_2.length : Int)), (14, .int .i64 v), (23, .own 8 ((out0 ++ [(x_2.getD v.toNat [])]).length))], [some (.gen 65 3 [[.int .i64 0, .int .i64 0, .own 1 0]]), some (.outs 22 2 0 idO (lenO ([] : List (List Int)))), some (.rows 3 .i64 ([] : List (List Int))), some (.gen 65 3 [[.int .i64 x_0, .int .i64 x_1, .own 4 out0.length]]), none, some (.rows 3 .i64 (out0 ++ [(x_2.getD v.toNat [])])), none, none, some (.outs 22 5 ((out0 ++ [(x_2.getD v.toNat [])]).length) idO (lenO (out0 ++ [(x_2.getD v.toNat [])])))]⟩) : AA 3 #[true, true, true, true, true, false, false, false] ⟨27, [(2, .ptr 0 0 0), (3, .ptr 3 0 0), (12, .fn 1 x_2.length (fun i => [.ints .i64 (x_2.getD i [])])), (13, .int .i64 (x_2.length : Int)), (14, .int .i64 v), (19, .own 4 out0.length), (22, .own 7 1)], [some (.gen 65 3 [[.int .i64 0, .int .i64 0, .own 1 0]]), some (.outs 22 2 0 idO (lenO ([] : List (List Int)))), some (.rows 3 .i64 ([] : List (List Int))), some (.gen 65 3 [[.int .i64 x_0, .int .i64 x_1, .own 4 out0.length]]), some (.outs 22 5 out0.length idO (lenO out0)), some (.rows 3 .i64 (out0 ++ [(x_2.getD v.toNat [])])), none, some (.gen 22 1 [[.row 5 out0.length ((x_2.getD v.toNat []).length)]])]⟩ := (hAA _ _ _).2 (by
  refine AWPB_one 5 _ ceg_field_twin_5_7 rfl ?_
  refine AWPL_rn tab_ok 1 [2, 3, 12, 13, 14, 23, 24] fun c st' hr => ?_
  simp only [go_sem, idO_app, lenO_app, lenO_app2, lenO_eta] at hr
  obtain ⟨rfl, rfl⟩ := hr
  refine ⟨vc, ?_⟩
  refine AWPL_nil ?_
  refine QB_normal ?_
  exact AWPB_wk [0, 1, 2, 3, 4, 5, 6, 7, 8] mkWkR ((hAA _ _ _).1 hn2))

theorem ceg_field_twin_5_9 : (Region.ready .any reg_field_twin_5.toArray #[true, true, true, true, false, false, false, false] == [4]) = true := by kernel_rfl

theorem J_field_twin_5_hn4 {x_0 : Int} {x_1 : Int} {x_2 : List (List Int)} {out0 : List (List Int)} {v : Int} (h1 : ((x_2.getD v.toNat []).length ≤ 17592186044416)) (h2 : ((out0 ++ [(x_2.getD v.toNat [])]).length ≤ 1099511627776)) {w0 : World} {Q : Exit → St → Prop} {AA : Nat → Array Bool → St → Prop} (hAA : ∀ g L st, AA g L st ↔ AWPB Try.prog w0 reg_field_twin_5.toArray Q g L st) (hn3 : AA 3 #[true, true, true, true, true, false, false, false] ⟨27, [(2, .ptr 0 0 0), (3, .ptr 3 0 0), (12, .fn 1 x_2.length (fun i => [.ints .i64 (x_2.getD i [])])), (13, .int .i64 (x_2.length : Int)), (14, .int .i64 v), (19, .own 4 out0.length), (22, .own 7 1)], [some (.gen 65 3 [[.int .i64 0, .int .i64 0, .own 1 0]]), some (.outs 22 2 0 idO (lenO ([] : List (List Int)))), some (.rows 3 .i64 ([] : List (List Int))), some (.gen 65 3 [[.int .i64 x_0, .int .i64 x_1, .own 4 out0.length]]), some (.outs 22 5 out0.length idO (lenO out0)), some (.rows 3 .i64 (out0 ++ [(x_2.getD v.toNat [])])), none, some (.gen 22 1 [[.row 5 out0.length ((x_2.getD v.toNat []).length)]])]⟩) : AA 4 #[true, true, true, true, false, false, false, false] ⟨27, [(2, .ptr 0 0 0), (3, .ptr 3 0 0), (12, .fn 1 x_2.length (fun i => [.ints .i64 (x_2.getD i [])])), (13, .int .i64 (x_2.length : Int)), (14, .int .i64 v), (19, .own 4 out0.length), (21, .own 6 ((x_2.getD v.toNat []).length))], [some (.gen 65 3 [[.int .i64 0, .int .i64 0, .own 1 0]]), some (.outs 22 2 0 idO (lenO ([] : List (List Int)))), some (.rows 3 .i64 ([] : List (List Int))), some (.gen 65 3 [[.int .i64 x_0, .int .i64 x_1, .own 4 out0.length]]), some (.outs 22 5 out0.length idO (lenO out0)), some (.rows 3 .i64 out0), some (.ints 3 .i64 (x_2.getD v.toNat []))]⟩ := (hAA _ _ _).2 (by
  refine AWPB_one 4 _ ceg_field_twin_5_9 rfl ?_
  refine AWPL_gs' (gs_adopt 21 5 rfl (by first | rfl | (simp; done)) rfl rfl (by first | rfl | (simp [noPin]; done))) fun st' hr => ?_
  simp only [go_sem, idO_app, lenO_app, lenO_app2, lenO_eta, List.set_cons_zero, List.set_cons_succ] at hr
  subst hr
  refine AWPL_rn tab_ok 1 [2, 3, 12, 13, 14, 19, 22, 23, 24] fun c st' hr => ?_
  simp only [go_sem, idO_app, lenO_app, lenO_app2, lenO_eta] at hr
  obtain ⟨rfl, rfl⟩ := hr
  refine ⟨vc, ?_⟩
  refine AWPL_nil ?_
  refine QB_normal ?_
  exact AWPB_wk [0, 1, 2, 3, 4, 5, 6, 7] mkWkR ((hAA _ _ _).1 hn3))

theorem ceg_field_twin_5_11 : (Region.ready .any reg_field_twin_5.toArray #[true, true, true, false, false, false, false, false] == [3]) = true := by kernel_rfl

theorem J_field_twin_5_hn5 {x_0 : Int} {x_1 : Int} {x_2 : List (List Int)} {out0 : List (List Int)} {v : Int} (h1 : ((x_2.getD v.toNat []).length ≤ 17592186044416)) (h2 : ((out0 ++ [(x_2.getD v.toNat [])]).length ≤ 1099511627776)) {w0 : World} {Q : Exit → St → Prop} {AA : Nat → Array Bool → St → Prop} (hAA : ∀ g L st, AA g L st ↔ AWPB Try.prog w0 reg_field_twin_5.toArray Q g L st) (hn4 : AA 4 #[true, true, true, true, false, false, false, false] ⟨27, [(2, .ptr 0 0 0), (3, .ptr 3 0 0), (12, .fn 1 x_2.length (fun i => [.ints .i64 (x_2.getD i [])])), (13, .int .i64 (x_2.length : Int)), (14, .int .i64 v), (19, .own 4 out0.length), (21, .own 6 ((x_2.getD v.toNat []).length))], [some (.gen 65 3 [[.int .i64 0, .int .i64 0, .own 1 0]]), some (.outs 22 2 0 idO (lenO ([] : List (List Int)))), some (.rows 3 .i64 ([] : List (List Int))), some (.gen 65 3 [[.int .i64 x_0, .int .i64 x_1, .own 4 out0.length]]), some (.outs 22 5 out0.length idO (lenO out0)), some (.rows 3 .i64 out0), some (.ints 3 .i64 (x_2.getD v.toNat []))]⟩) : AA 5 #[true, true, true, false, false, false, false, false] ⟨27, [(2, .ptr 0 0 0), (3, .ptr 3 0 0), (12, .fn 1 x_2.length (fun i => [.ints .i64 (x_2.getD i [])])), (13, .int .i64 (x_2.length : Int)), (14, .int .i64 v), (19, .own 4 out0.length), (20, .ints .i64 (x_2.getD v.toNat []))], [some (.gen 65 3 [[.int .i64 0, .int .i64 0, .own 1 0]]), some (.outs 22 2 0 idO (lenO ([] : List (List Int)))), some (.rows 3 .i64 ([] : List (List Int))), some (.gen 65 3 [[.int .i64 x_0, .int .i64 x_1, .own 4 out0.length]]), some (.outs 22 5 out0.length idO (lenO out0)), some (.rows 3 .i64 out0)]⟩ := (hAA _ _ _).2 (by
  refine AWPB_one 3 _ ceg_field_twin_5_11 rfl ?_
  refine AWPL_cloneI [2, 3, 12, 13, 14, 19, 21, 22, 23, 24] 3 Try.laysNm215 rfl rfl pcT rfl Try.call75 (of_decide_eq_true rfl) rfl h1 rfl fun st' hr => ?_
  simp only [go_sem, idO_app, lenO_app, lenO_app2, lenO_eta] at hr
  subst hr
  refine AWPL_nil ?_
  refine QB_normal ?_
  exact AWPB_wk [0, 1, 2, 3, 4, 5, 6] mkWkR ((hAA _ _ _).1 hn4))

theorem ceg_field_twin_5_13 : firstOk reg_field_twin_5.toArray #[true, false, true, true, false, false, false, false] 1 [5, 6, 7] = true := by kernel_rfl

theorem J_field_twin_5_hn6 {x_0 : Int} {x_1 : Int} {x_2 : List (List Int)} {out0 : List (List Int)} {v : Int} (h1 : ((x_2.getD v.toNat []).length ≤ 17592186044416)) (h2 : ((out0 ++ [(x_2.getD v.toNat [])]).length ≤ 1099511627776)) {w0 : World} {Q : Exit → St → Prop} {AA : Nat → Array Bool → St → Prop} (hAA : ∀ g L st, AA g L st ↔ AWPB Try.prog w0 reg_field_twin_5.toArray Q g L st) (hn4 : AA 4 #[true, true, true, true, false, false, false, false] ⟨27, [(2, .ptr 0 0 0), (3, .ptr 3 0 0), (12, .fn 1 x_2.length (fun i => [.ints .i64 (x_2.getD i [])])), (13, .int .i64 (x_2.length : Int)), (14, .int .i64 v), (19, .own 4 out0.length), (21, .own 6 ((x_2.getD v.toNat []).length))], [some (.gen 65 3 [[.int .i64 0, .int .i64 0, .own 1 0]]), some (.outs 22 2 0 idO (lenO ([] : List (List Int)))), some (.rows 3 .i64 ([] : List (List Int))), some (.gen 65 3 [[.int .i64 x_0, .int .i64 x_1, .own 4 out0.length]]), some (.outs 22 5 out0.length idO (lenO out0)), some (.rows 3 .i64 out0), some (.ints 3 .i64 (x_2.getD v.toNat []))]⟩) : AA 5 #[true, false, true, true, false, false, false, false] ⟨27, [(2, .ptr 0 0 0), (3, .ptr 3 0 0), (12, .fn 1 x_2.length (fun i => [.ints .i64 (x_2.getD i [])])), (13, .int .i64 (x_2.length : Int)), (14, .int .i64 v), (18, .ptr 3 0 2), (21, .own 6 ((x_2.getD v.toNat []).length))], [some (.gen 65 3 [[.int .i64 0, .int .i64 0, .own 1 0]]), some (.outs 22 2 0 idO (lenO ([] : List (List Int)))), some (.rows 3 .i64 ([] : List (List Int))), some (.gen 65 3 [[.int .i64 x_0, .int .i64 x_1, .own 4 out0.length]]), some (.outs 22 5 out0.length idO (lenO out0)), some (.rows 3 .i64 out0), some (.ints 3 .i64 (x_2.getD v.toNat []))]⟩ := (hAA _ _ _).2 (by
  refine AWPB_takeB tab_ok [2, 3, 12, 13, 14, 19, 21, 22, 23, 24] 1 [5, 6, 7] _ rfl ceg_field_twin_5_13 fun c st' hr => ?_
  simp only [go_sem, idO_app, lenO_app, lenO_app2, lenO_eta] at hr
  obtain ⟨rfl, rfl⟩ := hr
  refine ⟨vc, ?_⟩
  exact AWPB_wk [0, 1, 2, 3, 4, 5, 6] mkWkR ((hAA _ _ _).1 hn4))

theorem ceg_field_twin_5_15 : (Region.ready .any reg_field_twin_5.toArray #[true, false, true, false, false, false, false, false] == [1, 3]) = true := by kernel_rfl

theorem J_field_twin_5_hn7 {x_0 : Int} {x_1 : Int} {x_2 : List (List Int)} {out0 : List (List Int)} {v : Int} (h1 : ((x_2.getD v.toNat []).length ≤ 17592186044416)) (h2 : ((out0 ++ [(x_2.getD v.toNat [])]).length ≤ 1099511627776)) {w0 : World} {Q : Exit → St → Prop} {AA : Nat → Array Bool → St → Prop} (hAA : ∀ g L st, AA g L st ↔ AWPB Try.prog w0 reg_field_twin_5.toArray Q g L st) (hn5 : AA 5 #[true, true, true, false, false, false, false, false] ⟨27, [(2, .ptr 0 0 0), (3, .ptr 3 0 0), (12, .fn 1 x_2.length (fun i => [.ints .i64 (x_2.getD i [])])), (13, .int .i64 (x_2.length : Int)), (14, .int .i64 v), (19, .own 4 out0.length), (20, .ints .i64 (x_2.getD v.toNat []))], [some (.gen 65 3 [[.int .i64 0, .int .i64 0, .own 1 0]]), some (.outs 22 2 0 idO (lenO ([] : List (List Int)))), some (.rows 3 .i64 ([] : List (List Int))), some (.gen 65 3 [[.int .i64 x_0, .int .i64 x_1, .own 4 out0.length]]), some (.outs 22 5 out0.length idO (lenO out0)), some (.rows 3 .i64 out0)]⟩) (hn6 : AA 5 #[true, false, true, true, false, false, false, false] ⟨27, [(2, .ptr 0 0 0), (3, .ptr 3 0 0), (12, .fn 1 x_2.length (fun i => [.ints .i64 (x_2.getD i [])])), (13, .int .i64 (x_2.length : Int)), (14, .int .i64 v), (18, .ptr 3 0 2), (21, .own 6 ((x_2.getD v.toNat []).length))], [some (.gen 65 3 [[.int .i64 0, .int .i64 0, .own 1 0]]), some (.outs 22 2 0 idO (lenO ([] : List (List Int)))), some (.rows 3 .i64 ([] : List (List Int))), some (.gen 65 3 [[.int .i64 x_0, .int .i64 x_1, .own 4 out0.length]]), some (.outs 22 5 out0.length idO (lenO out0)), some (.rows 3 .i64 out0), some (.ints 3 .i64 (x_2.getD v.toNat []))]⟩) : AA 6 #[true, false, true, false, false, false, false, false] ⟨27, [(2, .ptr 0 0 0), (3, .ptr 3 0 0), (12, .fn 1 x_2.length (fun i => [.ints .i64 (x_2.getD i [])])), (13, .int .i64 (x_2.length : Int)), (14, .int .i64 v), (18, .ptr 3 0 2), (20, .ints .i64 (x_2.getD v.toNat []))], [some (.gen 65 3 [[.int .i64 0, .int .i64 0, .own 1 0]]), some (.outs 22 2 0 idO (lenO ([] : List (List Int)))), some (.rows 3 .i64 ([] : List (List Int))), some (.gen 65 3 [[.int .i64 x_0, .int .i64 x_1, .own 4 out0.length]]), some (.outs 22 5 out0.length idO (lenO out0)), some (.rows 3 .i64 out0)]⟩ := (hAA _ _ _).2 (by
  refine AWPB_two 1 3 _ _ ceg_field_twin_5_15 rfl rfl ?_ ?_
  ·skip
   refine AWPL_rn tab_ok 1 [2, 3, 12, 13, 14, 19, 20, 21, 22, 23, 24] fun c st' hr => ?_
   simp only [go_sem, idO_app, lenO_app, lenO_app2, lenO_eta] at hr
   obtain ⟨rfl, rfl⟩ := hr
   refine ⟨vc, ?_⟩
   refine AWPL_nil ?_
   refine QB_normal ?_
   exact AWPB_wk [0, 1, 2, 3, 4, 5] mkWkR ((hAA _ _ _).1 hn5)
  ·skip
   refine AWPL_cloneI [2, 3, 12, 13, 14, 18, 19, 21, 22, 23, 24] 3 Try.laysNm215 rfl rfl pcT rfl Try.call75 (of_decide_eq_true rfl) rfl h1 rfl fun st' hr => ?_
   simp only [go_sem, idO_app, lenO_app, lenO_app2, lenO_eta] at hr
   subst hr
   refine AWPL_nil ?_
   refine QB_normal ?_
   exact AWPB_wk [0, 1, 2, 3, 4, 5, 6] mkWkR ((hAA _ _ _).1 hn6))

theorem ceg_field_twin_5_17 : (Region.noSelect reg_field_twin_5.toArray && Region.free .any reg_field_twin_5.toArray #[false, false, true, false, false, false, false, false] 0 && (Region.ready .any reg_field_twin_5.toArray #[false, false, true, false, false, false, false, false]).contains 0) = true := by kernel_rfl

theorem J_field_twin_5_hn8 {x_0 : Int} {x_1 : Int} {x_2 : List (List Int)} {out0 : List (List Int)} {v : Int} (h1 : ((x_2.getD v.toNat []).length ≤ 17592186044416)) (h2 : ((out0 ++ [(x_2.getD v.toNat [])]).length ≤ 1099511627776)) {w0 : World} {Q : Exit → St → Prop} {AA : Nat → Array Bool → St → Prop} (hAA : ∀ g L st, AA g L st ↔ AWPB Try.prog w0 reg_field_twin_5.toArray Q g L st) (hn7 : AA 6 #[true, false, true, false, false, false, false, false] ⟨27, [(2, .ptr 0 0 0), (3, .ptr 3 0 0), (12, .fn 1 x_2.length (fun i => [.ints .i64 (x_2.getD i [])])), (13, .int .i64 (x_2.length : Int)), (14, .int .i64 v), (18, .ptr 3 0 2), (20, .ints .i64 (x_2.getD v.toNat []))], [some (.gen 65 3 [[.int .i64 0, .int .i64 0, .own 1 0]]), some (.outs 22 2 0 idO (lenO ([] : List (List Int)))), some (.rows 3 .i64 ([] : List (List Int))), some (.gen 65 3 [[.int .i64 x_0, .int .i64 x_1, .own 4 out0.length]]), some (.outs 22 5 out0.length idO (lenO out0)), some (.rows 3 .i64 out0)]⟩) : AA 7 #[false, false, true, false, false, false, false, false] ⟨27, [(2, .ptr 0 0 0), (3, .ptr 3 0 0), (12, .fn 1 x_2.length (fun i => [.ints .i64 (x_2.getD i [])])), (13, .int .i64 (x_2.length : Int)), (14, .int .i64 v), (20, .ints .i64 (x_2.getD v.toNat []))], [some (.gen 65 3 [[.int .i64 0, .int .i64 0, .own 1 0]]), some (.outs 22 2 0 idO (lenO ([] : List (List Int)))), some (.rows 3 .i64 ([] : List (List Int))), some (.gen 65 3 [[.int .i64 x_0, .int .i64 x_1, .own 4 out0.length]]), some (.outs 22 5 out0.length idO (lenO out0)), some (.rows 3 .i64 out0)]⟩ := (hAA _ _ _).2 (by
  refine AWPB_take2 tab_ok [2, 3, 12, 13, 14, 18, 19, 20, 21, 22, 23, 24] 0 _ rfl rfl rfl ceg_field_twin_5_17 fun c st' hr => ?_
  simp only [go_sem, idO_app, lenO_app, lenO_app2, lenO_eta] at hr
  obtain ⟨rfl, rfl⟩ := hr
  refine ⟨vc, ?_⟩
  exact AWPB_wk [0, 1, 2, 3, 4, 5] mkWkR ((hAA _ _ _).1 hn7))

theorem J_field_twin_5_hn9 {x_0 : Int} {x_1 : Int} {x_2 : List (List Int)} {out0 : List (List Int)} {v : Int} (h1 : ((x_2.getD v.toNat []).length ≤ 17592186044416)) (h2 : ((out0 ++ [(x_2.getD v.toNat [])]).length ≤ 1099511627776)) {w0 : World} {Q : Exit → St → Prop} {AA : Nat → Array Bool → St → Prop} (hAA : ∀ g L st, AA g L st ↔ AWPB Try.prog w0 reg_field_twin_5.toArray Q g L st) (hn8 : AA 7 #[false, false, true, false, false, false, false, false] ⟨27, [(2, .ptr 0 0 0), (3, .ptr 3 0 0), (12, .fn 1 x_2.length (fun i => [.ints .i64 (x_2.getD i [])])), (13, .int .i64 (x_2.length : Int)), (14, .int .i64 v), (20, .ints .i64 (x_2.getD v.toNat []))], [some (.gen 65 3 [[.int .i64 0, .int .i64 0, .own 1 0]]), some (.outs 22 2 0 idO (lenO ([] : List (List Int)))), some (.rows 3 .i64 ([] : List (List Int))), some (.gen 65 3 [[.int .i64 x_0, .int .i64 x_1, .own 4 out0.length]]), some (.outs 22 5 out0.length idO (lenO out0)), some (.rows 3 .i64 out0)]⟩) : AA 8 #[false, false, false, false, false, false, false, false] ⟨27, [(2, .ptr 0 0 0), (3, .ptr 3 0 0), (5, .ints .i64 (x_2.getD v.toNat [])), (12, .fn 1 x_2.length (fun i => [.ints .i64 (x_2.getD i [])])), (13, .int .i64 (x_2.length : Int)), (14, .int .i64 v)], [some (.gen 65 3 [[.int .i64 0, .int .i64 0, .own 1 0]]), some (.outs 22 2 0 idO (lenO ([] : List (List Int)))), some (.rows 3 .i64 ([] : List (List Int))), some (.gen 65 3 [[.int .i64 x_0, .int .i64 x_1, .own 4 out0.length]]), some (.outs 22 5 out0.length idO (lenO out0)), some (.rows 3 .i64 out0)]⟩ := (hAA _ _ _).2 (by
  refine AWPB_takeB tab_ok [2, 3, 12, 13, 14, 18, 19, 20, 21, 22, 23, 24] 2 [3, 4, 5, 6, 7] _ rfl ceg_field_twin_5_1 fun c st' hr => ?_
  simp only [go_sem, idO_app, lenO_app, lenO_app2, lenO_eta] at hr
  obtain ⟨rfl, rfl⟩ := hr
  refine ⟨vc, ?_⟩
  exact AWPB_wk [0, 1, 2, 3, 4, 5] mkWkR ((hAA _ _ _).1 hn8))


theorem W_field_twin {x_0 : Int} {x_1 : Int} {x_2 : List (List Int)} {r : Int × Int × List (List Int)} (hK : field_twin x_0 x_1 x_2 = some r) : Pure Try.prog 178 [.agg [.int .i64 x_0, .int .i64 x_1, .fn 1 x_2.length (fun i => [.ints .i64 (x_2.getD i [])])]] (.agg [.int .i64 r.1, .int .i64 r.2.1, .own 0 r.2.2.length]) [(.outs 22 1 r.2.2.length idO (lenO r.2.2)), (.rows 3 .i64 r.2.2)] := by
  refine Pure_introF tab_ok (n := 27) (l := [.cell 2 65]) Try.func178 rfl rfl rfl (by simp) fun hfact w0 => ?_
  simp only [factL1, fact1, fact0, factL0, lo, hi, maxLen, and_true] at hfact
  unfold field_twin at hK
  refine AWP_seq ?_
  refine AWP_rg tab_ok [1, 2] fun c st' hr => ?_
  simp only [go_sem, idO_app, lenO_app, lenO_app2, lenO_eta] at hr
  obtain ⟨rfl, rfl⟩ := hr
  refine ⟨vc, ?_⟩
  with_reducible refine thenC_normal ?_
  refine AWP_gs' (gs_rows0 3 .i64) fun st' hr => ?_
  simp only [go_sem, idO_app, lenO_app, lenO_app2, lenO_eta, List.cons_append, List.nil_append] at hr
  subst hr
  refine AWP_ownH 1 2 (.outs 22 2 0 idO (lenO [])) rfl rfl rfl fun st' hr => ?_
  simp only [go_sem, idO_app, lenO_app, lenO_app2, lenO_eta] at hr
  subst hr
  refine AWP_seq ?_
  refine AWP_rg tab_ok [1, 2, 3] fun c st' hr => ?_
  simp only [go_sem, idO_app, lenO_app, lenO_app2, lenO_eta] at hr
  obtain ⟨rfl, rfl⟩ := hr
  refine ⟨vc, ?_⟩
  with_reducible refine thenC_normal ?_
  refine AWP_gs' (gs_rows0 3 .i64) fun st' hr => ?_
  simp only [go_sem, idO_app, lenO_app, lenO_app2, lenO_eta, List.cons_append, List.nil_append] at hr
  subst hr
  refine AWP_ownH 4 2 (.outs 22 5 0 idO (lenO [])) rfl rfl rfl fun st' hr => ?_
  simp only [go_sem, idO_app, lenO_app, lenO_app2, lenO_eta] at hr
  subst hr
  refine AWP_seq ?_
  refine AWP_seq ?_
  refine AWP_rg tab_ok [2, 3, 12, 13, 14] fun c st' hr => ?_
  simp only [go_sem, idO_app, lenO_app, lenO_app2, lenO_eta] at hr
  obtain ⟨rfl, rfl⟩ := hr
  refine ⟨vc, ?_⟩
  with_reducible refine thenC_normal ?_
  refine AWP_block ?_
  refine AWP_loopX 0 (fun ((out0, v) : List (List Int) × Int) => ⟨27, [(2, .ptr 0 0 0), (3, .ptr 3 0 0), (12, .fn 1 x_2.length (fun i => [.ints .i64 (x_2.getD i [])])), (13, .int .i64 (x_2.length : Int)), (14, .int .i64 v)], [some (.gen 65 3 [[.int .i64 0, .int .i64 0, .own 1 0]]), some (.outs 22 2 0 idO (lenO ([] : List (List Int)))), some (.rows 3 .i64 ([] : List (List Int))), some (.gen 65 3 [[.int .i64 x_0, .int .i64 x_1, .own 4 out0.length]]), some (.outs 22 5 out0.length idO (lenO out0)), some (.rows 3 .i64 out0)]⟩) (fun (out01 : List (List Int)) => ⟨27, [(2, .ptr 0 0 0), (3, .ptr 3 0 0)], [some (.gen 65 3 [[.int .i64 0, .int .i64 0, .own 1 0]]), some (.outs 22 2 0 idO (lenO ([] : List (List Int)))), some (.rows 3 .i64 ([] : List (List Int))), some (.gen 65 3 [[.int .i64 x_0, .int .i64 x_1, .own 4 out01.length]]), some (.outs 22 5 out01.length idO (lenO out01)), some (.rows 3 .i64 out01)]⟩) (fun v => v) (([] : List (List Int)), 0) [1, 3, 2, 4, 6, 5] hK mkWkR ?_ ?_
  ·clear hK; rintro ⟨out0, v⟩ b hK hpost1
   try dsimp only at hK
   change AWP _ _ _ _ ⟨27, [(2, .ptr 0 0 0), (3, .ptr 3 0 0), (12, .fn 1 x_2.length (fun i => [.ints .i64 (x_2.getD i [])])), (13, .int .i64 (x_2.length : Int)), (14, .int .i64 v)], [some (.gen 65 3 [[.int .i64 0, .int .i64 0, .own 1 0]]), some (.outs 22 2 0 idO (lenO ([] : List (List Int)))), some (.rows 3 .i64 ([] : List (List Int))), some (.gen 65 3 [[.int .i64 x_0, .int .i64 x_1, .own 4 out0.length]]), some (.outs 22 5 out0.length idO (lenO out0)), some (.rows 3 .i64 out0)]⟩
   refine AWP_seq ?_
   refine AWP_rg tab_ok [2, 3, 12, 13, 14, 15] fun c st' hr => ?_
   simp only [go_sem, idO_app, lenO_app, lenO_app2, lenO_eta] at hr
   obtain ⟨rfl, rfl⟩ := hr
   refine ⟨vc, ?_⟩
   with_reducible refine thenC_normal ?_
   refine AWP_seq ?_
   refine AWP_condP (v < (x_2.length : Int)) rfl bd (fun hb => ?_) (fun hb => ?_)
   ·replace hK := ite_t hK hb
    refine AWP_skip ?_
    with_reducible refine thenC_normal ?_
    refine AWP_seq ?_
    refine AWP_block ?_
    refine AWP_seq ?_
    replace hK := chk_some hK
    obtain ⟨h, hK⟩ := hK
    refine AWP_rg tab_ok [2, 3, 5, 12, 13, 14] fun c st' hr => ?_
    simp only [go_sem, idO_app, lenO_app, lenO_app2, lenO_eta] at hr
    obtain ⟨rfl, rfl⟩ := hr
    refine ⟨vc, ?_⟩
    with_reducible refine thenC_normal ?_
    replace hK := chk_some hK
    obtain ⟨h1, hK⟩ := hK
    replace hK := chk_some hK
    obtain ⟨h2, hK⟩ := hK
    refine AWP_drawJ ⟨27, [(2, .ptr 0 0 0), (3, .ptr 3 0 0), (12, .fn 1 x_2.length (fun i => [.ints .i64 (x_2.getD i [])])), (13, .int .i64 (x_2.length : Int)), (14, .int .i64 v)], [some (.gen 65 3 [[.int .i64 0, .int .i64 0, .own 1 0]]), some (.outs 22 2 0 idO (lenO ([] : List (List Int)))), some (.rows 3 .i64 ([] : List (List Int))), some (.gen 65 3 [[.int .i64 x_0, .int .i64 x_1, .own 8 ((out0 ++ [(x_2.getD v.toNat [])]).length)]]), none, some (.rows 3 .i64 (out0 ++ [(x_2.getD v.toNat [])])), none, none, some (.outs 22 5 ((out0 ++ [(x_2.getD v.toNat [])]).length) idO (lenO (out0 ++ [(x_2.getD v.toNat [])])))]⟩ mixed ?_ ?_
    ·change AWPB _ _ reg_field_twin_5.toArray _ _ _ _
     refine AWPB_memo fun AA hAA => ?_
     have hn : AA 0 #[true, true, true, true, true, true, true, true] ⟨27, [(2, .ptr 0 0 0), (3, .ptr 3 0 0), (12, .fn 1 x_2.length (fun i => [.ints .i64 (x_2.getD i [])])), (13, .int .i64 (x_2.length : Int)), (14, .int .i64 v)], [some (.gen 65 3 [[.int .i64 0, .int .i64 0, .own 1 0]]), some (.outs 22 2 0 idO (lenO ([] : List (List Int)))), some (.rows 3 .i64 ([] : List (List Int))), some (.gen 65 3 [[.int .i64 x_0, .int .i64 x_1, .own 8 ((out0 ++ [(x_2.getD v.toNat [])]).length)]]), none, some (.rows 3 .i64 (out0 ++ [(x_2.getD v.toNat [])])), none, none, some (.outs 22 5 ((out0 ++ [(x_2.getD v.toNat [])]).length) idO (lenO (out0 ++ [(x_2.getD v.toNat [])])))]⟩ := (hAA _ _ _).2 (by
      exact AWPB_end [0, 1, 2, 3, 4, 5, 6, 7, 8] ceg_field_twin_5_3 mkWkR)
     have hn1 := J_field_twin_5_hn1 h1 h2 hAA hn
     have hn2 := J_field_twin_5_hn2 h1 h2 hAA hn1
     have hn3 := J_field_twin_5_hn3 h1 h2 hAA hn2
     have hn4 := J_field_twin_5_hn4 h1 h2 hAA hn3
     have hn5 := J_field_twin_5_hn5 h1 h2 hAA hn4
     have hn6 := J_field_twin_5_hn6 h1 h2 hAA hn4
     have hn7 := J_field_twin_5_hn7 h1 h2 hAA hn5 hn6
     have hn8 := J_field_twin_5_hn8 h1 h2 hAA hn7
     have hn9 := J_field_twin_5_hn9 h1 h2 hAA hn8
     exact (hAA _ _ _).2 (AWPB_wk [0, 1, 2, 3, 4, 5] mkWkR ((hAA _ _ _).1 hn9))
    with_reducible refine inBlockA_normal (thenC_normal ?_)
    refine AWP_facts (by simp) fun hfx => ?_
    simp only [factS, factV, fact1, fact0, factL0, lo, hi, maxLen, and_true, true_and] at hfx
    refine AWP_rg tab_ok [2, 3, 12, 13, 14] fun c st' hr => ?_
    simp only [go_sem, idO_app, lenO_app, lenO_app2, lenO_eta] at hr
    obtain ⟨rfl, rfl⟩ := hr
    refine ⟨vc, ?_⟩
    clear hfx
    refine again_n (out0 ++ [(x_2.getD v.toNat [])], v + 1) [0, 1, 2, 3, 8, 5] hK mkWkR
   ·replace hK := ite_f hK hb
    refine AWP_exit ?_
    with_reducible refine thenC_exit (again_x ?_)
    refine cutX_here out0 [0, 1, 2, 3, 4, 5] (by have hq := hpost1 _ hK; exact hq) mkWkR
  ·clear hK; rintro out01 hK
   try dsimp only at hK
   refine exS ⟨27, [(2, .ptr 0 0 0), (3, .ptr 3 0 0)], [some (.gen 65 3 [[.int .i64 0, .int .i64 0, .own 1 0]]), some (.outs 22 2 0 idO (lenO ([] : List (List Int)))), some (.rows 3 .i64 ([] : List (List Int))), some (.gen 65 3 [[.int .i64 x_0, .int .i64 x_1, .own 4 out01.length]]), some (.outs 22 5 out01.length idO (lenO out01)), some (.rows 3 .i64 out01)]⟩ rfl ?_
   with_reducible refine inBlockA_exit (thenC_normal ?_)
   refine AWP_seq ?_
   refine AWP_rg tab_ok [2] fun c st' hr => ?_
   simp only [go_sem, idO_app, lenO_app, lenO_app2, lenO_eta] at hr
   obtain ⟨rfl, rfl⟩ := hr
   refine ⟨vc, ?_⟩
   with_reducible refine thenC_normal ?_
   refine AWP_ret ?_
   cases hK
   refine EndsRW [4, 5] (.inl rfl) (of_decide_eq_true rfl) (by simp) rfl (fun c x hr => ?_) endHR
   simp only [go_sem, idO_app, lenO_app, lenO_app2, lenO_eta] at hr
   obtain ⟨rfl, rfl⟩ := hr
   exact ⟨rfl, endR⟩


theorem W_field_inverse {a : Int} {p : Int} {r : Int} (hK : field_inverse a p = some r) : Pure Try.prog 221 [.int .i64 a, .int .i64 p] (.int .i64 r) [] := by
  refine Pure_introF tab_ok (n := 18) (l := [.tmp 4]) Try.func221 rfl rfl rfl (by simp) fun hfact w0 => ?_
  simp only [factL1, fact1, fact0, factL0, lo, hi, maxLen, and_true] at hfact
  unfold field_inverse at hK
  refine AWP_seq ?_
  refine AWP_rg tab_ok [0, 1] fun c st' hr => ?_
  simp only [go_sem] at hr
  obtain ⟨rfl, rfl⟩ := hr
  refine ⟨vc, ?_⟩
  with_reducible refine thenC_normal ?_
  refine AWP_seq ?_
  refine AWP_seq ?_
  refine AWP_rg tab_ok [0, 1, 5] fun c st' hr => ?_
  simp only [go_sem] at hr
  obtain ⟨rfl, rfl⟩ := hr
  refine ⟨vc, ?_⟩
  with_reducible refine thenC_normal ?_
  refine AWP_block ?_
  refine AWP_loopX 0 (fun (b : Int) => ⟨18, [(0, .int .i64 a), (1, .int .i64 p), (5, .int .i64 b)], []⟩) (fun (_ : Unit) => ⟨18, [], []⟩) Sum.inl 1 [] hK mkWk ?_ ?_
  ·clear hK; rintro b b1 hK hpost1
   try dsimp only at hK
   change AWP _ _ _ _ ⟨18, [(0, .int .i64 a), (1, .int .i64 p), (5, .int .i64 b)], []⟩
   refine AWP_seq ?_
   refine AWP_seq ?_
   refine AWP_rg tab_ok [0, 1, 5, 8] fun c st' hr => ?_
   simp only [go_sem] at hr
   obtain ⟨rfl, rfl⟩ := hr
   refine ⟨vc, ?_⟩
   with_reducible refine thenC_normal ?_
   refine AWP_condP (b < p) rfl bd (fun hb => ?_) (fun hb => ?_)
   ·replace hK := ite_t hK hb
    refine AWP_skip ?_
    with_reducible refine thenC_normal ?_
    refine AWP_seq ?_
    refine AWP_block ?_
    refine AWP_seq ?_
    replace hK := chk_some hK
    obtain ⟨h, hK⟩ := hK
    refine AWP_rg tab_ok [0, 1, 5, 16] fun c st' hr => ?_
    simp only [go_sem] at hr
    obtain ⟨rfl, rfl⟩ := hr
    refine ⟨vc, ?_⟩
    with_reducible refine thenC_normal ?_
    refine AWP_condP (Int.tmod (a * b) p = 1) rfl bd (fun hb1 => ?_) (fun hb1 => ?_)
    ·replace hK := ite_t hK hb1
     refine AWP_seq ?_
     refine AWP_rg tab_ok [4] fun c st' hr => ?_
     simp only [go_sem] at hr
     obtain ⟨rfl, rfl⟩ := hr
     refine ⟨vc, ?_⟩
     with_reducible refine thenC_normal ?_
     refine AWP_ret ?_
     with_reducible refine inBlockA_ret (thenC_ret (again_r (cutX_r (inBlockA_ret (thenC_ret ?_)))))
     replace hK := hpost1 _ hK
     try dsimp only at hK
     cases hK
     refine EndsRW [] (.inl rfl) (of_decide_eq_true rfl) (by simp) rfl (fun c x hr => ?_) trivial
     simp only [go_sem] at hr
     obtain ⟨rfl, rfl⟩ := hr
     exact ⟨rfl, endR⟩
    ·replace hK := ite_f hK hb1
     refine AWP_skip ?_
     with_reducible refine inBlockA_normal (thenC_normal ?_)
     refine AWP_facts (by simp) fun hfx => ?_
     simp only [factS, factV, fact1, fact0, factL0, lo, hi, maxLen, and_true, true_and] at hfx
     refine AWP_rg tab_ok [0, 1, 5] fun c st' hr => ?_
     simp only [go_sem] at hr
     obtain ⟨rfl, rfl⟩ := hr
     refine ⟨vc, ?_⟩
     clear hfx
     refine again_n (b + 1) [] hK mkWk
   ·replace hK := ite_f hK hb
    refine AWP_exit ?_
    with_reducible refine thenC_exit (again_x ?_)
    refine cutX_here () [] (by have hq := hpost1 _ hK; exact hq) mkWk
  ·clear hK; rintro _ hK
   try dsimp only at hK
   refine exS ⟨18, [], []⟩ rfl ?_
   with_reducible refine inBlockA_exit (thenC_normal ?_)
   refine AWP_seq ?_
   refine AWP_rg tab_ok [4] fun c st' hr => ?_
   simp only [go_sem] at hr
   obtain ⟨rfl, rfl⟩ := hr
   refine ⟨vc, ?_⟩
   with_reducible refine thenC_normal ?_
   refine AWP_ret ?_
   cases hK
   refine EndsRW [] (.inl rfl) (of_decide_eq_true rfl) (by simp) rfl (fun c x hr => ?_) trivial
   simp only [go_sem] at hr
   obtain ⟨rfl, rfl⟩ := hr
   exact ⟨rfl, endR⟩

end Go.SH
