/-
  That the code computes these functions: kinds_inverse, kinds_rankOf, kinds_Linear_1, kinds_Linear. By a program of mine (shal.py). Conditions: none.
-/
import Derived.Test.YtlpikingpnenkaaAxT
import Derived.Test.YtlpikingpnenkaaAxR
import Derived.Test.YtlpikingpnenkaaAxTx
import Derived.Test.YtlpikingpnenkaaAxTk
import Derived.Test.YtlpikingpnenkaaAxRx
import Derived.Test.YtlpikingpnenkaaAxJm
import Derived.Test.YtlpikingpnenkaaAxW
import Derived.Test.YtlpikingpnenkaaSp
import Derived.Test.YtlpikingpnenkaaWpkindsb
import Derived.Test.YtlpikingpnenkaaWpkindsm
set_option linter.unusedVariables false
set_option linter.unusedSimpArgs false
set_option maxRecDepth 8000
set_option maxHeartbeats 4000000
namespace Go.SH
open Go Go.AX Go.AX.Try Go.Proofs


theorem W_kinds_inverse {a : Int} {p : Int} {r : Int} (hK : kinds_inverse a p = some r) : Pure Try.prog 139 [.int .i64 a, .int .i64 p] (.int .i64 r) [] := by
  refine Pure_introF tab_ok (n := 18) (l := [.tmp 4]) Try.func139 rfl rfl rfl (by simp) fun hfact w0 => ?_
  simp only [factL1, fact1, fact0, factL0, lo, hi, maxLen, and_true] at hfact
  unfold kinds_inverse at hK
  refine AWP_seq ?_
  refine AWP_rg tab_ok [0, 1] fun c st' hr => ?_
  simp only [go_sem] at hr
  obtain ⟨rfl, rfl⟩ := hr
  refine ⟨vc, ?_⟩
  with_reducible refine thenC_normal ?_
  refine AWP_seq ?_
  refine AWP_seq ?_
  refine AWP_rg tab_ok [0, 1, 6, 7] fun c st' hr => ?_
  simp only [go_sem] at hr
  obtain ⟨rfl, rfl⟩ := hr
  refine ⟨vc, ?_⟩
  with_reducible refine thenC_normal ?_
  refine AWP_block ?_
  refine AWP_loopX 0 (fun (v : Int) => ⟨18, [(0, .int .i64 a), (1, .int .i64 p), (6, .int .i64 p), (7, .int .i64 v)], []⟩) (fun (_ : Unit) => ⟨18, [], []⟩) Sum.inl 0 [] hK mkWk ?_ ?_
  ·clear hK; rintro v b hK hpost1
   try dsimp only at hK
   change AWP _ _ _ _ ⟨18, [(0, .int .i64 a), (1, .int .i64 p), (6, .int .i64 p), (7, .int .i64 v)], []⟩
   refine AWP_seq ?_
   refine AWP_rg tab_ok [0, 1, 6, 7, 8] fun c st' hr => ?_
   simp only [go_sem] at hr
   obtain ⟨rfl, rfl⟩ := hr
   refine ⟨vc, ?_⟩
   with_reducible refine thenC_normal ?_
   refine AWP_seq ?_
   refine AWP_condP (v < p) rfl bd (fun hb => ?_) (fun hb => ?_)
   ·replace hK := ite_t hK hb
    refine AWP_skip ?_
    with_reducible refine thenC_normal ?_
    refine AWP_seq ?_
    refine AWP_block ?_
    refine AWP_seq ?_
    refine AWP_rg tab_ok [0, 1, 5, 6, 7] fun c st' hr => ?_
    simp only [go_sem] at hr
    obtain ⟨rfl, rfl⟩ := hr
    refine ⟨vc, ?_⟩
    with_reducible refine thenC_normal ?_
    refine AWP_seq ?_
    replace hK := chk_some hK
    obtain ⟨h, hK⟩ := hK
    refine AWP_rg tab_ok [0, 1, 5, 6, 7, 15] fun c st' hr => ?_
    simp only [go_sem] at hr
    obtain ⟨rfl, rfl⟩ := hr
    refine ⟨vc, ?_⟩
    with_reducible refine thenC_normal ?_
    refine AWP_condP (Int.tmod (a * v) p = 1) rfl bd (fun hb1 => ?_) (fun hb1 => ?_)
    ·replace hK := ite_t hK hb1
     refine AWP_seq ?_
     refine AWP_rg tab_ok [4] fun c st' hr => ?_
     simp only [go_sem] at hr
     obtain ⟨rfl, rfl⟩ := hr
     refine ⟨vc, ?_⟩
     with_reducible refine thenC_normal ?_
     refine AWP_ret ?_
     with_reducible refine inBlockA_ret (thenC_ret (again_r (cutX_r (inBlockA_ret (thenC_ret ?_)))))
     replace hK := hpost1 _ hK
     try dsimp only at hK
     cases hK
     refine EndsRW [] (.inl rfl) (of_decide_eq_true rfl) (by simp) rfl (fun c x hr => ?_) trivial
     simp only [go_sem] at hr
     obtain ⟨rfl, rfl⟩ := hr
     exact ⟨rfl, endR⟩
    ·replace hK := ite_f hK hb1
     refine AWP_skip ?_
     with_reducible refine inBlockA_normal (thenC_normal ?_)
     refine AWP_facts (by simp) fun hfx => ?_
     simp only [factS, factV, fact1, fact0, factL0, lo, hi, maxLen, and_true, true_and] at hfx
     refine AWP_rg tab_ok [0, 1, 6, 7] fun c st' hr => ?_
     simp only [go_sem] at hr
     obtain ⟨rfl, rfl⟩ := hr
     refine ⟨vc, ?_⟩
     clear hfx
     refine again_n (v + 1) [] hK mkWk
   ·replace hK := ite_f hK hb
    refine AWP_exit ?_
    with_reducible refine thenC_exit (again_x ?_)
    refine cutX_here () [] (by have hq := hpost1 _ hK; exact hq) mkWk
  ·clear hK; rintro _ hK
   try dsimp only at hK
   refine exS ⟨18, [], []⟩ rfl ?_
   with_reducible refine inBlockA_exit (thenC_normal ?_)
   refine AWP_seq ?_
   refine AWP_rg tab_ok [4] fun c st' hr => ?_
   simp only [go_sem] at hr
   obtain ⟨rfl, rfl⟩ := hr
   refine ⟨vc, ?_⟩
   with_reducible refine thenC_normal ?_
   refine AWP_ret ?_
   cases hK
   refine EndsRW [] (.inl rfl) (of_decide_eq_true rfl) (by simp) rfl (fun c x hr => ?_) trivial
   simp only [go_sem] at hr
   obtain ⟨rfl, rfl⟩ := hr
   exact ⟨rfl, endR⟩

/-- The operations of a drawn region. -/
def reg_kinds_rankOf_22 : List Oper := (⟨_, rfl⟩ : { l : List Oper // (Try.f87.body.bind (regIn 22)) = some l }).1

theorem ceg_kinds_rankOf_22_1 : firstOk reg_kinds_rankOf_22.toArray #[false, false, false, false, false, false, false, false, false, false, false, false, false, false, false, false] 0 [12, 13, 14, 15] = true := by kernel_rfl

theorem ceg_kinds_rankOf_22_2 : firstOk reg_kinds_rankOf_22.toArray #[true, false, false, false, false, false, false, false, false, false, false, false, false, false, false, false] 1 [12, 13, 14, 15] = true := by kernel_rfl

theorem ceg_kinds_rankOf_22_3 : firstOk reg_kinds_rankOf_22.toArray #[true, true, false, false, false, false, false, false, false, false, false, false, false, false, false, false] 4 [6, 7, 12, 13, 14, 15] = true := by kernel_rfl

theorem ceg_kinds_rankOf_22_4 : firstOk reg_kinds_rankOf_22.toArray #[true, true, false, false, true, false, false, false, false, false, false, false, false, false, false, false] 5 [6, 7, 12, 13, 14, 15] = true := by kernel_rfl

theorem ceg_kinds_rankOf_22_5 : firstOk reg_kinds_rankOf_22.toArray #[true, true, false, false, true, true, false, false, false, false, false, false, false, false, false, false] 6 [7, 12, 13, 14, 15] = true := by kernel_rfl

theorem ceg_kinds_rankOf_22_6 : firstOk reg_kinds_rankOf_22.toArray #[true, true, false, false, true, true, true, false, false, false, false, false, false, false, false, false] 7 [12, 13, 14, 15] = true := by kernel_rfl

theorem ceg_kinds_rankOf_22_7 : firstOk reg_kinds_rankOf_22.toArray #[true, true, false, false, true, true, true, true, false, false, false, false, false, false, false, false] 8 [10, 11, 12, 13, 14, 15] = true := by kernel_rfl

theorem ceg_kinds_rankOf_22_8 : firstOk reg_kinds_rankOf_22.toArray #[true, true, false, false, true, true, true, true, true, false, false, false, false, false, false, false] 9 [10, 11, 12, 13, 14, 15] = true := by kernel_rfl

theorem ceg_kinds_rankOf_22_9 : firstOk reg_kinds_rankOf_22.toArray #[true, true, false, false, true, true, true, true, true, true, false, false, false, false, false, false] 10 [11, 12, 13, 14, 15] = true := by kernel_rfl

theorem ceg_kinds_rankOf_22_10 : firstOk reg_kinds_rankOf_22.toArray #[true, true, false, false, true, true, true, true, true, true, true, false, false, false, false, false] 11 [12, 13, 14, 15] = true := by kernel_rfl

theorem ceg_kinds_rankOf_22_11 : firstOk reg_kinds_rankOf_22.toArray #[true, true, false, false, true, true, true, true, true, true, true, true, false, false, false, false] 12 [13, 14, 15] = true := by kernel_rfl

theorem ceg_kinds_rankOf_22_12 : firstOk reg_kinds_rankOf_22.toArray #[true, true, true, true, true, true, true, true, true, true, true, true, true, true, false, false] 14 [15] = true := by kernel_rfl

theorem ceg_kinds_rankOf_22_13 : (Region.ready .any reg_kinds_rankOf_22.toArray #[true, true, true, true, true, true, true, true, true, true, true, true, true, true, true, true] == []) = true := by kernel_rfl

theorem ceg_kinds_rankOf_22_14 : (Region.ready .any reg_kinds_rankOf_22.toArray #[true, true, true, true, true, true, true, true, true, true, true, true, true, true, true, false] == [15]) = true := by kernel_rfl

theorem J_kinds_rankOf_22_hn1 {x_0 : Int} {x_1 : Int} {x_2 : List (List Int)} {a1 : Int} {v6 : List (List Int)} {v7 : Int} {v8 : Int} {v11 : Int} (h10 : (0 ≤ v11 ∧ v11 < v6.length)) (h11 : (0 ≤ v7 ∧ v7 < v6.length)) (h12 : (0 ≤ v7 ∧ v7 < v6.length)) (h13 : (0 ≤ v11 ∧ v11 < v6.length)) {w0 : World} {Q : Exit → St → Prop} {AA : Nat → Array Bool → St → Prop} (hAA : ∀ g L st, AA g L st ↔ AWPB Try.prog w0 reg_kinds_rankOf_22.toArray Q g L st) (hn : AA 0 #[true, true, true, true, true, true, true, true, true, true, true, true, true, true, true, true] ⟨166, [(1, .int .i64 a1), (2, .ptr 0 0 0), (5, .own 1 v6.length), (11, .int .i64 v7), (12, .int .i64 v8)], [some (.gen 65 3 [[.int .i64 x_0, .int .i64 x_1, .fn 1 x_2.length (fun i => [.ints .i64 (x_2.getD i [])])]]), some (.outs 22 2 v6.length (fun m => if m = v11.toNat then some v7.toNat else if m = v7.toNat then some v11.toNat else idO m) (fun m => if m = v11.toNat then (v6.getD v7.toNat []).length else if m = v7.toNat then (v6.getD v11.toNat []).length else lenO v6 m)), some (.rows 3 .i64 v6)]⟩) : AA 1 #[true, true, true, true, true, true, true, true, true, true, true, true, true, true, true, false] ⟨166, [(1, .int .i64 a1), (2, .ptr 0 0 0), (5, .own 1 v6.length), (11, .int .i64 v7), (12, .int .i64 v8), (91, .row 2 v7.toNat ((v6.getD v7.toNat []).length)), (93, .ptr 1 v11.toNat 0)], [some (.gen 65 3 [[.int .i64 x_0, .int .i64 x_1, .fn 1 x_2.length (fun i => [.ints .i64 (x_2.getD i [])])]]), some (.outs 22 2 v6.length (fun m => if m = v7.toNat then some v11.toNat else idO m) (fun m => if m = v7.toNat then (v6.getD v11.toNat []).length else lenO v6 m)), some (.rows 3 .i64 v6)]⟩ := (hAA _ _ _).2 (by
  refine AWPB_one 15 _ ceg_kinds_rankOf_22_14 rfl ?_
  refine AWPL_rn tab_ok 1 [1, 2, 5, 11, 12] fun c st' hr => ?_
  simp only [go_sem, idO_app, lenO_app, lenO_app2, lenO_eta] at hr
  obtain ⟨rfl, rfl⟩ := hr
  refine ⟨vc, ?_⟩
  refine AWPL_nil ?_
  refine QB_normal ?_
  exact AWPB_wk [0, 1, 2] mkWkR ((hAA _ _ _).1 hn))

theorem J_kinds_rankOf_22_hn2 {x_0 : Int} {x_1 : Int} {x_2 : List (List Int)} {a1 : Int} {v6 : List (List Int)} {v7 : Int} {v8 : Int} {v11 : Int} (h10 : (0 ≤ v11 ∧ v11 < v6.length)) (h11 : (0 ≤ v7 ∧ v7 < v6.length)) (h12 : (0 ≤ v7 ∧ v7 < v6.length)) (h13 : (0 ≤ v11 ∧ v11 < v6.length)) {w0 : World} {Q : Exit → St → Prop} {AA : Nat → Array Bool → St → Prop} (hAA : ∀ g L st, AA g L st ↔ AWPB Try.prog w0 reg_kinds_rankOf_22.toArray Q g L st) (hn1 : AA 1 #[true, true, true, true, true, true, true, true, true, true, true, true, true, true, true, false] ⟨166, [(1, .int .i64 a1), (2, .ptr 0 0 0), (5, .own 1 v6.length), (11, .int .i64 v7), (12, .int .i64 v8), (91, .row 2 v7.toNat ((v6.getD v7.toNat []).length)), (93, .ptr 1 v11.toNat 0)], [some (.gen 65 3 [[.int .i64 x_0, .int .i64 x_1, .fn 1 x_2.length (fun i => [.ints .i64 (x_2.getD i [])])]]), some (.outs 22 2 v6.length (fun m => if m = v7.toNat then some v11.toNat else idO m) (fun m => if m = v7.toNat then (v6.getD v11.toNat []).length else lenO v6 m)), some (.rows 3 .i64 v6)]⟩) : AA 2 #[true, true, true, true, true, true, true, true, true, true, true, true, true, true, false, false] ⟨166, [(1, .int .i64 a1), (2, .ptr 0 0 0), (5, .own 1 v6.length), (11, .int .i64 v7), (12, .int .i64 v8), (82, .own 1 v6.length), (83, .int .i64 v11), (91, .row 2 v7.toNat ((v6.getD v7.toNat []).length))], [some (.gen 65 3 [[.int .i64 x_0, .int .i64 x_1, .fn 1 x_2.length (fun i => [.ints .i64 (x_2.getD i [])])]]), some (.outs 22 2 v6.length (fun m => if m = v7.toNat then some v11.toNat else idO m) (fun m => if m = v7.toNat then (v6.getD v11.toNat []).length else lenO v6 m)), some (.rows 3 .i64 v6)]⟩ := (hAA _ _ _).2 (by
  refine AWPB_takeB tab_ok [1, 2, 5, 11, 12, 91, 93] 14 [15] _ rfl ceg_kinds_rankOf_22_12 fun c st' hr => ?_
  simp only [go_sem, idO_app, lenO_app, lenO_app2, lenO_eta] at hr
  obtain ⟨rfl, rfl⟩ := hr
  refine ⟨vc, ?_⟩
  exact AWPB_wk [0, 1, 2] mkWkR ((hAA _ _ _).1 hn1))

theorem ceg_kinds_rankOf_22_17 : (Region.ready .any reg_kinds_rankOf_22.toArray #[true, true, true, true, true, true, true, true, true, true, true, true, true, false, false, false] == [13]) = true := by kernel_rfl

theorem J_kinds_rankOf_22_hn3 {x_0 : Int} {x_1 : Int} {x_2 : List (List Int)} {a1 : Int} {v6 : List (List Int)} {v7 : Int} {v8 : Int} {v11 : Int} (h10 : (0 ≤ v11 ∧ v11 < v6.length)) (h11 : (0 ≤ v7 ∧ v7 < v6.length)) (h12 : (0 ≤ v7 ∧ v7 < v6.length)) (h13 : (0 ≤ v11 ∧ v11 < v6.length)) {w0 : World} {Q : Exit → St → Prop} {AA : Nat → Array Bool → St → Prop} (hAA : ∀ g L st, AA g L st ↔ AWPB Try.prog w0 reg_kinds_rankOf_22.toArray Q g L st) (hn2 : AA 2 #[true, true, true, true, true, true, true, true, true, true, true, true, true, true, false, false] ⟨166, [(1, .int .i64 a1), (2, .ptr 0 0 0), (5, .own 1 v6.length), (11, .int .i64 v7), (12, .int .i64 v8), (82, .own 1 v6.length), (83, .int .i64 v11), (91, .row 2 v7.toNat ((v6.getD v7.toNat []).length))], [some (.gen 65 3 [[.int .i64 x_0, .int .i64 x_1, .fn 1 x_2.length (fun i => [.ints .i64 (x_2.getD i [])])]]), some (.outs 22 2 v6.length (fun m => if m = v7.toNat then some v11.toNat else idO m) (fun m => if m = v7.toNat then (v6.getD v11.toNat []).length else lenO v6 m)), some (.rows 3 .i64 v6)]⟩) : AA 3 #[true, true, true, true, true, true, true, true, true, true, true, true, true, false, false, false] ⟨166, [(1, .int .i64 a1), (2, .ptr 0 0 0), (5, .own 1 v6.length), (11, .int .i64 v7), (12, .int .i64 v8), (82, .own 1 v6.length), (83, .int .i64 v11), (87, .row 2 v11.toNat ((v6.getD v11.toNat []).length)), (91, .row 2 v7.toNat ((v6.getD v7.toNat []).length)), (92, .ptr 1 v7.toNat 0)], [some (.gen 65 3 [[.int .i64 x_0, .int .i64 x_1, .fn 1 x_2.length (fun i => [.ints .i64 (x_2.getD i [])])]]), some (.outs 22 2 v6.length idO (lenO v6)), some (.rows 3 .i64 v6)]⟩ := (hAA _ _ _).2 (by
  refine AWPB_one 13 _ ceg_kinds_rankOf_22_17 rfl ?_
  refine AWPL_rn tab_ok 1 [1, 2, 5, 11, 12, 82, 83, 91, 93] fun c st' hr => ?_
  simp only [go_sem, idO_app, lenO_app, lenO_app2, lenO_eta] at hr
  obtain ⟨rfl, rfl⟩ := hr
  refine ⟨vc, ?_⟩
  refine AWPL_nil ?_
  refine QB_normal ?_
  exact AWPB_wk [0, 1, 2] mkWkR ((hAA _ _ _).1 hn2))

theorem ceg_kinds_rankOf_22_19 : (Region.noSelect reg_kinds_rankOf_22.toArray && Region.free .any reg_kinds_rankOf_22.toArray #[true, true, true, false, true, true, true, true, true, true, true, true, true, false, false, false] 3 && (Region.ready .any reg_kinds_rankOf_22.toArray #[true, true, true, false, true, true, true, true, true, true, true, true, true, false, false, false]).contains 3) = true := by kernel_rfl

theorem J_kinds_rankOf_22_hn4 {x_0 : Int} {x_1 : Int} {x_2 : List (List Int)} {a1 : Int} {v6 : List (List Int)} {v7 : Int} {v8 : Int} {v11 : Int} (h10 : (0 ≤ v11 ∧ v11 < v6.length)) (h11 : (0 ≤ v7 ∧ v7 < v6.length)) (h12 : (0 ≤ v7 ∧ v7 < v6.length)) (h13 : (0 ≤ v11 ∧ v11 < v6.length)) {w0 : World} {Q : Exit → St → Prop} {AA : Nat → Array Bool → St → Prop} (hAA : ∀ g L st, AA g L st ↔ AWPB Try.prog w0 reg_kinds_rankOf_22.toArray Q g L st) (hn3 : AA 3 #[true, true, true, true, true, true, true, true, true, true, true, true, true, false, false, false] ⟨166, [(1, .int .i64 a1), (2, .ptr 0 0 0), (5, .own 1 v6.length), (11, .int .i64 v7), (12, .int .i64 v8), (82, .own 1 v6.length), (83, .int .i64 v11), (87, .row 2 v11.toNat ((v6.getD v11.toNat []).length)), (91, .row 2 v7.toNat ((v6.getD v7.toNat []).length)), (92, .ptr 1 v7.toNat 0)], [some (.gen 65 3 [[.int .i64 x_0, .int .i64 x_1, .fn 1 x_2.length (fun i => [.ints .i64 (x_2.getD i [])])]]), some (.outs 22 2 v6.length idO (lenO v6)), some (.rows 3 .i64 v6)]⟩) : AA 4 #[true, true, true, false, true, true, true, true, true, true, true, true, true, false, false, false] ⟨166, [(1, .int .i64 a1), (2, .ptr 0 0 0), (5, .own 1 v6.length), (11, .int .i64 v7), (12, .int .i64 v8), (13, .int .i64 v11), (82, .own 1 v6.length), (87, .row 2 v11.toNat ((v6.getD v11.toNat []).length)), (91, .row 2 v7.toNat ((v6.getD v7.toNat []).length)), (92, .ptr 1 v7.toNat 0)], [some (.gen 65 3 [[.int .i64 x_0, .int .i64 x_1, .fn 1 x_2.length (fun i => [.ints .i64 (x_2.getD i [])])]]), some (.outs 22 2 v6.length idO (lenO v6)), some (.rows 3 .i64 v6)]⟩ := (hAA _ _ _).2 (by
  refine AWPB_take2 tab_ok [1, 2, 5, 11, 12, 82, 83, 87, 91, 92, 93] 3 _ rfl rfl rfl ceg_kinds_rankOf_22_19 fun c st' hr => ?_
  simp only [go_sem, idO_app, lenO_app, lenO_app2, lenO_eta] at hr
  obtain ⟨rfl, rfl⟩ := hr
  refine ⟨vc, ?_⟩
  exact AWPB_wk [0, 1, 2] mkWkR ((hAA _ _ _).1 hn3))

theorem ceg_kinds_rankOf_22_21 : (Region.noSelect reg_kinds_rankOf_22.toArray && Region.free .any reg_kinds_rankOf_22.toArray #[true, true, false, false, true, true, true, true, true, true, true, true, true, false, false, false] 2 && (Region.ready .any reg_kinds_rankOf_22.toArray #[true, true, false, false, true, true, true, true, true, true, true, true, true, false, false, false]).contains 2) = true := by kernel_rfl

theorem J_kinds_rankOf_22_hn5 {x_0 : Int} {x_1 : Int} {x_2 : List (List Int)} {a1 : Int} {v6 : List (List Int)} {v7 : Int} {v8 : Int} {v11 : Int} (h10 : (0 ≤ v11 ∧ v11 < v6.length)) (h11 : (0 ≤ v7 ∧ v7 < v6.length)) (h12 : (0 ≤ v7 ∧ v7 < v6.length)) (h13 : (0 ≤ v11 ∧ v11 < v6.length)) {w0 : World} {Q : Exit → St → Prop} {AA : Nat → Array Bool → St → Prop} (hAA : ∀ g L st, AA g L st ↔ AWPB Try.prog w0 reg_kinds_rankOf_22.toArray Q g L st) (hn4 : AA 4 #[true, true, true, false, true, true, true, true, true, true, true, true, true, false, false, false] ⟨166, [(1, .int .i64 a1), (2, .ptr 0 0 0), (5, .own 1 v6.length), (11, .int .i64 v7), (12, .int .i64 v8), (13, .int .i64 v11), (82, .own 1 v6.length), (87, .row 2 v11.toNat ((v6.getD v11.toNat []).length)), (91, .row 2 v7.toNat ((v6.getD v7.toNat []).length)), (92, .ptr 1 v7.toNat 0)], [some (.gen 65 3 [[.int .i64 x_0, .int .i64 x_1, .fn 1 x_2.length (fun i => [.ints .i64 (x_2.getD i [])])]]), some (.outs 22 2 v6.length idO (lenO v6)), some (.rows 3 .i64 v6)]⟩) : AA 5 #[true, true, false, false, true, true, true, true, true, true, true, true, true, false, false, false] ⟨166, [(1, .int .i64 a1), (2, .ptr 0 0 0), (5, .own 1 v6.length), (11, .int .i64 v7), (12, .int .i64 v8), (13, .int .i64 v11), (87, .row 2 v11.toNat ((v6.getD v11.toNat []).length)), (91, .row 2 v7.toNat ((v6.getD v7.toNat []).length)), (92, .ptr 1 v7.toNat 0)], [some (.gen 65 3 [[.int .i64 x_0, .int .i64 x_1, .fn 1 x_2.length (fun i => [.ints .i64 (x_2.getD i [])])]]), some (.outs 22 2 v6.length idO (lenO v6)), some (.rows 3 .i64 v6)]⟩ := (hAA _ _ _).2 (by
  refine AWPB_take2 tab_ok [1, 2, 5, 11, 12, 13, 82, 83, 87, 91, 92, 93] 2 _ rfl rfl rfl ceg_kinds_rankOf_22_21 fun c st' hr => ?_
  simp only [go_sem, idO_app, lenO_app, lenO_app2, lenO_eta] at hr
  obtain ⟨rfl, rfl⟩ := hr
  refine ⟨vc, ?_⟩
  exact AWPB_wk [0, 1, 2] mkWkR ((hAA _ _ _).1 hn4))

theorem J_kinds_rankOf_22_hn6 {x_0 : Int} {x_1 : Int} {x_2 : List (List Int)} {a1 : Int} {v6 : List (List Int)} {v7 : Int} {v8 : Int} {v11 : Int} (h10 : (0 ≤ v11 ∧ v11 < v6.length)) (h11 : (0 ≤ v7 ∧ v7 < v6.length)) (h12 : (0 ≤ v7 ∧ v7 < v6.length)) (h13 : (0 ≤ v11 ∧ v11 < v6.length)) {w0 : World} {Q : Exit → St → Prop} {AA : Nat → Array Bool → St → Prop} (hAA : ∀ g L st, AA g L st ↔ AWPB Try.prog w0 reg_kinds_rankOf_22.toArray Q g L st) (hn5 : AA 5 #[true, true, false, false, true, true, true, true, true, true, true, true, true, false, false, false] ⟨166, [(1, .int .i64 a1), (2, .ptr 0 0 0), (5, .own 1 v6.length), (11, .int .i64 v7), (12, .int .i64 v8), (13, .int .i64 v11), (87, .row 2 v11.toNat ((v6.getD v11.toNat []).length)), (91, .row 2 v7.toNat ((v6.getD v7.toNat []).length)), (92, .ptr 1 v7.toNat 0)], [some (.gen 65 3 [[.int .i64 x_0, .int .i64 x_1, .fn 1 x_2.length (fun i => [.ints .i64 (x_2.getD i [])])]]), some (.outs 22 2 v6.length idO (lenO v6)), some (.rows 3 .i64 v6)]⟩) : AA 16 #[false, false, false, false, false, false, false, false, false, false, false, false, false, false, false, false] ⟨166, [(1, .int .i64 a1), (2, .ptr 0 0 0), (5, .own 1 v6.length), (11, .int .i64 v7), (12, .int .i64 v8), (13, .int .i64 v11)], [some (.gen 65 3 [[.int .i64 x_0, .int .i64 x_1, .fn 1 x_2.length (fun i => [.ints .i64 (x_2.getD i [])])]]), some (.outs 22 2 v6.length idO (lenO v6)), some (.rows 3 .i64 v6)]⟩ := (hAA _ _ _).2 (by
  refine AWPB_takeB tab_ok [1, 2, 5, 11, 12, 13, 80, 81, 82, 83, 84, 85, 86, 87, 88, 89, 90, 91, 92, 93] 0 [12, 13, 14, 15] _ rfl ceg_kinds_rankOf_22_1 fun c st' hr => ?_
  simp only [go_sem, idO_app, lenO_app, lenO_app2, lenO_eta] at hr
  obtain ⟨rfl, rfl⟩ := hr
  refine ⟨vc, ?_⟩
  refine AWPB_takeB tab_ok [1, 2, 5, 11, 12, 13, 80, 81, 82, 83, 84, 85, 86, 87, 88, 89, 90, 91, 92, 93] 1 [12, 13, 14, 15] _ rfl ceg_kinds_rankOf_22_2 fun c st' hr => ?_
  simp only [go_sem, idO_app, lenO_app, lenO_app2, lenO_eta] at hr
  obtain ⟨rfl, rfl⟩ := hr
  refine ⟨vc, ?_⟩
  refine AWPB_takeB tab_ok [1, 2, 5, 11, 12, 13, 80, 81, 82, 83, 84, 85, 86, 87, 88, 89, 90, 91, 92, 93] 4 [6, 7, 12, 13, 14, 15] _ rfl ceg_kinds_rankOf_22_3 fun c st' hr => ?_
  simp only [go_sem, idO_app, lenO_app, lenO_app2, lenO_eta] at hr
  obtain ⟨rfl, rfl⟩ := hr
  refine ⟨vc, ?_⟩
  refine AWPB_takeB tab_ok [1, 2, 5, 11, 12, 13, 80, 81, 82, 83, 84, 85, 86, 87, 88, 89, 90, 91, 92, 93] 5 [6, 7, 12, 13, 14, 15] _ rfl ceg_kinds_rankOf_22_4 fun c st' hr => ?_
  simp only [go_sem, idO_app, lenO_app, lenO_app2, lenO_eta] at hr
  obtain ⟨rfl, rfl⟩ := hr
  refine ⟨vc, ?_⟩
  refine AWPB_takeB tab_ok [1, 2, 5, 11, 12, 13, 80, 81, 82, 83, 86, 87, 88, 89, 90, 91, 92, 93] 6 [7, 12, 13, 14, 15] _ rfl ceg_kinds_rankOf_22_5 fun c st' hr => ?_
  simp only [go_sem, idO_app, lenO_app, lenO_app2, lenO_eta] at hr
  obtain ⟨rfl, rfl⟩ := hr
  refine ⟨vc, ?_⟩
  refine AWPB_takeB tab_ok [1, 2, 5, 11, 12, 13, 80, 81, 82, 83, 87, 88, 89, 90, 91, 92, 93] 7 [12, 13, 14, 15] _ rfl ceg_kinds_rankOf_22_6 fun c st' hr => ?_
  simp only [go_sem, idO_app, lenO_app, lenO_app2, lenO_eta] at hr
  obtain ⟨rfl, rfl⟩ := hr
  refine ⟨vc, ?_⟩
  refine AWPB_takeB tab_ok [1, 2, 5, 11, 12, 13, 80, 81, 82, 83, 87, 88, 89, 90, 91, 92, 93] 8 [10, 11, 12, 13, 14, 15] _ rfl ceg_kinds_rankOf_22_7 fun c st' hr => ?_
  simp only [go_sem, idO_app, lenO_app, lenO_app2, lenO_eta] at hr
  obtain ⟨rfl, rfl⟩ := hr
  refine ⟨vc, ?_⟩
  refine AWPB_takeB tab_ok [1, 2, 5, 11, 12, 13, 80, 81, 82, 83, 87, 88, 89, 90, 91, 92, 93] 9 [10, 11, 12, 13, 14, 15] _ rfl ceg_kinds_rankOf_22_8 fun c st' hr => ?_
  simp only [go_sem, idO_app, lenO_app, lenO_app2, lenO_eta] at hr
  obtain ⟨rfl, rfl⟩ := hr
  refine ⟨vc, ?_⟩
  refine AWPB_takeB tab_ok [1, 2, 5, 11, 12, 13, 80, 81, 82, 83, 87, 90, 91, 92, 93] 10 [11, 12, 13, 14, 15] _ rfl ceg_kinds_rankOf_22_9 fun c st' hr => ?_
  simp only [go_sem, idO_app, lenO_app, lenO_app2, lenO_eta] at hr
  obtain ⟨rfl, rfl⟩ := hr
  refine ⟨vc, ?_⟩
  refine AWPB_takeB tab_ok [1, 2, 5, 11, 12, 13, 80, 81, 82, 83, 87, 91, 92, 93] 11 [12, 13, 14, 15] _ rfl ceg_kinds_rankOf_22_10 fun c st' hr => ?_
  simp only [go_sem, idO_app, lenO_app, lenO_app2, lenO_eta] at hr
  obtain ⟨rfl, rfl⟩ := hr
  refine ⟨vc, ?_⟩
  refine AWPB_takeB tab_ok [1, 2, 5, 11, 12, 13, 82, 83, 87, 91, 92, 93] 12 [13, 14, 15] _ rfl ceg_kinds_rankOf_22_11 fun c st' hr => ?_
  simp only [go_sem, idO_app, lenO_app, lenO_app2, lenO_eta] at hr
  obtain ⟨rfl, rfl⟩ := hr
  refine ⟨vc, ?_⟩
  exact AWPB_wk [0, 1, 2] mkWkR ((hAA _ _ _).1 hn5))


theorem W_kinds_rankOf {x_0 : Int} {x_1 : Int} {x_2 : List (List Int)} {a1 : Int} {r : Int} (hK : kinds_rankOf x_0 x_1 x_2 a1 = some r) : Pure Try.prog 87 [.agg [.int .i64 x_0, .int .i64 x_1, .fn 1 x_2.length (fun i => [.ints .i64 (x_2.getD i [])])], .int .i64 a1] (.int .i64 r) [] := by
  refine Pure_introF tab_ok (n := 166) (l := [.tmp 4]) Try.func87 rfl rfl rfl (by simp) fun hfact w0 => ?_
  simp only [factL1, fact1, fact0, factL0, lo, hi, maxLen, and_true] at hfact
  unfold kinds_rankOf at hK
  refine AWP_seq ?_
  refine AWP_rg tab_ok [1, 2] fun c st' hr => ?_
  simp only [go_sem, idO_app, lenO_app, lenO_app2, lenO_eta] at hr
  obtain ⟨rfl, rfl⟩ := hr
  refine ⟨vc, ?_⟩
  with_reducible refine thenC_normal ?_
  refine AWP_seq ?_
  refine AWP_rg tab_ok [1, 2, 5] fun c st' hr => ?_
  simp only [go_sem, idO_app, lenO_app, lenO_app2, lenO_eta] at hr
  obtain ⟨rfl, rfl⟩ := hr
  refine ⟨vc, ?_⟩
  with_reducible refine thenC_normal ?_
  refine AWP_gs' (gs_rows0 3 .i64) fun st' hr => ?_
  simp only [go_sem, idO_app, lenO_app, lenO_app2, lenO_eta, List.cons_append, List.nil_append] at hr
  subst hr
  refine AWP_own 5 (.outs 22 1 0 idO (lenO [])) rfl rfl fun st' hr => ?_
  simp only [go_sem, idO_app, lenO_app, lenO_app2, lenO_eta] at hr
  subst hr
  refine AWP_seq ?_
  refine AWP_seq ?_
  refine AWP_rg tab_ok [1, 2, 5, 19, 20, 21] fun c st' hr => ?_
  simp only [go_sem, idO_app, lenO_app, lenO_app2, lenO_eta] at hr
  obtain ⟨rfl, rfl⟩ := hr
  refine ⟨vc, ?_⟩
  with_reducible refine thenC_normal ?_
  refine AWP_block ?_
  refine AWP_loopX 0 (fun ((v, v1) : List (List Int) × Int) => ⟨166, [(1, .int .i64 a1), (2, .ptr 0 0 0), (5, .own 1 v.length), (19, .fn 1 x_2.length (fun i => [.ints .i64 (x_2.getD i [])])), (20, .int .i64 (x_2.length : Int)), (21, .int .i64 v1)], [some (.gen 65 3 [[.int .i64 x_0, .int .i64 x_1, .fn 1 x_2.length (fun i => [.ints .i64 (x_2.getD i [])])]]), some (.outs 22 2 v.length idO (lenO v)), some (.rows 3 .i64 v)]⟩) (fun (v2 : List (List Int)) => ⟨166, [(1, .int .i64 a1), (2, .ptr 0 0 0), (5, .own 1 v2.length)], [some (.gen 65 3 [[.int .i64 x_0, .int .i64 x_1, .fn 1 x_2.length (fun i => [.ints .i64 (x_2.getD i [])])]]), some (.outs 22 2 v2.length idO (lenO v2)), some (.rows 3 .i64 v2)]⟩) (fun v => v) (([] : List (List Int)), 0) [0, 2, 1] hK mkWkR ?_ ?_
  ·clear hK; rintro ⟨v, v1⟩ b hK hpost1
   try dsimp only at hK
   change AWP _ _ _ _ ⟨166, [(1, .int .i64 a1), (2, .ptr 0 0 0), (5, .own 1 v.length), (19, .fn 1 x_2.length (fun i => [.ints .i64 (x_2.getD i [])])), (20, .int .i64 (x_2.length : Int)), (21, .int .i64 v1)], [some (.gen 65 3 [[.int .i64 x_0, .int .i64 x_1, .fn 1 x_2.length (fun i => [.ints .i64 (x_2.getD i [])])]]), some (.outs 22 2 v.length idO (lenO v)), some (.rows 3 .i64 v)]⟩
   refine AWP_seq ?_
   refine AWP_rg tab_ok [1, 2, 5, 19, 20, 21, 22] fun c st' hr => ?_
   simp only [go_sem, idO_app, lenO_app, lenO_app2, lenO_eta] at hr
   obtain ⟨rfl, rfl⟩ := hr
   refine ⟨vc, ?_⟩
   with_reducible refine thenC_normal ?_
   refine AWP_seq ?_
   refine AWP_condP (v1 < (x_2.length : Int)) rfl bd (fun hb => ?_) (fun hb => ?_)
   ·replace hK := ite_t hK hb
    refine AWP_skip ?_
    with_reducible refine thenC_normal ?_
    refine AWP_seq ?_
    refine AWP_block ?_
    refine AWP_seq ?_
    replace hK := chk_some hK
    obtain ⟨h, hK⟩ := hK
    refine AWP_rg tab_ok [1, 2, 5, 7, 19, 20, 21] fun c st' hr => ?_
    simp only [go_sem, idO_app, lenO_app, lenO_app2, lenO_eta] at hr
    obtain ⟨rfl, rfl⟩ := hr
    refine ⟨vc, ?_⟩
    with_reducible refine thenC_normal ?_
    refine AWP_seq ?_
    refine AWP_rg tab_ok [1, 2, 5, 7, 8, 19, 20, 21] fun c st' hr => ?_
    simp only [go_sem, idO_app, lenO_app, lenO_app2, lenO_eta] at hr
    obtain ⟨rfl, rfl⟩ := hr
    refine ⟨vc, ?_⟩
    with_reducible refine thenC_normal ?_
    refine AWP_own 8 (.ints 3 .i64 []) rfl rfl fun st' hr => ?_
    simp only [go_sem, idO_app, lenO_app, lenO_app2, lenO_eta] at hr
    subst hr
    refine AWP_seq ?_
    refine AWP_seq ?_
    refine AWP_rg tab_ok [1, 2, 5, 8, 19, 20, 21, 25, 26, 27] fun c st' hr => ?_
    simp only [go_sem, idO_app, lenO_app, lenO_app2, lenO_eta] at hr
    obtain ⟨rfl, rfl⟩ := hr
    refine ⟨vc, ?_⟩
    with_reducible refine thenC_normal ?_
    refine AWP_block ?_
    refine AWP_loopX 2 (fun ((v3, v4) : List Int × Int) => ⟨166, [(1, .int .i64 a1), (2, .ptr 0 0 0), (5, .own 1 v.length), (8, .own 3 v3.length), (19, .fn 1 x_2.length (fun i => [.ints .i64 (x_2.getD i [])])), (20, .int .i64 (x_2.length : Int)), (21, .int .i64 v1), (25, .ints .i64 (x_2.getD v1.toNat [])), (26, .int .i64 ((x_2.getD v1.toNat []).length : Int)), (27, .int .i64 v4)], [some (.gen 65 3 [[.int .i64 x_0, .int .i64 x_1, .fn 1 x_2.length (fun i => [.ints .i64 (x_2.getD i [])])]]), some (.outs 22 2 v.length idO (lenO v)), some (.rows 3 .i64 v), some (.ints 3 .i64 v3)]⟩) (fun (v5 : List Int) => ⟨166, [(1, .int .i64 a1), (2, .ptr 0 0 0), (5, .own 1 v.length), (8, .own 3 v5.length), (19, .fn 1 x_2.length (fun i => [.ints .i64 (x_2.getD i [])])), (20, .int .i64 (x_2.length : Int)), (21, .int .i64 v1)], [some (.gen 65 3 [[.int .i64 x_0, .int .i64 x_1, .fn 1 x_2.length (fun i => [.ints .i64 (x_2.getD i [])])]]), some (.outs 22 2 v.length idO (lenO v)), some (.rows 3 .i64 v), some (.ints 3 .i64 v5)]⟩) (fun v => v) ([], 0) [0, 1, 2, 3] hK mkWkR ?_ ?_
    ·clear hK; rintro ⟨v3, v4⟩ b1 hK hpost2
     try dsimp only at hK
     change AWP _ _ _ _ ⟨166, [(1, .int .i64 a1), (2, .ptr 0 0 0), (5, .own 1 v.length), (8, .own 3 v3.length), (19, .fn 1 x_2.length (fun i => [.ints .i64 (x_2.getD i [])])), (20, .int .i64 (x_2.length : Int)), (21, .int .i64 v1), (25, .ints .i64 (x_2.getD v1.toNat [])), (26, .int .i64 ((x_2.getD v1.toNat []).length : Int)), (27, .int .i64 v4)], [some (.gen 65 3 [[.int .i64 x_0, .int .i64 x_1, .fn 1 x_2.length (fun i => [.ints .i64 (x_2.getD i [])])]]), some (.outs 22 2 v.length idO (lenO v)), some (.rows 3 .i64 v), some (.ints 3 .i64 v3)]⟩
     refine AWP_seq ?_
     refine AWP_rg tab_ok [1, 2, 5, 8, 19, 20, 21, 25, 26, 27, 28] fun c st' hr => ?_
     simp only [go_sem, idO_app, lenO_app, lenO_app2, lenO_eta] at hr
     obtain ⟨rfl, rfl⟩ := hr
     refine ⟨vc, ?_⟩
     with_reducible refine thenC_normal ?_
     refine AWP_seq ?_
     refine AWP_condP (v4 < ((x_2.getD v1.toNat []).length : Int)) rfl bd (fun hb1 => ?_) (fun hb1 => ?_)
     ·replace hK := ite_t hK hb1
      refine AWP_skip ?_
      with_reducible refine thenC_normal ?_
      refine AWP_seq ?_
      refine AWP_block ?_
      refine AWP_seq ?_
      replace hK := chk_some hK
      obtain ⟨h1, hK⟩ := hK
      refine AWP_rg tab_ok [1, 2, 5, 8, 9, 10, 19, 20, 21, 25, 26, 27] fun c st' hr => ?_
      simp only [go_sem, idO_app, lenO_app, lenO_app2, lenO_eta] at hr
      obtain ⟨rfl, rfl⟩ := hr
      refine ⟨vc, ?_⟩
      with_reducible refine thenC_normal ?_
      refine AWP_seq ?_
      replace hK := chk_some hK
      obtain ⟨h2, hK⟩ := hK
      refine AWP_rg tab_ok [1, 2, 5, 8, 10, 19, 20, 21, 25, 26, 27, 36] fun c st' hr => ?_
      simp only [go_sem, idO_app, lenO_app, lenO_app2, lenO_eta] at hr
      obtain ⟨rfl, rfl⟩ := hr
      refine ⟨vc, ?_⟩
      with_reducible refine thenC_normal ?_
      refine AWP_condP (iand (a1 / 2 ^ v4.toNat) 1 = 1) rfl bd (fun hb2 => ?_) (fun hb2 => ?_)
      ·replace hK := ite_t hK hb2
       replace hK := chk_some hK
       obtain ⟨h3, hK⟩ := hK
       refine AWP_rg tab_ok [1, 2, 5, 8, 19, 20, 21, 25, 26, 27] fun c st' hr => ?_
       simp only [go_sem, idO_app, lenO_app, lenO_app2, lenO_eta] at hr
       obtain ⟨rfl, rfl⟩ := hr
       refine ⟨vc, ?_⟩
       with_reducible refine inBlockA_normal (thenC_normal ?_)
       replace hK := chk_some hK
       obtain ⟨h4, hK⟩ := hK
       refine AWP_rg tab_ok [1, 2, 5, 8, 19, 20, 21, 25, 26, 27] fun c st' hr => ?_
       simp only [go_sem, idO_app, lenO_app, lenO_app2, lenO_eta] at hr
       obtain ⟨rfl, rfl⟩ := hr
       refine ⟨vc, ?_⟩
       refine again_n (v3 ++ [(x_2.getD v1.toNat []).getD v4.toNat 0], v4 + 1) [0, 1, 2, 5] hK mkWkR
      ·replace hK := ite_f hK hb2
       refine AWP_skip ?_
       with_reducible refine inBlockA_normal (thenC_normal ?_)
       replace hK := chk_some hK
       obtain ⟨h5, hK⟩ := hK
       refine AWP_rg tab_ok [1, 2, 5, 8, 19, 20, 21, 25, 26, 27] fun c st' hr => ?_
       simp only [go_sem, idO_app, lenO_app, lenO_app2, lenO_eta] at hr
       obtain ⟨rfl, rfl⟩ := hr
       refine ⟨vc, ?_⟩
       refine again_n (v3, v4 + 1) [0, 1, 2, 3] hK mkWkR
     ·replace hK := ite_f hK hb1
      refine AWP_exit ?_
      with_reducible refine thenC_exit (again_x ?_)
      refine cutX_here v3 [0, 1, 2, 3] (by have hq := hpost2 _ hK; exact hq) mkWkR
    ·clear hK; rintro v5 hK
     try dsimp only at hK
     refine exS ⟨166, [(1, .int .i64 a1), (2, .ptr 0 0 0), (5, .own 1 v.length), (8, .own 3 v5.length), (19, .fn 1 x_2.length (fun i => [.ints .i64 (x_2.getD i [])])), (20, .int .i64 (x_2.length : Int)), (21, .int .i64 v1)], [some (.gen 65 3 [[.int .i64 x_0, .int .i64 x_1, .fn 1 x_2.length (fun i => [.ints .i64 (x_2.getD i [])])]]), some (.outs 22 2 v.length idO (lenO v)), some (.rows 3 .i64 v), some (.ints 3 .i64 v5)]⟩ rfl ?_
     with_reducible refine inBlockA_exit (thenC_normal ?_)
     refine AWP_rl ?_
     refine AWPL_rn tab_ok 2 [1, 2, 19, 20, 21, 42, 43] fun c st' hr => ?_
     simp only [go_sem, idO_app, lenO_app, lenO_app2, lenO_eta] at hr
     obtain ⟨rfl, rfl⟩ := hr
     refine ⟨vc, ?_⟩
     refine AWPL_gs' (gs_adopt 43 2 rfl (by first | rfl | (simp; done)) rfl rfl (by first | rfl | (simp [noPin]; done))) fun st' hr => ?_
     simp only [go_sem, idO_app, lenO_app, lenO_app2, lenO_eta, List.set_cons_zero, List.set_cons_succ] at hr
     subst hr
     replace hK := chk_some hK
     obtain ⟨h6, hK⟩ := hK
     refine AWPL_rn tab_ok 3 [1, 2, 5, 19, 20, 21] fun c st' hr => ?_
     simp only [go_sem, idO_app, lenO_app, lenO_app2, lenO_eta] at hr
     obtain ⟨rfl, rfl⟩ := hr
     refine ⟨vc, ?_⟩
     refine AWPL_nil ?_
     with_reducible refine inBlockA_normal (thenC_normal ?_)
     refine AWP_facts (by simp) fun hfx => ?_
     simp only [factS, factV, fact1, fact0, factL0, lo, hi, maxLen, and_true, true_and] at hfx
     refine AWP_rg tab_ok [1, 2, 5, 19, 20, 21] fun c st' hr => ?_
     simp only [go_sem, idO_app, lenO_app, lenO_app2, lenO_eta] at hr
     obtain ⟨rfl, rfl⟩ := hr
     refine ⟨vc, ?_⟩
     clear hfx
     refine again_n (v ++ [v5], v1 + 1) [0, 5, 2] hK mkWkR
   ·replace hK := ite_f hK hb
    refine AWP_exit ?_
    with_reducible refine thenC_exit (again_x ?_)
    refine cutX_here v [0, 1, 2] (by have hq := hpost1 _ hK; exact hq) mkWkR
  ·clear hK; rintro v2 hK
   try dsimp only at hK
   refine exS ⟨166, [(1, .int .i64 a1), (2, .ptr 0 0 0), (5, .own 1 v2.length)], [some (.gen 65 3 [[.int .i64 x_0, .int .i64 x_1, .fn 1 x_2.length (fun i => [.ints .i64 (x_2.getD i [])])]]), some (.outs 22 2 v2.length idO (lenO v2)), some (.rows 3 .i64 v2)]⟩ rfl ?_
   with_reducible refine inBlockA_exit (thenC_normal ?_)
   refine AWP_seq ?_
   refine AWP_rg tab_ok [1, 2, 5, 11] fun c st' hr => ?_
   simp only [go_sem, idO_app, lenO_app, lenO_app2, lenO_eta] at hr
   obtain ⟨rfl, rfl⟩ := hr
   refine ⟨vc, ?_⟩
   with_reducible refine thenC_normal ?_
   refine AWP_seq ?_
   refine AWP_seq ?_
   refine AWP_rg tab_ok [1, 2, 5, 11, 12] fun c st' hr => ?_
   simp only [go_sem, idO_app, lenO_app, lenO_app2, lenO_eta] at hr
   obtain ⟨rfl, rfl⟩ := hr
   refine ⟨vc, ?_⟩
   with_reducible refine thenC_normal ?_
   refine AWP_block ?_
   refine AWP_loopX 4 (fun ((v6, v7, v8) : List (List Int) × Int × Int) => ⟨166, [(1, .int .i64 a1), (2, .ptr 0 0 0), (5, .own 1 v6.length), (11, .int .i64 v7), (12, .int .i64 v8)], [some (.gen 65 3 [[.int .i64 x_0, .int .i64 x_1, .fn 1 x_2.length (fun i => [.ints .i64 (x_2.getD i [])])]]), some (.outs 22 2 v6.length idO (lenO v6)), some (.rows 3 .i64 v6)]⟩) (fun (v9 : Int) => ⟨166, [(11, .int .i64 v9)], []⟩) (fun v => v) (v2, 0, 0) [0, 1, 2] hK mkWkR ?_ ?_
   ·clear hK; rintro ⟨v6, v7, v8⟩ b2 hK hpost2
    try dsimp only at hK
    change AWP _ _ _ _ ⟨166, [(1, .int .i64 a1), (2, .ptr 0 0 0), (5, .own 1 v6.length), (11, .int .i64 v7), (12, .int .i64 v8)], [some (.gen 65 3 [[.int .i64 x_0, .int .i64 x_1, .fn 1 x_2.length (fun i => [.ints .i64 (x_2.getD i [])])]]), some (.outs 22 2 v6.length idO (lenO v6)), some (.rows 3 .i64 v6)]⟩
    refine AWP_seq ?_
    refine AWP_seq ?_
    refine AWP_rl ?_
    refine AWPL_rn tab_ok 2 [1, 2, 5, 11, 12, 47, 48] fun c st' hr => ?_
    simp only [go_sem, idO_app, lenO_app, lenO_app2, lenO_eta] at hr
    obtain ⟨rfl, rfl⟩ := hr
    refine ⟨vc, ?_⟩
    replace hK := bind_s hK
    obtain ⟨y, hy, hK⟩ := hK
    refine AWPL_callK [1, 2, 5, 11, 12, 47, 49] (W_kinds_size hy) rfl rfl pcT rfl Try.call88 (.cons (.atom _ rfl) .nil) (hscG trivial) (of_decide_eq_true rfl) (by first | rfl | simp [nI, nI1, nI0]) (by first | rfl | simp [nIB, nI0]) fun st' hr => ?_
    simp only [go_sem, idO_app, lenO_app, lenO_app2, lenO_eta] at hr
    subst hr
    clear hy
    refine AWPL_rn tab_ok 7 [1, 2, 5, 11, 12, 56] fun c st' hr => ?_
    simp only [go_sem, idO_app, lenO_app, lenO_app2, lenO_eta] at hr
    obtain ⟨rfl, rfl⟩ := hr
    refine ⟨vc, ?_⟩
    refine AWPL_nil ?_
    with_reducible refine thenC_normal ?_
    refine AWP_condP ((v8 < y ∧ v7 < (v6.length : Int))) rfl bd (fun hb3 => ?_) (fun hb3 => ?_)
    ·replace hK := ite_t hK hb3
     refine AWP_skip ?_
     with_reducible refine thenC_normal ?_
     refine AWP_seq ?_
     refine AWP_block ?_
     refine AWP_seq ?_
     refine AWP_rg tab_ok [1, 2, 5, 11, 12, 13] fun c st' hr => ?_
     simp only [go_sem, idO_app, lenO_app, lenO_app2, lenO_eta] at hr
     obtain ⟨rfl, rfl⟩ := hr
     refine ⟨vc, ?_⟩
     with_reducible refine thenC_normal ?_
     refine AWP_seq ?_
     refine AWP_block ?_
     refine AWP_loopX 6 (fun (v10 : Int) => ⟨166, [(1, .int .i64 a1), (2, .ptr 0 0 0), (5, .own 1 v6.length), (11, .int .i64 v7), (12, .int .i64 v8), (13, .int .i64 v10)], [some (.gen 65 3 [[.int .i64 x_0, .int .i64 x_1, .fn 1 x_2.length (fun i => [.ints .i64 (x_2.getD i [])])]]), some (.outs 22 2 v6.length idO (lenO v6)), some (.rows 3 .i64 v6)]⟩) (fun (v11 : Int) => ⟨166, [(1, .int .i64 a1), (2, .ptr 0 0 0), (5, .own 1 v6.length), (11, .int .i64 v7), (12, .int .i64 v8), (13, .int .i64 v11)], [some (.gen 65 3 [[.int .i64 x_0, .int .i64 x_1, .fn 1 x_2.length (fun i => [.ints .i64 (x_2.getD i [])])]]), some (.outs 22 2 v6.length idO (lenO v6)), some (.rows 3 .i64 v6)]⟩) (fun v => v) v7 [0, 1, 2] hK mkWkR ?_ ?_
     ·clear hK; rintro v10 b3 hK hpost3
      try dsimp only at hK
      change AWP _ _ _ _ ⟨166, [(1, .int .i64 a1), (2, .ptr 0 0 0), (5, .own 1 v6.length), (11, .int .i64 v7), (12, .int .i64 v8), (13, .int .i64 v10)], [some (.gen 65 3 [[.int .i64 x_0, .int .i64 x_1, .fn 1 x_2.length (fun i => [.ints .i64 (x_2.getD i [])])]]), some (.outs 22 2 v6.length idO (lenO v6)), some (.rows 3 .i64 v6)]⟩
      refine AWP_seq ?_
      refine AWP_seq ?_
      replace hK := chk_some hK
      obtain ⟨h7, hK⟩ := hK
      refine AWP_rg tab_ok [1, 2, 5, 11, 12, 13, 73] fun c st' hr => ?_
      simp only [go_sem, idO_app, lenO_app, lenO_app2, lenO_eta] at hr
      obtain ⟨rfl, rfl⟩ := hr
      refine ⟨vc, ?_⟩
      with_reducible refine thenC_normal ?_
      refine AWP_condP ((v10 < (v6.length : Int) ∧ (v6.getD v10.toNat []).getD v8.toNat 0 = 0)) rfl bd (fun hb4 => ?_) (fun hb4 => ?_)
      ·replace hK := ite_t hK hb4
       refine AWP_skip ?_
       with_reducible refine thenC_normal ?_
       refine AWP_block ?_
       replace hK := chk_some hK
       obtain ⟨h8, hK⟩ := hK
       refine AWP_rg tab_ok [1, 2, 5, 11, 12, 13] fun c st' hr => ?_
       simp only [go_sem, idO_app, lenO_app, lenO_app2, lenO_eta] at hr
       obtain ⟨rfl, rfl⟩ := hr
       refine ⟨vc, ?_⟩
       with_reducible refine inBlockA_normal ?_
       refine again_n (v10 + 1) [0, 1, 2] hK mkWkR
      ·replace hK := ite_f hK hb4
       refine AWP_exit ?_
       with_reducible refine thenC_exit (again_x ?_)
       refine cutX_here v10 [0, 1, 2] (by have hq := hpost3 _ hK; exact hq) mkWkR
     ·clear hK; rintro v11 hK
      try dsimp only at hK
      refine exS ⟨166, [(1, .int .i64 a1), (2, .ptr 0 0 0), (5, .own 1 v6.length), (11, .int .i64 v7), (12, .int .i64 v8), (13, .int .i64 v11)], [some (.gen 65 3 [[.int .i64 x_0, .int .i64 x_1, .fn 1 x_2.length (fun i => [.ints .i64 (x_2.getD i [])])]]), some (.outs 22 2 v6.length idO (lenO v6)), some (.rows 3 .i64 v6)]⟩ rfl ?_
      with_reducible refine inBlockA_exit (thenC_normal ?_)
      refine AWP_seq ?_
      refine AWP_seq ?_
      refine AWP_rg tab_ok [1, 2, 5, 11, 12, 13, 79] fun c st' hr => ?_
      simp only [go_sem, idO_app, lenO_app, lenO_app2, lenO_eta] at hr
      obtain ⟨rfl, rfl⟩ := hr
      refine ⟨vc, ?_⟩
      with_reducible refine thenC_normal ?_
      refine AWP_condP (v11 = (v6.length : Int)) rfl bd (fun hb5 => ?_) (fun hb5 => ?_)
      ·replace hK := ite_t hK hb5
       refine AWP_exit ?_
       with_reducible refine thenC_exit (inBlockA_exit (thenC_normal ?_))
       replace hK := chk_some hK
       obtain ⟨h9, hK⟩ := hK
       refine AWP_rg tab_ok [1, 2, 5, 11, 12] fun c st' hr => ?_
       simp only [go_sem, idO_app, lenO_app, lenO_app2, lenO_eta] at hr
       obtain ⟨rfl, rfl⟩ := hr
       refine ⟨vc, ?_⟩
       refine again_n (v6, v7, v8 + 1) [0, 1, 2] hK mkWkR
      ·replace hK := ite_f hK hb5
       refine AWP_skip ?_
       with_reducible refine thenC_normal ?_
       refine AWP_seq ?_
       replace hK := chk_some hK
       obtain ⟨h10, hK⟩ := hK
       replace hK := chk_some hK
       obtain ⟨h11, hK⟩ := hK
       replace hK := chk_some hK
       obtain ⟨h12, hK⟩ := hK
       replace hK := chk_some hK
       obtain ⟨h13, hK⟩ := hK
       refine AWP_drawJ ⟨166, [(1, .int .i64 a1), (2, .ptr 0 0 0), (5, .own 1 v6.length), (11, .int .i64 v7), (12, .int .i64 v8)], [some (.gen 65 3 [[.int .i64 x_0, .int .i64 x_1, .fn 1 x_2.length (fun i => [.ints .i64 (x_2.getD i [])])]]), some (.outs 22 2 v6.length (fun m => if m = v11.toNat then some v7.toNat else if m = v7.toNat then some v11.toNat else idO m) (fun m => if m = v11.toNat then (v6.getD v7.toNat []).length else if m = v7.toNat then (v6.getD v11.toNat []).length else lenO v6 m)), some (.rows 3 .i64 v6)]⟩ mixed ?_ ?_
       ·change AWPB _ _ reg_kinds_rankOf_22.toArray _ _ _ _
        refine AWPB_memo fun AA hAA => ?_
        have hn : AA 0 #[true, true, true, true, true, true, true, true, true, true, true, true, true, true, true, true] ⟨166, [(1, .int .i64 a1), (2, .ptr 0 0 0), (5, .own 1 v6.length), (11, .int .i64 v7), (12, .int .i64 v8)], [some (.gen 65 3 [[.int .i64 x_0, .int .i64 x_1, .fn 1 x_2.length (fun i => [.ints .i64 (x_2.getD i [])])]]), some (.outs 22 2 v6.length (fun m => if m = v11.toNat then some v7.toNat else if m = v7.toNat then some v11.toNat else idO m) (fun m => if m = v11.toNat then (v6.getD v7.toNat []).length else if m = v7.toNat then (v6.getD v11.toNat []).length else lenO v6 m)), some (.rows 3 .i64 v6)]⟩ := (hAA _ _ _).2 (by
         exact AWPB_end [0, 1, 2] ceg_kinds_rankOf_22_13 mkWkR)
        have hn1 := J_kinds_rankOf_22_hn1 h10 h11 h12 h13 hAA hn
        have hn2 := J_kinds_rankOf_22_hn2 h10 h11 h12 h13 hAA hn1
        have hn3 := J_kinds_rankOf_22_hn3 h10 h11 h12 h13 hAA hn2
        have hn4 := J_kinds_rankOf_22_hn4 h10 h11 h12 h13 hAA hn3
        have hn5 := J_kinds_rankOf_22_hn5 h10 h11 h12 h13 hAA hn4
        have hn6 := J_kinds_rankOf_22_hn6 h10 h11 h12 h13 hAA hn5
        exact (hAA _ _ _).2 (AWPB_wk [0, 1, 2] mkWkR ((hAA _ _ _).1 hn6))
       with_reducible refine thenC_normal ?_
       refine AWP_gs' (gs_swap 1 2 v7.toNat v11.toNat (X := v6) rfl rfl rfl (by first | omega | grind) (by first | omega | grind) (by first | rfl | (simp [noR2, noR1, noR0]; done)) (by first | rfl | (simp [noRH, noRB, noR0]; done)) (by first | rfl | (simp [noPin]; done))) fun st' hr => ?_
       simp only [go_sem, idO_app, lenO_app, lenO_app2, lenO_eta, List.cons_append, List.nil_append, List.set_cons_zero, List.set_cons_succ] at hr
       subst hr
       refine AWP_seq ?_
       refine AWP_drawQ mixed (by kernel_rfl) ?_
       replace hK := chk_some hK
       obtain ⟨h14, hK⟩ := hK
       refine AWQL_rn tab_ok 9 [1, 2, 5, 11, 12, 100, 102] fun c st' hr => ?_
       simp only [go_sem, idO_app, lenO_app, lenO_app2, lenO_eta] at hr
       obtain ⟨rfl, rfl⟩ := hr
       refine ⟨vc, ?_⟩
       replace hK := bind_s hK
       obtain ⟨y1, hy, hK⟩ := hK
       refine AWQL_callK [1, 2, 5, 11, 12, 103] (W_kinds_inverse hy) rfl rfl pcT rfl Try.call139 (.cons (.atom _ rfl) (.cons (.atom _ rfl) .nil)) (hscG trivial) (of_decide_eq_true rfl) rfl fun st' hr => ?_
       simp only [go_sem, idO_app, lenO_app, lenO_app2, lenO_eta] at hr
       subst hr
       clear hy
       refine AWQL_rn tab_ok 1 [1, 2, 5, 11, 12, 14] fun c st' hr => ?_
       simp only [go_sem, idO_app, lenO_app, lenO_app2, lenO_eta] at hr
       obtain ⟨rfl, rfl⟩ := hr
       refine ⟨vc, ?_⟩
       refine AWQL_nil ?_
       with_reducible refine thenC_normal ?_
       refine AWP_seq ?_
       refine AWP_seq ?_
       replace hK := chk_some hK
       obtain ⟨h15, hK⟩ := hK
       refine AWP_rg tab_ok [1, 2, 5, 11, 12, 14, 15] fun c st' hr => ?_
       simp only [go_sem, idO_app, lenO_app, lenO_app2, lenO_eta] at hr
       obtain ⟨rfl, rfl⟩ := hr
       refine ⟨vc, ?_⟩
       with_reducible refine thenC_normal ?_
       refine AWP_block ?_
       refine AWP_loopX 8 (fun ((v12, v13) : List (List Int) × Int) => ⟨166, [(1, .int .i64 a1), (2, .ptr 0 0 0), (5, .own 1 v12.length), (11, .int .i64 v7), (12, .int .i64 v8), (14, .int .i64 y1), (15, .int .i64 v13)], [some (.gen 65 3 [[.int .i64 x_0, .int .i64 x_1, .fn 1 x_2.length (fun i => [.ints .i64 (x_2.getD i [])])]]), some (.outs 22 2 v12.length idO (lenO v12)), some (.rows 3 .i64 v12)]⟩) (fun (v14 : List (List Int)) => ⟨166, [(1, .int .i64 a1), (2, .ptr 0 0 0), (5, .own 1 v14.length), (11, .int .i64 v7), (12, .int .i64 v8)], [some (.gen 65 3 [[.int .i64 x_0, .int .i64 x_1, .fn 1 x_2.length (fun i => [.ints .i64 (x_2.getD i [])])]]), some (.outs 22 2 v14.length idO (lenO v14)), some (.rows 3 .i64 v14)]⟩) (fun v => v) ((v6.set v7.toNat (v6.getD v11.toNat [])).set v11.toNat (v6.getD v7.toNat []), v7 + 1) [0, 1, 2] hK mkWkR ?_ ?_
       ·clear hK; rintro ⟨v12, v13⟩ b4 hK hpost4
        try dsimp only at hK
        change AWP _ _ _ _ ⟨166, [(1, .int .i64 a1), (2, .ptr 0 0 0), (5, .own 1 v12.length), (11, .int .i64 v7), (12, .int .i64 v8), (14, .int .i64 y1), (15, .int .i64 v13)], [some (.gen 65 3 [[.int .i64 x_0, .int .i64 x_1, .fn 1 x_2.length (fun i => [.ints .i64 (x_2.getD i [])])]]), some (.outs 22 2 v12.length idO (lenO v12)), some (.rows 3 .i64 v12)]⟩
        refine AWP_seq ?_
        refine AWP_seq ?_
        refine AWP_rg tab_ok [1, 2, 5, 11, 12, 14, 15, 109] fun c st' hr => ?_
        simp only [go_sem, idO_app, lenO_app, lenO_app2, lenO_eta] at hr
        obtain ⟨rfl, rfl⟩ := hr
        refine ⟨vc, ?_⟩
        with_reducible refine thenC_normal ?_
        refine AWP_condP (v13 < (v12.length : Int)) rfl bd (fun hb6 => ?_) (fun hb6 => ?_)
        ·replace hK := ite_t hK hb6
         refine AWP_skip ?_
         with_reducible refine thenC_normal ?_
         refine AWP_seq ?_
         refine AWP_block ?_
         refine AWP_seq ?_
         replace hK := chk_some hK
         obtain ⟨h16, hK⟩ := hK
         refine AWP_dr tab_ok [1, 2, 5, 11, 12, 14, 15, 16] mixed (by kernel_rfl) fun c st' hr => ?_
         simp only [go_sem, idO_app, lenO_app, lenO_app2, lenO_eta] at hr
         obtain ⟨rfl, rfl⟩ := hr
         refine ⟨vc, ?_⟩
         with_reducible refine thenC_normal ?_
         refine AWP_seq ?_
         refine AWP_rg tab_ok [1, 2, 5, 11, 12, 14, 15, 16, 17] fun c st' hr => ?_
         simp only [go_sem, idO_app, lenO_app, lenO_app2, lenO_eta] at hr
         obtain ⟨rfl, rfl⟩ := hr
         refine ⟨vc, ?_⟩
         with_reducible refine thenC_normal ?_
         refine AWP_block ?_
         refine AWP_loopX 10 (fun ((v15, v16) : List (List Int) × Int) => ⟨166, [(1, .int .i64 a1), (2, .ptr 0 0 0), (5, .own 1 v15.length), (11, .int .i64 v7), (12, .int .i64 v8), (14, .int .i64 y1), (15, .int .i64 v13), (16, .int .i64 (Int.tmod (((v12.getD v13.toNat []).getD v8.toNat 0) * y1) x_0)), (17, .int .i64 v16)], [some (.gen 65 3 [[.int .i64 x_0, .int .i64 x_1, .fn 1 x_2.length (fun i => [.ints .i64 (x_2.getD i [])])]]), some (.outs 22 2 v15.length idO (lenO v15)), some (.rows 3 .i64 v15)]⟩) (fun (v17 : List (List Int)) => ⟨166, [(1, .int .i64 a1), (2, .ptr 0 0 0), (5, .own 1 v17.length), (11, .int .i64 v7), (12, .int .i64 v8), (14, .int .i64 y1), (15, .int .i64 v13)], [some (.gen 65 3 [[.int .i64 x_0, .int .i64 x_1, .fn 1 x_2.length (fun i => [.ints .i64 (x_2.getD i [])])]]), some (.outs 22 2 v17.length idO (lenO v17)), some (.rows 3 .i64 v17)]⟩) (fun v => v) (v12, v8) [0, 1, 2] hK mkWkR ?_ ?_
         ·clear hK; rintro ⟨v15, v16⟩ b5 hK hpost5
          try dsimp only at hK
          change AWP _ _ _ _ ⟨166, [(1, .int .i64 a1), (2, .ptr 0 0 0), (5, .own 1 v15.length), (11, .int .i64 v7), (12, .int .i64 v8), (14, .int .i64 y1), (15, .int .i64 v13), (16, .int .i64 (Int.tmod (((v12.getD v13.toNat []).getD v8.toNat 0) * y1) x_0)), (17, .int .i64 v16)], [some (.gen 65 3 [[.int .i64 x_0, .int .i64 x_1, .fn 1 x_2.length (fun i => [.ints .i64 (x_2.getD i [])])]]), some (.outs 22 2 v15.length idO (lenO v15)), some (.rows 3 .i64 v15)]⟩
          refine AWP_seq ?_
          refine AWP_seq ?_
          replace hK := chk_some hK
          obtain ⟨h17, hK⟩ := hK
          refine AWP_rg tab_ok [1, 2, 5, 11, 12, 14, 15, 16, 17, 131] fun c st' hr => ?_
          simp only [go_sem, idO_app, lenO_app, lenO_app2, lenO_eta] at hr
          obtain ⟨rfl, rfl⟩ := hr
          refine ⟨vc, ?_⟩
          with_reducible refine thenC_normal ?_
          refine AWP_condP (v16 < ((v15.getD v13.toNat []).length : Int)) rfl bd (fun hb7 => ?_) (fun hb7 => ?_)
          ·replace hK := ite_t hK hb7
           refine AWP_skip ?_
           with_reducible refine thenC_normal ?_
           refine AWP_seq ?_
           refine AWP_block ?_
           replace hK := chk_some hK
           obtain ⟨h18, hK⟩ := hK
           refine AWP_dt tab_ok 29 [1, 2, 5, 11, 12, 14, 15, 16, 17] mixed (by kernel_rfl) fun c st' hr => ?_
           simp only [go_sem, idO_app, lenO_app, lenO_app2, lenO_eta] at hr
           obtain ⟨rfl, rfl⟩ := hr
           refine ⟨vc, ?_⟩
           with_reducible refine inBlockA_normal (thenC_normal ?_)
           replace hK := chk_some hK
           obtain ⟨h19, hK⟩ := hK
           refine AWP_rg tab_ok [1, 2, 5, 11, 12, 14, 15, 16, 17] fun c st' hr => ?_
           simp only [go_sem, idO_app, lenO_app, lenO_app2, lenO_eta] at hr
           obtain ⟨rfl, rfl⟩ := hr
           refine ⟨vc, ?_⟩
           refine again_n (v15.set v13.toNat ((v15.getD v13.toNat []).set v16.toNat (Int.tmod (((v15.getD v13.toNat []).getD v16.toNat 0) + ((x_0 - (Int.tmod (((v12.getD v13.toNat []).getD v8.toNat 0) * y1) x_0)) * ((v15.getD v7.toNat []).getD v16.toNat 0))) x_0)), v16 + 1) [0, 1, 2] hK mkWkR
          ·replace hK := ite_f hK hb7
           refine AWP_exit ?_
           with_reducible refine thenC_exit (again_x ?_)
           refine cutX_here v15 [0, 1, 2] (by have hq := hpost5 _ hK; exact hq) mkWkR
         ·clear hK; rintro v17 hK
          try dsimp only at hK
          refine exS ⟨166, [(1, .int .i64 a1), (2, .ptr 0 0 0), (5, .own 1 v17.length), (11, .int .i64 v7), (12, .int .i64 v8), (14, .int .i64 y1), (15, .int .i64 v13)], [some (.gen 65 3 [[.int .i64 x_0, .int .i64 x_1, .fn 1 x_2.length (fun i => [.ints .i64 (x_2.getD i [])])]]), some (.outs 22 2 v17.length idO (lenO v17)), some (.rows 3 .i64 v17)]⟩ rfl ?_
          with_reducible refine inBlockA_exit (inBlockA_normal (thenC_normal ?_))
          replace hK := chk_some hK
          obtain ⟨h20, hK⟩ := hK
          refine AWP_rg tab_ok [1, 2, 5, 11, 12, 14, 15] fun c st' hr => ?_
          simp only [go_sem, idO_app, lenO_app, lenO_app2, lenO_eta] at hr
          obtain ⟨rfl, rfl⟩ := hr
          refine ⟨vc, ?_⟩
          refine again_n (v17, v13 + 1) [0, 1, 2] hK mkWkR
        ·replace hK := ite_f hK hb6
         refine AWP_exit ?_
         with_reducible refine thenC_exit (again_x ?_)
         refine cutX_here v12 [0, 1, 2] (by have hq := hpost4 _ hK; exact hq) mkWkR
       ·clear hK; rintro v14 hK
        try dsimp only at hK
        refine exS ⟨166, [(1, .int .i64 a1), (2, .ptr 0 0 0), (5, .own 1 v14.length), (11, .int .i64 v7), (12, .int .i64 v8)], [some (.gen 65 3 [[.int .i64 x_0, .int .i64 x_1, .fn 1 x_2.length (fun i => [.ints .i64 (x_2.getD i [])])]]), some (.outs 22 2 v14.length idO (lenO v14)), some (.rows 3 .i64 v14)]⟩ rfl ?_
        with_reducible refine inBlockA_exit (thenC_normal ?_)
        replace hK := chk_some hK
        obtain ⟨h21, hK⟩ := hK
        refine AWP_rg tab_ok [1, 2, 5, 11, 12] fun c st' hr => ?_
        simp only [go_sem, idO_app, lenO_app, lenO_app2, lenO_eta] at hr
        obtain ⟨rfl, rfl⟩ := hr
        refine ⟨vc, ?_⟩
        with_reducible refine inBlockA_normal (thenC_normal ?_)
        replace hK := chk_some hK
        obtain ⟨h22, hK⟩ := hK
        refine AWP_rg tab_ok [1, 2, 5, 11, 12] fun c st' hr => ?_
        simp only [go_sem, idO_app, lenO_app, lenO_app2, lenO_eta] at hr
        obtain ⟨rfl, rfl⟩ := hr
        refine ⟨vc, ?_⟩
        refine again_n (v14, v7 + 1, v8 + 1) [0, 1, 2] hK mkWkR
    ·replace hK := ite_f hK hb3
     refine AWP_exit ?_
     with_reducible refine thenC_exit (again_x ?_)
     refine cutX_here v7 [] (by have hq := hpost2 _ hK; exact hq) mkWkR
   ·clear hK; rintro v9 hK
    try dsimp only at hK
    refine exS ⟨166, [(11, .int .i64 v9)], []⟩ rfl ?_
    with_reducible refine inBlockA_exit (thenC_normal ?_)
    refine AWP_seq ?_
    refine AWP_rg tab_ok [4] fun c st' hr => ?_
    simp only [go_sem, idO_app, lenO_app, lenO_app2, lenO_eta] at hr
    obtain ⟨rfl, rfl⟩ := hr
    refine ⟨vc, ?_⟩
    with_reducible refine thenC_normal ?_
    refine AWP_ret ?_
    cases hK
    refine EndsRW [] (.inl rfl) (of_decide_eq_true rfl) (by simp) rfl (fun c x hr => ?_) trivial
    simp only [go_sem, idO_app, lenO_app, lenO_app2, lenO_eta] at hr
    obtain ⟨rfl, rfl⟩ := hr
    exact ⟨rfl, endR⟩


theorem W_kinds_Linear_1 {s : Int} {c0_0 : Int} {c0_1 : Int} {c0_2 : List (List Int)} {r : Bool} (hK : kinds_Linear_1 s c0_0 c0_1 c0_2 = some r) : Pure Try.prog 86 [.int .i64 s, .immp [.int .i64 c0_0, .int .i64 c0_1, .fn 1 c0_2.length (fun i => [.ints .i64 (c0_2.getD i [])])]] (.bool r) [] := by
  refine Pure_introF tab_ok (n := 10) (l := [.tmp 3]) Try.func86 rfl rfl rfl (by simp) fun hfact w0 => ?_
  simp only [factL1, fact1, fact0, factL0, lo, hi, maxLen, and_true] at hfact
  unfold kinds_Linear_1 at hK
  refine AWP_seq ?_
  refine AWP_rg tab_ok [0, 1] fun c st' hr => ?_
  simp only [go_sem] at hr
  obtain ⟨rfl, rfl⟩ := hr
  refine ⟨vc, ?_⟩
  with_reducible refine thenC_normal ?_
  refine AWP_seq ?_
  refine AWP_rl ?_
  refine AWPL_rn tab_ok 2 [0, 4, 5] fun c st' hr => ?_
  simp only [go_sem] at hr
  obtain ⟨rfl, rfl⟩ := hr
  refine ⟨vc, ?_⟩
  replace hK := bind_s hK
  obtain ⟨y, hy, hK⟩ := hK
  refine AWPL_callK [0, 6] (W_kinds_rankOf hy) rfl rfl pcT rfl Try.call87 (.cons (.agg _ _ rfl (ArgsOk.get (.cons (.atom _ rfl) (.cons (.atom _ rfl) (.cons (.atom _ rfl) .nil)))).2) (.cons (.atom _ rfl) .nil)) (hscG trivial) (of_decide_eq_true rfl) (by first | rfl | simp [nI, nI1, nI0]) (by first | rfl | simp [nIB, nI0]) fun st' hr => ?_
  simp only [go_sem] at hr
  subst hr
  clear hy
  refine AWPL_rn tab_ok 1 [6, 7] fun c st' hr => ?_
  simp only [go_sem] at hr
  obtain ⟨rfl, rfl⟩ := hr
  refine ⟨vc, ?_⟩
  replace hK := bind_s hK
  obtain ⟨y1, hy, hK⟩ := hK
  refine AWPL_callK [6, 8] (W_kinds_size hy) rfl rfl pcT rfl Try.call88 (.cons (.atom _ rfl) .nil) (hscG trivial) (of_decide_eq_true rfl) (by first | rfl | simp [nI, nI1, nI0]) (by first | rfl | simp [nIB, nI0]) fun st' hr => ?_
  simp only [go_sem] at hr
  subst hr
  clear hy
  refine AWPL_rn tab_ok 2 [3] fun c st' hr => ?_
  simp only [go_sem] at hr
  obtain ⟨rfl, rfl⟩ := hr
  refine ⟨vc, ?_⟩
  refine AWPL_nil ?_
  with_reducible refine thenC_normal ?_
  refine AWP_ret ?_
  cases hK
  refine EndsRW [] (.inl rfl) (of_decide_eq_true rfl) (by simp) rfl (fun c x hr => ?_) trivial
  simp only [go_sem] at hr
  obtain ⟨rfl, rfl⟩ := hr
  exact ⟨rfl, endR⟩


theorem W_kinds_Linear {x_0 : Int} {x_1 : Int} {x_2 : List (List Int)} {r : Int × List Int × Int} (hK : kinds_Linear x_0 x_1 x_2 = some r) : Pure Try.prog 34 [.agg [.int .i64 x_0, .int .i64 x_1, .fn 1 x_2.length (fun i => [.ints .i64 (x_2.getD i [])])]] (.tup [.agg [.int .i64 r.1, .own 0 r.2.1.length], .int .i64 r.2.2]) [(.ints 3 .i64 r.2.1)] := by
  refine Pure_introF tab_ok (n := 15) (l := [.cell 2 56, .tmp 3]) Try.func34 rfl rfl rfl (by simp) fun hfact w0 => ?_
  simp only [factL1, fact1, fact0, factL0, lo, hi, maxLen, and_true] at hfact
  unfold kinds_Linear at hK
  refine AWP_seq ?_
  refine AWP_rg tab_ok [1, 2] fun c st' hr => ?_
  simp only [go_sem] at hr
  obtain ⟨rfl, rfl⟩ := hr
  refine ⟨vc, ?_⟩
  with_reducible refine thenC_normal ?_
  refine AWP_ownH 1 1 (.ints 3 .i64 []) rfl rfl rfl fun st' hr => ?_
  simp only [go_sem] at hr
  subst hr
  refine AWP_seq ?_
  refine AWP_seq ?_
  refine AWP_rl ?_
  refine AWPL_rn tab_ok 1 [1, 2, 5] fun c st' hr => ?_
  simp only [go_sem] at hr
  obtain ⟨rfl, rfl⟩ := hr
  refine ⟨vc, ?_⟩
  replace hK := bind_s hK
  obtain ⟨y, hy, hK⟩ := hK
  refine AWPL_callK [1, 2, 6] (W_kinds_CheckMatrix hy) rfl rfl pcT rfl Try.call82 (.cons (.agg _ _ rfl (ArgsOk.get (.cons (.atom _ rfl) (.cons (.atom _ rfl) (.cons (.atom _ rfl) .nil)))).2) .nil) (hscG trivial) (of_decide_eq_true rfl) (by first | rfl | simp [nI, nI1, nI0]) (by first | rfl | simp [nIB, nI0]) fun st' hr => ?_
  simp only [go_sem] at hr
  subst hr
  clear hy
  refine AWPL_rn tab_ok 1 [1, 2, 4] fun c st' hr => ?_
  simp only [go_sem] at hr
  obtain ⟨rfl, rfl⟩ := hr
  refine ⟨vc, ?_⟩
  refine AWPL_nil ?_
  with_reducible refine thenC_normal ?_
  refine AWP_seq ?_
  refine AWP_rg tab_ok [1, 2, 4, 8] fun c st' hr => ?_
  simp only [go_sem] at hr
  obtain ⟨rfl, rfl⟩ := hr
  refine ⟨vc, ?_⟩
  with_reducible refine thenC_normal ?_
  refine AWP_condP (y ≠ 0) rfl bd (fun hb => ?_) (fun hb => ?_)
  ·replace hK := ite_t hK hb
   refine AWP_seq ?_
   refine AWP_rg tab_ok [2, 3] fun c st' hr => ?_
   simp only [go_sem] at hr
   obtain ⟨rfl, rfl⟩ := hr
   refine ⟨vc, ?_⟩
   with_reducible refine thenC_normal ?_
   refine AWP_ownH 1 1 (.ints 3 .i64 []) rfl rfl rfl fun st' hr => ?_
   simp only [go_sem] at hr
   subst hr
   refine AWP_ret ?_
   with_reducible refine thenC_ret ?_
   cases hK
   refine EndsRW [3] (.inl rfl) (of_decide_eq_true rfl) (by simp) rfl (fun c x hr => ?_) endH
   simp only [go_sem] at hr
   obtain ⟨rfl, rfl⟩ := hr
   exact ⟨rfl, endR⟩
  ·replace hK := ite_f hK hb
   refine AWP_skip ?_
   with_reducible refine thenC_normal ?_
   refine AWP_seq ?_
   refine AWP_rl ?_
   refine AWPL_rn tab_ok 3 [2, 12, 13] fun c st' hr => ?_
   simp only [go_sem] at hr
   obtain ⟨rfl, rfl⟩ := hr
   refine ⟨vc, ?_⟩
   replace hK := bind_s hK
   obtain ⟨y1, hy, hK⟩ := hK
   refine AWPL_callK [2, 14] (W_kinds_greatest Try.call86 rfl (fun _ _ hh => by simpa using W_kinds_Linear_1 hh) hy) rfl rfl pcT rfl Try.call85 (.cons (.atom _ rfl) (.cons (.funcOf (.cons (.ptrM _ _ _ _ _ _ _ rfl rfl rfl (ArgsOk.get (.cons (.atom _ rfl) (.cons (.atom _ rfl) (.cons (.atom _ rfl) .nil)))).2) .nil)) .nil)) (hscG trivial) (of_decide_eq_true rfl) (by first | rfl | simp [nI, nI1, nI0]) (by first | rfl | simp [nIB, nI0]) fun st' hr => ?_
   simp only [go_sem] at hr
   subst hr
   clear hy
   refine AWPL_rn tab_ok 2 [2, 3] fun c st' hr => ?_
   simp only [go_sem] at hr
   obtain ⟨rfl, rfl⟩ := hr
   refine ⟨vc, ?_⟩
   refine AWPL_nil ?_
   with_reducible refine thenC_normal ?_
   refine AWP_ret ?_
   cases hK
   refine EndsRW [3] (.inl rfl) (of_decide_eq_true rfl) (by simp) rfl (fun c x hr => ?_) endH
   simp only [go_sem] at hr
   obtain ⟨rfl, rfl⟩ := hr
   exact ⟨rfl, endR⟩

end Go.SH
