/-
  That the code computes these functions: rotabig_trim, rotabig_words, rotabig_Int_give, rotabig_Int_SetInt64, rotabig_NewInt, rotabig_twin, rotabig_Int_Set, rotabig_plain, rotabig_common, rotabig_cmp, rotabig_div, rotabig_Rat_norm, rotabig_Rat_SetFrac, rotabig_NewRat, rotabig_Rat_den_B, rotabig_mul, rotabig_Int_Mul_r, rotabig_Rat_den_A, rotabig_add, rotabig_sub, rotabig_sum, rotabig_Int_Add_r, rotabig_Rat_Add_A, rotabig_Rat_Add_B, rotabig_Rat_Add, rotabig_Int_Cmp, rotabig_Rat_Cmp_A, rotabig_Rat_Cmp_B, rotabig_Rat_Cmp. By a program of mine (shal.py). Conditions: none.
-/
import Derived.Test.YtlpikingpnenkaaWprotabiga
import Derived.Test.YtlpikingpnenkaaAxT
import Derived.Test.YtlpikingpnenkaaAxR
import Derived.Test.YtlpikingpnenkaaAxGs
import Derived.Test.YtlpikingpnenkaaAxBg
import Derived.Test.YtlpikingpnenkaaAxWr
import Derived.Test.YtlpikingpnenkaaAxTx
import Derived.Test.YtlpikingpnenkaaAxTk
import Derived.Test.YtlpikingpnenkaaAxRx
import Derived.Test.YtlpikingpnenkaaAxGc
import Derived.Test.YtlpikingpnenkaaAxJm
import Derived.Test.YtlpikingpnenkaaAxW
import Derived.Test.YtlpikingpnenkaaSp
set_option linter.unusedVariables false
set_option linter.unusedSimpArgs false
set_option maxRecDepth 8000
set_option maxHeartbeats 4000000
namespace Go.SH
open Go Go.AX Go.AX.Try Go.Proofs
theorem J_rotabig_Rat_Add_A_1_hn12 {q0 : (Bool × List Int) × (Bool × List Int)} {q1 : (Bool × List Int) × (Bool × List Int)} {y1 : (Bool × List Int) × (Bool × List Int)} {y2 : Bool × List Int} {y3 : (Bool × List Int) × ((Bool × List Int) × (Bool × List Int))} {y4 : Bool × List Int} {y5 : Bool × List Int} {pl0 : AX.Loc} {pl1 : AX.Loc} (hy : rotabig_Rat_den_B ((q1.1.1, q1.1.2), (q1.2.1, q1.2.2)) = some y1) (hy1 : rotabig_Int_Mul_r q0.1.1 q0.1.2 y1.2.1 y1.2.2 (false, []) = some y2) (hy2 : rotabig_Rat_den_A ((q0.1.1, q0.1.2), (q0.2.1, q0.2.2)) = some y3) (hy3 : rotabig_Int_Mul_r y1.1.1 y1.1.2 y3.1.1 y3.1.2 (false, []) = some y4) (hy4 : rotabig_Int_Add_r y2.1 y2.2 y4.1 y4.2 (false, []) = some y5) {w0 : World} {Q : Exit → St → Prop} {AA : Nat → Array Bool → St → Prop} (hAA : ∀ g L st, AA g L st ↔ AWPB Try.prog w0 reg_rotabig_Rat_Add_A_1.toArray Q g L st) (hn8 : AA 6 #[true, true, true, true, true, true, true, false, false, true, true, true, true, false, false, false, false] ⟨33, [(0, .ptr 0 0 0), (1, .ptr 0 0 0), (2, .ptr 1 0 0), (8, .ptr 8 0 0), (9, .ptr 9 0 0), (12, .ptr 0 0 0), (14, .ptr 1 0 2), (19, .ptr 1 0 0), (20, .ptr 0 0 0)], [some (.gen 33 4 [[.bool q0.1.1, .own 2 q0.1.2.length, .bool q0.2.1, .own 3 q0.2.2.length]]), some (.gen 33 4 [[.bool y1.1.1, .own 10 y1.1.2.length, .bool y1.2.1, .own 11 y1.2.2.length]]), some (.ints 186 .u32 q0.1.2), some (.ints 186 .u32 q0.2.2), none, none, some (.pin 0 pl0), some (.pin 1 pl1), some (.gen 31 2 [[.bool false, .nil]]), some (.gen 31 2 [[.bool false, .nil]]), some (.ints 186 .u32 y1.1.2), some (.ints 186 .u32 y1.2.2)]⟩) (hn11 : AA 6 #[true, false, true, true, true, true, true, false, true, true, true, true, true, false, false, false, false] ⟨33, [(0, .ptr 0 0 0), (1, .ptr 0 0 0), (2, .ptr 1 0 0), (8, .ptr 8 0 0), (12, .ptr 0 0 0), (14, .ptr 1 0 2), (16, .ptr 11 0 0), (19, .ptr 1 0 0), (20, .ptr 0 0 0)], [some (.gen 33 4 [[.bool q0.1.1, .own 2 q0.1.2.length, .bool q0.2.1, .own 3 q0.2.2.length]]), some (.gen 33 4 [[.bool y1.1.1, .own 9 y1.1.2.length, .bool y1.2.1, .own 10 y1.2.2.length]]), some (.ints 186 .u32 q0.1.2), some (.ints 186 .u32 q0.2.2), none, none, some (.pin 0 pl0), some (.pin 1 pl1), some (.gen 31 2 [[.bool false, .nil]]), some (.ints 186 .u32 y1.1.2), some (.ints 186 .u32 y1.2.2), some (.gen 31 2 [[.bool false, .nil]])]⟩) : AA 7 #[true, false, true, true, true, true, true, false, false, true, true, true, true, false, false, false, false] ⟨33, [(0, .ptr 0 0 0), (1, .ptr 0 0 0), (2, .ptr 1 0 0), (8, .ptr 8 0 0), (12, .ptr 0 0 0), (14, .ptr 1 0 2), (19, .ptr 1 0 0), (20, .ptr 0 0 0)], [some (.gen 33 4 [[.bool q0.1.1, .own 2 q0.1.2.length, .bool q0.2.1, .own 3 q0.2.2.length]]), some (.gen 33 4 [[.bool y1.1.1, .own 9 y1.1.2.length, .bool y1.2.1, .own 10 y1.2.2.length]]), some (.ints 186 .u32 q0.1.2), some (.ints 186 .u32 q0.2.2), none, none, some (.pin 0 pl0), some (.pin 1 pl1), some (.gen 31 2 [[.bool false, .nil]]), some (.ints 186 .u32 y1.1.2), some (.ints 186 .u32 y1.2.2)]⟩ := (hAA _ _ _).2 (by
  refine AWPB_two 1 8 _ _ ceg_rotabig_Rat_Add_A_1_25 rfl rfl ?_ ?_
  ·skip
   refine AWPL_rn tab_ok 1 [0, 1, 2, 7, 8, 9, 12, 14, 15, 16, 19, 20, 21, 22, 23] fun c st' hr => ?_
   simp only [go_sem] at hr
   obtain ⟨rfl, rfl⟩ := hr
   refine ⟨vc, ?_⟩
   refine AWPL_nil ?_
   refine QB_normal ?_
   exact AWPB_wk [0, 1, 2, 3, 4, 5, 6, 7, 8, 11, 9, 10] mkWk ((hAA _ _ _).1 hn8)
  ·skip
   refine AWPL_rn tab_ok 1 [0, 1, 2, 7, 8, 9, 12, 14, 15, 16, 19, 20, 21, 22, 23] fun c st' hr => ?_
   simp only [go_sem] at hr
   obtain ⟨rfl, rfl⟩ := hr
   refine ⟨vc, ?_⟩
   refine AWPL_nil ?_
   refine QB_normal ?_
   exact AWPB_wk [0, 1, 2, 3, 4, 5, 6, 7, 8, 9, 10, 11] mkWk ((hAA _ _ _).1 hn11))

theorem ceg_rotabig_Rat_Add_A_1_27 : (Region.ready .any reg_rotabig_Rat_Add_A_1.toArray #[true, false, true, true, true, true, false, false, true, true, true, true, true, false, false, false, false] == [1, 6]) = true := by kernel_rfl

theorem J_rotabig_Rat_Add_A_1_hn13 {q0 : (Bool × List Int) × (Bool × List Int)} {q1 : (Bool × List Int) × (Bool × List Int)} {y1 : (Bool × List Int) × (Bool × List Int)} {y2 : Bool × List Int} {y3 : (Bool × List Int) × ((Bool × List Int) × (Bool × List Int))} {y4 : Bool × List Int} {y5 : Bool × List Int} {pl0 : AX.Loc} {pl1 : AX.Loc} (hy : rotabig_Rat_den_B ((q1.1.1, q1.1.2), (q1.2.1, q1.2.2)) = some y1) (hy1 : rotabig_Int_Mul_r q0.1.1 q0.1.2 y1.2.1 y1.2.2 (false, []) = some y2) (hy2 : rotabig_Rat_den_A ((q0.1.1, q0.1.2), (q0.2.1, q0.2.2)) = some y3) (hy3 : rotabig_Int_Mul_r y1.1.1 y1.1.2 y3.1.1 y3.1.2 (false, []) = some y4) (hy4 : rotabig_Int_Add_r y2.1 y2.2 y4.1 y4.2 (false, []) = some y5) {w0 : World} {Q : Exit → St → Prop} {AA : Nat → Array Bool → St → Prop} (hAA : ∀ g L st, AA g L st ↔ AWPB Try.prog w0 reg_rotabig_Rat_Add_A_1.toArray Q g L st) (hn9 : AA 6 #[true, true, true, true, true, true, false, false, true, true, true, true, true, false, false, false, false] ⟨33, [(0, .ptr 0 0 0), (1, .ptr 0 0 0), (2, .ptr 1 0 0), (8, .ptr 8 0 0), (9, .ptr 9 0 0), (12, .ptr 0 0 0), (13, .ptr 1 0 0), (16, .ptr 10 0 0), (19, .ptr 1 0 0), (20, .ptr 0 0 0)], [some (.gen 33 4 [[.bool q0.1.1, .own 2 q0.1.2.length, .bool q0.2.1, .own 3 q0.2.2.length]]), some (.gen 33 4 [[.bool q1.1.1, .own 4 q1.1.2.length, .bool q1.2.1, .own 5 q1.2.2.length]]), some (.ints 186 .u32 q0.1.2), some (.ints 186 .u32 q0.2.2), some (.ints 186 .u32 q1.1.2), some (.ints 186 .u32 q1.2.2), some (.pin 0 pl0), some (.pin 1 pl1), some (.gen 31 2 [[.bool false, .nil]]), some (.gen 31 2 [[.bool false, .nil]]), some (.gen 31 2 [[.bool false, .nil]])]⟩) (hn11 : AA 6 #[true, false, true, true, true, true, true, false, true, true, true, true, true, false, false, false, false] ⟨33, [(0, .ptr 0 0 0), (1, .ptr 0 0 0), (2, .ptr 1 0 0), (8, .ptr 8 0 0), (12, .ptr 0 0 0), (14, .ptr 1 0 2), (16, .ptr 11 0 0), (19, .ptr 1 0 0), (20, .ptr 0 0 0)], [some (.gen 33 4 [[.bool q0.1.1, .own 2 q0.1.2.length, .bool q0.2.1, .own 3 q0.2.2.length]]), some (.gen 33 4 [[.bool y1.1.1, .own 9 y1.1.2.length, .bool y1.2.1, .own 10 y1.2.2.length]]), some (.ints 186 .u32 q0.1.2), some (.ints 186 .u32 q0.2.2), none, none, some (.pin 0 pl0), some (.pin 1 pl1), some (.gen 31 2 [[.bool false, .nil]]), some (.ints 186 .u32 y1.1.2), some (.ints 186 .u32 y1.2.2), some (.gen 31 2 [[.bool false, .nil]])]⟩) : AA 7 #[true, false, true, true, true, true, false, false, true, true, true, true, true, false, false, false, false] ⟨33, [(0, .ptr 0 0 0), (1, .ptr 0 0 0), (2, .ptr 1 0 0), (8, .ptr 8 0 0), (12, .ptr 0 0 0), (13, .ptr 1 0 0), (16, .ptr 9 0 0), (19, .ptr 1 0 0), (20, .ptr 0 0 0)], [some (.gen 33 4 [[.bool q0.1.1, .own 2 q0.1.2.length, .bool q0.2.1, .own 3 q0.2.2.length]]), some (.gen 33 4 [[.bool q1.1.1, .own 4 q1.1.2.length, .bool q1.2.1, .own 5 q1.2.2.length]]), some (.ints 186 .u32 q0.1.2), some (.ints 186 .u32 q0.2.2), some (.ints 186 .u32 q1.1.2), some (.ints 186 .u32 q1.2.2), some (.pin 0 pl0), some (.pin 1 pl1), some (.gen 31 2 [[.bool false, .nil]]), some (.gen 31 2 [[.bool false, .nil]])]⟩ := (hAA _ _ _).2 (by
  refine AWPB_two 1 6 _ _ ceg_rotabig_Rat_Add_A_1_27 rfl rfl ?_ ?_
  ·skip
   refine AWPL_rn tab_ok 1 [0, 1, 2, 7, 8, 9, 12, 13, 14, 15, 16, 19, 20, 21, 22, 23] fun c st' hr => ?_
   simp only [go_sem] at hr
   obtain ⟨rfl, rfl⟩ := hr
   refine ⟨vc, ?_⟩
   refine AWPL_nil ?_
   refine QB_normal ?_
   exact AWPB_wk [0, 1, 2, 3, 4, 5, 6, 7, 8, 10, 9] mkWk ((hAA _ _ _).1 hn9)
  ·skip
   refine AWPL_gR [0, 1, 2, 7, 8, 9, 12, 14, 15, 16, 19, 20, 21, 22, 23] [1, 4, 5] [.ptr 0 0 0] [some (.gen 33 4 [[.bool q0.1.1, .own 2 q0.1.2.length, .bool q0.2.1, .own 3 q0.2.2.length]]), some (.gen 33 4 [[.bool y1.1.1, .own 10 y1.1.2.length, .bool y1.2.1, .own 11 y1.2.2.length]]), some (.ints 186 .u32 q0.1.2), some (.ints 186 .u32 q0.2.2), none, none, some (.pin 0 pl0), some (.pin 1 pl1), some (.gen 31 2 [[.bool false, .nil]]), some (.gen 31 2 [[.bool false, .nil]]), some (.ints 186 .u32 y1.1.2), some (.ints 186 .u32 y1.2.2)] (r' := .ptr 1 0 2) (W_rotabig_Rat_den_B hy) rfl rfl pcT rfl Try.call66 (of_decide_eq_true rfl) ⟨rfl, rfl, rfl, trivial⟩ rfl (hscG trivial) (of_decide_eq_true rfl) rfl rfl rfl (of_decide_eq_true rfl) rfl fun st' hr => ?_
   simp only [go_sem] at hr
   subst hr
   refine AWPL_nil ?_
   refine QB_normal ?_
   exact AWPB_wk [0, 1, 2, 3, 4, 5, 6, 7, 8, 10, 11, 9] mkWk ((hAA _ _ _).1 hn11))

theorem ceg_rotabig_Rat_Add_A_1_29 : (Region.ready .any reg_rotabig_Rat_Add_A_1.toArray #[true, false, true, true, true, true, false, false, false, true, true, true, true, false, false, false, false] == [1, 6, 8]) = true := by kernel_rfl

theorem J_rotabig_Rat_Add_A_1_hn14 {q0 : (Bool × List Int) × (Bool × List Int)} {q1 : (Bool × List Int) × (Bool × List Int)} {y1 : (Bool × List Int) × (Bool × List Int)} {y2 : Bool × List Int} {y3 : (Bool × List Int) × ((Bool × List Int) × (Bool × List Int))} {y4 : Bool × List Int} {y5 : Bool × List Int} {pl0 : AX.Loc} {pl1 : AX.Loc} (hy : rotabig_Rat_den_B ((q1.1.1, q1.1.2), (q1.2.1, q1.2.2)) = some y1) (hy1 : rotabig_Int_Mul_r q0.1.1 q0.1.2 y1.2.1 y1.2.2 (false, []) = some y2) (hy2 : rotabig_Rat_den_A ((q0.1.1, q0.1.2), (q0.2.1, q0.2.2)) = some y3) (hy3 : rotabig_Int_Mul_r y1.1.1 y1.1.2 y3.1.1 y3.1.2 (false, []) = some y4) (hy4 : rotabig_Int_Add_r y2.1 y2.2 y4.1 y4.2 (false, []) = some y5) {w0 : World} {Q : Exit → St → Prop} {AA : Nat → Array Bool → St → Prop} (hAA : ∀ g L st, AA g L st ↔ AWPB Try.prog w0 reg_rotabig_Rat_Add_A_1.toArray Q g L st) (hn10 : AA 7 #[true, true, true, true, true, true, false, false, false, true, true, true, true, false, false, false, false] ⟨33, [(0, .ptr 0 0 0), (1, .ptr 0 0 0), (2, .ptr 1 0 0), (8, .ptr 8 0 0), (9, .ptr 9 0 0), (12, .ptr 0 0 0), (13, .ptr 1 0 0), (19, .ptr 1 0 0), (20, .ptr 0 0 0)], [some (.gen 33 4 [[.bool q0.1.1, .own 2 q0.1.2.length, .bool q0.2.1, .own 3 q0.2.2.length]]), some (.gen 33 4 [[.bool q1.1.1, .own 4 q1.1.2.length, .bool q1.2.1, .own 5 q1.2.2.length]]), some (.ints 186 .u32 q0.1.2), some (.ints 186 .u32 q0.2.2), some (.ints 186 .u32 q1.1.2), some (.ints 186 .u32 q1.2.2), some (.pin 0 pl0), some (.pin 1 pl1), some (.gen 31 2 [[.bool false, .nil]]), some (.gen 31 2 [[.bool false, .nil]])]⟩) (hn12 : AA 7 #[true, false, true, true, true, true, true, false, false, true, true, true, true, false, false, false, false] ⟨33, [(0, .ptr 0 0 0), (1, .ptr 0 0 0), (2, .ptr 1 0 0), (8, .ptr 8 0 0), (12, .ptr 0 0 0), (14, .ptr 1 0 2), (19, .ptr 1 0 0), (20, .ptr 0 0 0)], [some (.gen 33 4 [[.bool q0.1.1, .own 2 q0.1.2.length, .bool q0.2.1, .own 3 q0.2.2.length]]), some (.gen 33 4 [[.bool y1.1.1, .own 9 y1.1.2.length, .bool y1.2.1, .own 10 y1.2.2.length]]), some (.ints 186 .u32 q0.1.2), some (.ints 186 .u32 q0.2.2), none, none, some (.pin 0 pl0), some (.pin 1 pl1), some (.gen 31 2 [[.bool false, .nil]]), some (.ints 186 .u32 y1.1.2), some (.ints 186 .u32 y1.2.2)]⟩) (hn13 : AA 7 #[true, false, true, true, true, true, false, false, true, true, true, true, true, false, false, false, false] ⟨33, [(0, .ptr 0 0 0), (1, .ptr 0 0 0), (2, .ptr 1 0 0), (8, .ptr 8 0 0), (12, .ptr 0 0 0), (13, .ptr 1 0 0), (16, .ptr 9 0 0), (19, .ptr 1 0 0), (20, .ptr 0 0 0)], [some (.gen 33 4 [[.bool q0.1.1, .own 2 q0.1.2.length, .bool q0.2.1, .own 3 q0.2.2.length]]), some (.gen 33 4 [[.bool q1.1.1, .own 4 q1.1.2.length, .bool q1.2.1, .own 5 q1.2.2.length]]), some (.ints 186 .u32 q0.1.2), some (.ints 186 .u32 q0.2.2), some (.ints 186 .u32 q1.1.2), some (.ints 186 .u32 q1.2.2), some (.pin 0 pl0), some (.pin 1 pl1), some (.gen 31 2 [[.bool false, .nil]]), some (.gen 31 2 [[.bool false, .nil]])]⟩) : AA 8 #[true, false, true, true, true, true, false, false, false, true, true, true, true, false, false, false, false] ⟨33, [(0, .ptr 0 0 0), (1, .ptr 0 0 0), (2, .ptr 1 0 0), (8, .ptr 8 0 0), (12, .ptr 0 0 0), (13, .ptr 1 0 0), (19, .ptr 1 0 0), (20, .ptr 0 0 0)], [some (.gen 33 4 [[.bool q0.1.1, .own 2 q0.1.2.length, .bool q0.2.1, .own 3 q0.2.2.length]]), some (.gen 33 4 [[.bool q1.1.1, .own 4 q1.1.2.length, .bool q1.2.1, .own 5 q1.2.2.length]]), some (.ints 186 .u32 q0.1.2), some (.ints 186 .u32 q0.2.2), some (.ints 186 .u32 q1.1.2), some (.ints 186 .u32 q1.2.2), some (.pin 0 pl0), some (.pin 1 pl1), some (.gen 31 2 [[.bool false, .nil]])]⟩ := (hAA _ _ _).2 (by
  refine AWPB_three 1 6 8 _ _ _ ceg_rotabig_Rat_Add_A_1_29 rfl rfl rfl ?_ ?_ ?_
  ·skip
   refine AWPL_rn tab_ok 1 [0, 1, 2, 7, 8, 9, 12, 13, 14, 15, 16, 19, 20, 21, 22, 23] fun c st' hr => ?_
   simp only [go_sem] at hr
   obtain ⟨rfl, rfl⟩ := hr
   refine ⟨vc, ?_⟩
   refine AWPL_nil ?_
   refine QB_normal ?_
   exact AWPB_wk [0, 1, 2, 3, 4, 5, 6, 7, 8, 9] mkWk ((hAA _ _ _).1 hn10)
  ·skip
   refine AWPL_gR [0, 1, 2, 7, 8, 9, 12, 14, 15, 16, 19, 20, 21, 22, 23] [1, 4, 5] [.ptr 0 0 0] [some (.gen 33 4 [[.bool q0.1.1, .own 2 q0.1.2.length, .bool q0.2.1, .own 3 q0.2.2.length]]), some (.gen 33 4 [[.bool y1.1.1, .own 9 y1.1.2.length, .bool y1.2.1, .own 10 y1.2.2.length]]), some (.ints 186 .u32 q0.1.2), some (.ints 186 .u32 q0.2.2), none, none, some (.pin 0 pl0), some (.pin 1 pl1), some (.gen 31 2 [[.bool false, .nil]]), some (.ints 186 .u32 y1.1.2), some (.ints 186 .u32 y1.2.2)] (r' := .ptr 1 0 2) (W_rotabig_Rat_den_B hy) rfl rfl pcT rfl Try.call66 (of_decide_eq_true rfl) ⟨rfl, rfl, rfl, trivial⟩ rfl (hscG trivial) (of_decide_eq_true rfl) rfl rfl rfl (of_decide_eq_true rfl) rfl fun st' hr => ?_
   simp only [go_sem] at hr
   subst hr
   refine AWPL_nil ?_
   refine QB_normal ?_
   exact AWPB_wk [0, 1, 2, 3, 4, 5, 6, 7, 8, 9, 10] mkWk ((hAA _ _ _).1 hn12)
  ·skip
   refine AWPL_rn tab_ok 1 [0, 1, 2, 7, 8, 9, 12, 13, 14, 15, 16, 19, 20, 21, 22, 23] fun c st' hr => ?_
   simp only [go_sem] at hr
   obtain ⟨rfl, rfl⟩ := hr
   refine ⟨vc, ?_⟩
   refine AWPL_nil ?_
   refine QB_normal ?_
   exact AWPB_wk [0, 1, 2, 3, 4, 5, 6, 7, 8, 9] mkWk ((hAA _ _ _).1 hn13))

theorem ceg_rotabig_Rat_Add_A_1_31 : (Region.ready .any reg_rotabig_Rat_Add_A_1.toArray #[false, true, true, true, true, true, true, true, true, true, true, true, true, true, true, false, false] == [0]) = true := by kernel_rfl

theorem J_rotabig_Rat_Add_A_1_hn15 {q0 : (Bool × List Int) × (Bool × List Int)} {q1 : (Bool × List Int) × (Bool × List Int)} {y1 : (Bool × List Int) × (Bool × List Int)} {y2 : Bool × List Int} {y3 : (Bool × List Int) × ((Bool × List Int) × (Bool × List Int))} {y4 : Bool × List Int} {y5 : Bool × List Int} {pl0 : AX.Loc} {pl1 : AX.Loc} (hy : rotabig_Rat_den_B ((q1.1.1, q1.1.2), (q1.2.1, q1.2.2)) = some y1) (hy1 : rotabig_Int_Mul_r q0.1.1 q0.1.2 y1.2.1 y1.2.2 (false, []) = some y2) (hy2 : rotabig_Rat_den_A ((q0.1.1, q0.1.2), (q0.2.1, q0.2.2)) = some y3) (hy3 : rotabig_Int_Mul_r y1.1.1 y1.1.2 y3.1.1 y3.1.2 (false, []) = some y4) (hy4 : rotabig_Int_Add_r y2.1 y2.2 y4.1 y4.2 (false, []) = some y5) {w0 : World} {Q : Exit → St → Prop} {AA : Nat → Array Bool → St → Prop} (hAA : ∀ g L st, AA g L st ↔ AWPB Try.prog w0 reg_rotabig_Rat_Add_A_1.toArray Q g L st) (hn2 : AA 2 #[true, true, true, true, true, true, true, true, true, true, true, true, true, true, true, false, false] ⟨33, [(0, .ptr 0 0 0), (1, .ptr 0 0 0), (2, .ptr 1 0 0), (8, .ptr 8 0 0), (15, .ptr 9 0 0), (22, .ptr 14 0 0)], [some (.gen 33 4 [[.bool y3.2.1.1, .own 15 y3.2.1.2.length, .bool y3.2.2.1, .own 16 y3.2.2.2.length]]), some (.gen 33 4 [[.bool y1.1.1, .own 10 y1.1.2.length, .bool y1.2.1, .own 11 y1.2.2.length]]), none, none, none, none, some (.pin 0 pl0), some (.pin 1 pl1), some (.gen 31 2 [[.bool false, .nil]]), some (.gen 31 2 [[.bool y2.1, .own 13 y2.2.length]]), some (.ints 186 .u32 y1.1.2), some (.ints 186 .u32 y1.2.2), none, some (.ints 186 .u32 y2.2), some (.gen 31 2 [[.bool y4.1, .own 20 y4.2.length]]), some (.ints 186 .u32 y3.2.1.2), some (.ints 186 .u32 y3.2.2.2), some (.gen 31 2 [[.bool y3.1.1, .own 18 y3.1.2.length]]), some (.ints 186 .u32 y3.1.2), none, some (.ints 186 .u32 y4.2)]⟩) : AA 3 #[false, true, true, true, true, true, true, true, true, true, true, true, true, true, true, false, false] ⟨33, [(0, .ptr 0 0 0), (1, .ptr 0 0 0), (2, .ptr 1 0 0), (15, .ptr 8 0 0), (22, .ptr 13 0 0)], [some (.gen 33 4 [[.bool y3.2.1.1, .own 14 y3.2.1.2.length, .bool y3.2.2.1, .own 15 y3.2.2.2.length]]), some (.gen 33 4 [[.bool y1.1.1, .own 9 y1.1.2.length, .bool y1.2.1, .own 10 y1.2.2.length]]), none, none, none, none, some (.pin 0 pl0), some (.pin 1 pl1), some (.gen 31 2 [[.bool y2.1, .own 12 y2.2.length]]), some (.ints 186 .u32 y1.1.2), some (.ints 186 .u32 y1.2.2), none, some (.ints 186 .u32 y2.2), some (.gen 31 2 [[.bool y4.1, .own 19 y4.2.length]]), some (.ints 186 .u32 y3.2.1.2), some (.ints 186 .u32 y3.2.2.2), some (.gen 31 2 [[.bool y3.1.1, .own 17 y3.1.2.length]]), some (.ints 186 .u32 y3.1.2), none, some (.ints 186 .u32 y4.2)]⟩ := (hAA _ _ _).2 (by
  refine AWPB_one 0 _ ceg_rotabig_Rat_Add_A_1_31 rfl ?_
  refine AWPL_rn tab_ok 1 [0, 1, 2, 7, 8, 15, 22, 23] fun c st' hr => ?_
  simp only [go_sem] at hr
  obtain ⟨rfl, rfl⟩ := hr
  refine ⟨vc, ?_⟩
  refine AWPL_nil ?_
  refine QB_normal ?_
  exact AWPB_wk [0, 1, 2, 3, 4, 5, 6, 7, 20, 8, 9, 10, 11, 12, 13, 14, 15, 16, 17, 18, 19] mkWk ((hAA _ _ _).1 hn2))

theorem ceg_rotabig_Rat_Add_A_1_33 : (Region.ready .any reg_rotabig_Rat_Add_A_1.toArray #[false, true, true, true, true, true, true, true, true, true, true, true, true, true, false, false, false] == [0, 14]) = true := by kernel_rfl

theorem J_rotabig_Rat_Add_A_1_hn16 {q0 : (Bool × List Int) × (Bool × List Int)} {q1 : (Bool × List Int) × (Bool × List Int)} {y1 : (Bool × List Int) × (Bool × List Int)} {y2 : Bool × List Int} {y3 : (Bool × List Int) × ((Bool × List Int) × (Bool × List Int))} {y4 : Bool × List Int} {y5 : Bool × List Int} {pl0 : AX.Loc} {pl1 : AX.Loc} (hy : rotabig_Rat_den_B ((q1.1.1, q1.1.2), (q1.2.1, q1.2.2)) = some y1) (hy1 : rotabig_Int_Mul_r q0.1.1 q0.1.2 y1.2.1 y1.2.2 (false, []) = some y2) (hy2 : rotabig_Rat_den_A ((q0.1.1, q0.1.2), (q0.2.1, q0.2.2)) = some y3) (hy3 : rotabig_Int_Mul_r y1.1.1 y1.1.2 y3.1.1 y3.1.2 (false, []) = some y4) (hy4 : rotabig_Int_Add_r y2.1 y2.2 y4.1 y4.2 (false, []) = some y5) {w0 : World} {Q : Exit → St → Prop} {AA : Nat → Array Bool → St → Prop} (hAA : ∀ g L st, AA g L st ↔ AWPB Try.prog w0 reg_rotabig_Rat_Add_A_1.toArray Q g L st) (hn3 : AA 3 #[true, true, true, true, true, true, true, true, true, true, true, true, true, true, false, false, false] ⟨33, [(0, .ptr 0 0 0), (1, .ptr 0 0 0), (2, .ptr 1 0 0), (8, .ptr 8 0 0), (15, .ptr 9 0 0), (16, .ptr 14 0 0), (19, .ptr 1 0 0), (21, .ptr 17 0 0)], [some (.gen 33 4 [[.bool y3.2.1.1, .own 15 y3.2.1.2.length, .bool y3.2.2.1, .own 16 y3.2.2.2.length]]), some (.gen 33 4 [[.bool y1.1.1, .own 10 y1.1.2.length, .bool y1.2.1, .own 11 y1.2.2.length]]), none, none, none, none, some (.pin 0 pl0), some (.pin 1 pl1), some (.gen 31 2 [[.bool false, .nil]]), some (.gen 31 2 [[.bool y2.1, .own 13 y2.2.length]]), some (.ints 186 .u32 y1.1.2), some (.ints 186 .u32 y1.2.2), none, some (.ints 186 .u32 y2.2), some (.gen 31 2 [[.bool false, .nil]]), some (.ints 186 .u32 y3.2.1.2), some (.ints 186 .u32 y3.2.2.2), some (.gen 31 2 [[.bool y3.1.1, .own 18 y3.1.2.length]]), some (.ints 186 .u32 y3.1.2)]⟩) (hn15 : AA 3 #[false, true, true, true, true, true, true, true, true, true, true, true, true, true, true, false, false] ⟨33, [(0, .ptr 0 0 0), (1, .ptr 0 0 0), (2, .ptr 1 0 0), (15, .ptr 8 0 0), (22, .ptr 13 0 0)], [some (.gen 33 4 [[.bool y3.2.1.1, .own 14 y3.2.1.2.length, .bool y3.2.2.1, .own 15 y3.2.2.2.length]]), some (.gen 33 4 [[.bool y1.1.1, .own 9 y1.1.2.length, .bool y1.2.1, .own 10 y1.2.2.length]]), none, none, none, none, some (.pin 0 pl0), some (.pin 1 pl1), some (.gen 31 2 [[.bool y2.1, .own 12 y2.2.length]]), some (.ints 186 .u32 y1.1.2), some (.ints 186 .u32 y1.2.2), none, some (.ints 186 .u32 y2.2), some (.gen 31 2 [[.bool y4.1, .own 19 y4.2.length]]), some (.ints 186 .u32 y3.2.1.2), some (.ints 186 .u32 y3.2.2.2), some (.gen 31 2 [[.bool y3.1.1, .own 17 y3.1.2.length]]), some (.ints 186 .u32 y3.1.2), none, some (.ints 186 .u32 y4.2)]⟩) : AA 4 #[false, true, true, true, true, true, true, true, true, true, true, true, true, true, false, false, false] ⟨33, [(0, .ptr 0 0 0), (1, .ptr 0 0 0), (2, .ptr 1 0 0), (15, .ptr 8 0 0), (16, .ptr 13 0 0), (19, .ptr 1 0 0), (21, .ptr 16 0 0)], [some (.gen 33 4 [[.bool y3.2.1.1, .own 14 y3.2.1.2.length, .bool y3.2.2.1, .own 15 y3.2.2.2.length]]), some (.gen 33 4 [[.bool y1.1.1, .own 9 y1.1.2.length, .bool y1.2.1, .own 10 y1.2.2.length]]), none, none, none, none, some (.pin 0 pl0), some (.pin 1 pl1), some (.gen 31 2 [[.bool y2.1, .own 12 y2.2.length]]), some (.ints 186 .u32 y1.1.2), some (.ints 186 .u32 y1.2.2), none, some (.ints 186 .u32 y2.2), some (.gen 31 2 [[.bool false, .nil]]), some (.ints 186 .u32 y3.2.1.2), some (.ints 186 .u32 y3.2.2.2), some (.gen 31 2 [[.bool y3.1.1, .own 17 y3.1.2.length]]), some (.ints 186 .u32 y3.1.2)]⟩ := (hAA _ _ _).2 (by
  refine AWPB_two 0 14 _ _ ceg_rotabig_Rat_Add_A_1_33 rfl rfl ?_ ?_
  ·skip
   refine AWPL_rn tab_ok 1 [0, 1, 2, 7, 8, 15, 16, 19, 21, 22, 23] fun c st' hr => ?_
   simp only [go_sem] at hr
   obtain ⟨rfl, rfl⟩ := hr
   refine ⟨vc, ?_⟩
   refine AWPL_nil ?_
   refine QB_normal ?_
   exact AWPB_wk [0, 1, 2, 3, 4, 5, 6, 7, 18, 8, 9, 10, 11, 12, 13, 14, 15, 16, 17] mkWk ((hAA _ _ _).1 hn3)
  ·skip
   refine AWPL_gs' (gs_ownH 13 1 (.ints 186 .u32 []) rfl rfl rfl) fun st' hr => ?_
   simp only [go_sem, List.cons_append, List.nil_append, List.set_cons_zero, List.set_cons_succ] at hr
   subst hr
   refine AWPL_gS [0, 1, 2, 7, 8, 15, 22, 23] [13, 18] [.ptr 0 0 0, .immp [.bool y1.1.1, .ints .u32 y1.1.2], .immp [.bool y3.1.1, .ints .u32 y3.1.2]] [some (.gen 33 4 [[.bool y3.2.1.1, .own 14 y3.2.1.2.length, .bool y3.2.2.1, .own 15 y3.2.2.2.length]]), some (.gen 33 4 [[.bool y1.1.1, .own 9 y1.1.2.length, .bool y1.2.1, .own 10 y1.2.2.length]]), none, none, none, none, some (.pin 0 pl0), some (.pin 1 pl1), some (.gen 31 2 [[.bool y2.1, .own 12 y2.2.length]]), some (.ints 186 .u32 y1.1.2), some (.ints 186 .u32 y1.2.2), none, some (.ints 186 .u32 y2.2), some (.gen 31 2 [[.bool y4.1, .own 19 y4.2.length]]), some (.ints 186 .u32 y3.2.1.2), some (.ints 186 .u32 y3.2.2.2), some (.gen 31 2 [[.bool y3.1.1, .own 17 y3.1.2.length]]), some (.ints 186 .u32 y3.1.2), none, some (.ints 186 .u32 y4.2)] (r' := .ptr 13 0 0) (W_rotabig_Int_Mul_r hy3) rfl rfl pcT rfl Try.call65 (of_decide_eq_true rfl) ⟨rfl, rfl, trivial⟩ (.ptr 0 rfl (.cons (ArgOk.part (j0 := 0) rfl rfl (of_decide_eq_true rfl) (.cons (.atom _ rfl) (.cons (.ownI _ _ _ _ _ y1.1.2 rfl (by simp) (by first | simp | exact List.take_of_length_le (by simp))) .nil))) (.cons (ArgOk.part (j0 := 0) rfl rfl (of_decide_eq_true rfl) (.cons (.atom _ rfl) (.cons (.ownI _ _ _ _ _ y3.1.2 rfl (by simp) (by first | simp | exact List.take_of_length_le (by simp))) .nil))) .nil))) (hscG trivial) (of_decide_eq_true rfl) rfl rfl rfl (of_decide_eq_true rfl) rfl fun st' hr => ?_
   simp only [go_sem] at hr
   subst hr
   refine AWPL_nil ?_
   refine QB_normal ?_
   exact AWPB_wk [0, 1, 2, 3, 4, 5, 6, 7, 8, 9, 10, 11, 12, 13, 14, 15, 16, 17, 18, 19] mkWk ((hAA _ _ _).1 hn15))

theorem ceg_rotabig_Rat_Add_A_1_35 : (Region.ready .any reg_rotabig_Rat_Add_A_1.toArray #[false, true, true, true, true, true, true, true, true, true, true, true, true, false, false, false, false] == [0, 13]) = true := by kernel_rfl

theorem J_rotabig_Rat_Add_A_1_hn17 {q0 : (Bool × List Int) × (Bool × List Int)} {q1 : (Bool × List Int) × (Bool × List Int)} {y1 : (Bool × List Int) × (Bool × List Int)} {y2 : Bool × List Int} {y3 : (Bool × List Int) × ((Bool × List Int) × (Bool × List Int))} {y4 : Bool × List Int} {y5 : Bool × List Int} {pl0 : AX.Loc} {pl1 : AX.Loc} (hy : rotabig_Rat_den_B ((q1.1.1, q1.1.2), (q1.2.1, q1.2.2)) = some y1) (hy1 : rotabig_Int_Mul_r q0.1.1 q0.1.2 y1.2.1 y1.2.2 (false, []) = some y2) (hy2 : rotabig_Rat_den_A ((q0.1.1, q0.1.2), (q0.2.1, q0.2.2)) = some y3) (hy3 : rotabig_Int_Mul_r y1.1.1 y1.1.2 y3.1.1 y3.1.2 (false, []) = some y4) (hy4 : rotabig_Int_Add_r y2.1 y2.2 y4.1 y4.2 (false, []) = some y5) {w0 : World} {Q : Exit → St → Prop} {AA : Nat → Array Bool → St → Prop} (hAA : ∀ g L st, AA g L st ↔ AWPB Try.prog w0 reg_rotabig_Rat_Add_A_1.toArray Q g L st) (hn4 : AA 4 #[true, true, true, true, true, true, true, true, true, true, true, true, true, false, false, false, false] ⟨33, [(0, .ptr 0 0 0), (1, .ptr 0 0 0), (2, .ptr 1 0 0), (8, .ptr 8 0 0), (15, .ptr 9 0 0), (16, .ptr 14 0 0), (19, .ptr 1 0 0), (20, .ptr 0 0 0)], [some (.gen 33 4 [[.bool q0.1.1, .own 2 q0.1.2.length, .bool q0.2.1, .own 3 q0.2.2.length]]), some (.gen 33 4 [[.bool y1.1.1, .own 10 y1.1.2.length, .bool y1.2.1, .own 11 y1.2.2.length]]), some (.ints 186 .u32 q0.1.2), some (.ints 186 .u32 q0.2.2), none, none, some (.pin 0 pl0), some (.pin 1 pl1), some (.gen 31 2 [[.bool false, .nil]]), some (.gen 31 2 [[.bool y2.1, .own 13 y2.2.length]]), some (.ints 186 .u32 y1.1.2), some (.ints 186 .u32 y1.2.2), none, some (.ints 186 .u32 y2.2), some (.gen 31 2 [[.bool false, .nil]])]⟩) (hn16 : AA 4 #[false, true, true, true, true, true, true, true, true, true, true, true, true, true, false, false, false] ⟨33, [(0, .ptr 0 0 0), (1, .ptr 0 0 0), (2, .ptr 1 0 0), (15, .ptr 8 0 0), (16, .ptr 13 0 0), (19, .ptr 1 0 0), (21, .ptr 16 0 0)], [some (.gen 33 4 [[.bool y3.2.1.1, .own 14 y3.2.1.2.length, .bool y3.2.2.1, .own 15 y3.2.2.2.length]]), some (.gen 33 4 [[.bool y1.1.1, .own 9 y1.1.2.length, .bool y1.2.1, .own 10 y1.2.2.length]]), none, none, none, none, some (.pin 0 pl0), some (.pin 1 pl1), some (.gen 31 2 [[.bool y2.1, .own 12 y2.2.length]]), some (.ints 186 .u32 y1.1.2), some (.ints 186 .u32 y1.2.2), none, some (.ints 186 .u32 y2.2), some (.gen 31 2 [[.bool false, .nil]]), some (.ints 186 .u32 y3.2.1.2), some (.ints 186 .u32 y3.2.2.2), some (.gen 31 2 [[.bool y3.1.1, .own 17 y3.1.2.length]]), some (.ints 186 .u32 y3.1.2)]⟩) : AA 5 #[false, true, true, true, true, true, true, true, true, true, true, true, true, false, false, false, false] ⟨33, [(0, .ptr 0 0 0), (1, .ptr 0 0 0), (2, .ptr 1 0 0), (15, .ptr 8 0 0), (16, .ptr 13 0 0), (19, .ptr 1 0 0), (20, .ptr 0 0 0)], [some (.gen 33 4 [[.bool q0.1.1, .own 2 q0.1.2.length, .bool q0.2.1, .own 3 q0.2.2.length]]), some (.gen 33 4 [[.bool y1.1.1, .own 9 y1.1.2.length, .bool y1.2.1, .own 10 y1.2.2.length]]), some (.ints 186 .u32 q0.1.2), some (.ints 186 .u32 q0.2.2), none, none, some (.pin 0 pl0), some (.pin 1 pl1), some (.gen 31 2 [[.bool y2.1, .own 12 y2.2.length]]), some (.ints 186 .u32 y1.1.2), some (.ints 186 .u32 y1.2.2), none, some (.ints 186 .u32 y2.2), some (.gen 31 2 [[.bool false, .nil]])]⟩ := (hAA _ _ _).2 (by
  refine AWPB_two 0 13 _ _ ceg_rotabig_Rat_Add_A_1_35 rfl rfl ?_ ?_
  ·skip
   refine AWPL_rn tab_ok 1 [0, 1, 2, 7, 8, 15, 16, 19, 20, 21, 22, 23] fun c st' hr => ?_
   simp only [go_sem] at hr
   obtain ⟨rfl, rfl⟩ := hr
   refine ⟨vc, ?_⟩
   refine AWPL_nil ?_
   refine QB_normal ?_
   exact AWPB_wk [0, 1, 2, 3, 4, 5, 6, 7, 14, 8, 9, 10, 11, 12, 13] mkWk ((hAA _ _ _).1 hn4)
  ·skip
   refine AWPL_gR [0, 1, 2, 7, 8, 15, 16, 19, 21, 22, 23] [0, 2, 3] [.ptr 0 0 0] [some (.gen 33 4 [[.bool y3.2.1.1, .own 14 y3.2.1.2.length, .bool y3.2.2.1, .own 15 y3.2.2.2.length]]), some (.gen 33 4 [[.bool y1.1.1, .own 9 y1.1.2.length, .bool y1.2.1, .own 10 y1.2.2.length]]), none, none, none, none, some (.pin 0 pl0), some (.pin 1 pl1), some (.gen 31 2 [[.bool y2.1, .own 12 y2.2.length]]), some (.ints 186 .u32 y1.1.2), some (.ints 186 .u32 y1.2.2), none, some (.ints 186 .u32 y2.2), some (.gen 31 2 [[.bool false, .nil]]), some (.ints 186 .u32 y3.2.1.2), some (.ints 186 .u32 y3.2.2.2), some (.gen 31 2 [[.bool y3.1.1, .own 17 y3.1.2.length]]), some (.ints 186 .u32 y3.1.2)] (r' := .ptr 16 0 0) (W_rotabig_Rat_den_A hy2) rfl rfl pcT rfl Try.call66 (of_decide_eq_true rfl) ⟨rfl, rfl, rfl, trivial⟩ rfl (hscG trivial) (of_decide_eq_true rfl) rfl rfl rfl (of_decide_eq_true rfl) rfl fun st' hr => ?_
   simp only [go_sem] at hr
   subst hr
   refine AWPL_nil ?_
   refine QB_normal ?_
   exact AWPB_wk [0, 1, 2, 3, 4, 5, 6, 7, 8, 9, 10, 11, 12, 13, 14, 15, 16, 17] mkWk ((hAA _ _ _).1 hn16))

theorem ceg_rotabig_Rat_Add_A_1_37 : (Region.ready .any reg_rotabig_Rat_Add_A_1.toArray #[false, true, true, true, true, true, true, true, false, true, true, true, true, true, false, false, false] == [0, 8]) = true := by kernel_rfl

theorem J_rotabig_Rat_Add_A_1_hn18 {q0 : (Bool × List Int) × (Bool × List Int)} {q1 : (Bool × List Int) × (Bool × List Int)} {y1 : (Bool × List Int) × (Bool × List Int)} {y2 : Bool × List Int} {y3 : (Bool × List Int) × ((Bool × List Int) × (Bool × List Int))} {y4 : Bool × List Int} {y5 : Bool × List Int} {pl0 : AX.Loc} {pl1 : AX.Loc} (hy : rotabig_Rat_den_B ((q1.1.1, q1.1.2), (q1.2.1, q1.2.2)) = some y1) (hy1 : rotabig_Int_Mul_r q0.1.1 q0.1.2 y1.2.1 y1.2.2 (false, []) = some y2) (hy2 : rotabig_Rat_den_A ((q0.1.1, q0.1.2), (q0.2.1, q0.2.2)) = some y3) (hy3 : rotabig_Int_Mul_r y1.1.1 y1.1.2 y3.1.1 y3.1.2 (false, []) = some y4) (hy4 : rotabig_Int_Add_r y2.1 y2.2 y4.1 y4.2 (false, []) = some y5) {w0 : World} {Q : Exit → St → Prop} {AA : Nat → Array Bool → St → Prop} (hAA : ∀ g L st, AA g L st ↔ AWPB Try.prog w0 reg_rotabig_Rat_Add_A_1.toArray Q g L st) (hn5 : AA 4 #[true, true, true, true, true, true, true, true, false, true, true, true, true, true, false, false, false] ⟨33, [(0, .ptr 0 0 0), (1, .ptr 0 0 0), (2, .ptr 1 0 0), (8, .ptr 8 0 0), (15, .ptr 9 0 0), (19, .ptr 1 0 0), (21, .ptr 16 0 0)], [some (.gen 33 4 [[.bool y3.2.1.1, .own 14 y3.2.1.2.length, .bool y3.2.2.1, .own 15 y3.2.2.2.length]]), some (.gen 33 4 [[.bool y1.1.1, .own 10 y1.1.2.length, .bool y1.2.1, .own 11 y1.2.2.length]]), none, none, none, none, some (.pin 0 pl0), some (.pin 1 pl1), some (.gen 31 2 [[.bool false, .nil]]), some (.gen 31 2 [[.bool y2.1, .own 13 y2.2.length]]), some (.ints 186 .u32 y1.1.2), some (.ints 186 .u32 y1.2.2), none, some (.ints 186 .u32 y2.2), some (.ints 186 .u32 y3.2.1.2), some (.ints 186 .u32 y3.2.2.2), some (.gen 31 2 [[.bool y3.1.1, .own 17 y3.1.2.length]]), some (.ints 186 .u32 y3.1.2)]⟩) (hn16 : AA 4 #[false, true, true, true, true, true, true, true, true, true, true, true, true, true, false, false, false] ⟨33, [(0, .ptr 0 0 0), (1, .ptr 0 0 0), (2, .ptr 1 0 0), (15, .ptr 8 0 0), (16, .ptr 13 0 0), (19, .ptr 1 0 0), (21, .ptr 16 0 0)], [some (.gen 33 4 [[.bool y3.2.1.1, .own 14 y3.2.1.2.length, .bool y3.2.2.1, .own 15 y3.2.2.2.length]]), some (.gen 33 4 [[.bool y1.1.1, .own 9 y1.1.2.length, .bool y1.2.1, .own 10 y1.2.2.length]]), none, none, none, none, some (.pin 0 pl0), some (.pin 1 pl1), some (.gen 31 2 [[.bool y2.1, .own 12 y2.2.length]]), some (.ints 186 .u32 y1.1.2), some (.ints 186 .u32 y1.2.2), none, some (.ints 186 .u32 y2.2), some (.gen 31 2 [[.bool false, .nil]]), some (.ints 186 .u32 y3.2.1.2), some (.ints 186 .u32 y3.2.2.2), some (.gen 31 2 [[.bool y3.1.1, .own 17 y3.1.2.length]]), some (.ints 186 .u32 y3.1.2)]⟩) : AA 5 #[false, true, true, true, true, true, true, true, false, true, true, true, true, true, false, false, false] ⟨33, [(0, .ptr 0 0 0), (1, .ptr 0 0 0), (2, .ptr 1 0 0), (15, .ptr 8 0 0), (19, .ptr 1 0 0), (21, .ptr 15 0 0)], [some (.gen 33 4 [[.bool y3.2.1.1, .own 13 y3.2.1.2.length, .bool y3.2.2.1, .own 14 y3.2.2.2.length]]), some (.gen 33 4 [[.bool y1.1.1, .own 9 y1.1.2.length, .bool y1.2.1, .own 10 y1.2.2.length]]), none, none, none, none, some (.pin 0 pl0), some (.pin 1 pl1), some (.gen 31 2 [[.bool y2.1, .own 12 y2.2.length]]), some (.ints 186 .u32 y1.1.2), some (.ints 186 .u32 y1.2.2), none, some (.ints 186 .u32 y2.2), some (.ints 186 .u32 y3.2.1.2), some (.ints 186 .u32 y3.2.2.2), some (.gen 31 2 [[.bool y3.1.1, .own 16 y3.1.2.length]]), some (.ints 186 .u32 y3.1.2)]⟩ := (hAA _ _ _).2 (by
  refine AWPB_two 0 8 _ _ ceg_rotabig_Rat_Add_A_1_37 rfl rfl ?_ ?_
  ·skip
   refine AWPL_rn tab_ok 1 [0, 1, 2, 7, 8, 15, 16, 19, 21, 22, 23] fun c st' hr => ?_
   simp only [go_sem] at hr
   obtain ⟨rfl, rfl⟩ := hr
   refine ⟨vc, ?_⟩
   refine AWPL_nil ?_
   refine QB_normal ?_
   exact AWPB_wk [0, 1, 2, 3, 4, 5, 6, 7, 17, 8, 9, 10, 11, 12, 13, 14, 15, 16] mkWk ((hAA _ _ _).1 hn5)
  ·skip
   refine AWPL_rn tab_ok 1 [0, 1, 2, 7, 8, 15, 16, 19, 21, 22, 23] fun c st' hr => ?_
   simp only [go_sem] at hr
   obtain ⟨rfl, rfl⟩ := hr
   refine ⟨vc, ?_⟩
   refine AWPL_nil ?_
   refine QB_normal ?_
   exact AWPB_wk [0, 1, 2, 3, 4, 5, 6, 7, 8, 9, 10, 11, 12, 17, 13, 14, 15, 16] mkWk ((hAA _ _ _).1 hn16))

theorem ceg_rotabig_Rat_Add_A_1_39 : (Region.ready .any reg_rotabig_Rat_Add_A_1.toArray #[false, true, true, true, true, true, true, true, false, true, true, true, true, false, false, false, false] == [0, 8, 13]) = true := by kernel_rfl

theorem J_rotabig_Rat_Add_A_1_hn19 {q0 : (Bool × List Int) × (Bool × List Int)} {q1 : (Bool × List Int) × (Bool × List Int)} {y1 : (Bool × List Int) × (Bool × List Int)} {y2 : Bool × List Int} {y3 : (Bool × List Int) × ((Bool × List Int) × (Bool × List Int))} {y4 : Bool × List Int} {y5 : Bool × List Int} {pl0 : AX.Loc} {pl1 : AX.Loc} (hy : rotabig_Rat_den_B ((q1.1.1, q1.1.2), (q1.2.1, q1.2.2)) = some y1) (hy1 : rotabig_Int_Mul_r q0.1.1 q0.1.2 y1.2.1 y1.2.2 (false, []) = some y2) (hy2 : rotabig_Rat_den_A ((q0.1.1, q0.1.2), (q0.2.1, q0.2.2)) = some y3) (hy3 : rotabig_Int_Mul_r y1.1.1 y1.1.2 y3.1.1 y3.1.2 (false, []) = some y4) (hy4 : rotabig_Int_Add_r y2.1 y2.2 y4.1 y4.2 (false, []) = some y5) {w0 : World} {Q : Exit → St → Prop} {AA : Nat → Array Bool → St → Prop} (hAA : ∀ g L st, AA g L st ↔ AWPB Try.prog w0 reg_rotabig_Rat_Add_A_1.toArray Q g L st) (hn6 : AA 5 #[true, true, true, true, true, true, true, true, false, true, true, true, true, false, false, false, false] ⟨33, [(0, .ptr 0 0 0), (1, .ptr 0 0 0), (2, .ptr 1 0 0), (8, .ptr 8 0 0), (15, .ptr 9 0 0), (19, .ptr 1 0 0), (20, .ptr 0 0 0)], [some (.gen 33 4 [[.bool q0.1.1, .own 2 q0.1.2.length, .bool q0.2.1, .own 3 q0.2.2.length]]), some (.gen 33 4 [[.bool y1.1.1, .own 10 y1.1.2.length, .bool y1.2.1, .own 11 y1.2.2.length]]), some (.ints 186 .u32 q0.1.2), some (.ints 186 .u32 q0.2.2), none, none, some (.pin 0 pl0), some (.pin 1 pl1), some (.gen 31 2 [[.bool false, .nil]]), some (.gen 31 2 [[.bool y2.1, .own 13 y2.2.length]]), some (.ints 186 .u32 y1.1.2), some (.ints 186 .u32 y1.2.2), none, some (.ints 186 .u32 y2.2)]⟩) (hn17 : AA 5 #[false, true, true, true, true, true, true, true, true, true, true, true, true, false, false, false, false] ⟨33, [(0, .ptr 0 0 0), (1, .ptr 0 0 0), (2, .ptr 1 0 0), (15, .ptr 8 0 0), (16, .ptr 13 0 0), (19, .ptr 1 0 0), (20, .ptr 0 0 0)], [some (.gen 33 4 [[.bool q0.1.1, .own 2 q0.1.2.length, .bool q0.2.1, .own 3 q0.2.2.length]]), some (.gen 33 4 [[.bool y1.1.1, .own 9 y1.1.2.length, .bool y1.2.1, .own 10 y1.2.2.length]]), some (.ints 186 .u32 q0.1.2), some (.ints 186 .u32 q0.2.2), none, none, some (.pin 0 pl0), some (.pin 1 pl1), some (.gen 31 2 [[.bool y2.1, .own 12 y2.2.length]]), some (.ints 186 .u32 y1.1.2), some (.ints 186 .u32 y1.2.2), none, some (.ints 186 .u32 y2.2), some (.gen 31 2 [[.bool false, .nil]])]⟩) (hn18 : AA 5 #[false, true, true, true, true, true, true, true, false, true, true, true, true, true, false, false, false] ⟨33, [(0, .ptr 0 0 0), (1, .ptr 0 0 0), (2, .ptr 1 0 0), (15, .ptr 8 0 0), (19, .ptr 1 0 0), (21, .ptr 15 0 0)], [some (.gen 33 4 [[.bool y3.2.1.1, .own 13 y3.2.1.2.length, .bool y3.2.2.1, .own 14 y3.2.2.2.length]]), some (.gen 33 4 [[.bool y1.1.1, .own 9 y1.1.2.length, .bool y1.2.1, .own 10 y1.2.2.length]]), none, none, none, none, some (.pin 0 pl0), some (.pin 1 pl1), some (.gen 31 2 [[.bool y2.1, .own 12 y2.2.length]]), some (.ints 186 .u32 y1.1.2), some (.ints 186 .u32 y1.2.2), none, some (.ints 186 .u32 y2.2), some (.ints 186 .u32 y3.2.1.2), some (.ints 186 .u32 y3.2.2.2), some (.gen 31 2 [[.bool y3.1.1, .own 16 y3.1.2.length]]), some (.ints 186 .u32 y3.1.2)]⟩) : AA 6 #[false, true, true, true, true, true, true, true, false, true, true, true, true, false, false, false, false] ⟨33, [(0, .ptr 0 0 0), (1, .ptr 0 0 0), (2, .ptr 1 0 0), (15, .ptr 8 0 0), (19, .ptr 1 0 0), (20, .ptr 0 0 0)], [some (.gen 33 4 [[.bool q0.1.1, .own 2 q0.1.2.length, .bool q0.2.1, .own 3 q0.2.2.length]]), some (.gen 33 4 [[.bool y1.1.1, .own 9 y1.1.2.length, .bool y1.2.1, .own 10 y1.2.2.length]]), some (.ints 186 .u32 q0.1.2), some (.ints 186 .u32 q0.2.2), none, none, some (.pin 0 pl0), some (.pin 1 pl1), some (.gen 31 2 [[.bool y2.1, .own 12 y2.2.length]]), some (.ints 186 .u32 y1.1.2), some (.ints 186 .u32 y1.2.2), none, some (.ints 186 .u32 y2.2)]⟩ := (hAA _ _ _).2 (by
  refine AWPB_three 0 8 13 _ _ _ ceg_rotabig_Rat_Add_A_1_39 rfl rfl rfl ?_ ?_ ?_
  ·skip
   refine AWPL_rn tab_ok 1 [0, 1, 2, 7, 8, 15, 16, 19, 20, 21, 22, 23] fun c st' hr => ?_
   simp only [go_sem] at hr
   obtain ⟨rfl, rfl⟩ := hr
   refine ⟨vc, ?_⟩
   refine AWPL_nil ?_
   refine QB_normal ?_
   exact AWPB_wk [0, 1, 2, 3, 4, 5, 6, 7, 13, 8, 9, 10, 11, 12] mkWk ((hAA _ _ _).1 hn6)
  ·skip
   refine AWPL_rn tab_ok 1 [0, 1, 2, 7, 8, 15, 16, 19, 20, 21, 22, 23] fun c st' hr => ?_
   simp only [go_sem] at hr
   obtain ⟨rfl, rfl⟩ := hr
   refine ⟨vc, ?_⟩
   refine AWPL_nil ?_
   refine QB_normal ?_
   exact AWPB_wk [0, 1, 2, 3, 4, 5, 6, 7, 8, 9, 10, 11, 12, 13] mkWk ((hAA _ _ _).1 hn17)
  ·skip
   refine AWPL_gR [0, 1, 2, 7, 8, 15, 16, 19, 21, 22, 23] [0, 2, 3] [.ptr 0 0 0] [some (.gen 33 4 [[.bool y3.2.1.1, .own 13 y3.2.1.2.length, .bool y3.2.2.1, .own 14 y3.2.2.2.length]]), some (.gen 33 4 [[.bool y1.1.1, .own 9 y1.1.2.length, .bool y1.2.1, .own 10 y1.2.2.length]]), none, none, none, none, some (.pin 0 pl0), some (.pin 1 pl1), some (.gen 31 2 [[.bool y2.1, .own 12 y2.2.length]]), some (.ints 186 .u32 y1.1.2), some (.ints 186 .u32 y1.2.2), none, some (.ints 186 .u32 y2.2), some (.ints 186 .u32 y3.2.1.2), some (.ints 186 .u32 y3.2.2.2), some (.gen 31 2 [[.bool y3.1.1, .own 16 y3.1.2.length]]), some (.ints 186 .u32 y3.1.2)] (r' := .ptr 15 0 0) (W_rotabig_Rat_den_A hy2) rfl rfl pcT rfl Try.call66 (of_decide_eq_true rfl) ⟨rfl, rfl, rfl, trivial⟩ rfl (hscG trivial) (of_decide_eq_true rfl) rfl rfl rfl (of_decide_eq_true rfl) rfl fun st' hr => ?_
   simp only [go_sem] at hr
   subst hr
   refine AWPL_nil ?_
   refine QB_normal ?_
   exact AWPB_wk [0, 1, 2, 3, 4, 5, 6, 7, 8, 9, 10, 11, 12, 13, 14, 15, 16] mkWk ((hAA _ _ _).1 hn18))

theorem ceg_rotabig_Rat_Add_A_1_41 : (Region.ready .any reg_rotabig_Rat_Add_A_1.toArray #[false, true, true, true, true, true, true, false, true, true, true, true, true, false, false, false, false] == [0, 7]) = true := by kernel_rfl

theorem J_rotabig_Rat_Add_A_1_hn20 {q0 : (Bool × List Int) × (Bool × List Int)} {q1 : (Bool × List Int) × (Bool × List Int)} {y1 : (Bool × List Int) × (Bool × List Int)} {y2 : Bool × List Int} {y3 : (Bool × List Int) × ((Bool × List Int) × (Bool × List Int))} {y4 : Bool × List Int} {y5 : Bool × List Int} {pl0 : AX.Loc} {pl1 : AX.Loc} (hy : rotabig_Rat_den_B ((q1.1.1, q1.1.2), (q1.2.1, q1.2.2)) = some y1) (hy1 : rotabig_Int_Mul_r q0.1.1 q0.1.2 y1.2.1 y1.2.2 (false, []) = some y2) (hy2 : rotabig_Rat_den_A ((q0.1.1, q0.1.2), (q0.2.1, q0.2.2)) = some y3) (hy3 : rotabig_Int_Mul_r y1.1.1 y1.1.2 y3.1.1 y3.1.2 (false, []) = some y4) (hy4 : rotabig_Int_Add_r y2.1 y2.2 y4.1 y4.2 (false, []) = some y5) {w0 : World} {Q : Exit → St → Prop} {AA : Nat → Array Bool → St → Prop} (hAA : ∀ g L st, AA g L st ↔ AWPB Try.prog w0 reg_rotabig_Rat_Add_A_1.toArray Q g L st) (hn7 : AA 5 #[true, true, true, true, true, true, true, false, true, true, true, true, true, false, false, false, false] ⟨33, [(0, .ptr 0 0 0), (1, .ptr 0 0 0), (2, .ptr 1 0 0), (8, .ptr 8 0 0), (9, .ptr 9 0 0), (12, .ptr 0 0 0), (14, .ptr 1 0 2), (16, .ptr 12 0 0), (19, .ptr 1 0 0), (20, .ptr 0 0 0)], [some (.gen 33 4 [[.bool q0.1.1, .own 2 q0.1.2.length, .bool q0.2.1, .own 3 q0.2.2.length]]), some (.gen 33 4 [[.bool y1.1.1, .own 10 y1.1.2.length, .bool y1.2.1, .own 11 y1.2.2.length]]), some (.ints 186 .u32 q0.1.2), some (.ints 186 .u32 q0.2.2), none, none, some (.pin 0 pl0), some (.pin 1 pl1), some (.gen 31 2 [[.bool false, .nil]]), some (.gen 31 2 [[.bool false, .nil]]), some (.ints 186 .u32 y1.1.2), some (.ints 186 .u32 y1.2.2), some (.gen 31 2 [[.bool false, .nil]])]⟩) (hn17 : AA 5 #[false, true, true, true, true, true, true, true, true, true, true, true, true, false, false, false, false] ⟨33, [(0, .ptr 0 0 0), (1, .ptr 0 0 0), (2, .ptr 1 0 0), (15, .ptr 8 0 0), (16, .ptr 13 0 0), (19, .ptr 1 0 0), (20, .ptr 0 0 0)], [some (.gen 33 4 [[.bool q0.1.1, .own 2 q0.1.2.length, .bool q0.2.1, .own 3 q0.2.2.length]]), some (.gen 33 4 [[.bool y1.1.1, .own 9 y1.1.2.length, .bool y1.2.1, .own 10 y1.2.2.length]]), some (.ints 186 .u32 q0.1.2), some (.ints 186 .u32 q0.2.2), none, none, some (.pin 0 pl0), some (.pin 1 pl1), some (.gen 31 2 [[.bool y2.1, .own 12 y2.2.length]]), some (.ints 186 .u32 y1.1.2), some (.ints 186 .u32 y1.2.2), none, some (.ints 186 .u32 y2.2), some (.gen 31 2 [[.bool false, .nil]])]⟩) : AA 6 #[false, true, true, true, true, true, true, false, true, true, true, true, true, false, false, false, false] ⟨33, [(0, .ptr 0 0 0), (1, .ptr 0 0 0), (2, .ptr 1 0 0), (9, .ptr 8 0 0), (12, .ptr 0 0 0), (14, .ptr 1 0 2), (16, .ptr 11 0 0), (19, .ptr 1 0 0), (20, .ptr 0 0 0)], [some (.gen 33 4 [[.bool q0.1.1, .own 2 q0.1.2.length, .bool q0.2.1, .own 3 q0.2.2.length]]), some (.gen 33 4 [[.bool y1.1.1, .own 9 y1.1.2.length, .bool y1.2.1, .own 10 y1.2.2.length]]), some (.ints 186 .u32 q0.1.2), some (.ints 186 .u32 q0.2.2), none, none, some (.pin 0 pl0), some (.pin 1 pl1), some (.gen 31 2 [[.bool false, .nil]]), some (.ints 186 .u32 y1.1.2), some (.ints 186 .u32 y1.2.2), some (.gen 31 2 [[.bool false, .nil]])]⟩ := (hAA _ _ _).2 (by
  refine AWPB_two 0 7 _ _ ceg_rotabig_Rat_Add_A_1_41 rfl rfl ?_ ?_
  ·skip
   refine AWPL_rn tab_ok 1 [0, 1, 2, 7, 8, 9, 12, 14, 15, 16, 19, 20, 21, 22, 23] fun c st' hr => ?_
   simp only [go_sem] at hr
   obtain ⟨rfl, rfl⟩ := hr
   refine ⟨vc, ?_⟩
   refine AWPL_nil ?_
   refine QB_normal ?_
   exact AWPB_wk [0, 1, 2, 3, 4, 5, 6, 7, 12, 8, 9, 10, 11] mkWk ((hAA _ _ _).1 hn7)
  ·skip
   refine AWPL_gs' (gs_ownH 8 1 (.ints 186 .u32 []) rfl rfl rfl) fun st' hr => ?_
   simp only [go_sem, List.cons_append, List.nil_append, List.set_cons_zero, List.set_cons_succ] at hr
   subst hr
   refine AWPL_gS [0, 1, 2, 7, 8, 15, 16, 19, 20, 21, 22, 23] [8, 12] [.ptr 0 0 0, .immp [.bool q0.1.1, .ints .u32 q0.1.2], .immp [.bool y1.2.1, .ints .u32 y1.2.2]] [some (.gen 33 4 [[.bool q0.1.1, .own 2 q0.1.2.length, .bool q0.2.1, .own 3 q0.2.2.length]]), some (.gen 33 4 [[.bool y1.1.1, .own 9 y1.1.2.length, .bool y1.2.1, .own 10 y1.2.2.length]]), some (.ints 186 .u32 q0.1.2), some (.ints 186 .u32 q0.2.2), none, none, some (.pin 0 pl0), some (.pin 1 pl1), some (.gen 31 2 [[.bool y2.1, .own 13 y2.2.length]]), some (.ints 186 .u32 y1.1.2), some (.ints 186 .u32 y1.2.2), some (.gen 31 2 [[.bool false, .nil]]), none, some (.ints 186 .u32 y2.2)] (r' := .ptr 8 0 0) (W_rotabig_Int_Mul_r hy1) rfl rfl pcT rfl Try.call65 (of_decide_eq_true rfl) ⟨rfl, rfl, trivial⟩ (.ptr 0 rfl (.cons (ArgOk.part (j0 := 0) rfl rfl (of_decide_eq_true rfl) (.cons (.atom _ rfl) (.cons (.ownI _ _ _ _ _ q0.1.2 rfl (by simp) (by first | simp | exact List.take_of_length_le (by simp))) .nil))) (.cons (ArgOk.part (j0 := 2) rfl rfl (of_decide_eq_true rfl) (.cons (.atom _ rfl) (.cons (.ownI _ _ _ _ _ y1.2.2 rfl (by simp) (by first | simp | exact List.take_of_length_le (by simp))) .nil))) .nil))) (hscG trivial) (of_decide_eq_true rfl) rfl rfl rfl (of_decide_eq_true rfl) rfl fun st' hr => ?_
   simp only [go_sem] at hr
   subst hr
   refine AWPL_nil ?_
   refine QB_normal ?_
   exact AWPB_wk [0, 1, 2, 3, 4, 5, 6, 7, 8, 9, 10, 12, 13, 11] mkWk ((hAA _ _ _).1 hn17))

theorem ceg_rotabig_Rat_Add_A_1_43 : (Region.ready .any reg_rotabig_Rat_Add_A_1.toArray #[false, true, true, true, true, true, true, false, false, true, true, true, true, false, false, false, false] == [0, 7, 8]) = true := by kernel_rfl

theorem J_rotabig_Rat_Add_A_1_hn21 {q0 : (Bool × List Int) × (Bool × List Int)} {q1 : (Bool × List Int) × (Bool × List Int)} {y1 : (Bool × List Int) × (Bool × List Int)} {y2 : Bool × List Int} {y3 : (Bool × List Int) × ((Bool × List Int) × (Bool × List Int))} {y4 : Bool × List Int} {y5 : Bool × List Int} {pl0 : AX.Loc} {pl1 : AX.Loc} (hy : rotabig_Rat_den_B ((q1.1.1, q1.1.2), (q1.2.1, q1.2.2)) = some y1) (hy1 : rotabig_Int_Mul_r q0.1.1 q0.1.2 y1.2.1 y1.2.2 (false, []) = some y2) (hy2 : rotabig_Rat_den_A ((q0.1.1, q0.1.2), (q0.2.1, q0.2.2)) = some y3) (hy3 : rotabig_Int_Mul_r y1.1.1 y1.1.2 y3.1.1 y3.1.2 (false, []) = some y4) (hy4 : rotabig_Int_Add_r y2.1 y2.2 y4.1 y4.2 (false, []) = some y5) {w0 : World} {Q : Exit → St → Prop} {AA : Nat → Array Bool → St → Prop} (hAA : ∀ g L st, AA g L st ↔ AWPB Try.prog w0 reg_rotabig_Rat_Add_A_1.toArray Q g L st) (hn8 : AA 6 #[true, true, true, true, true, true, true, false, false, true, true, true, true, false, false, false, false] ⟨33, [(0, .ptr 0 0 0), (1, .ptr 0 0 0), (2, .ptr 1 0 0), (8, .ptr 8 0 0), (9, .ptr 9 0 0), (12, .ptr 0 0 0), (14, .ptr 1 0 2), (19, .ptr 1 0 0), (20, .ptr 0 0 0)], [some (.gen 33 4 [[.bool q0.1.1, .own 2 q0.1.2.length, .bool q0.2.1, .own 3 q0.2.2.length]]), some (.gen 33 4 [[.bool y1.1.1, .own 10 y1.1.2.length, .bool y1.2.1, .own 11 y1.2.2.length]]), some (.ints 186 .u32 q0.1.2), some (.ints 186 .u32 q0.2.2), none, none, some (.pin 0 pl0), some (.pin 1 pl1), some (.gen 31 2 [[.bool false, .nil]]), some (.gen 31 2 [[.bool false, .nil]]), some (.ints 186 .u32 y1.1.2), some (.ints 186 .u32 y1.2.2)]⟩) (hn19 : AA 6 #[false, true, true, true, true, true, true, true, false, true, true, true, true, false, false, false, false] ⟨33, [(0, .ptr 0 0 0), (1, .ptr 0 0 0), (2, .ptr 1 0 0), (15, .ptr 8 0 0), (19, .ptr 1 0 0), (20, .ptr 0 0 0)], [some (.gen 33 4 [[.bool q0.1.1, .own 2 q0.1.2.length, .bool q0.2.1, .own 3 q0.2.2.length]]), some (.gen 33 4 [[.bool y1.1.1, .own 9 y1.1.2.length, .bool y1.2.1, .own 10 y1.2.2.length]]), some (.ints 186 .u32 q0.1.2), some (.ints 186 .u32 q0.2.2), none, none, some (.pin 0 pl0), some (.pin 1 pl1), some (.gen 31 2 [[.bool y2.1, .own 12 y2.2.length]]), some (.ints 186 .u32 y1.1.2), some (.ints 186 .u32 y1.2.2), none, some (.ints 186 .u32 y2.2)]⟩) (hn20 : AA 6 #[false, true, true, true, true, true, true, false, true, true, true, true, true, false, false, false, false] ⟨33, [(0, .ptr 0 0 0), (1, .ptr 0 0 0), (2, .ptr 1 0 0), (9, .ptr 8 0 0), (12, .ptr 0 0 0), (14, .ptr 1 0 2), (16, .ptr 11 0 0), (19, .ptr 1 0 0), (20, .ptr 0 0 0)], [some (.gen 33 4 [[.bool q0.1.1, .own 2 q0.1.2.length, .bool q0.2.1, .own 3 q0.2.2.length]]), some (.gen 33 4 [[.bool y1.1.1, .own 9 y1.1.2.length, .bool y1.2.1, .own 10 y1.2.2.length]]), some (.ints 186 .u32 q0.1.2), some (.ints 186 .u32 q0.2.2), none, none, some (.pin 0 pl0), some (.pin 1 pl1), some (.gen 31 2 [[.bool false, .nil]]), some (.ints 186 .u32 y1.1.2), some (.ints 186 .u32 y1.2.2), some (.gen 31 2 [[.bool false, .nil]])]⟩) : AA 7 #[false, true, true, true, true, true, true, false, false, true, true, true, true, false, false, false, false] ⟨33, [(0, .ptr 0 0 0), (1, .ptr 0 0 0), (2, .ptr 1 0 0), (9, .ptr 8 0 0), (12, .ptr 0 0 0), (14, .ptr 1 0 2), (19, .ptr 1 0 0), (20, .ptr 0 0 0)], [some (.gen 33 4 [[.bool q0.1.1, .own 2 q0.1.2.length, .bool q0.2.1, .own 3 q0.2.2.length]]), some (.gen 33 4 [[.bool y1.1.1, .own 9 y1.1.2.length, .bool y1.2.1, .own 10 y1.2.2.length]]), some (.ints 186 .u32 q0.1.2), some (.ints 186 .u32 q0.2.2), none, none, some (.pin 0 pl0), some (.pin 1 pl1), some (.gen 31 2 [[.bool false, .nil]]), some (.ints 186 .u32 y1.1.2), some (.ints 186 .u32 y1.2.2)]⟩ := (hAA _ _ _).2 (by
  refine AWPB_three 0 7 8 _ _ _ ceg_rotabig_Rat_Add_A_1_43 rfl rfl rfl ?_ ?_ ?_
  ·skip
   refine AWPL_rn tab_ok 1 [0, 1, 2, 7, 8, 9, 12, 14, 15, 16, 19, 20, 21, 22, 23] fun c st' hr => ?_
   simp only [go_sem] at hr
   obtain ⟨rfl, rfl⟩ := hr
   refine ⟨vc, ?_⟩
   refine AWPL_nil ?_
   refine QB_normal ?_
   exact AWPB_wk [0, 1, 2, 3, 4, 5, 6, 7, 11, 8, 9, 10] mkWk ((hAA _ _ _).1 hn8)
  ·skip
   refine AWPL_gs' (gs_ownH 8 1 (.ints 186 .u32 []) rfl rfl rfl) fun st' hr => ?_
   simp only [go_sem, List.cons_append, List.nil_append, List.set_cons_zero, List.set_cons_succ] at hr
   subst hr
   refine AWPL_gS [0, 1, 2, 7, 8, 15, 16, 19, 20, 21, 22, 23] [8, 11] [.ptr 0 0 0, .immp [.bool q0.1.1, .ints .u32 q0.1.2], .immp [.bool y1.2.1, .ints .u32 y1.2.2]] [some (.gen 33 4 [[.bool q0.1.1, .own 2 q0.1.2.length, .bool q0.2.1, .own 3 q0.2.2.length]]), some (.gen 33 4 [[.bool y1.1.1, .own 9 y1.1.2.length, .bool y1.2.1, .own 10 y1.2.2.length]]), some (.ints 186 .u32 q0.1.2), some (.ints 186 .u32 q0.2.2), none, none, some (.pin 0 pl0), some (.pin 1 pl1), some (.gen 31 2 [[.bool y2.1, .own 12 y2.2.length]]), some (.ints 186 .u32 y1.1.2), some (.ints 186 .u32 y1.2.2), none, some (.ints 186 .u32 y2.2)] (r' := .ptr 8 0 0) (W_rotabig_Int_Mul_r hy1) rfl rfl pcT rfl Try.call65 (of_decide_eq_true rfl) ⟨rfl, rfl, trivial⟩ (.ptr 0 rfl (.cons (ArgOk.part (j0 := 0) rfl rfl (of_decide_eq_true rfl) (.cons (.atom _ rfl) (.cons (.ownI _ _ _ _ _ q0.1.2 rfl (by simp) (by first | simp | exact List.take_of_length_le (by simp))) .nil))) (.cons (ArgOk.part (j0 := 2) rfl rfl (of_decide_eq_true rfl) (.cons (.atom _ rfl) (.cons (.ownI _ _ _ _ _ y1.2.2 rfl (by simp) (by first | simp | exact List.take_of_length_le (by simp))) .nil))) .nil))) (hscG trivial) (of_decide_eq_true rfl) rfl rfl rfl (of_decide_eq_true rfl) rfl fun st' hr => ?_
   simp only [go_sem] at hr
   subst hr
   refine AWPL_nil ?_
   refine QB_normal ?_
   exact AWPB_wk [0, 1, 2, 3, 4, 5, 6, 7, 8, 9, 10, 11, 12] mkWk ((hAA _ _ _).1 hn19)
  ·skip
   refine AWPL_rn tab_ok 1 [0, 1, 2, 7, 8, 9, 12, 14, 15, 16, 19, 20, 21, 22, 23] fun c st' hr => ?_
   simp only [go_sem] at hr
   obtain ⟨rfl, rfl⟩ := hr
   refine ⟨vc, ?_⟩
   refine AWPL_nil ?_
   refine QB_normal ?_
   exact AWPB_wk [0, 1, 2, 3, 4, 5, 6, 7, 8, 9, 10, 11] mkWk ((hAA _ _ _).1 hn20))

theorem ceg_rotabig_Rat_Add_A_1_45 : (Region.ready .any reg_rotabig_Rat_Add_A_1.toArray #[false, true, true, true, true, true, false, false, true, true, true, true, true, false, false, false, false] == [0, 6]) = true := by kernel_rfl

theorem J_rotabig_Rat_Add_A_1_hn22 {q0 : (Bool × List Int) × (Bool × List Int)} {q1 : (Bool × List Int) × (Bool × List Int)} {y1 : (Bool × List Int) × (Bool × List Int)} {y2 : Bool × List Int} {y3 : (Bool × List Int) × ((Bool × List Int) × (Bool × List Int))} {y4 : Bool × List Int} {y5 : Bool × List Int} {pl0 : AX.Loc} {pl1 : AX.Loc} (hy : rotabig_Rat_den_B ((q1.1.1, q1.1.2), (q1.2.1, q1.2.2)) = some y1) (hy1 : rotabig_Int_Mul_r q0.1.1 q0.1.2 y1.2.1 y1.2.2 (false, []) = some y2) (hy2 : rotabig_Rat_den_A ((q0.1.1, q0.1.2), (q0.2.1, q0.2.2)) = some y3) (hy3 : rotabig_Int_Mul_r y1.1.1 y1.1.2 y3.1.1 y3.1.2 (false, []) = some y4) (hy4 : rotabig_Int_Add_r y2.1 y2.2 y4.1 y4.2 (false, []) = some y5) {w0 : World} {Q : Exit → St → Prop} {AA : Nat → Array Bool → St → Prop} (hAA : ∀ g L st, AA g L st ↔ AWPB Try.prog w0 reg_rotabig_Rat_Add_A_1.toArray Q g L st) (hn9 : AA 6 #[true, true, true, true, true, true, false, false, true, true, true, true, true, false, false, false, false] ⟨33, [(0, .ptr 0 0 0), (1, .ptr 0 0 0), (2, .ptr 1 0 0), (8, .ptr 8 0 0), (9, .ptr 9 0 0), (12, .ptr 0 0 0), (13, .ptr 1 0 0), (16, .ptr 10 0 0), (19, .ptr 1 0 0), (20, .ptr 0 0 0)], [some (.gen 33 4 [[.bool q0.1.1, .own 2 q0.1.2.length, .bool q0.2.1, .own 3 q0.2.2.length]]), some (.gen 33 4 [[.bool q1.1.1, .own 4 q1.1.2.length, .bool q1.2.1, .own 5 q1.2.2.length]]), some (.ints 186 .u32 q0.1.2), some (.ints 186 .u32 q0.2.2), some (.ints 186 .u32 q1.1.2), some (.ints 186 .u32 q1.2.2), some (.pin 0 pl0), some (.pin 1 pl1), some (.gen 31 2 [[.bool false, .nil]]), some (.gen 31 2 [[.bool false, .nil]]), some (.gen 31 2 [[.bool false, .nil]])]⟩) (hn20 : AA 6 #[false, true, true, true, true, true, true, false, true, true, true, true, true, false, false, false, false] ⟨33, [(0, .ptr 0 0 0), (1, .ptr 0 0 0), (2, .ptr 1 0 0), (9, .ptr 8 0 0), (12, .ptr 0 0 0), (14, .ptr 1 0 2), (16, .ptr 11 0 0), (19, .ptr 1 0 0), (20, .ptr 0 0 0)], [some (.gen 33 4 [[.bool q0.1.1, .own 2 q0.1.2.length, .bool q0.2.1, .own 3 q0.2.2.length]]), some (.gen 33 4 [[.bool y1.1.1, .own 9 y1.1.2.length, .bool y1.2.1, .own 10 y1.2.2.length]]), some (.ints 186 .u32 q0.1.2), some (.ints 186 .u32 q0.2.2), none, none, some (.pin 0 pl0), some (.pin 1 pl1), some (.gen 31 2 [[.bool false, .nil]]), some (.ints 186 .u32 y1.1.2), some (.ints 186 .u32 y1.2.2), some (.gen 31 2 [[.bool false, .nil]])]⟩) : AA 7 #[false, true, true, true, true, true, false, false, true, true, true, true, true, false, false, false, false] ⟨33, [(0, .ptr 0 0 0), (1, .ptr 0 0 0), (2, .ptr 1 0 0), (9, .ptr 8 0 0), (12, .ptr 0 0 0), (13, .ptr 1 0 0), (16, .ptr 9 0 0), (19, .ptr 1 0 0), (20, .ptr 0 0 0)], [some (.gen 33 4 [[.bool q0.1.1, .own 2 q0.1.2.length, .bool q0.2.1, .own 3 q0.2.2.length]]), some (.gen 33 4 [[.bool q1.1.1, .own 4 q1.1.2.length, .bool q1.2.1, .own 5 q1.2.2.length]]), some (.ints 186 .u32 q0.1.2), some (.ints 186 .u32 q0.2.2), some (.ints 186 .u32 q1.1.2), some (.ints 186 .u32 q1.2.2), some (.pin 0 pl0), some (.pin 1 pl1), some (.gen 31 2 [[.bool false, .nil]]), some (.gen 31 2 [[.bool false, .nil]])]⟩ := (hAA _ _ _).2 (by
  refine AWPB_two 0 6 _ _ ceg_rotabig_Rat_Add_A_1_45 rfl rfl ?_ ?_
  ·skip
   refine AWPL_rn tab_ok 1 [0, 1, 2, 7, 8, 9, 12, 13, 14, 15, 16, 19, 20, 21, 22, 23] fun c st' hr => ?_
   simp only [go_sem] at hr
   obtain ⟨rfl, rfl⟩ := hr
   refine ⟨vc, ?_⟩
   refine AWPL_nil ?_
   refine QB_normal ?_
   exact AWPB_wk [0, 1, 2, 3, 4, 5, 6, 7, 10, 8, 9] mkWk ((hAA _ _ _).1 hn9)
  ·skip
   refine AWPL_gR [0, 1, 2, 7, 8, 9, 12, 14, 15, 16, 19, 20, 21, 22, 23] [1, 4, 5] [.ptr 0 0 0] [some (.gen 33 4 [[.bool q0.1.1, .own 2 q0.1.2.length, .bool q0.2.1, .own 3 q0.2.2.length]]), some (.gen 33 4 [[.bool y1.1.1, .own 10 y1.1.2.length, .bool y1.2.1, .own 11 y1.2.2.length]]), some (.ints 186 .u32 q0.1.2), some (.ints 186 .u32 q0.2.2), none, none, some (.pin 0 pl0), some (.pin 1 pl1), some (.gen 31 2 [[.bool false, .nil]]), some (.gen 31 2 [[.bool false, .nil]]), some (.ints 186 .u32 y1.1.2), some (.ints 186 .u32 y1.2.2)] (r' := .ptr 1 0 2) (W_rotabig_Rat_den_B hy) rfl rfl pcT rfl Try.call66 (of_decide_eq_true rfl) ⟨rfl, rfl, rfl, trivial⟩ rfl (hscG trivial) (of_decide_eq_true rfl) rfl rfl rfl (of_decide_eq_true rfl) rfl fun st' hr => ?_
   simp only [go_sem] at hr
   subst hr
   refine AWPL_nil ?_
   refine QB_normal ?_
   exact AWPB_wk [0, 1, 2, 3, 4, 5, 6, 7, 8, 10, 11, 9] mkWk ((hAA _ _ _).1 hn20))

theorem ceg_rotabig_Rat_Add_A_1_47 : (Region.ready .any reg_rotabig_Rat_Add_A_1.toArray #[false, true, true, true, true, true, false, false, false, true, true, true, true, false, false, false, false] == [0, 6, 8]) = true := by kernel_rfl

theorem J_rotabig_Rat_Add_A_1_hn23 {q0 : (Bool × List Int) × (Bool × List Int)} {q1 : (Bool × List Int) × (Bool × List Int)} {y1 : (Bool × List Int) × (Bool × List Int)} {y2 : Bool × List Int} {y3 : (Bool × List Int) × ((Bool × List Int) × (Bool × List Int))} {y4 : Bool × List Int} {y5 : Bool × List Int} {pl0 : AX.Loc} {pl1 : AX.Loc} (hy : rotabig_Rat_den_B ((q1.1.1, q1.1.2), (q1.2.1, q1.2.2)) = some y1) (hy1 : rotabig_Int_Mul_r q0.1.1 q0.1.2 y1.2.1 y1.2.2 (false, []) = some y2) (hy2 : rotabig_Rat_den_A ((q0.1.1, q0.1.2), (q0.2.1, q0.2.2)) = some y3) (hy3 : rotabig_Int_Mul_r y1.1.1 y1.1.2 y3.1.1 y3.1.2 (false, []) = some y4) (hy4 : rotabig_Int_Add_r y2.1 y2.2 y4.1 y4.2 (false, []) = some y5) {w0 : World} {Q : Exit → St → Prop} {AA : Nat → Array Bool → St → Prop} (hAA : ∀ g L st, AA g L st ↔ AWPB Try.prog w0 reg_rotabig_Rat_Add_A_1.toArray Q g L st) (hn10 : AA 7 #[true, true, true, true, true, true, false, false, false, true, true, true, true, false, false, false, false] ⟨33, [(0, .ptr 0 0 0), (1, .ptr 0 0 0), (2, .ptr 1 0 0), (8, .ptr 8 0 0), (9, .ptr 9 0 0), (12, .ptr 0 0 0), (13, .ptr 1 0 0), (19, .ptr 1 0 0), (20, .ptr 0 0 0)], [some (.gen 33 4 [[.bool q0.1.1, .own 2 q0.1.2.length, .bool q0.2.1, .own 3 q0.2.2.length]]), some (.gen 33 4 [[.bool q1.1.1, .own 4 q1.1.2.length, .bool q1.2.1, .own 5 q1.2.2.length]]), some (.ints 186 .u32 q0.1.2), some (.ints 186 .u32 q0.2.2), some (.ints 186 .u32 q1.1.2), some (.ints 186 .u32 q1.2.2), some (.pin 0 pl0), some (.pin 1 pl1), some (.gen 31 2 [[.bool false, .nil]]), some (.gen 31 2 [[.bool false, .nil]])]⟩) (hn21 : AA 7 #[false, true, true, true, true, true, true, false, false, true, true, true, true, false, false, false, false] ⟨33, [(0, .ptr 0 0 0), (1, .ptr 0 0 0), (2, .ptr 1 0 0), (9, .ptr 8 0 0), (12, .ptr 0 0 0), (14, .ptr 1 0 2), (19, .ptr 1 0 0), (20, .ptr 0 0 0)], [some (.gen 33 4 [[.bool q0.1.1, .own 2 q0.1.2.length, .bool q0.2.1, .own 3 q0.2.2.length]]), some (.gen 33 4 [[.bool y1.1.1, .own 9 y1.1.2.length, .bool y1.2.1, .own 10 y1.2.2.length]]), some (.ints 186 .u32 q0.1.2), some (.ints 186 .u32 q0.2.2), none, none, some (.pin 0 pl0), some (.pin 1 pl1), some (.gen 31 2 [[.bool false, .nil]]), some (.ints 186 .u32 y1.1.2), some (.ints 186 .u32 y1.2.2)]⟩) (hn22 : AA 7 #[false, true, true, true, true, true, false, false, true, true, true, true, true, false, false, false, false] ⟨33, [(0, .ptr 0 0 0), (1, .ptr 0 0 0), (2, .ptr 1 0 0), (9, .ptr 8 0 0), (12, .ptr 0 0 0), (13, .ptr 1 0 0), (16, .ptr 9 0 0), (19, .ptr 1 0 0), (20, .ptr 0 0 0)], [some (.gen 33 4 [[.bool q0.1.1, .own 2 q0.1.2.length, .bool q0.2.1, .own 3 q0.2.2.length]]), some (.gen 33 4 [[.bool q1.1.1, .own 4 q1.1.2.length, .bool q1.2.1, .own 5 q1.2.2.length]]), some (.ints 186 .u32 q0.1.2), some (.ints 186 .u32 q0.2.2), some (.ints 186 .u32 q1.1.2), some (.ints 186 .u32 q1.2.2), some (.pin 0 pl0), some (.pin 1 pl1), some (.gen 31 2 [[.bool false, .nil]]), some (.gen 31 2 [[.bool false, .nil]])]⟩) : AA 8 #[false, true, true, true, true, true, false, false, false, true, true, true, true, false, false, false, false] ⟨33, [(0, .ptr 0 0 0), (1, .ptr 0 0 0), (2, .ptr 1 0 0), (9, .ptr 8 0 0), (12, .ptr 0 0 0), (13, .ptr 1 0 0), (19, .ptr 1 0 0), (20, .ptr 0 0 0)], [some (.gen 33 4 [[.bool q0.1.1, .own 2 q0.1.2.length, .bool q0.2.1, .own 3 q0.2.2.length]]), some (.gen 33 4 [[.bool q1.1.1, .own 4 q1.1.2.length, .bool q1.2.1, .own 5 q1.2.2.length]]), some (.ints 186 .u32 q0.1.2), some (.ints 186 .u32 q0.2.2), some (.ints 186 .u32 q1.1.2), some (.ints 186 .u32 q1.2.2), some (.pin 0 pl0), some (.pin 1 pl1), some (.gen 31 2 [[.bool false, .nil]])]⟩ := (hAA _ _ _).2 (by
  refine AWPB_three 0 6 8 _ _ _ ceg_rotabig_Rat_Add_A_1_47 rfl rfl rfl ?_ ?_ ?_
  ·skip
   refine AWPL_rn tab_ok 1 [0, 1, 2, 7, 8, 9, 12, 13, 14, 15, 16, 19, 20, 21, 22, 23] fun c st' hr => ?_
   simp only [go_sem] at hr
   obtain ⟨rfl, rfl⟩ := hr
   refine ⟨vc, ?_⟩
   refine AWPL_nil ?_
   refine QB_normal ?_
   exact AWPB_wk [0, 1, 2, 3, 4, 5, 6, 7, 9, 8] mkWk ((hAA _ _ _).1 hn10)
  ·skip
   refine AWPL_gR [0, 1, 2, 7, 8, 9, 12, 14, 15, 16, 19, 20, 21, 22, 23] [1, 4, 5] [.ptr 0 0 0] [some (.gen 33 4 [[.bool q0.1.1, .own 2 q0.1.2.length, .bool q0.2.1, .own 3 q0.2.2.length]]), some (.gen 33 4 [[.bool y1.1.1, .own 9 y1.1.2.length, .bool y1.2.1, .own 10 y1.2.2.length]]), some (.ints 186 .u32 q0.1.2), some (.ints 186 .u32 q0.2.2), none, none, some (.pin 0 pl0), some (.pin 1 pl1), some (.gen 31 2 [[.bool false, .nil]]), some (.ints 186 .u32 y1.1.2), some (.ints 186 .u32 y1.2.2)] (r' := .ptr 1 0 2) (W_rotabig_Rat_den_B hy) rfl rfl pcT rfl Try.call66 (of_decide_eq_true rfl) ⟨rfl, rfl, rfl, trivial⟩ rfl (hscG trivial) (of_decide_eq_true rfl) rfl rfl rfl (of_decide_eq_true rfl) rfl fun st' hr => ?_
   simp only [go_sem] at hr
   subst hr
   refine AWPL_nil ?_
   refine QB_normal ?_
   exact AWPB_wk [0, 1, 2, 3, 4, 5, 6, 7, 8, 9, 10] mkWk ((hAA _ _ _).1 hn21)
  ·skip
   refine AWPL_rn tab_ok 1 [0, 1, 2, 7, 8, 9, 12, 13, 14, 15, 16, 19, 20, 21, 22, 23] fun c st' hr => ?_
   simp only [go_sem] at hr
   obtain ⟨rfl, rfl⟩ := hr
   refine ⟨vc, ?_⟩
   refine AWPL_nil ?_
   refine QB_normal ?_
   exact AWPB_wk [0, 1, 2, 3, 4, 5, 6, 7, 8, 9] mkWk ((hAA _ _ _).1 hn22))

theorem ceg_rotabig_Rat_Add_A_1_49 : (Region.ready .any reg_rotabig_Rat_Add_A_1.toArray #[false, false, true, true, true, true, true, false, true, true, true, true, true, false, false, false, false] == [0, 1]) = true := by kernel_rfl

theorem J_rotabig_Rat_Add_A_1_hn24 {q0 : (Bool × List Int) × (Bool × List Int)} {q1 : (Bool × List Int) × (Bool × List Int)} {y1 : (Bool × List Int) × (Bool × List Int)} {y2 : Bool × List Int} {y3 : (Bool × List Int) × ((Bool × List Int) × (Bool × List Int))} {y4 : Bool × List Int} {y5 : Bool × List Int} {pl0 : AX.Loc} {pl1 : AX.Loc} (hy : rotabig_Rat_den_B ((q1.1.1, q1.1.2), (q1.2.1, q1.2.2)) = some y1) (hy1 : rotabig_Int_Mul_r q0.1.1 q0.1.2 y1.2.1 y1.2.2 (false, []) = some y2) (hy2 : rotabig_Rat_den_A ((q0.1.1, q0.1.2), (q0.2.1, q0.2.2)) = some y3) (hy3 : rotabig_Int_Mul_r y1.1.1 y1.1.2 y3.1.1 y3.1.2 (false, []) = some y4) (hy4 : rotabig_Int_Add_r y2.1 y2.2 y4.1 y4.2 (false, []) = some y5) {w0 : World} {Q : Exit → St → Prop} {AA : Nat → Array Bool → St → Prop} (hAA : ∀ g L st, AA g L st ↔ AWPB Try.prog w0 reg_rotabig_Rat_Add_A_1.toArray Q g L st) (hn11 : AA 6 #[true, false, true, true, true, true, true, false, true, true, true, true, true, false, false, false, false] ⟨33, [(0, .ptr 0 0 0), (1, .ptr 0 0 0), (2, .ptr 1 0 0), (8, .ptr 8 0 0), (12, .ptr 0 0 0), (14, .ptr 1 0 2), (16, .ptr 11 0 0), (19, .ptr 1 0 0), (20, .ptr 0 0 0)], [some (.gen 33 4 [[.bool q0.1.1, .own 2 q0.1.2.length, .bool q0.2.1, .own 3 q0.2.2.length]]), some (.gen 33 4 [[.bool y1.1.1, .own 9 y1.1.2.length, .bool y1.2.1, .own 10 y1.2.2.length]]), some (.ints 186 .u32 q0.1.2), some (.ints 186 .u32 q0.2.2), none, none, some (.pin 0 pl0), some (.pin 1 pl1), some (.gen 31 2 [[.bool false, .nil]]), some (.ints 186 .u32 y1.1.2), some (.ints 186 .u32 y1.2.2), some (.gen 31 2 [[.bool false, .nil]])]⟩) (hn20 : AA 6 #[false, true, true, true, true, true, true, false, true, true, true, true, true, false, false, false, false] ⟨33, [(0, .ptr 0 0 0), (1, .ptr 0 0 0), (2, .ptr 1 0 0), (9, .ptr 8 0 0), (12, .ptr 0 0 0), (14, .ptr 1 0 2), (16, .ptr 11 0 0), (19, .ptr 1 0 0), (20, .ptr 0 0 0)], [some (.gen 33 4 [[.bool q0.1.1, .own 2 q0.1.2.length, .bool q0.2.1, .own 3 q0.2.2.length]]), some (.gen 33 4 [[.bool y1.1.1, .own 9 y1.1.2.length, .bool y1.2.1, .own 10 y1.2.2.length]]), some (.ints 186 .u32 q0.1.2), some (.ints 186 .u32 q0.2.2), none, none, some (.pin 0 pl0), some (.pin 1 pl1), some (.gen 31 2 [[.bool false, .nil]]), some (.ints 186 .u32 y1.1.2), some (.ints 186 .u32 y1.2.2), some (.gen 31 2 [[.bool false, .nil]])]⟩) : AA 7 #[false, false, true, true, true, true, true, false, true, true, true, true, true, false, false, false, false] ⟨33, [(0, .ptr 0 0 0), (1, .ptr 0 0 0), (2, .ptr 1 0 0), (12, .ptr 0 0 0), (14, .ptr 1 0 2), (16, .ptr 10 0 0), (19, .ptr 1 0 0), (20, .ptr 0 0 0)], [some (.gen 33 4 [[.bool q0.1.1, .own 2 q0.1.2.length, .bool q0.2.1, .own 3 q0.2.2.length]]), some (.gen 33 4 [[.bool y1.1.1, .own 8 y1.1.2.length, .bool y1.2.1, .own 9 y1.2.2.length]]), some (.ints 186 .u32 q0.1.2), some (.ints 186 .u32 q0.2.2), none, none, some (.pin 0 pl0), some (.pin 1 pl1), some (.ints 186 .u32 y1.1.2), some (.ints 186 .u32 y1.2.2), some (.gen 31 2 [[.bool false, .nil]])]⟩ := (hAA _ _ _).2 (by
  refine AWPB_two 0 1 _ _ ceg_rotabig_Rat_Add_A_1_49 rfl rfl ?_ ?_
  ·skip
   refine AWPL_rn tab_ok 1 [0, 1, 2, 7, 8, 9, 12, 14, 15, 16, 19, 20, 21, 22, 23] fun c st' hr => ?_
   simp only [go_sem] at hr
   obtain ⟨rfl, rfl⟩ := hr
   refine ⟨vc, ?_⟩
   refine AWPL_nil ?_
   refine QB_normal ?_
   exact AWPB_wk [0, 1, 2, 3, 4, 5, 6, 7, 11, 8, 9, 10] mkWk ((hAA _ _ _).1 hn11)
  ·skip
   refine AWPL_rn tab_ok 1 [0, 1, 2, 7, 8, 9, 12, 14, 15, 16, 19, 20, 21, 22, 23] fun c st' hr => ?_
   simp only [go_sem] at hr
   obtain ⟨rfl, rfl⟩ := hr
   refine ⟨vc, ?_⟩
   refine AWPL_nil ?_
   refine QB_normal ?_
   exact AWPB_wk [0, 1, 2, 3, 4, 5, 6, 7, 11, 8, 9, 10] mkWk ((hAA _ _ _).1 hn20))

theorem ceg_rotabig_Rat_Add_A_1_51 : (Region.ready .any reg_rotabig_Rat_Add_A_1.toArray #[false, false, true, true, true, true, true, false, false, true, true, true, true, false, false, false, false] == [0, 1, 8]) = true := by kernel_rfl

theorem J_rotabig_Rat_Add_A_1_hn25 {q0 : (Bool × List Int) × (Bool × List Int)} {q1 : (Bool × List Int) × (Bool × List Int)} {y1 : (Bool × List Int) × (Bool × List Int)} {y2 : Bool × List Int} {y3 : (Bool × List Int) × ((Bool × List Int) × (Bool × List Int))} {y4 : Bool × List Int} {y5 : Bool × List Int} {pl0 : AX.Loc} {pl1 : AX.Loc} (hy : rotabig_Rat_den_B ((q1.1.1, q1.1.2), (q1.2.1, q1.2.2)) = some y1) (hy1 : rotabig_Int_Mul_r q0.1.1 q0.1.2 y1.2.1 y1.2.2 (false, []) = some y2) (hy2 : rotabig_Rat_den_A ((q0.1.1, q0.1.2), (q0.2.1, q0.2.2)) = some y3) (hy3 : rotabig_Int_Mul_r y1.1.1 y1.1.2 y3.1.1 y3.1.2 (false, []) = some y4) (hy4 : rotabig_Int_Add_r y2.1 y2.2 y4.1 y4.2 (false, []) = some y5) {w0 : World} {Q : Exit → St → Prop} {AA : Nat → Array Bool → St → Prop} (hAA : ∀ g L st, AA g L st ↔ AWPB Try.prog w0 reg_rotabig_Rat_Add_A_1.toArray Q g L st) (hn12 : AA 7 #[true, false, true, true, true, true, true, false, false, true, true, true, true, false, false, false, false] ⟨33, [(0, .ptr 0 0 0), (1, .ptr 0 0 0), (2, .ptr 1 0 0), (8, .ptr 8 0 0), (12, .ptr 0 0 0), (14, .ptr 1 0 2), (19, .ptr 1 0 0), (20, .ptr 0 0 0)], [some (.gen 33 4 [[.bool q0.1.1, .own 2 q0.1.2.length, .bool q0.2.1, .own 3 q0.2.2.length]]), some (.gen 33 4 [[.bool y1.1.1, .own 9 y1.1.2.length, .bool y1.2.1, .own 10 y1.2.2.length]]), some (.ints 186 .u32 q0.1.2), some (.ints 186 .u32 q0.2.2), none, none, some (.pin 0 pl0), some (.pin 1 pl1), some (.gen 31 2 [[.bool false, .nil]]), some (.ints 186 .u32 y1.1.2), some (.ints 186 .u32 y1.2.2)]⟩) (hn21 : AA 7 #[false, true, true, true, true, true, true, false, false, true, true, true, true, false, false, false, false] ⟨33, [(0, .ptr 0 0 0), (1, .ptr 0 0 0), (2, .ptr 1 0 0), (9, .ptr 8 0 0), (12, .ptr 0 0 0), (14, .ptr 1 0 2), (19, .ptr 1 0 0), (20, .ptr 0 0 0)], [some (.gen 33 4 [[.bool q0.1.1, .own 2 q0.1.2.length, .bool q0.2.1, .own 3 q0.2.2.length]]), some (.gen 33 4 [[.bool y1.1.1, .own 9 y1.1.2.length, .bool y1.2.1, .own 10 y1.2.2.length]]), some (.ints 186 .u32 q0.1.2), some (.ints 186 .u32 q0.2.2), none, none, some (.pin 0 pl0), some (.pin 1 pl1), some (.gen 31 2 [[.bool false, .nil]]), some (.ints 186 .u32 y1.1.2), some (.ints 186 .u32 y1.2.2)]⟩) (hn24 : AA 7 #[false, false, true, true, true, true, true, false, true, true, true, true, true, false, false, false, false] ⟨33, [(0, .ptr 0 0 0), (1, .ptr 0 0 0), (2, .ptr 1 0 0), (12, .ptr 0 0 0), (14, .ptr 1 0 2), (16, .ptr 10 0 0), (19, .ptr 1 0 0), (20, .ptr 0 0 0)], [some (.gen 33 4 [[.bool q0.1.1, .own 2 q0.1.2.length, .bool q0.2.1, .own 3 q0.2.2.length]]), some (.gen 33 4 [[.bool y1.1.1, .own 8 y1.1.2.length, .bool y1.2.1, .own 9 y1.2.2.length]]), some (.ints 186 .u32 q0.1.2), some (.ints 186 .u32 q0.2.2), none, none, some (.pin 0 pl0), some (.pin 1 pl1), some (.ints 186 .u32 y1.1.2), some (.ints 186 .u32 y1.2.2), some (.gen 31 2 [[.bool false, .nil]])]⟩) : AA 8 #[false, false, true, true, true, true, true, false, false, true, true, true, true, false, false, false, false] ⟨33, [(0, .ptr 0 0 0), (1, .ptr 0 0 0), (2, .ptr 1 0 0), (12, .ptr 0 0 0), (14, .ptr 1 0 2), (19, .ptr 1 0 0), (20, .ptr 0 0 0)], [some (.gen 33 4 [[.bool q0.1.1, .own 2 q0.1.2.length, .bool q0.2.1, .own 3 q0.2.2.length]]), some (.gen 33 4 [[.bool y1.1.1, .own 8 y1.1.2.length, .bool y1.2.1, .own 9 y1.2.2.length]]), some (.ints 186 .u32 q0.1.2), some (.ints 186 .u32 q0.2.2), none, none, some (.pin 0 pl0), some (.pin 1 pl1), some (.ints 186 .u32 y1.1.2), some (.ints 186 .u32 y1.2.2)]⟩ := (hAA _ _ _).2 (by
  refine AWPB_three 0 1 8 _ _ _ ceg_rotabig_Rat_Add_A_1_51 rfl rfl rfl ?_ ?_ ?_
  ·skip
   refine AWPL_rn tab_ok 1 [0, 1, 2, 7, 8, 9, 12, 14, 15, 16, 19, 20, 21, 22, 23] fun c st' hr => ?_
   simp only [go_sem] at hr
   obtain ⟨rfl, rfl⟩ := hr
   refine ⟨vc, ?_⟩
   refine AWPL_nil ?_
   refine QB_normal ?_
   exact AWPB_wk [0, 1, 2, 3, 4, 5, 6, 7, 10, 8, 9] mkWk ((hAA _ _ _).1 hn12)
  ·skip
   refine AWPL_rn tab_ok 1 [0, 1, 2, 7, 8, 9, 12, 14, 15, 16, 19, 20, 21, 22, 23] fun c st' hr => ?_
   simp only [go_sem] at hr
   obtain ⟨rfl, rfl⟩ := hr
   refine ⟨vc, ?_⟩
   refine AWPL_nil ?_
   refine QB_normal ?_
   exact AWPB_wk [0, 1, 2, 3, 4, 5, 6, 7, 10, 8, 9] mkWk ((hAA _ _ _).1 hn21)
  ·skip
   refine AWPL_rn tab_ok 1 [0, 1, 2, 7, 8, 9, 12, 14, 15, 16, 19, 20, 21, 22, 23] fun c st' hr => ?_
   simp only [go_sem] at hr
   obtain ⟨rfl, rfl⟩ := hr
   refine ⟨vc, ?_⟩
   refine AWPL_nil ?_
   refine QB_normal ?_
   exact AWPB_wk [0, 1, 2, 3, 4, 5, 6, 7, 8, 9, 10] mkWk ((hAA _ _ _).1 hn24))

theorem ceg_rotabig_Rat_Add_A_1_53 : (Region.ready .any reg_rotabig_Rat_Add_A_1.toArray #[false, false, true, true, true, true, false, false, true, true, true, true, true, false, false, false, false] == [0, 1, 6]) = true := by kernel_rfl

theorem J_rotabig_Rat_Add_A_1_hn26 {q0 : (Bool × List Int) × (Bool × List Int)} {q1 : (Bool × List Int) × (Bool × List Int)} {y1 : (Bool × List Int) × (Bool × List Int)} {y2 : Bool × List Int} {y3 : (Bool × List Int) × ((Bool × List Int) × (Bool × List Int))} {y4 : Bool × List Int} {y5 : Bool × List Int} {pl0 : AX.Loc} {pl1 : AX.Loc} (hy : rotabig_Rat_den_B ((q1.1.1, q1.1.2), (q1.2.1, q1.2.2)) = some y1) (hy1 : rotabig_Int_Mul_r q0.1.1 q0.1.2 y1.2.1 y1.2.2 (false, []) = some y2) (hy2 : rotabig_Rat_den_A ((q0.1.1, q0.1.2), (q0.2.1, q0.2.2)) = some y3) (hy3 : rotabig_Int_Mul_r y1.1.1 y1.1.2 y3.1.1 y3.1.2 (false, []) = some y4) (hy4 : rotabig_Int_Add_r y2.1 y2.2 y4.1 y4.2 (false, []) = some y5) {w0 : World} {Q : Exit → St → Prop} {AA : Nat → Array Bool → St → Prop} (hAA : ∀ g L st, AA g L st ↔ AWPB Try.prog w0 reg_rotabig_Rat_Add_A_1.toArray Q g L st) (hn13 : AA 7 #[true, false, true, true, true, true, false, false, true, true, true, true, true, false, false, false, false] ⟨33, [(0, .ptr 0 0 0), (1, .ptr 0 0 0), (2, .ptr 1 0 0), (8, .ptr 8 0 0), (12, .ptr 0 0 0), (13, .ptr 1 0 0), (16, .ptr 9 0 0), (19, .ptr 1 0 0), (20, .ptr 0 0 0)], [some (.gen 33 4 [[.bool q0.1.1, .own 2 q0.1.2.length, .bool q0.2.1, .own 3 q0.2.2.length]]), some (.gen 33 4 [[.bool q1.1.1, .own 4 q1.1.2.length, .bool q1.2.1, .own 5 q1.2.2.length]]), some (.ints 186 .u32 q0.1.2), some (.ints 186 .u32 q0.2.2), some (.ints 186 .u32 q1.1.2), some (.ints 186 .u32 q1.2.2), some (.pin 0 pl0), some (.pin 1 pl1), some (.gen 31 2 [[.bool false, .nil]]), some (.gen 31 2 [[.bool false, .nil]])]⟩) (hn22 : AA 7 #[false, true, true, true, true, true, false, false, true, true, true, true, true, false, false, false, false] ⟨33, [(0, .ptr 0 0 0), (1, .ptr 0 0 0), (2, .ptr 1 0 0), (9, .ptr 8 0 0), (12, .ptr 0 0 0), (13, .ptr 1 0 0), (16, .ptr 9 0 0), (19, .ptr 1 0 0), (20, .ptr 0 0 0)], [some (.gen 33 4 [[.bool q0.1.1, .own 2 q0.1.2.length, .bool q0.2.1, .own 3 q0.2.2.length]]), some (.gen 33 4 [[.bool q1.1.1, .own 4 q1.1.2.length, .bool q1.2.1, .own 5 q1.2.2.length]]), some (.ints 186 .u32 q0.1.2), some (.ints 186 .u32 q0.2.2), some (.ints 186 .u32 q1.1.2), some (.ints 186 .u32 q1.2.2), some (.pin 0 pl0), some (.pin 1 pl1), some (.gen 31 2 [[.bool false, .nil]]), some (.gen 31 2 [[.bool false, .nil]])]⟩) (hn24 : AA 7 #[false, false, true, true, true, true, true, false, true, true, true, true, true, false, false, false, false] ⟨33, [(0, .ptr 0 0 0), (1, .ptr 0 0 0), (2, .ptr 1 0 0), (12, .ptr 0 0 0), (14, .ptr 1 0 2), (16, .ptr 10 0 0), (19, .ptr 1 0 0), (20, .ptr 0 0 0)], [some (.gen 33 4 [[.bool q0.1.1, .own 2 q0.1.2.length, .bool q0.2.1, .own 3 q0.2.2.length]]), some (.gen 33 4 [[.bool y1.1.1, .own 8 y1.1.2.length, .bool y1.2.1, .own 9 y1.2.2.length]]), some (.ints 186 .u32 q0.1.2), some (.ints 186 .u32 q0.2.2), none, none, some (.pin 0 pl0), some (.pin 1 pl1), some (.ints 186 .u32 y1.1.2), some (.ints 186 .u32 y1.2.2), some (.gen 31 2 [[.bool false, .nil]])]⟩) : AA 8 #[false, false, true, true, true, true, false, false, true, true, true, true, true, false, false, false, false] ⟨33, [(0, .ptr 0 0 0), (1, .ptr 0 0 0), (2, .ptr 1 0 0), (12, .ptr 0 0 0), (13, .ptr 1 0 0), (16, .ptr 8 0 0), (19, .ptr 1 0 0), (20, .ptr 0 0 0)], [some (.gen 33 4 [[.bool q0.1.1, .own 2 q0.1.2.length, .bool q0.2.1, .own 3 q0.2.2.length]]), some (.gen 33 4 [[.bool q1.1.1, .own 4 q1.1.2.length, .bool q1.2.1, .own 5 q1.2.2.length]]), some (.ints 186 .u32 q0.1.2), some (.ints 186 .u32 q0.2.2), some (.ints 186 .u32 q1.1.2), some (.ints 186 .u32 q1.2.2), some (.pin 0 pl0), some (.pin 1 pl1), some (.gen 31 2 [[.bool false, .nil]])]⟩ := (hAA _ _ _).2 (by
  refine AWPB_three 0 1 6 _ _ _ ceg_rotabig_Rat_Add_A_1_53 rfl rfl rfl ?_ ?_ ?_
  ·skip
   refine AWPL_rn tab_ok 1 [0, 1, 2, 7, 8, 9, 12, 13, 14, 15, 16, 19, 20, 21, 22, 23] fun c st' hr => ?_
   simp only [go_sem] at hr
   obtain ⟨rfl, rfl⟩ := hr
   refine ⟨vc, ?_⟩
   refine AWPL_nil ?_
   refine QB_normal ?_
   exact AWPB_wk [0, 1, 2, 3, 4, 5, 6, 7, 9, 8] mkWk ((hAA _ _ _).1 hn13)
  ·skip
   refine AWPL_rn tab_ok 1 [0, 1, 2, 7, 8, 9, 12, 13, 14, 15, 16, 19, 20, 21, 22, 23] fun c st' hr => ?_
   simp only [go_sem] at hr
   obtain ⟨rfl, rfl⟩ := hr
   refine ⟨vc, ?_⟩
   refine AWPL_nil ?_
   refine QB_normal ?_
   exact AWPB_wk [0, 1, 2, 3, 4, 5, 6, 7, 9, 8] mkWk ((hAA _ _ _).1 hn22)
  ·skip
   refine AWPL_gR [0, 1, 2, 7, 8, 9, 12, 14, 15, 16, 19, 20, 21, 22, 23] [1, 4, 5] [.ptr 0 0 0] [some (.gen 33 4 [[.bool q0.1.1, .own 2 q0.1.2.length, .bool q0.2.1, .own 3 q0.2.2.length]]), some (.gen 33 4 [[.bool y1.1.1, .own 9 y1.1.2.length, .bool y1.2.1, .own 10 y1.2.2.length]]), some (.ints 186 .u32 q0.1.2), some (.ints 186 .u32 q0.2.2), none, none, some (.pin 0 pl0), some (.pin 1 pl1), some (.gen 31 2 [[.bool false, .nil]]), some (.ints 186 .u32 y1.1.2), some (.ints 186 .u32 y1.2.2)] (r' := .ptr 1 0 2) (W_rotabig_Rat_den_B hy) rfl rfl pcT rfl Try.call66 (of_decide_eq_true rfl) ⟨rfl, rfl, rfl, trivial⟩ rfl (hscG trivial) (of_decide_eq_true rfl) rfl rfl rfl (of_decide_eq_true rfl) rfl fun st' hr => ?_
   simp only [go_sem] at hr
   subst hr
   refine AWPL_nil ?_
   refine QB_normal ?_
   exact AWPB_wk [0, 1, 2, 3, 4, 5, 6, 7, 9, 10, 8] mkWk ((hAA _ _ _).1 hn24))

theorem ceg_rotabig_Rat_Add_A_1_55 : (Region.ready .any reg_rotabig_Rat_Add_A_1.toArray #[false, false, true, true, true, true, false, false, false, true, true, true, true, false, false, false, false] == [0, 1, 6, 8]) = true := by kernel_rfl

theorem J_rotabig_Rat_Add_A_1_hn27 {q0 : (Bool × List Int) × (Bool × List Int)} {q1 : (Bool × List Int) × (Bool × List Int)} {y1 : (Bool × List Int) × (Bool × List Int)} {y2 : Bool × List Int} {y3 : (Bool × List Int) × ((Bool × List Int) × (Bool × List Int))} {y4 : Bool × List Int} {y5 : Bool × List Int} {pl0 : AX.Loc} {pl1 : AX.Loc} (hy : rotabig_Rat_den_B ((q1.1.1, q1.1.2), (q1.2.1, q1.2.2)) = some y1) (hy1 : rotabig_Int_Mul_r q0.1.1 q0.1.2 y1.2.1 y1.2.2 (false, []) = some y2) (hy2 : rotabig_Rat_den_A ((q0.1.1, q0.1.2), (q0.2.1, q0.2.2)) = some y3) (hy3 : rotabig_Int_Mul_r y1.1.1 y1.1.2 y3.1.1 y3.1.2 (false, []) = some y4) (hy4 : rotabig_Int_Add_r y2.1 y2.2 y4.1 y4.2 (false, []) = some y5) {w0 : World} {Q : Exit → St → Prop} {AA : Nat → Array Bool → St → Prop} (hAA : ∀ g L st, AA g L st ↔ AWPB Try.prog w0 reg_rotabig_Rat_Add_A_1.toArray Q g L st) (hn14 : AA 8 #[true, false, true, true, true, true, false, false, false, true, true, true, true, false, false, false, false] ⟨33, [(0, .ptr 0 0 0), (1, .ptr 0 0 0), (2, .ptr 1 0 0), (8, .ptr 8 0 0), (12, .ptr 0 0 0), (13, .ptr 1 0 0), (19, .ptr 1 0 0), (20, .ptr 0 0 0)], [some (.gen 33 4 [[.bool q0.1.1, .own 2 q0.1.2.length, .bool q0.2.1, .own 3 q0.2.2.length]]), some (.gen 33 4 [[.bool q1.1.1, .own 4 q1.1.2.length, .bool q1.2.1, .own 5 q1.2.2.length]]), some (.ints 186 .u32 q0.1.2), some (.ints 186 .u32 q0.2.2), some (.ints 186 .u32 q1.1.2), some (.ints 186 .u32 q1.2.2), some (.pin 0 pl0), some (.pin 1 pl1), some (.gen 31 2 [[.bool false, .nil]])]⟩) (hn23 : AA 8 #[false, true, true, true, true, true, false, false, false, true, true, true, true, false, false, false, false] ⟨33, [(0, .ptr 0 0 0), (1, .ptr 0 0 0), (2, .ptr 1 0 0), (9, .ptr 8 0 0), (12, .ptr 0 0 0), (13, .ptr 1 0 0), (19, .ptr 1 0 0), (20, .ptr 0 0 0)], [some (.gen 33 4 [[.bool q0.1.1, .own 2 q0.1.2.length, .bool q0.2.1, .own 3 q0.2.2.length]]), some (.gen 33 4 [[.bool q1.1.1, .own 4 q1.1.2.length, .bool q1.2.1, .own 5 q1.2.2.length]]), some (.ints 186 .u32 q0.1.2), some (.ints 186 .u32 q0.2.2), some (.ints 186 .u32 q1.1.2), some (.ints 186 .u32 q1.2.2), some (.pin 0 pl0), some (.pin 1 pl1), some (.gen 31 2 [[.bool false, .nil]])]⟩) (hn25 : AA 8 #[false, false, true, true, true, true, true, false, false, true, true, true, true, false, false, false, false] ⟨33, [(0, .ptr 0 0 0), (1, .ptr 0 0 0), (2, .ptr 1 0 0), (12, .ptr 0 0 0), (14, .ptr 1 0 2), (19, .ptr 1 0 0), (20, .ptr 0 0 0)], [some (.gen 33 4 [[.bool q0.1.1, .own 2 q0.1.2.length, .bool q0.2.1, .own 3 q0.2.2.length]]), some (.gen 33 4 [[.bool y1.1.1, .own 8 y1.1.2.length, .bool y1.2.1, .own 9 y1.2.2.length]]), some (.ints 186 .u32 q0.1.2), some (.ints 186 .u32 q0.2.2), none, none, some (.pin 0 pl0), some (.pin 1 pl1), some (.ints 186 .u32 y1.1.2), some (.ints 186 .u32 y1.2.2)]⟩) (hn26 : AA 8 #[false, false, true, true, true, true, false, false, true, true, true, true, true, false, false, false, false] ⟨33, [(0, .ptr 0 0 0), (1, .ptr 0 0 0), (2, .ptr 1 0 0), (12, .ptr 0 0 0), (13, .ptr 1 0 0), (16, .ptr 8 0 0), (19, .ptr 1 0 0), (20, .ptr 0 0 0)], [some (.gen 33 4 [[.bool q0.1.1, .own 2 q0.1.2.length, .bool q0.2.1, .own 3 q0.2.2.length]]), some (.gen 33 4 [[.bool q1.1.1, .own 4 q1.1.2.length, .bool q1.2.1, .own 5 q1.2.2.length]]), some (.ints 186 .u32 q0.1.2), some (.ints 186 .u32 q0.2.2), some (.ints 186 .u32 q1.1.2), some (.ints 186 .u32 q1.2.2), some (.pin 0 pl0), some (.pin 1 pl1), some (.gen 31 2 [[.bool false, .nil]])]⟩) : AA 9 #[false, false, true, true, true, true, false, false, false, true, true, true, true, false, false, false, false] ⟨33, [(0, .ptr 0 0 0), (1, .ptr 0 0 0), (2, .ptr 1 0 0), (12, .ptr 0 0 0), (13, .ptr 1 0 0), (19, .ptr 1 0 0), (20, .ptr 0 0 0)], [some (.gen 33 4 [[.bool q0.1.1, .own 2 q0.1.2.length, .bool q0.2.1, .own 3 q0.2.2.length]]), some (.gen 33 4 [[.bool q1.1.1, .own 4 q1.1.2.length, .bool q1.2.1, .own 5 q1.2.2.length]]), some (.ints 186 .u32 q0.1.2), some (.ints 186 .u32 q0.2.2), some (.ints 186 .u32 q1.1.2), some (.ints 186 .u32 q1.2.2), some (.pin 0 pl0), some (.pin 1 pl1)]⟩ := (hAA _ _ _).2 (by
  refine AWPB_four 0 1 6 8 _ _ _ _ ceg_rotabig_Rat_Add_A_1_55 rfl rfl rfl rfl ?_ ?_ ?_ ?_
  ·skip
   refine AWPL_rn tab_ok 1 [0, 1, 2, 7, 8, 9, 12, 13, 14, 15, 16, 19, 20, 21, 22, 23] fun c st' hr => ?_
   simp only [go_sem] at hr
   obtain ⟨rfl, rfl⟩ := hr
   refine ⟨vc, ?_⟩
   refine AWPL_nil ?_
   refine QB_normal ?_
   exact AWPB_wk [0, 1, 2, 3, 4, 5, 6, 7, 8] mkWk ((hAA _ _ _).1 hn14)
  ·skip
   refine AWPL_rn tab_ok 1 [0, 1, 2, 7, 8, 9, 12, 13, 14, 15, 16, 19, 20, 21, 22, 23] fun c st' hr => ?_
   simp only [go_sem] at hr
   obtain ⟨rfl, rfl⟩ := hr
   refine ⟨vc, ?_⟩
   refine AWPL_nil ?_
   refine QB_normal ?_
   exact AWPB_wk [0, 1, 2, 3, 4, 5, 6, 7, 8] mkWk ((hAA _ _ _).1 hn23)
  ·skip
   refine AWPL_gR [0, 1, 2, 7, 8, 9, 12, 14, 15, 16, 19, 20, 21, 22, 23] [1, 4, 5] [.ptr 0 0 0] [some (.gen 33 4 [[.bool q0.1.1, .own 2 q0.1.2.length, .bool q0.2.1, .own 3 q0.2.2.length]]), some (.gen 33 4 [[.bool y1.1.1, .own 8 y1.1.2.length, .bool y1.2.1, .own 9 y1.2.2.length]]), some (.ints 186 .u32 q0.1.2), some (.ints 186 .u32 q0.2.2), none, none, some (.pin 0 pl0), some (.pin 1 pl1), some (.ints 186 .u32 y1.1.2), some (.ints 186 .u32 y1.2.2)] (r' := .ptr 1 0 2) (W_rotabig_Rat_den_B hy) rfl rfl pcT rfl Try.call66 (of_decide_eq_true rfl) ⟨rfl, rfl, rfl, trivial⟩ rfl (hscG trivial) (of_decide_eq_true rfl) rfl rfl rfl (of_decide_eq_true rfl) rfl fun st' hr => ?_
   simp only [go_sem] at hr
   subst hr
   refine AWPL_nil ?_
   refine QB_normal ?_
   exact AWPB_wk [0, 1, 2, 3, 4, 5, 6, 7, 8, 9] mkWk ((hAA _ _ _).1 hn25)
  ·skip
   refine AWPL_rn tab_ok 1 [0, 1, 2, 7, 8, 9, 12, 13, 14, 15, 16, 19, 20, 21, 22, 23] fun c st' hr => ?_
   simp only [go_sem] at hr
   obtain ⟨rfl, rfl⟩ := hr
   refine ⟨vc, ?_⟩
   refine AWPL_nil ?_
   refine QB_normal ?_
   exact AWPB_wk [0, 1, 2, 3, 4, 5, 6, 7, 8] mkWk ((hAA _ _ _).1 hn26))

theorem ceg_rotabig_Rat_Add_A_1_57 : (Region.noSelect reg_rotabig_Rat_Add_A_1.toArray && Region.free .any reg_rotabig_Rat_Add_A_1.toArray #[false, false, true, true, true, true, false, false, false, true, true, true, false, false, false, false, false] 12 && (Region.ready .any reg_rotabig_Rat_Add_A_1.toArray #[false, false, true, true, true, true, false, false, false, true, true, true, false, false, false, false, false]).contains 12) = true := by kernel_rfl

theorem J_rotabig_Rat_Add_A_1_hn28 {q0 : (Bool × List Int) × (Bool × List Int)} {q1 : (Bool × List Int) × (Bool × List Int)} {y1 : (Bool × List Int) × (Bool × List Int)} {y2 : Bool × List Int} {y3 : (Bool × List Int) × ((Bool × List Int) × (Bool × List Int))} {y4 : Bool × List Int} {y5 : Bool × List Int} {pl0 : AX.Loc} {pl1 : AX.Loc} (hy : rotabig_Rat_den_B ((q1.1.1, q1.1.2), (q1.2.1, q1.2.2)) = some y1) (hy1 : rotabig_Int_Mul_r q0.1.1 q0.1.2 y1.2.1 y1.2.2 (false, []) = some y2) (hy2 : rotabig_Rat_den_A ((q0.1.1, q0.1.2), (q0.2.1, q0.2.2)) = some y3) (hy3 : rotabig_Int_Mul_r y1.1.1 y1.1.2 y3.1.1 y3.1.2 (false, []) = some y4) (hy4 : rotabig_Int_Add_r y2.1 y2.2 y4.1 y4.2 (false, []) = some y5) {w0 : World} {Q : Exit → St → Prop} {AA : Nat → Array Bool → St → Prop} (hAA : ∀ g L st, AA g L st ↔ AWPB Try.prog w0 reg_rotabig_Rat_Add_A_1.toArray Q g L st) (hn27 : AA 9 #[false, false, true, true, true, true, false, false, false, true, true, true, true, false, false, false, false] ⟨33, [(0, .ptr 0 0 0), (1, .ptr 0 0 0), (2, .ptr 1 0 0), (12, .ptr 0 0 0), (13, .ptr 1 0 0), (19, .ptr 1 0 0), (20, .ptr 0 0 0)], [some (.gen 33 4 [[.bool q0.1.1, .own 2 q0.1.2.length, .bool q0.2.1, .own 3 q0.2.2.length]]), some (.gen 33 4 [[.bool q1.1.1, .own 4 q1.1.2.length, .bool q1.2.1, .own 5 q1.2.2.length]]), some (.ints 186 .u32 q0.1.2), some (.ints 186 .u32 q0.2.2), some (.ints 186 .u32 q1.1.2), some (.ints 186 .u32 q1.2.2), some (.pin 0 pl0), some (.pin 1 pl1)]⟩) : AA 10 #[false, false, true, true, true, true, false, false, false, true, true, true, false, false, false, false, false] ⟨33, [(0, .ptr 0 0 0), (1, .ptr 0 0 0), (2, .ptr 1 0 0), (12, .ptr 0 0 0), (13, .ptr 1 0 0), (19, .ptr 1 0 0)], [some (.gen 33 4 [[.bool q0.1.1, .own 2 q0.1.2.length, .bool q0.2.1, .own 3 q0.2.2.length]]), some (.gen 33 4 [[.bool q1.1.1, .own 4 q1.1.2.length, .bool q1.2.1, .own 5 q1.2.2.length]]), some (.ints 186 .u32 q0.1.2), some (.ints 186 .u32 q0.2.2), some (.ints 186 .u32 q1.1.2), some (.ints 186 .u32 q1.2.2), some (.pin 0 pl0), some (.pin 1 pl1)]⟩ := (hAA _ _ _).2 (by
  refine AWPB_take2 tab_ok [0, 1, 2, 7, 8, 9, 12, 13, 14, 15, 16, 19, 20, 21, 22, 23] 12 _ rfl rfl rfl ceg_rotabig_Rat_Add_A_1_57 fun c st' hr => ?_
  simp only [go_sem] at hr
  obtain ⟨rfl, rfl⟩ := hr
  refine ⟨vc, ?_⟩
  exact AWPB_wk [0, 1, 2, 3, 4, 5, 6, 7] mkWk ((hAA _ _ _).1 hn27))

theorem ceg_rotabig_Rat_Add_A_1_59 : (Region.noSelect reg_rotabig_Rat_Add_A_1.toArray && Region.free .any reg_rotabig_Rat_Add_A_1.toArray #[false, false, true, true, true, true, false, false, false, true, true, false, false, false, false, false, false] 11 && (Region.ready .any reg_rotabig_Rat_Add_A_1.toArray #[false, false, true, true, true, true, false, false, false, true, true, false, false, false, false, false, false]).contains 11) = true := by kernel_rfl

theorem J_rotabig_Rat_Add_A_1_hn29 {q0 : (Bool × List Int) × (Bool × List Int)} {q1 : (Bool × List Int) × (Bool × List Int)} {y1 : (Bool × List Int) × (Bool × List Int)} {y2 : Bool × List Int} {y3 : (Bool × List Int) × ((Bool × List Int) × (Bool × List Int))} {y4 : Bool × List Int} {y5 : Bool × List Int} {pl0 : AX.Loc} {pl1 : AX.Loc} (hy : rotabig_Rat_den_B ((q1.1.1, q1.1.2), (q1.2.1, q1.2.2)) = some y1) (hy1 : rotabig_Int_Mul_r q0.1.1 q0.1.2 y1.2.1 y1.2.2 (false, []) = some y2) (hy2 : rotabig_Rat_den_A ((q0.1.1, q0.1.2), (q0.2.1, q0.2.2)) = some y3) (hy3 : rotabig_Int_Mul_r y1.1.1 y1.1.2 y3.1.1 y3.1.2 (false, []) = some y4) (hy4 : rotabig_Int_Add_r y2.1 y2.2 y4.1 y4.2 (false, []) = some y5) {w0 : World} {Q : Exit → St → Prop} {AA : Nat → Array Bool → St → Prop} (hAA : ∀ g L st, AA g L st ↔ AWPB Try.prog w0 reg_rotabig_Rat_Add_A_1.toArray Q g L st) (hn28 : AA 10 #[false, false, true, true, true, true, false, false, false, true, true, true, false, false, false, false, false] ⟨33, [(0, .ptr 0 0 0), (1, .ptr 0 0 0), (2, .ptr 1 0 0), (12, .ptr 0 0 0), (13, .ptr 1 0 0), (19, .ptr 1 0 0)], [some (.gen 33 4 [[.bool q0.1.1, .own 2 q0.1.2.length, .bool q0.2.1, .own 3 q0.2.2.length]]), some (.gen 33 4 [[.bool q1.1.1, .own 4 q1.1.2.length, .bool q1.2.1, .own 5 q1.2.2.length]]), some (.ints 186 .u32 q0.1.2), some (.ints 186 .u32 q0.2.2), some (.ints 186 .u32 q1.1.2), some (.ints 186 .u32 q1.2.2), some (.pin 0 pl0), some (.pin 1 pl1)]⟩) : AA 11 #[false, false, true, true, true, true, false, false, false, true, true, false, false, false, false, false, false] ⟨33, [(0, .ptr 0 0 0), (1, .ptr 0 0 0), (2, .ptr 1 0 0), (12, .ptr 0 0 0), (13, .ptr 1 0 0), (18, .ptr 1 0 0)], [some (.gen 33 4 [[.bool q0.1.1, .own 2 q0.1.2.length, .bool q0.2.1, .own 3 q0.2.2.length]]), some (.gen 33 4 [[.bool q1.1.1, .own 4 q1.1.2.length, .bool q1.2.1, .own 5 q1.2.2.length]]), some (.ints 186 .u32 q0.1.2), some (.ints 186 .u32 q0.2.2), some (.ints 186 .u32 q1.1.2), some (.ints 186 .u32 q1.2.2), some (.pin 0 pl0), some (.pin 1 pl1)]⟩ := (hAA _ _ _).2 (by
  refine AWPB_take2 tab_ok [0, 1, 2, 7, 8, 9, 12, 13, 14, 15, 16, 19, 20, 21, 22, 23] 11 _ rfl rfl rfl ceg_rotabig_Rat_Add_A_1_59 fun c st' hr => ?_
  simp only [go_sem] at hr
  obtain ⟨rfl, rfl⟩ := hr
  refine ⟨vc, ?_⟩
  exact AWPB_wk [0, 1, 2, 3, 4, 5, 6, 7] mkWk ((hAA _ _ _).1 hn28))

theorem ceg_rotabig_Rat_Add_A_1_61 : (Region.noSelect reg_rotabig_Rat_Add_A_1.toArray && Region.free .any reg_rotabig_Rat_Add_A_1.toArray #[false, false, true, true, true, true, false, false, false, true, false, false, false, false, false, false, false] 10 && (Region.ready .any reg_rotabig_Rat_Add_A_1.toArray #[false, false, true, true, true, true, false, false, false, true, false, false, false, false, false, false, false]).contains 10) = true := by kernel_rfl

theorem J_rotabig_Rat_Add_A_1_hn30 {q0 : (Bool × List Int) × (Bool × List Int)} {q1 : (Bool × List Int) × (Bool × List Int)} {y1 : (Bool × List Int) × (Bool × List Int)} {y2 : Bool × List Int} {y3 : (Bool × List Int) × ((Bool × List Int) × (Bool × List Int))} {y4 : Bool × List Int} {y5 : Bool × List Int} {pl0 : AX.Loc} {pl1 : AX.Loc} (hy : rotabig_Rat_den_B ((q1.1.1, q1.1.2), (q1.2.1, q1.2.2)) = some y1) (hy1 : rotabig_Int_Mul_r q0.1.1 q0.1.2 y1.2.1 y1.2.2 (false, []) = some y2) (hy2 : rotabig_Rat_den_A ((q0.1.1, q0.1.2), (q0.2.1, q0.2.2)) = some y3) (hy3 : rotabig_Int_Mul_r y1.1.1 y1.1.2 y3.1.1 y3.1.2 (false, []) = some y4) (hy4 : rotabig_Int_Add_r y2.1 y2.2 y4.1 y4.2 (false, []) = some y5) {w0 : World} {Q : Exit → St → Prop} {AA : Nat → Array Bool → St → Prop} (hAA : ∀ g L st, AA g L st ↔ AWPB Try.prog w0 reg_rotabig_Rat_Add_A_1.toArray Q g L st) (hn29 : AA 11 #[false, false, true, true, true, true, false, false, false, true, true, false, false, false, false, false, false] ⟨33, [(0, .ptr 0 0 0), (1, .ptr 0 0 0), (2, .ptr 1 0 0), (12, .ptr 0 0 0), (13, .ptr 1 0 0), (18, .ptr 1 0 0)], [some (.gen 33 4 [[.bool q0.1.1, .own 2 q0.1.2.length, .bool q0.2.1, .own 3 q0.2.2.length]]), some (.gen 33 4 [[.bool q1.1.1, .own 4 q1.1.2.length, .bool q1.2.1, .own 5 q1.2.2.length]]), some (.ints 186 .u32 q0.1.2), some (.ints 186 .u32 q0.2.2), some (.ints 186 .u32 q1.1.2), some (.ints 186 .u32 q1.2.2), some (.pin 0 pl0), some (.pin 1 pl1)]⟩) : AA 12 #[false, false, true, true, true, true, false, false, false, true, false, false, false, false, false, false, false] ⟨33, [(0, .ptr 0 0 0), (1, .ptr 0 0 0), (2, .ptr 1 0 0), (12, .ptr 0 0 0), (13, .ptr 1 0 0), (17, .ptr 1 0 0)], [some (.gen 33 4 [[.bool q0.1.1, .own 2 q0.1.2.length, .bool q0.2.1, .own 3 q0.2.2.length]]), some (.gen 33 4 [[.bool q1.1.1, .own 4 q1.1.2.length, .bool q1.2.1, .own 5 q1.2.2.length]]), some (.ints 186 .u32 q0.1.2), some (.ints 186 .u32 q0.2.2), some (.ints 186 .u32 q1.1.2), some (.ints 186 .u32 q1.2.2), some (.pin 0 pl0), some (.pin 1 pl1)]⟩ := (hAA _ _ _).2 (by
  refine AWPB_take2 tab_ok [0, 1, 2, 7, 8, 9, 12, 13, 14, 15, 16, 18, 19, 20, 21, 22, 23] 10 _ rfl rfl rfl ceg_rotabig_Rat_Add_A_1_61 fun c st' hr => ?_
  simp only [go_sem] at hr
  obtain ⟨rfl, rfl⟩ := hr
  refine ⟨vc, ?_⟩
  exact AWPB_wk [0, 1, 2, 3, 4, 5, 6, 7] mkWk ((hAA _ _ _).1 hn29))

theorem ceg_rotabig_Rat_Add_A_1_63 : (Region.noSelect reg_rotabig_Rat_Add_A_1.toArray && Region.free .any reg_rotabig_Rat_Add_A_1.toArray #[false, false, true, true, true, true, false, false, false, false, false, false, false, false, false, false, false] 9 && (Region.ready .any reg_rotabig_Rat_Add_A_1.toArray #[false, false, true, true, true, true, false, false, false, false, false, false, false, false, false, false, false]).contains 9) = true := by kernel_rfl

theorem J_rotabig_Rat_Add_A_1_hn31 {q0 : (Bool × List Int) × (Bool × List Int)} {q1 : (Bool × List Int) × (Bool × List Int)} {y1 : (Bool × List Int) × (Bool × List Int)} {y2 : Bool × List Int} {y3 : (Bool × List Int) × ((Bool × List Int) × (Bool × List Int))} {y4 : Bool × List Int} {y5 : Bool × List Int} {pl0 : AX.Loc} {pl1 : AX.Loc} (hy : rotabig_Rat_den_B ((q1.1.1, q1.1.2), (q1.2.1, q1.2.2)) = some y1) (hy1 : rotabig_Int_Mul_r q0.1.1 q0.1.2 y1.2.1 y1.2.2 (false, []) = some y2) (hy2 : rotabig_Rat_den_A ((q0.1.1, q0.1.2), (q0.2.1, q0.2.2)) = some y3) (hy3 : rotabig_Int_Mul_r y1.1.1 y1.1.2 y3.1.1 y3.1.2 (false, []) = some y4) (hy4 : rotabig_Int_Add_r y2.1 y2.2 y4.1 y4.2 (false, []) = some y5) {w0 : World} {Q : Exit → St → Prop} {AA : Nat → Array Bool → St → Prop} (hAA : ∀ g L st, AA g L st ↔ AWPB Try.prog w0 reg_rotabig_Rat_Add_A_1.toArray Q g L st) (hn30 : AA 12 #[false, false, true, true, true, true, false, false, false, true, false, false, false, false, false, false, false] ⟨33, [(0, .ptr 0 0 0), (1, .ptr 0 0 0), (2, .ptr 1 0 0), (12, .ptr 0 0 0), (13, .ptr 1 0 0), (17, .ptr 1 0 0)], [some (.gen 33 4 [[.bool q0.1.1, .own 2 q0.1.2.length, .bool q0.2.1, .own 3 q0.2.2.length]]), some (.gen 33 4 [[.bool q1.1.1, .own 4 q1.1.2.length, .bool q1.2.1, .own 5 q1.2.2.length]]), some (.ints 186 .u32 q0.1.2), some (.ints 186 .u32 q0.2.2), some (.ints 186 .u32 q1.1.2), some (.ints 186 .u32 q1.2.2), some (.pin 0 pl0), some (.pin 1 pl1)]⟩) : AA 13 #[false, false, true, true, true, true, false, false, false, false, false, false, false, false, false, false, false] ⟨33, [(0, .ptr 0 0 0), (1, .ptr 0 0 0), (2, .ptr 1 0 0), (12, .ptr 0 0 0), (13, .ptr 1 0 0)], [some (.gen 33 4 [[.bool q0.1.1, .own 2 q0.1.2.length, .bool q0.2.1, .own 3 q0.2.2.length]]), some (.gen 33 4 [[.bool q1.1.1, .own 4 q1.1.2.length, .bool q1.2.1, .own 5 q1.2.2.length]]), some (.ints 186 .u32 q0.1.2), some (.ints 186 .u32 q0.2.2), some (.ints 186 .u32 q1.1.2), some (.ints 186 .u32 q1.2.2), some (.pin 0 pl0), some (.pin 1 pl1)]⟩ := (hAA _ _ _).2 (by
  refine AWPB_take2 tab_ok [0, 1, 2, 7, 8, 9, 12, 13, 14, 15, 16, 17, 18, 19, 20, 21, 22, 23] 9 _ rfl rfl rfl ceg_rotabig_Rat_Add_A_1_63 fun c st' hr => ?_
  simp only [go_sem] at hr
  obtain ⟨rfl, rfl⟩ := hr
  refine ⟨vc, ?_⟩
  exact AWPB_wk [0, 1, 2, 3, 4, 5, 6, 7] mkWk ((hAA _ _ _).1 hn30))

theorem ceg_rotabig_Rat_Add_A_1_65 : (Region.noSelect reg_rotabig_Rat_Add_A_1.toArray && Region.free .any reg_rotabig_Rat_Add_A_1.toArray #[false, false, true, true, false, true, false, false, false, false, false, false, false, false, false, false, false] 4 && (Region.ready .any reg_rotabig_Rat_Add_A_1.toArray #[false, false, true, true, false, true, false, false, false, false, false, false, false, false, false, false, false]).contains 4) = true := by kernel_rfl

theorem J_rotabig_Rat_Add_A_1_hn32 {q0 : (Bool × List Int) × (Bool × List Int)} {q1 : (Bool × List Int) × (Bool × List Int)} {y1 : (Bool × List Int) × (Bool × List Int)} {y2 : Bool × List Int} {y3 : (Bool × List Int) × ((Bool × List Int) × (Bool × List Int))} {y4 : Bool × List Int} {y5 : Bool × List Int} {pl0 : AX.Loc} {pl1 : AX.Loc} (hy : rotabig_Rat_den_B ((q1.1.1, q1.1.2), (q1.2.1, q1.2.2)) = some y1) (hy1 : rotabig_Int_Mul_r q0.1.1 q0.1.2 y1.2.1 y1.2.2 (false, []) = some y2) (hy2 : rotabig_Rat_den_A ((q0.1.1, q0.1.2), (q0.2.1, q0.2.2)) = some y3) (hy3 : rotabig_Int_Mul_r y1.1.1 y1.1.2 y3.1.1 y3.1.2 (false, []) = some y4) (hy4 : rotabig_Int_Add_r y2.1 y2.2 y4.1 y4.2 (false, []) = some y5) {w0 : World} {Q : Exit → St → Prop} {AA : Nat → Array Bool → St → Prop} (hAA : ∀ g L st, AA g L st ↔ AWPB Try.prog w0 reg_rotabig_Rat_Add_A_1.toArray Q g L st) (hn31 : AA 13 #[false, false, true, true, true, true, false, false, false, false, false, false, false, false, false, false, false] ⟨33, [(0, .ptr 0 0 0), (1, .ptr 0 0 0), (2, .ptr 1 0 0), (12, .ptr 0 0 0), (13, .ptr 1 0 0)], [some (.gen 33 4 [[.bool q0.1.1, .own 2 q0.1.2.length, .bool q0.2.1, .own 3 q0.2.2.length]]), some (.gen 33 4 [[.bool q1.1.1, .own 4 q1.1.2.length, .bool q1.2.1, .own 5 q1.2.2.length]]), some (.ints 186 .u32 q0.1.2), some (.ints 186 .u32 q0.2.2), some (.ints 186 .u32 q1.1.2), some (.ints 186 .u32 q1.2.2), some (.pin 0 pl0), some (.pin 1 pl1)]⟩) : AA 14 #[false, false, true, true, false, true, false, false, false, false, false, false, false, false, false, false, false] ⟨33, [(0, .ptr 0 0 0), (1, .ptr 0 0 0), (2, .ptr 1 0 0), (11, .ptr 0 0 0), (13, .ptr 1 0 0)], [some (.gen 33 4 [[.bool q0.1.1, .own 2 q0.1.2.length, .bool q0.2.1, .own 3 q0.2.2.length]]), some (.gen 33 4 [[.bool q1.1.1, .own 4 q1.1.2.length, .bool q1.2.1, .own 5 q1.2.2.length]]), some (.ints 186 .u32 q0.1.2), some (.ints 186 .u32 q0.2.2), some (.ints 186 .u32 q1.1.2), some (.ints 186 .u32 q1.2.2), some (.pin 0 pl0), some (.pin 1 pl1)]⟩ := (hAA _ _ _).2 (by
  refine AWPB_take2 tab_ok [0, 1, 2, 7, 8, 9, 12, 13, 14, 15, 16, 17, 18, 19, 20, 21, 22, 23] 4 _ rfl rfl rfl ceg_rotabig_Rat_Add_A_1_65 fun c st' hr => ?_
  simp only [go_sem] at hr
  obtain ⟨rfl, rfl⟩ := hr
  refine ⟨vc, ?_⟩
  exact AWPB_wk [0, 1, 2, 3, 4, 5, 6, 7] mkWk ((hAA _ _ _).1 hn31))

theorem ceg_rotabig_Rat_Add_A_1_67 : (Region.noSelect reg_rotabig_Rat_Add_A_1.toArray && Region.free .any reg_rotabig_Rat_Add_A_1.toArray #[false, false, true, false, false, true, false, false, false, false, false, false, false, false, false, false, false] 3 && (Region.ready .any reg_rotabig_Rat_Add_A_1.toArray #[false, false, true, false, false, true, false, false, false, false, false, false, false, false, false, false, false]).contains 3) = true := by kernel_rfl

theorem J_rotabig_Rat_Add_A_1_hn33 {q0 : (Bool × List Int) × (Bool × List Int)} {q1 : (Bool × List Int) × (Bool × List Int)} {y1 : (Bool × List Int) × (Bool × List Int)} {y2 : Bool × List Int} {y3 : (Bool × List Int) × ((Bool × List Int) × (Bool × List Int))} {y4 : Bool × List Int} {y5 : Bool × List Int} {pl0 : AX.Loc} {pl1 : AX.Loc} (hy : rotabig_Rat_den_B ((q1.1.1, q1.1.2), (q1.2.1, q1.2.2)) = some y1) (hy1 : rotabig_Int_Mul_r q0.1.1 q0.1.2 y1.2.1 y1.2.2 (false, []) = some y2) (hy2 : rotabig_Rat_den_A ((q0.1.1, q0.1.2), (q0.2.1, q0.2.2)) = some y3) (hy3 : rotabig_Int_Mul_r y1.1.1 y1.1.2 y3.1.1 y3.1.2 (false, []) = some y4) (hy4 : rotabig_Int_Add_r y2.1 y2.2 y4.1 y4.2 (false, []) = some y5) {w0 : World} {Q : Exit → St → Prop} {AA : Nat → Array Bool → St → Prop} (hAA : ∀ g L st, AA g L st ↔ AWPB Try.prog w0 reg_rotabig_Rat_Add_A_1.toArray Q g L st) (hn32 : AA 14 #[false, false, true, true, false, true, false, false, false, false, false, false, false, false, false, false, false] ⟨33, [(0, .ptr 0 0 0), (1, .ptr 0 0 0), (2, .ptr 1 0 0), (11, .ptr 0 0 0), (13, .ptr 1 0 0)], [some (.gen 33 4 [[.bool q0.1.1, .own 2 q0.1.2.length, .bool q0.2.1, .own 3 q0.2.2.length]]), some (.gen 33 4 [[.bool q1.1.1, .own 4 q1.1.2.length, .bool q1.2.1, .own 5 q1.2.2.length]]), some (.ints 186 .u32 q0.1.2), some (.ints 186 .u32 q0.2.2), some (.ints 186 .u32 q1.1.2), some (.ints 186 .u32 q1.2.2), some (.pin 0 pl0), some (.pin 1 pl1)]⟩) : AA 15 #[false, false, true, false, false, true, false, false, false, false, false, false, false, false, false, false, false] ⟨33, [(0, .ptr 0 0 0), (1, .ptr 0 0 0), (2, .ptr 1 0 0), (10, .ptr 0 0 0), (13, .ptr 1 0 0)], [some (.gen 33 4 [[.bool q0.1.1, .own 2 q0.1.2.length, .bool q0.2.1, .own 3 q0.2.2.length]]), some (.gen 33 4 [[.bool q1.1.1, .own 4 q1.1.2.length, .bool q1.2.1, .own 5 q1.2.2.length]]), some (.ints 186 .u32 q0.1.2), some (.ints 186 .u32 q0.2.2), some (.ints 186 .u32 q1.1.2), some (.ints 186 .u32 q1.2.2), some (.pin 0 pl0), some (.pin 1 pl1)]⟩ := (hAA _ _ _).2 (by
  refine AWPB_take2 tab_ok [0, 1, 2, 7, 8, 9, 11, 12, 13, 14, 15, 16, 17, 18, 19, 20, 21, 22, 23] 3 _ rfl rfl rfl ceg_rotabig_Rat_Add_A_1_67 fun c st' hr => ?_
  simp only [go_sem] at hr
  obtain ⟨rfl, rfl⟩ := hr
  refine ⟨vc, ?_⟩
  exact AWPB_wk [0, 1, 2, 3, 4, 5, 6, 7] mkWk ((hAA _ _ _).1 hn32))

theorem ceg_rotabig_Rat_Add_A_1_69 : (Region.noSelect reg_rotabig_Rat_Add_A_1.toArray && Region.free .any reg_rotabig_Rat_Add_A_1.toArray #[false, false, false, false, false, true, false, false, false, false, false, false, false, false, false, false, false] 2 && (Region.ready .any reg_rotabig_Rat_Add_A_1.toArray #[false, false, false, false, false, true, false, false, false, false, false, false, false, false, false, false, false]).contains 2) = true := by kernel_rfl

theorem J_rotabig_Rat_Add_A_1_hn34 {q0 : (Bool × List Int) × (Bool × List Int)} {q1 : (Bool × List Int) × (Bool × List Int)} {y1 : (Bool × List Int) × (Bool × List Int)} {y2 : Bool × List Int} {y3 : (Bool × List Int) × ((Bool × List Int) × (Bool × List Int))} {y4 : Bool × List Int} {y5 : Bool × List Int} {pl0 : AX.Loc} {pl1 : AX.Loc} (hy : rotabig_Rat_den_B ((q1.1.1, q1.1.2), (q1.2.1, q1.2.2)) = some y1) (hy1 : rotabig_Int_Mul_r q0.1.1 q0.1.2 y1.2.1 y1.2.2 (false, []) = some y2) (hy2 : rotabig_Rat_den_A ((q0.1.1, q0.1.2), (q0.2.1, q0.2.2)) = some y3) (hy3 : rotabig_Int_Mul_r y1.1.1 y1.1.2 y3.1.1 y3.1.2 (false, []) = some y4) (hy4 : rotabig_Int_Add_r y2.1 y2.2 y4.1 y4.2 (false, []) = some y5) {w0 : World} {Q : Exit → St → Prop} {AA : Nat → Array Bool → St → Prop} (hAA : ∀ g L st, AA g L st ↔ AWPB Try.prog w0 reg_rotabig_Rat_Add_A_1.toArray Q g L st) (hn33 : AA 15 #[false, false, true, false, false, true, false, false, false, false, false, false, false, false, false, false, false] ⟨33, [(0, .ptr 0 0 0), (1, .ptr 0 0 0), (2, .ptr 1 0 0), (10, .ptr 0 0 0), (13, .ptr 1 0 0)], [some (.gen 33 4 [[.bool q0.1.1, .own 2 q0.1.2.length, .bool q0.2.1, .own 3 q0.2.2.length]]), some (.gen 33 4 [[.bool q1.1.1, .own 4 q1.1.2.length, .bool q1.2.1, .own 5 q1.2.2.length]]), some (.ints 186 .u32 q0.1.2), some (.ints 186 .u32 q0.2.2), some (.ints 186 .u32 q1.1.2), some (.ints 186 .u32 q1.2.2), some (.pin 0 pl0), some (.pin 1 pl1)]⟩) : AA 16 #[false, false, false, false, false, true, false, false, false, false, false, false, false, false, false, false, false] ⟨33, [(0, .ptr 0 0 0), (1, .ptr 0 0 0), (2, .ptr 1 0 0), (13, .ptr 1 0 0)], [some (.gen 33 4 [[.bool q0.1.1, .own 2 q0.1.2.length, .bool q0.2.1, .own 3 q0.2.2.length]]), some (.gen 33 4 [[.bool q1.1.1, .own 4 q1.1.2.length, .bool q1.2.1, .own 5 q1.2.2.length]]), some (.ints 186 .u32 q0.1.2), some (.ints 186 .u32 q0.2.2), some (.ints 186 .u32 q1.1.2), some (.ints 186 .u32 q1.2.2), some (.pin 0 pl0), some (.pin 1 pl1)]⟩ := (hAA _ _ _).2 (by
  refine AWPB_take2 tab_ok [0, 1, 2, 7, 8, 9, 10, 11, 12, 13, 14, 15, 16, 17, 18, 19, 20, 21, 22, 23] 2 _ rfl rfl rfl ceg_rotabig_Rat_Add_A_1_69 fun c st' hr => ?_
  simp only [go_sem] at hr
  obtain ⟨rfl, rfl⟩ := hr
  refine ⟨vc, ?_⟩
  exact AWPB_wk [0, 1, 2, 3, 4, 5, 6, 7] mkWk ((hAA _ _ _).1 hn33))

theorem J_rotabig_Rat_Add_A_1_hn35 {q0 : (Bool × List Int) × (Bool × List Int)} {q1 : (Bool × List Int) × (Bool × List Int)} {y1 : (Bool × List Int) × (Bool × List Int)} {y2 : Bool × List Int} {y3 : (Bool × List Int) × ((Bool × List Int) × (Bool × List Int))} {y4 : Bool × List Int} {y5 : Bool × List Int} {pl0 : AX.Loc} {pl1 : AX.Loc} (hy : rotabig_Rat_den_B ((q1.1.1, q1.1.2), (q1.2.1, q1.2.2)) = some y1) (hy1 : rotabig_Int_Mul_r q0.1.1 q0.1.2 y1.2.1 y1.2.2 (false, []) = some y2) (hy2 : rotabig_Rat_den_A ((q0.1.1, q0.1.2), (q0.2.1, q0.2.2)) = some y3) (hy3 : rotabig_Int_Mul_r y1.1.1 y1.1.2 y3.1.1 y3.1.2 (false, []) = some y4) (hy4 : rotabig_Int_Add_r y2.1 y2.2 y4.1 y4.2 (false, []) = some y5) {w0 : World} {Q : Exit → St → Prop} {AA : Nat → Array Bool → St → Prop} (hAA : ∀ g L st, AA g L st ↔ AWPB Try.prog w0 reg_rotabig_Rat_Add_A_1.toArray Q g L st) (hn34 : AA 16 #[false, false, false, false, false, true, false, false, false, false, false, false, false, false, false, false, false] ⟨33, [(0, .ptr 0 0 0), (1, .ptr 0 0 0), (2, .ptr 1 0 0), (13, .ptr 1 0 0)], [some (.gen 33 4 [[.bool q0.1.1, .own 2 q0.1.2.length, .bool q0.2.1, .own 3 q0.2.2.length]]), some (.gen 33 4 [[.bool q1.1.1, .own 4 q1.1.2.length, .bool q1.2.1, .own 5 q1.2.2.length]]), some (.ints 186 .u32 q0.1.2), some (.ints 186 .u32 q0.2.2), some (.ints 186 .u32 q1.1.2), some (.ints 186 .u32 q1.2.2), some (.pin 0 pl0), some (.pin 1 pl1)]⟩) : AA 17 #[false, false, false, false, false, false, false, false, false, false, false, false, false, false, false, false, false] ⟨33, [(0, .ptr 0 0 0), (1, .ptr 0 0 0), (2, .ptr 1 0 0)], [some (.gen 33 4 [[.bool q0.1.1, .own 2 q0.1.2.length, .bool q0.2.1, .own 3 q0.2.2.length]]), some (.gen 33 4 [[.bool q1.1.1, .own 4 q1.1.2.length, .bool q1.2.1, .own 5 q1.2.2.length]]), some (.ints 186 .u32 q0.1.2), some (.ints 186 .u32 q0.2.2), some (.ints 186 .u32 q1.1.2), some (.ints 186 .u32 q1.2.2), some (.pin 0 pl0), some (.pin 1 pl1)]⟩ := (hAA _ _ _).2 (by
  refine AWPB_takeB tab_ok [0, 1, 2, 7, 8, 9, 10, 11, 12, 13, 14, 15, 16, 17, 18, 19, 20, 21, 22, 23] 5 [6, 7, 13, 14, 15, 16] _ rfl ceg_rotabig_Rat_Add_A_1_1 fun c st' hr => ?_
  simp only [go_sem] at hr
  obtain ⟨rfl, rfl⟩ := hr
  refine ⟨vc, ?_⟩
  exact AWPB_wk [0, 1, 2, 3, 4, 5, 6, 7] mkWk ((hAA _ _ _).1 hn34))


theorem W_rotabig_Rat_Add_A {q0 : (Bool × List Int) × (Bool × List Int)} {q1 : (Bool × List Int) × (Bool × List Int)} {r : ((Bool × List Int) × (Bool × List Int)) × ((Bool × List Int) × (Bool × List Int))} (hK : rotabig_Rat_Add_A q0 q1 = some r) : InG Try.prog 16 [(.gen 33 4 [[.bool q0.1.1, .own 2 q0.1.2.length, .bool q0.2.1, .own 3 q0.2.2.length]]), (.gen 33 4 [[.bool q1.1.1, .own 4 q1.1.2.length, .bool q1.2.1, .own 5 q1.2.2.length]]), (.ints 186 .u32 q0.1.2), (.ints 186 .u32 q0.2.2), (.ints 186 .u32 q1.1.2), (.ints 186 .u32 q1.2.2)] 2 (fun _ => [.ptr 0 0 0, .ptr 0 0 0, .ptr 1 0 0]) (.ptr 0 0 0) [(.gen 33 4 [[.bool r.1.1.1, .own 2 r.1.1.2.length, .bool r.1.2.1, .own 3 r.1.2.2.length]]), (.gen 33 4 [[.bool r.2.1.1, .own 4 r.2.1.2.length, .bool r.2.2.1, .own 5 r.2.2.2.length]]), (.ints 186 .u32 r.1.1.2), (.ints 186 .u32 r.1.2.2), (.ints 186 .u32 r.2.1.2), (.ints 186 .u32 r.2.2.2)] := by
  refine InG_intro tab_ok (n := 33) (l := [.tmp 6]) Try.func16 rfl rfl rfl (fun ls => by first | (split <;> simp) | simp) (of_decide_eq_true rfl) (of_decide_eq_true rfl) rfl rfl rfl (by simp [renB, ren0, renI, List.range, List.range.loop]) (of_decide_eq_true rfl) (of_decide_eq_true rfl) fun w0 ls hls => ?_
  obtain ⟨pl0, pl1, rfl⟩ : ∃ pl0 pl1, ls = [pl0, pl1] := by
    match ls, hls with
    | [a, b], _ => exact ⟨a, b, rfl⟩
  simp only [pinL, List.map_cons, List.map_nil, List.cons_append, List.nil_append, Nat.zero_add, Nat.reduceAdd]
  unfold rotabig_Rat_Add_A at hK
  refine AWP_seq ?_
  refine AWP_rg tab_ok [0, 1, 2] fun c st' hr => ?_
  simp only [go_sem] at hr
  obtain ⟨rfl, rfl⟩ := hr
  refine ⟨vc, ?_⟩
  with_reducible refine thenC_normal ?_
  refine AWP_seq ?_
  replace hK := bind_s hK
  obtain ⟨y1, hy, hK⟩ := hK
  replace hK := bind_s hK
  obtain ⟨y2, hy1, hK⟩ := hK
  replace hK := bind_s hK
  obtain ⟨y3, hy2, hK⟩ := hK
  replace hK := bind_s hK
  obtain ⟨y4, hy3, hK⟩ := hK
  replace hK := bind_s hK
  obtain ⟨y5, hy4, hK⟩ := hK
  refine AWP_drawJ ⟨33, [(0, .ptr 0 0 0), (1, .ptr 0 0 0), (2, .ptr 1 0 0), (7, .ptr 8 0 0)], [some (.gen 33 4 [[.bool y3.2.1.1, .own 15 y3.2.1.2.length, .bool y3.2.2.1, .own 16 y3.2.2.2.length]]), some (.gen 33 4 [[.bool y1.1.1, .own 10 y1.1.2.length, .bool y1.2.1, .own 11 y1.2.2.length]]), none, none, none, none, some (.pin 0 pl0), some (.pin 1 pl1), some (.gen 31 2 [[.bool y5.1, .own 22 y5.2.length]]), some (.gen 31 2 [[.bool y2.1, .own 13 y2.2.length]]), some (.ints 186 .u32 y1.1.2), some (.ints 186 .u32 y1.2.2), none, some (.ints 186 .u32 y2.2), some (.gen 31 2 [[.bool y4.1, .own 20 y4.2.length]]), some (.ints 186 .u32 y3.2.1.2), some (.ints 186 .u32 y3.2.2.2), some (.gen 31 2 [[.bool y3.1.1, .own 18 y3.1.2.length]]), some (.ints 186 .u32 y3.1.2), none, some (.ints 186 .u32 y4.2), none, some (.ints 186 .u32 y5.2)]⟩ mixed ?_ ?_
  ·change AWPB _ _ reg_rotabig_Rat_Add_A_1.toArray _ _ _ _
   refine AWPB_memo fun AA hAA => ?_
   have hn : AA 0 #[true, true, true, true, true, true, true, true, true, true, true, true, true, true, true, true, true] ⟨33, [(0, .ptr 0 0 0), (1, .ptr 0 0 0), (2, .ptr 1 0 0), (7, .ptr 8 0 0)], [some (.gen 33 4 [[.bool y3.2.1.1, .own 15 y3.2.1.2.length, .bool y3.2.2.1, .own 16 y3.2.2.2.length]]), some (.gen 33 4 [[.bool y1.1.1, .own 10 y1.1.2.length, .bool y1.2.1, .own 11 y1.2.2.length]]), none, none, none, none, some (.pin 0 pl0), some (.pin 1 pl1), some (.gen 31 2 [[.bool y5.1, .own 22 y5.2.length]]), some (.gen 31 2 [[.bool y2.1, .own 13 y2.2.length]]), some (.ints 186 .u32 y1.1.2), some (.ints 186 .u32 y1.2.2), none, some (.ints 186 .u32 y2.2), some (.gen 31 2 [[.bool y4.1, .own 20 y4.2.length]]), some (.ints 186 .u32 y3.2.1.2), some (.ints 186 .u32 y3.2.2.2), some (.gen 31 2 [[.bool y3.1.1, .own 18 y3.1.2.length]]), some (.ints 186 .u32 y3.1.2), none, some (.ints 186 .u32 y4.2), none, some (.ints 186 .u32 y5.2)]⟩ := (hAA _ _ _).2 (by
    exact AWPB_end [0, 1, 2, 3, 4, 5, 6, 7, 8, 9, 10, 11, 12, 13, 14, 15, 16, 17, 18, 19, 20, 21, 22] ceg_rotabig_Rat_Add_A_1_3 mkWk)
   have hn1 := J_rotabig_Rat_Add_A_1_hn1 hy hy1 hy2 hy3 hy4 hAA hn
   have hn2 := J_rotabig_Rat_Add_A_1_hn2 hy hy1 hy2 hy3 hy4 hAA hn1
   have hn3 := J_rotabig_Rat_Add_A_1_hn3 hy hy1 hy2 hy3 hy4 hAA hn2
   have hn4 := J_rotabig_Rat_Add_A_1_hn4 hy hy1 hy2 hy3 hy4 hAA hn3
   have hn5 := J_rotabig_Rat_Add_A_1_hn5 hy hy1 hy2 hy3 hy4 hAA hn3
   have hn6 := J_rotabig_Rat_Add_A_1_hn6 hy hy1 hy2 hy3 hy4 hAA hn4 hn5
   have hn7 := J_rotabig_Rat_Add_A_1_hn7 hy hy1 hy2 hy3 hy4 hAA hn4
   have hn8 := J_rotabig_Rat_Add_A_1_hn8 hy hy1 hy2 hy3 hy4 hAA hn6 hn7
   have hn9 := J_rotabig_Rat_Add_A_1_hn9 hy hy1 hy2 hy3 hy4 hAA hn7
   have hn10 := J_rotabig_Rat_Add_A_1_hn10 hy hy1 hy2 hy3 hy4 hAA hn8 hn9
   have hn11 := J_rotabig_Rat_Add_A_1_hn11 hy hy1 hy2 hy3 hy4 hAA hn7
   have hn12 := J_rotabig_Rat_Add_A_1_hn12 hy hy1 hy2 hy3 hy4 hAA hn8 hn11
   have hn13 := J_rotabig_Rat_Add_A_1_hn13 hy hy1 hy2 hy3 hy4 hAA hn9 hn11
   have hn14 := J_rotabig_Rat_Add_A_1_hn14 hy hy1 hy2 hy3 hy4 hAA hn10 hn12 hn13
   have hn15 := J_rotabig_Rat_Add_A_1_hn15 hy hy1 hy2 hy3 hy4 hAA hn2
   have hn16 := J_rotabig_Rat_Add_A_1_hn16 hy hy1 hy2 hy3 hy4 hAA hn3 hn15
   have hn17 := J_rotabig_Rat_Add_A_1_hn17 hy hy1 hy2 hy3 hy4 hAA hn4 hn16
   have hn18 := J_rotabig_Rat_Add_A_1_hn18 hy hy1 hy2 hy3 hy4 hAA hn5 hn16
   have hn19 := J_rotabig_Rat_Add_A_1_hn19 hy hy1 hy2 hy3 hy4 hAA hn6 hn17 hn18
   have hn20 := J_rotabig_Rat_Add_A_1_hn20 hy hy1 hy2 hy3 hy4 hAA hn7 hn17
   have hn21 := J_rotabig_Rat_Add_A_1_hn21 hy hy1 hy2 hy3 hy4 hAA hn8 hn19 hn20
   have hn22 := J_rotabig_Rat_Add_A_1_hn22 hy hy1 hy2 hy3 hy4 hAA hn9 hn20
   have hn23 := J_rotabig_Rat_Add_A_1_hn23 hy hy1 hy2 hy3 hy4 hAA hn10 hn21 hn22
   have hn24 := J_rotabig_Rat_Add_A_1_hn24 hy hy1 hy2 hy3 hy4 hAA hn11 hn20
   have hn25 := J_rotabig_Rat_Add_A_1_hn25 hy hy1 hy2 hy3 hy4 hAA hn12 hn21 hn24
   have hn26 := J_rotabig_Rat_Add_A_1_hn26 hy hy1 hy2 hy3 hy4 hAA hn13 hn22 hn24
   have hn27 := J_rotabig_Rat_Add_A_1_hn27 hy hy1 hy2 hy3 hy4 hAA hn14 hn23 hn25 hn26
   have hn28 := J_rotabig_Rat_Add_A_1_hn28 hy hy1 hy2 hy3 hy4 hAA hn27
   have hn29 := J_rotabig_Rat_Add_A_1_hn29 hy hy1 hy2 hy3 hy4 hAA hn28
   have hn30 := J_rotabig_Rat_Add_A_1_hn30 hy hy1 hy2 hy3 hy4 hAA hn29
   have hn31 := J_rotabig_Rat_Add_A_1_hn31 hy hy1 hy2 hy3 hy4 hAA hn30
   have hn32 := J_rotabig_Rat_Add_A_1_hn32 hy hy1 hy2 hy3 hy4 hAA hn31
   have hn33 := J_rotabig_Rat_Add_A_1_hn33 hy hy1 hy2 hy3 hy4 hAA hn32
   have hn34 := J_rotabig_Rat_Add_A_1_hn34 hy hy1 hy2 hy3 hy4 hAA hn33
   have hn35 := J_rotabig_Rat_Add_A_1_hn35 hy hy1 hy2 hy3 hy4 hAA hn34
   exact (hAA _ _ _).2 (AWPB_wk [0, 1, 2, 3, 4, 5, 6, 7] mkWk ((hAA _ _ _).1 hn35))
  with_reducible refine thenC_normal ?_
  refine AWP_seq ?_
  refine AWP_rl ?_
  refine AWPL_rn tab_ok 4 [2, 24, 25, 26, 27] fun c st' hr => ?_
  simp only [go_sem] at hr
  obtain ⟨rfl, rfl⟩ := hr
  refine ⟨vc, ?_⟩
  replace hK := bind_s hK
  obtain ⟨y6, hy, hK⟩ := hK
  refine AWPL_gR [2, 24, 25, 26, 28] [0, 15, 16] [.ptr 0 0 0] [some (.gen 33 4 [[.bool y6.2.1.1, .own 24 y6.2.1.2.length, .bool y6.2.2.1, .own 25 y6.2.2.2.length]]), some (.gen 33 4 [[.bool y1.1.1, .own 10 y1.1.2.length, .bool y1.2.1, .own 11 y1.2.2.length]]), none, none, none, none, some (.pin 0 pl0), some (.pin 1 pl1), some (.gen 31 2 [[.bool y5.1, .own 22 y5.2.length]]), some (.gen 31 2 [[.bool y2.1, .own 13 y2.2.length]]), some (.ints 186 .u32 y1.1.2), some (.ints 186 .u32 y1.2.2), none, some (.ints 186 .u32 y2.2), some (.gen 31 2 [[.bool y4.1, .own 20 y4.2.length]]), none, none, some (.gen 31 2 [[.bool y3.1.1, .own 18 y3.1.2.length]]), some (.ints 186 .u32 y3.1.2), none, some (.ints 186 .u32 y4.2), none, some (.ints 186 .u32 y5.2), some (.gen 31 2 [[.bool false, .nil]]), some (.ints 186 .u32 y6.2.1.2), some (.ints 186 .u32 y6.2.2.2), some (.gen 31 2 [[.bool y6.1.1, .own 27 y6.1.2.length]]), some (.ints 186 .u32 y6.1.2)] (r' := .ptr 26 0 0) (W_rotabig_Rat_den_A hy) rfl rfl pcT rfl Try.call66 (of_decide_eq_true rfl) ⟨rfl, rfl, rfl, trivial⟩ rfl (hscG trivial) (of_decide_eq_true rfl) rfl rfl rfl (of_decide_eq_true rfl) rfl fun st' hr => ?_
  simp only [go_sem] at hr
  subst hr
  clear hy
  refine AWPL_rn tab_ok 1 [24, 25, 26, 28, 29] fun c st' hr => ?_
  simp only [go_sem] at hr
  obtain ⟨rfl, rfl⟩ := hr
  refine ⟨vc, ?_⟩
  replace hK := bind_s hK
  obtain ⟨y7, hy, hK⟩ := hK
  refine AWPL_gR [24, 25, 26, 28, 30] [1, 10, 11] [.ptr 0 0 0] [some (.gen 33 4 [[.bool y6.2.1.1, .own 24 y6.2.1.2.length, .bool y6.2.2.1, .own 25 y6.2.2.2.length]]), some (.gen 33 4 [[.bool y7.1.1, .own 28 y7.1.2.length, .bool y7.2.1, .own 29 y7.2.2.length]]), none, none, none, none, some (.pin 0 pl0), some (.pin 1 pl1), some (.gen 31 2 [[.bool y5.1, .own 22 y5.2.length]]), some (.gen 31 2 [[.bool y2.1, .own 13 y2.2.length]]), none, none, none, some (.ints 186 .u32 y2.2), some (.gen 31 2 [[.bool y4.1, .own 20 y4.2.length]]), none, none, some (.gen 31 2 [[.bool y3.1.1, .own 18 y3.1.2.length]]), some (.ints 186 .u32 y3.1.2), none, some (.ints 186 .u32 y4.2), none, some (.ints 186 .u32 y5.2), some (.gen 31 2 [[.bool false, .nil]]), some (.ints 186 .u32 y6.2.1.2), some (.ints 186 .u32 y6.2.2.2), some (.gen 31 2 [[.bool y6.1.1, .own 27 y6.1.2.length]]), some (.ints 186 .u32 y6.1.2), some (.ints 186 .u32 y7.1.2), some (.ints 186 .u32 y7.2.2)] (r' := .ptr 1 0 2) (W_rotabig_Rat_den_B hy) rfl rfl pcT rfl Try.call66 (of_decide_eq_true rfl) ⟨rfl, rfl, rfl, trivial⟩ rfl (hscG trivial) (of_decide_eq_true rfl) rfl rfl rfl (of_decide_eq_true rfl) rfl fun st' hr => ?_
  simp only [go_sem] at hr
  subst hr
  clear hy
  refine AWPL_gs' (gs_ownH 23 1 (.ints 186 .u32 []) rfl rfl rfl) fun st' hr => ?_
  simp only [go_sem, List.cons_append, List.nil_append, List.set_cons_zero, List.set_cons_succ] at hr
  subst hr
  replace hK := bind_s hK
  obtain ⟨y8, hy, hK⟩ := hK
  refine AWPL_gS [24, 25, 31] [23, 30] [.ptr 0 0 0, .immp [.bool y6.1.1, .ints .u32 y6.1.2], .immp [.bool y7.2.1, .ints .u32 y7.2.2]] [some (.gen 33 4 [[.bool y6.2.1.1, .own 24 y6.2.1.2.length, .bool y6.2.2.1, .own 25 y6.2.2.2.length]]), some (.gen 33 4 [[.bool y7.1.1, .own 28 y7.1.2.length, .bool y7.2.1, .own 29 y7.2.2.length]]), none, none, none, none, some (.pin 0 pl0), some (.pin 1 pl1), some (.gen 31 2 [[.bool y5.1, .own 22 y5.2.length]]), some (.gen 31 2 [[.bool y2.1, .own 13 y2.2.length]]), none, none, none, some (.ints 186 .u32 y2.2), some (.gen 31 2 [[.bool y4.1, .own 20 y4.2.length]]), none, none, some (.gen 31 2 [[.bool y3.1.1, .own 18 y3.1.2.length]]), some (.ints 186 .u32 y3.1.2), none, some (.ints 186 .u32 y4.2), none, some (.ints 186 .u32 y5.2), some (.gen 31 2 [[.bool y8.1, .own 31 y8.2.length]]), some (.ints 186 .u32 y6.2.1.2), some (.ints 186 .u32 y6.2.2.2), some (.gen 31 2 [[.bool y6.1.1, .own 27 y6.1.2.length]]), some (.ints 186 .u32 y6.1.2), some (.ints 186 .u32 y7.1.2), some (.ints 186 .u32 y7.2.2), none, some (.ints 186 .u32 y8.2)] (r' := .ptr 23 0 0) (W_rotabig_Int_Mul_r hy) rfl rfl pcT rfl Try.call65 (of_decide_eq_true rfl) ⟨rfl, rfl, trivial⟩ (.ptr 0 rfl (.cons (ArgOk.part (j0 := 0) rfl rfl (of_decide_eq_true rfl) (.cons (.atom _ rfl) (.cons (.ownI _ _ _ _ _ y6.1.2 rfl (by simp) (by first | simp | exact List.take_of_length_le (by simp))) .nil))) (.cons (ArgOk.part (j0 := 2) rfl rfl (of_decide_eq_true rfl) (.cons (.atom _ rfl) (.cons (.ownI _ _ _ _ _ y7.2.2 rfl (by simp) (by first | simp | exact List.take_of_length_le (by simp))) .nil))) .nil))) (hscG trivial) (of_decide_eq_true rfl) rfl rfl rfl (of_decide_eq_true rfl) rfl fun st' hr => ?_
  simp only [go_sem] at hr
  subst hr
  clear hy
  replace hK := bind_s hK
  obtain ⟨y9, hy, hK⟩ := hK
  refine AWPL_gS [32] [0, 24, 25] [.ptr 0 0 0, .immp [.bool y5.1, .ints .u32 y5.2], .immp [.bool y8.1, .ints .u32 y8.2]] [some (.gen 33 4 [[.bool y9.1.1, .own 32 y9.1.2.length, .bool y9.2.1, .own 33 y9.2.2.length]]), some (.gen 33 4 [[.bool y7.1.1, .own 28 y7.1.2.length, .bool y7.2.1, .own 29 y7.2.2.length]]), none, none, none, none, some (.pin 0 pl0), some (.pin 1 pl1), some (.gen 31 2 [[.bool y5.1, .own 22 y5.2.length]]), some (.gen 31 2 [[.bool y2.1, .own 13 y2.2.length]]), none, none, none, some (.ints 186 .u32 y2.2), some (.gen 31 2 [[.bool y4.1, .own 20 y4.2.length]]), none, none, some (.gen 31 2 [[.bool y3.1.1, .own 18 y3.1.2.length]]), some (.ints 186 .u32 y3.1.2), none, some (.ints 186 .u32 y4.2), none, some (.ints 186 .u32 y5.2), some (.gen 31 2 [[.bool y8.1, .own 31 y8.2.length]]), none, none, some (.gen 31 2 [[.bool y6.1.1, .own 27 y6.1.2.length]]), some (.ints 186 .u32 y6.1.2), some (.ints 186 .u32 y7.1.2), some (.ints 186 .u32 y7.2.2), none, some (.ints 186 .u32 y8.2), some (.ints 186 .u32 y9.1.2), some (.ints 186 .u32 y9.2.2)] (r' := .ptr 0 0 0) (W_rotabig_Rat_SetFrac hy) rfl rfl pcT rfl Try.call67 (of_decide_eq_true rfl) ⟨rfl, rfl, rfl, trivial⟩ (.ptr 0 rfl (.cons (ArgOk.part (j0 := 0) rfl rfl (of_decide_eq_true rfl) (.cons (.atom _ rfl) (.cons (.ownI _ _ _ _ _ y5.2 rfl (by simp) (by first | simp | exact List.take_of_length_le (by simp))) .nil))) (.cons (ArgOk.part (j0 := 0) rfl rfl (of_decide_eq_true rfl) (.cons (.atom _ rfl) (.cons (.ownI _ _ _ _ _ y8.2 rfl (by simp) (by first | simp | exact List.take_of_length_le (by simp))) .nil))) .nil))) (hscG trivial) (of_decide_eq_true rfl) rfl rfl rfl (of_decide_eq_true rfl) rfl fun st' hr => ?_
  simp only [go_sem] at hr
  subst hr
  clear hy
  refine AWPL_rn tab_ok 1 [6] fun c st' hr => ?_
  simp only [go_sem] at hr
  obtain ⟨rfl, rfl⟩ := hr
  refine ⟨vc, ?_⟩
  refine AWPL_nil ?_
  with_reducible refine thenC_normal ?_
  refine AWP_ret ?_
  cases hK
  refine EndsRW [0, 1, 32, 33, 28, 29, 6, 7] (.inl rfl) (of_decide_eq_true rfl) (by simp) rfl (fun c x hr => ?_) endH
  simp only [go_sem] at hr
  obtain ⟨rfl, rfl⟩ := hr
  exact ⟨rfl, endR⟩

/-- The operations of a drawn region. -/
def reg_rotabig_Rat_Add_B_1 : List Oper := (⟨_, rfl⟩ : { l : List Oper // (Try.f16.body.bind (regIn 1)) = some l }).1

theorem ceg_rotabig_Rat_Add_B_1_1 : firstOk reg_rotabig_Rat_Add_B_1.toArray #[false, false, false, false, false, false, false, false, false, false, false, false, false, false, false, false, false] 5 [6, 7, 13, 14, 15, 16] = true := by kernel_rfl

theorem ceg_rotabig_Rat_Add_B_1_2 : firstOk reg_rotabig_Rat_Add_B_1.toArray #[true, true, true, true, true, true, true, true, true, true, true, true, true, true, true, true, false] 16 [] = true := by kernel_rfl

theorem ceg_rotabig_Rat_Add_B_1_3 : (Region.ready .any reg_rotabig_Rat_Add_B_1.toArray #[true, true, true, true, true, true, true, true, true, true, true, true, true, true, true, true, true] == []) = true := by kernel_rfl

theorem J_rotabig_Rat_Add_B_1_hn1 {q0 : (Bool × List Int) × (Bool × List Int)} {q1 : (Bool × List Int) × (Bool × List Int)} {y1 : (Bool × List Int) × (Bool × List Int)} {y2 : Bool × List Int} {y3 : (Bool × List Int) × (Bool × List Int)} {y4 : Bool × List Int} {y5 : Bool × List Int} {pl0 : AX.Loc} {pl1 : AX.Loc} (hy : rotabig_Rat_den_B ((q1.1.1, q1.1.2), (q1.2.1, q1.2.2)) = some y1) (hy1 : rotabig_Int_Mul_r q0.1.1 q0.1.2 y1.2.1 y1.2.2 (false, []) = some y2) (hy2 : rotabig_Rat_den_B ((q0.1.1, q0.1.2), (q0.2.1, q0.2.2)) = some y3) (hy3 : rotabig_Int_Mul_r y1.1.1 y1.1.2 y3.2.1 y3.2.2 (false, []) = some y4) (hy4 : rotabig_Int_Add_r y2.1 y2.2 y4.1 y4.2 (false, []) = some y5) {w0 : World} {Q : Exit → St → Prop} {AA : Nat → Array Bool → St → Prop} (hAA : ∀ g L st, AA g L st ↔ AWPB Try.prog w0 reg_rotabig_Rat_Add_B_1.toArray Q g L st) (hn : AA 0 #[true, true, true, true, true, true, true, true, true, true, true, true, true, true, true, true, true] ⟨33, [(0, .ptr 0 0 0), (1, .ptr 0 0 0), (2, .ptr 1 0 0), (7, .ptr 8 0 0)], [some (.gen 33 4 [[.bool y3.1.1, .own 15 y3.1.2.length, .bool y3.2.1, .own 16 y3.2.2.length]]), some (.gen 33 4 [[.bool y1.1.1, .own 10 y1.1.2.length, .bool y1.2.1, .own 11 y1.2.2.length]]), none, none, none, none, some (.pin 0 pl0), some (.pin 1 pl1), some (.gen 31 2 [[.bool y5.1, .own 20 y5.2.length]]), some (.gen 31 2 [[.bool y2.1, .own 13 y2.2.length]]), some (.ints 186 .u32 y1.1.2), some (.ints 186 .u32 y1.2.2), none, some (.ints 186 .u32 y2.2), some (.gen 31 2 [[.bool y4.1, .own 18 y4.2.length]]), some (.ints 186 .u32 y3.1.2), some (.ints 186 .u32 y3.2.2), none, some (.ints 186 .u32 y4.2), none, some (.ints 186 .u32 y5.2)]⟩) : AA 1 #[true, true, true, true, true, true, true, true, true, true, true, true, true, true, true, true, false] ⟨33, [(0, .ptr 0 0 0), (1, .ptr 0 0 0), (2, .ptr 1 0 0), (23, .ptr 8 0 0)], [some (.gen 33 4 [[.bool y3.1.1, .own 15 y3.1.2.length, .bool y3.2.1, .own 16 y3.2.2.length]]), some (.gen 33 4 [[.bool y1.1.1, .own 10 y1.1.2.length, .bool y1.2.1, .own 11 y1.2.2.length]]), none, none, none, none, some (.pin 0 pl0), some (.pin 1 pl1), some (.gen 31 2 [[.bool y5.1, .own 20 y5.2.length]]), some (.gen 31 2 [[.bool y2.1, .own 13 y2.2.length]]), some (.ints 186 .u32 y1.1.2), some (.ints 186 .u32 y1.2.2), none, some (.ints 186 .u32 y2.2), some (.gen 31 2 [[.bool y4.1, .own 18 y4.2.length]]), some (.ints 186 .u32 y3.1.2), some (.ints 186 .u32 y3.2.2), none, some (.ints 186 .u32 y4.2), none, some (.ints 186 .u32 y5.2)]⟩ := (hAA _ _ _).2 (by
  refine AWPB_takeB tab_ok [0, 1, 2, 7] 16 [] _ rfl ceg_rotabig_Rat_Add_B_1_2 fun c st' hr => ?_
  simp only [go_sem] at hr
  obtain ⟨rfl, rfl⟩ := hr
  refine ⟨vc, ?_⟩
  exact AWPB_wk [0, 1, 2, 3, 4, 5, 6, 7, 8, 9, 10, 11, 12, 13, 14, 15, 16, 17, 18, 19, 20] mkWk ((hAA _ _ _).1 hn))

theorem ceg_rotabig_Rat_Add_B_1_5 : (Region.ready .any reg_rotabig_Rat_Add_B_1.toArray #[true, true, true, true, true, true, true, true, true, true, true, true, true, true, true, false, false] == [15]) = true := by kernel_rfl

theorem J_rotabig_Rat_Add_B_1_hn2 {q0 : (Bool × List Int) × (Bool × List Int)} {q1 : (Bool × List Int) × (Bool × List Int)} {y1 : (Bool × List Int) × (Bool × List Int)} {y2 : Bool × List Int} {y3 : (Bool × List Int) × (Bool × List Int)} {y4 : Bool × List Int} {y5 : Bool × List Int} {pl0 : AX.Loc} {pl1 : AX.Loc} (hy : rotabig_Rat_den_B ((q1.1.1, q1.1.2), (q1.2.1, q1.2.2)) = some y1) (hy1 : rotabig_Int_Mul_r q0.1.1 q0.1.2 y1.2.1 y1.2.2 (false, []) = some y2) (hy2 : rotabig_Rat_den_B ((q0.1.1, q0.1.2), (q0.2.1, q0.2.2)) = some y3) (hy3 : rotabig_Int_Mul_r y1.1.1 y1.1.2 y3.2.1 y3.2.2 (false, []) = some y4) (hy4 : rotabig_Int_Add_r y2.1 y2.2 y4.1 y4.2 (false, []) = some y5) {w0 : World} {Q : Exit → St → Prop} {AA : Nat → Array Bool → St → Prop} (hAA : ∀ g L st, AA g L st ↔ AWPB Try.prog w0 reg_rotabig_Rat_Add_B_1.toArray Q g L st) (hn1 : AA 1 #[true, true, true, true, true, true, true, true, true, true, true, true, true, true, true, true, false] ⟨33, [(0, .ptr 0 0 0), (1, .ptr 0 0 0), (2, .ptr 1 0 0), (23, .ptr 8 0 0)], [some (.gen 33 4 [[.bool y3.1.1, .own 15 y3.1.2.length, .bool y3.2.1, .own 16 y3.2.2.length]]), some (.gen 33 4 [[.bool y1.1.1, .own 10 y1.1.2.length, .bool y1.2.1, .own 11 y1.2.2.length]]), none, none, none, none, some (.pin 0 pl0), some (.pin 1 pl1), some (.gen 31 2 [[.bool y5.1, .own 20 y5.2.length]]), some (.gen 31 2 [[.bool y2.1, .own 13 y2.2.length]]), some (.ints 186 .u32 y1.1.2), some (.ints 186 .u32 y1.2.2), none, some (.ints 186 .u32 y2.2), some (.gen 31 2 [[.bool y4.1, .own 18 y4.2.length]]), some (.ints 186 .u32 y3.1.2), some (.ints 186 .u32 y3.2.2), none, some (.ints 186 .u32 y4.2), none, some (.ints 186 .u32 y5.2)]⟩) : AA 2 #[true, true, true, true, true, true, true, true, true, true, true, true, true, true, true, false, false] ⟨33, [(0, .ptr 0 0 0), (1, .ptr 0 0 0), (2, .ptr 1 0 0), (8, .ptr 8 0 0), (15, .ptr 9 0 0), (22, .ptr 14 0 0)], [some (.gen 33 4 [[.bool y3.1.1, .own 15 y3.1.2.length, .bool y3.2.1, .own 16 y3.2.2.length]]), some (.gen 33 4 [[.bool y1.1.1, .own 10 y1.1.2.length, .bool y1.2.1, .own 11 y1.2.2.length]]), none, none, none, none, some (.pin 0 pl0), some (.pin 1 pl1), some (.gen 31 2 [[.bool false, .nil]]), some (.gen 31 2 [[.bool y2.1, .own 13 y2.2.length]]), some (.ints 186 .u32 y1.1.2), some (.ints 186 .u32 y1.2.2), none, some (.ints 186 .u32 y2.2), some (.gen 31 2 [[.bool y4.1, .own 18 y4.2.length]]), some (.ints 186 .u32 y3.1.2), some (.ints 186 .u32 y3.2.2), none, some (.ints 186 .u32 y4.2)]⟩ := (hAA _ _ _).2 (by
  refine AWPB_one 15 _ ceg_rotabig_Rat_Add_B_1_5 rfl ?_
  refine AWPL_gs' (gs_ownH 8 1 (.ints 186 .u32 []) rfl rfl rfl) fun st' hr => ?_
  simp only [go_sem, List.cons_append, List.nil_append, List.set_cons_zero, List.set_cons_succ] at hr
  subst hr
  refine AWPL_gS [0, 1, 2, 7, 23] [8, 19] [.ptr 0 0 0, .immp [.bool y2.1, .ints .u32 y2.2], .immp [.bool y4.1, .ints .u32 y4.2]] [some (.gen 33 4 [[.bool y3.1.1, .own 15 y3.1.2.length, .bool y3.2.1, .own 16 y3.2.2.length]]), some (.gen 33 4 [[.bool y1.1.1, .own 10 y1.1.2.length, .bool y1.2.1, .own 11 y1.2.2.length]]), none, none, none, none, some (.pin 0 pl0), some (.pin 1 pl1), some (.gen 31 2 [[.bool y5.1, .own 20 y5.2.length]]), some (.gen 31 2 [[.bool y2.1, .own 13 y2.2.length]]), some (.ints 186 .u32 y1.1.2), some (.ints 186 .u32 y1.2.2), none, some (.ints 186 .u32 y2.2), some (.gen 31 2 [[.bool y4.1, .own 18 y4.2.length]]), some (.ints 186 .u32 y3.1.2), some (.ints 186 .u32 y3.2.2), none, some (.ints 186 .u32 y4.2), none, some (.ints 186 .u32 y5.2)] (r' := .ptr 8 0 0) (W_rotabig_Int_Add_r hy4) rfl rfl pcT rfl Try.call64 (of_decide_eq_true rfl) ⟨rfl, rfl, trivial⟩ (.ptr 0 rfl (.cons (ArgOk.part (j0 := 0) rfl rfl (of_decide_eq_true rfl) (.cons (.atom _ rfl) (.cons (.ownI _ _ _ _ _ y2.2 rfl (by simp) (by first | simp | exact List.take_of_length_le (by simp))) .nil))) (.cons (ArgOk.part (j0 := 0) rfl rfl (of_decide_eq_true rfl) (.cons (.atom _ rfl) (.cons (.ownI _ _ _ _ _ y4.2 rfl (by simp) (by first | simp | exact List.take_of_length_le (by simp))) .nil))) .nil))) (hscG trivial) (of_decide_eq_true rfl) rfl rfl rfl (of_decide_eq_true rfl) rfl fun st' hr => ?_
  simp only [go_sem] at hr
  subst hr
  refine AWPL_nil ?_
  refine QB_normal ?_
  exact AWPB_wk [0, 1, 2, 3, 4, 5, 6, 7, 8, 9, 10, 11, 12, 13, 14, 15, 16, 17, 18, 19, 20] mkWk ((hAA _ _ _).1 hn1))

theorem ceg_rotabig_Rat_Add_B_1_7 : (Region.ready .any reg_rotabig_Rat_Add_B_1.toArray #[true, true, true, true, true, true, true, true, true, true, true, true, true, true, false, false, false] == [14]) = true := by kernel_rfl

theorem J_rotabig_Rat_Add_B_1_hn3 {q0 : (Bool × List Int) × (Bool × List Int)} {q1 : (Bool × List Int) × (Bool × List Int)} {y1 : (Bool × List Int) × (Bool × List Int)} {y2 : Bool × List Int} {y3 : (Bool × List Int) × (Bool × List Int)} {y4 : Bool × List Int} {y5 : Bool × List Int} {pl0 : AX.Loc} {pl1 : AX.Loc} (hy : rotabig_Rat_den_B ((q1.1.1, q1.1.2), (q1.2.1, q1.2.2)) = some y1) (hy1 : rotabig_Int_Mul_r q0.1.1 q0.1.2 y1.2.1 y1.2.2 (false, []) = some y2) (hy2 : rotabig_Rat_den_B ((q0.1.1, q0.1.2), (q0.2.1, q0.2.2)) = some y3) (hy3 : rotabig_Int_Mul_r y1.1.1 y1.1.2 y3.2.1 y3.2.2 (false, []) = some y4) (hy4 : rotabig_Int_Add_r y2.1 y2.2 y4.1 y4.2 (false, []) = some y5) {w0 : World} {Q : Exit → St → Prop} {AA : Nat → Array Bool → St → Prop} (hAA : ∀ g L st, AA g L st ↔ AWPB Try.prog w0 reg_rotabig_Rat_Add_B_1.toArray Q g L st) (hn2 : AA 2 #[true, true, true, true, true, true, true, true, true, true, true, true, true, true, true, false, false] ⟨33, [(0, .ptr 0 0 0), (1, .ptr 0 0 0), (2, .ptr 1 0 0), (8, .ptr 8 0 0), (15, .ptr 9 0 0), (22, .ptr 14 0 0)], [some (.gen 33 4 [[.bool y3.1.1, .own 15 y3.1.2.length, .bool y3.2.1, .own 16 y3.2.2.length]]), some (.gen 33 4 [[.bool y1.1.1, .own 10 y1.1.2.length, .bool y1.2.1, .own 11 y1.2.2.length]]), none, none, none, none, some (.pin 0 pl0), some (.pin 1 pl1), some (.gen 31 2 [[.bool false, .nil]]), some (.gen 31 2 [[.bool y2.1, .own 13 y2.2.length]]), some (.ints 186 .u32 y1.1.2), some (.ints 186 .u32 y1.2.2), none, some (.ints 186 .u32 y2.2), some (.gen 31 2 [[.bool y4.1, .own 18 y4.2.length]]), some (.ints 186 .u32 y3.1.2), some (.ints 186 .u32 y3.2.2), none, some (.ints 186 .u32 y4.2)]⟩) : AA 3 #[true, true, true, true, true, true, true, true, true, true, true, true, true, true, false, false, false] ⟨33, [(0, .ptr 0 0 0), (1, .ptr 0 0 0), (2, .ptr 1 0 0), (8, .ptr 8 0 0), (15, .ptr 9 0 0), (16, .ptr 14 0 0), (19, .ptr 1 0 0), (21, .ptr 0 0 2)], [some (.gen 33 4 [[.bool y3.1.1, .own 15 y3.1.2.length, .bool y3.2.1, .own 16 y3.2.2.length]]), some (.gen 33 4 [[.bool y1.1.1, .own 10 y1.1.2.length, .bool y1.2.1, .own 11 y1.2.2.length]]), none, none, none, none, some (.pin 0 pl0), some (.pin 1 pl1), some (.gen 31 2 [[.bool false, .nil]]), some (.gen 31 2 [[.bool y2.1, .own 13 y2.2.length]]), some (.ints 186 .u32 y1.1.2), some (.ints 186 .u32 y1.2.2), none, some (.ints 186 .u32 y2.2), some (.gen 31 2 [[.bool false, .nil]]), some (.ints 186 .u32 y3.1.2), some (.ints 186 .u32 y3.2.2)]⟩ := (hAA _ _ _).2 (by
  refine AWPB_one 14 _ ceg_rotabig_Rat_Add_B_1_7 rfl ?_
  refine AWPL_gs' (gs_ownH 14 1 (.ints 186 .u32 []) rfl rfl rfl) fun st' hr => ?_
  simp only [go_sem, List.cons_append, List.nil_append, List.set_cons_zero, List.set_cons_succ] at hr
  subst hr
  refine AWPL_gS [0, 1, 2, 7, 8, 15, 22, 23] [14, 17] [.ptr 0 0 0, .immp [.bool y1.1.1, .ints .u32 y1.1.2], .immp [.bool y3.2.1, .ints .u32 y3.2.2]] [some (.gen 33 4 [[.bool y3.1.1, .own 15 y3.1.2.length, .bool y3.2.1, .own 16 y3.2.2.length]]), some (.gen 33 4 [[.bool y1.1.1, .own 10 y1.1.2.length, .bool y1.2.1, .own 11 y1.2.2.length]]), none, none, none, none, some (.pin 0 pl0), some (.pin 1 pl1), some (.gen 31 2 [[.bool false, .nil]]), some (.gen 31 2 [[.bool y2.1, .own 13 y2.2.length]]), some (.ints 186 .u32 y1.1.2), some (.ints 186 .u32 y1.2.2), none, some (.ints 186 .u32 y2.2), some (.gen 31 2 [[.bool y4.1, .own 18 y4.2.length]]), some (.ints 186 .u32 y3.1.2), some (.ints 186 .u32 y3.2.2), none, some (.ints 186 .u32 y4.2)] (r' := .ptr 14 0 0) (W_rotabig_Int_Mul_r hy3) rfl rfl pcT rfl Try.call65 (of_decide_eq_true rfl) ⟨rfl, rfl, trivial⟩ (.ptr 0 rfl (.cons (ArgOk.part (j0 := 0) rfl rfl (of_decide_eq_true rfl) (.cons (.atom _ rfl) (.cons (.ownI _ _ _ _ _ y1.1.2 rfl (by simp) (by first | simp | exact List.take_of_length_le (by simp))) .nil))) (.cons (ArgOk.part (j0 := 2) rfl rfl (of_decide_eq_true rfl) (.cons (.atom _ rfl) (.cons (.ownI _ _ _ _ _ y3.2.2 rfl (by simp) (by first | simp | exact List.take_of_length_le (by simp))) .nil))) .nil))) (hscG trivial) (of_decide_eq_true rfl) rfl rfl rfl (of_decide_eq_true rfl) rfl fun st' hr => ?_
  simp only [go_sem] at hr
  subst hr
  refine AWPL_nil ?_
  refine QB_normal ?_
  exact AWPB_wk [0, 1, 2, 3, 4, 5, 6, 7, 8, 9, 10, 11, 12, 13, 14, 15, 16, 17, 18] mkWk ((hAA _ _ _).1 hn2))

theorem ceg_rotabig_Rat_Add_B_1_9 : (Region.ready .any reg_rotabig_Rat_Add_B_1.toArray #[true, true, true, true, true, true, true, true, true, true, true, true, true, false, false, false, false] == [13]) = true := by kernel_rfl

theorem J_rotabig_Rat_Add_B_1_hn4 {q0 : (Bool × List Int) × (Bool × List Int)} {q1 : (Bool × List Int) × (Bool × List Int)} {y1 : (Bool × List Int) × (Bool × List Int)} {y2 : Bool × List Int} {y3 : (Bool × List Int) × (Bool × List Int)} {y4 : Bool × List Int} {y5 : Bool × List Int} {pl0 : AX.Loc} {pl1 : AX.Loc} (hy : rotabig_Rat_den_B ((q1.1.1, q1.1.2), (q1.2.1, q1.2.2)) = some y1) (hy1 : rotabig_Int_Mul_r q0.1.1 q0.1.2 y1.2.1 y1.2.2 (false, []) = some y2) (hy2 : rotabig_Rat_den_B ((q0.1.1, q0.1.2), (q0.2.1, q0.2.2)) = some y3) (hy3 : rotabig_Int_Mul_r y1.1.1 y1.1.2 y3.2.1 y3.2.2 (false, []) = some y4) (hy4 : rotabig_Int_Add_r y2.1 y2.2 y4.1 y4.2 (false, []) = some y5) {w0 : World} {Q : Exit → St → Prop} {AA : Nat → Array Bool → St → Prop} (hAA : ∀ g L st, AA g L st ↔ AWPB Try.prog w0 reg_rotabig_Rat_Add_B_1.toArray Q g L st) (hn3 : AA 3 #[true, true, true, true, true, true, true, true, true, true, true, true, true, true, false, false, false] ⟨33, [(0, .ptr 0 0 0), (1, .ptr 0 0 0), (2, .ptr 1 0 0), (8, .ptr 8 0 0), (15, .ptr 9 0 0), (16, .ptr 14 0 0), (19, .ptr 1 0 0), (21, .ptr 0 0 2)], [some (.gen 33 4 [[.bool y3.1.1, .own 15 y3.1.2.length, .bool y3.2.1, .own 16 y3.2.2.length]]), some (.gen 33 4 [[.bool y1.1.1, .own 10 y1.1.2.length, .bool y1.2.1, .own 11 y1.2.2.length]]), none, none, none, none, some (.pin 0 pl0), some (.pin 1 pl1), some (.gen 31 2 [[.bool false, .nil]]), some (.gen 31 2 [[.bool y2.1, .own 13 y2.2.length]]), some (.ints 186 .u32 y1.1.2), some (.ints 186 .u32 y1.2.2), none, some (.ints 186 .u32 y2.2), some (.gen 31 2 [[.bool false, .nil]]), some (.ints 186 .u32 y3.1.2), some (.ints 186 .u32 y3.2.2)]⟩) : AA 4 #[true, true, true, true, true, true, true, true, true, true, true, true, true, false, false, false, false] ⟨33, [(0, .ptr 0 0 0), (1, .ptr 0 0 0), (2, .ptr 1 0 0), (8, .ptr 8 0 0), (15, .ptr 9 0 0), (16, .ptr 14 0 0), (19, .ptr 1 0 0), (20, .ptr 0 0 0)], [some (.gen 33 4 [[.bool q0.1.1, .own 2 q0.1.2.length, .bool q0.2.1, .own 3 q0.2.2.length]]), some (.gen 33 4 [[.bool y1.1.1, .own 10 y1.1.2.length, .bool y1.2.1, .own 11 y1.2.2.length]]), some (.ints 186 .u32 q0.1.2), some (.ints 186 .u32 q0.2.2), none, none, some (.pin 0 pl0), some (.pin 1 pl1), some (.gen 31 2 [[.bool false, .nil]]), some (.gen 31 2 [[.bool y2.1, .own 13 y2.2.length]]), some (.ints 186 .u32 y1.1.2), some (.ints 186 .u32 y1.2.2), none, some (.ints 186 .u32 y2.2), some (.gen 31 2 [[.bool false, .nil]])]⟩ := (hAA _ _ _).2 (by
  refine AWPB_one 13 _ ceg_rotabig_Rat_Add_B_1_9 rfl ?_
  refine AWPL_gR [0, 1, 2, 7, 8, 15, 16, 19, 21, 22, 23] [0, 2, 3] [.ptr 0 0 0] [some (.gen 33 4 [[.bool y3.1.1, .own 15 y3.1.2.length, .bool y3.2.1, .own 16 y3.2.2.length]]), some (.gen 33 4 [[.bool y1.1.1, .own 10 y1.1.2.length, .bool y1.2.1, .own 11 y1.2.2.length]]), none, none, none, none, some (.pin 0 pl0), some (.pin 1 pl1), some (.gen 31 2 [[.bool false, .nil]]), some (.gen 31 2 [[.bool y2.1, .own 13 y2.2.length]]), some (.ints 186 .u32 y1.1.2), some (.ints 186 .u32 y1.2.2), none, some (.ints 186 .u32 y2.2), some (.gen 31 2 [[.bool false, .nil]]), some (.ints 186 .u32 y3.1.2), some (.ints 186 .u32 y3.2.2)] (r' := .ptr 0 0 2) (W_rotabig_Rat_den_B hy2) rfl rfl pcT rfl Try.call66 (of_decide_eq_true rfl) ⟨rfl, rfl, rfl, trivial⟩ rfl (hscG trivial) (of_decide_eq_true rfl) rfl rfl rfl (of_decide_eq_true rfl) rfl fun st' hr => ?_
  simp only [go_sem] at hr
  subst hr
  refine AWPL_nil ?_
  refine QB_normal ?_
  exact AWPB_wk [0, 1, 2, 3, 4, 5, 6, 7, 8, 9, 10, 11, 12, 13, 14, 15, 16] mkWk ((hAA _ _ _).1 hn3))

theorem ceg_rotabig_Rat_Add_B_1_11 : (Region.ready .any reg_rotabig_Rat_Add_B_1.toArray #[true, true, true, true, true, true, true, true, false, true, true, true, true, true, false, false, false] == [8]) = true := by kernel_rfl

theorem J_rotabig_Rat_Add_B_1_hn5 {q0 : (Bool × List Int) × (Bool × List Int)} {q1 : (Bool × List Int) × (Bool × List Int)} {y1 : (Bool × List Int) × (Bool × List Int)} {y2 : Bool × List Int} {y3 : (Bool × List Int) × (Bool × List Int)} {y4 : Bool × List Int} {y5 : Bool × List Int} {pl0 : AX.Loc} {pl1 : AX.Loc} (hy : rotabig_Rat_den_B ((q1.1.1, q1.1.2), (q1.2.1, q1.2.2)) = some y1) (hy1 : rotabig_Int_Mul_r q0.1.1 q0.1.2 y1.2.1 y1.2.2 (false, []) = some y2) (hy2 : rotabig_Rat_den_B ((q0.1.1, q0.1.2), (q0.2.1, q0.2.2)) = some y3) (hy3 : rotabig_Int_Mul_r y1.1.1 y1.1.2 y3.2.1 y3.2.2 (false, []) = some y4) (hy4 : rotabig_Int_Add_r y2.1 y2.2 y4.1 y4.2 (false, []) = some y5) {w0 : World} {Q : Exit → St → Prop} {AA : Nat → Array Bool → St → Prop} (hAA : ∀ g L st, AA g L st ↔ AWPB Try.prog w0 reg_rotabig_Rat_Add_B_1.toArray Q g L st) (hn3 : AA 3 #[true, true, true, true, true, true, true, true, true, true, true, true, true, true, false, false, false] ⟨33, [(0, .ptr 0 0 0), (1, .ptr 0 0 0), (2, .ptr 1 0 0), (8, .ptr 8 0 0), (15, .ptr 9 0 0), (16, .ptr 14 0 0), (19, .ptr 1 0 0), (21, .ptr 0 0 2)], [some (.gen 33 4 [[.bool y3.1.1, .own 15 y3.1.2.length, .bool y3.2.1, .own 16 y3.2.2.length]]), some (.gen 33 4 [[.bool y1.1.1, .own 10 y1.1.2.length, .bool y1.2.1, .own 11 y1.2.2.length]]), none, none, none, none, some (.pin 0 pl0), some (.pin 1 pl1), some (.gen 31 2 [[.bool false, .nil]]), some (.gen 31 2 [[.bool y2.1, .own 13 y2.2.length]]), some (.ints 186 .u32 y1.1.2), some (.ints 186 .u32 y1.2.2), none, some (.ints 186 .u32 y2.2), some (.gen 31 2 [[.bool false, .nil]]), some (.ints 186 .u32 y3.1.2), some (.ints 186 .u32 y3.2.2)]⟩) : AA 4 #[true, true, true, true, true, true, true, true, false, true, true, true, true, true, false, false, false] ⟨33, [(0, .ptr 0 0 0), (1, .ptr 0 0 0), (2, .ptr 1 0 0), (8, .ptr 8 0 0), (15, .ptr 9 0 0), (19, .ptr 1 0 0), (21, .ptr 0 0 2)], [some (.gen 33 4 [[.bool y3.1.1, .own 14 y3.1.2.length, .bool y3.2.1, .own 15 y3.2.2.length]]), some (.gen 33 4 [[.bool y1.1.1, .own 10 y1.1.2.length, .bool y1.2.1, .own 11 y1.2.2.length]]), none, none, none, none, some (.pin 0 pl0), some (.pin 1 pl1), some (.gen 31 2 [[.bool false, .nil]]), some (.gen 31 2 [[.bool y2.1, .own 13 y2.2.length]]), some (.ints 186 .u32 y1.1.2), some (.ints 186 .u32 y1.2.2), none, some (.ints 186 .u32 y2.2), some (.ints 186 .u32 y3.1.2), some (.ints 186 .u32 y3.2.2)]⟩ := (hAA _ _ _).2 (by
  refine AWPB_one 8 _ ceg_rotabig_Rat_Add_B_1_11 rfl ?_
  refine AWPL_rn tab_ok 1 [0, 1, 2, 7, 8, 15, 16, 19, 21, 22, 23] fun c st' hr => ?_
  simp only [go_sem] at hr
  obtain ⟨rfl, rfl⟩ := hr
  refine ⟨vc, ?_⟩
  refine AWPL_nil ?_
  refine QB_normal ?_
  exact AWPB_wk [0, 1, 2, 3, 4, 5, 6, 7, 8, 9, 10, 11, 12, 13, 16, 14, 15] mkWk ((hAA _ _ _).1 hn3))

theorem ceg_rotabig_Rat_Add_B_1_13 : (Region.ready .any reg_rotabig_Rat_Add_B_1.toArray #[true, true, true, true, true, true, true, true, false, true, true, true, true, false, false, false, false] == [8, 13]) = true := by kernel_rfl

theorem J_rotabig_Rat_Add_B_1_hn6 {q0 : (Bool × List Int) × (Bool × List Int)} {q1 : (Bool × List Int) × (Bool × List Int)} {y1 : (Bool × List Int) × (Bool × List Int)} {y2 : Bool × List Int} {y3 : (Bool × List Int) × (Bool × List Int)} {y4 : Bool × List Int} {y5 : Bool × List Int} {pl0 : AX.Loc} {pl1 : AX.Loc} (hy : rotabig_Rat_den_B ((q1.1.1, q1.1.2), (q1.2.1, q1.2.2)) = some y1) (hy1 : rotabig_Int_Mul_r q0.1.1 q0.1.2 y1.2.1 y1.2.2 (false, []) = some y2) (hy2 : rotabig_Rat_den_B ((q0.1.1, q0.1.2), (q0.2.1, q0.2.2)) = some y3) (hy3 : rotabig_Int_Mul_r y1.1.1 y1.1.2 y3.2.1 y3.2.2 (false, []) = some y4) (hy4 : rotabig_Int_Add_r y2.1 y2.2 y4.1 y4.2 (false, []) = some y5) {w0 : World} {Q : Exit → St → Prop} {AA : Nat → Array Bool → St → Prop} (hAA : ∀ g L st, AA g L st ↔ AWPB Try.prog w0 reg_rotabig_Rat_Add_B_1.toArray Q g L st) (hn4 : AA 4 #[true, true, true, true, true, true, true, true, true, true, true, true, true, false, false, false, false] ⟨33, [(0, .ptr 0 0 0), (1, .ptr 0 0 0), (2, .ptr 1 0 0), (8, .ptr 8 0 0), (15, .ptr 9 0 0), (16, .ptr 14 0 0), (19, .ptr 1 0 0), (20, .ptr 0 0 0)], [some (.gen 33 4 [[.bool q0.1.1, .own 2 q0.1.2.length, .bool q0.2.1, .own 3 q0.2.2.length]]), some (.gen 33 4 [[.bool y1.1.1, .own 10 y1.1.2.length, .bool y1.2.1, .own 11 y1.2.2.length]]), some (.ints 186 .u32 q0.1.2), some (.ints 186 .u32 q0.2.2), none, none, some (.pin 0 pl0), some (.pin 1 pl1), some (.gen 31 2 [[.bool false, .nil]]), some (.gen 31 2 [[.bool y2.1, .own 13 y2.2.length]]), some (.ints 186 .u32 y1.1.2), some (.ints 186 .u32 y1.2.2), none, some (.ints 186 .u32 y2.2), some (.gen 31 2 [[.bool false, .nil]])]⟩) (hn5 : AA 4 #[true, true, true, true, true, true, true, true, false, true, true, true, true, true, false, false, false] ⟨33, [(0, .ptr 0 0 0), (1, .ptr 0 0 0), (2, .ptr 1 0 0), (8, .ptr 8 0 0), (15, .ptr 9 0 0), (19, .ptr 1 0 0), (21, .ptr 0 0 2)], [some (.gen 33 4 [[.bool y3.1.1, .own 14 y3.1.2.length, .bool y3.2.1, .own 15 y3.2.2.length]]), some (.gen 33 4 [[.bool y1.1.1, .own 10 y1.1.2.length, .bool y1.2.1, .own 11 y1.2.2.length]]), none, none, none, none, some (.pin 0 pl0), some (.pin 1 pl1), some (.gen 31 2 [[.bool false, .nil]]), some (.gen 31 2 [[.bool y2.1, .own 13 y2.2.length]]), some (.ints 186 .u32 y1.1.2), some (.ints 186 .u32 y1.2.2), none, some (.ints 186 .u32 y2.2), some (.ints 186 .u32 y3.1.2), some (.ints 186 .u32 y3.2.2)]⟩) : AA 5 #[true, true, true, true, true, true, true, true, false, true, true, true, true, false, false, false, false] ⟨33, [(0, .ptr 0 0 0), (1, .ptr 0 0 0), (2, .ptr 1 0 0), (8, .ptr 8 0 0), (15, .ptr 9 0 0), (19, .ptr 1 0 0), (20, .ptr 0 0 0)], [some (.gen 33 4 [[.bool q0.1.1, .own 2 q0.1.2.length, .bool q0.2.1, .own 3 q0.2.2.length]]), some (.gen 33 4 [[.bool y1.1.1, .own 10 y1.1.2.length, .bool y1.2.1, .own 11 y1.2.2.length]]), some (.ints 186 .u32 q0.1.2), some (.ints 186 .u32 q0.2.2), none, none, some (.pin 0 pl0), some (.pin 1 pl1), some (.gen 31 2 [[.bool false, .nil]]), some (.gen 31 2 [[.bool y2.1, .own 13 y2.2.length]]), some (.ints 186 .u32 y1.1.2), some (.ints 186 .u32 y1.2.2), none, some (.ints 186 .u32 y2.2)]⟩ := (hAA _ _ _).2 (by
  refine AWPB_two 8 13 _ _ ceg_rotabig_Rat_Add_B_1_13 rfl rfl ?_ ?_
  ·skip
   refine AWPL_rn tab_ok 1 [0, 1, 2, 7, 8, 15, 16, 19, 20, 21, 22, 23] fun c st' hr => ?_
   simp only [go_sem] at hr
   obtain ⟨rfl, rfl⟩ := hr
   refine ⟨vc, ?_⟩
   refine AWPL_nil ?_
   refine QB_normal ?_
   exact AWPB_wk [0, 1, 2, 3, 4, 5, 6, 7, 8, 9, 10, 11, 12, 13, 14] mkWk ((hAA _ _ _).1 hn4)
  ·skip
   refine AWPL_gR [0, 1, 2, 7, 8, 15, 16, 19, 21, 22, 23] [0, 2, 3] [.ptr 0 0 0] [some (.gen 33 4 [[.bool y3.1.1, .own 14 y3.1.2.length, .bool y3.2.1, .own 15 y3.2.2.length]]), some (.gen 33 4 [[.bool y1.1.1, .own 10 y1.1.2.length, .bool y1.2.1, .own 11 y1.2.2.length]]), none, none, none, none, some (.pin 0 pl0), some (.pin 1 pl1), some (.gen 31 2 [[.bool false, .nil]]), some (.gen 31 2 [[.bool y2.1, .own 13 y2.2.length]]), some (.ints 186 .u32 y1.1.2), some (.ints 186 .u32 y1.2.2), none, some (.ints 186 .u32 y2.2), some (.ints 186 .u32 y3.1.2), some (.ints 186 .u32 y3.2.2)] (r' := .ptr 0 0 2) (W_rotabig_Rat_den_B hy2) rfl rfl pcT rfl Try.call66 (of_decide_eq_true rfl) ⟨rfl, rfl, rfl, trivial⟩ rfl (hscG trivial) (of_decide_eq_true rfl) rfl rfl rfl (of_decide_eq_true rfl) rfl fun st' hr => ?_
   simp only [go_sem] at hr
   subst hr
   refine AWPL_nil ?_
   refine QB_normal ?_
   exact AWPB_wk [0, 1, 2, 3, 4, 5, 6, 7, 8, 9, 10, 11, 12, 13, 14, 15] mkWk ((hAA _ _ _).1 hn5))

theorem ceg_rotabig_Rat_Add_B_1_15 : (Region.ready .any reg_rotabig_Rat_Add_B_1.toArray #[true, true, true, true, true, true, true, false, true, true, true, true, true, false, false, false, false] == [7]) = true := by kernel_rfl

theorem J_rotabig_Rat_Add_B_1_hn7 {q0 : (Bool × List Int) × (Bool × List Int)} {q1 : (Bool × List Int) × (Bool × List Int)} {y1 : (Bool × List Int) × (Bool × List Int)} {y2 : Bool × List Int} {y3 : (Bool × List Int) × (Bool × List Int)} {y4 : Bool × List Int} {y5 : Bool × List Int} {pl0 : AX.Loc} {pl1 : AX.Loc} (hy : rotabig_Rat_den_B ((q1.1.1, q1.1.2), (q1.2.1, q1.2.2)) = some y1) (hy1 : rotabig_Int_Mul_r q0.1.1 q0.1.2 y1.2.1 y1.2.2 (false, []) = some y2) (hy2 : rotabig_Rat_den_B ((q0.1.1, q0.1.2), (q0.2.1, q0.2.2)) = some y3) (hy3 : rotabig_Int_Mul_r y1.1.1 y1.1.2 y3.2.1 y3.2.2 (false, []) = some y4) (hy4 : rotabig_Int_Add_r y2.1 y2.2 y4.1 y4.2 (false, []) = some y5) {w0 : World} {Q : Exit → St → Prop} {AA : Nat → Array Bool → St → Prop} (hAA : ∀ g L st, AA g L st ↔ AWPB Try.prog w0 reg_rotabig_Rat_Add_B_1.toArray Q g L st) (hn4 : AA 4 #[true, true, true, true, true, true, true, true, true, true, true, true, true, false, false, false, false] ⟨33, [(0, .ptr 0 0 0), (1, .ptr 0 0 0), (2, .ptr 1 0 0), (8, .ptr 8 0 0), (15, .ptr 9 0 0), (16, .ptr 14 0 0), (19, .ptr 1 0 0), (20, .ptr 0 0 0)], [some (.gen 33 4 [[.bool q0.1.1, .own 2 q0.1.2.length, .bool q0.2.1, .own 3 q0.2.2.length]]), some (.gen 33 4 [[.bool y1.1.1, .own 10 y1.1.2.length, .bool y1.2.1, .own 11 y1.2.2.length]]), some (.ints 186 .u32 q0.1.2), some (.ints 186 .u32 q0.2.2), none, none, some (.pin 0 pl0), some (.pin 1 pl1), some (.gen 31 2 [[.bool false, .nil]]), some (.gen 31 2 [[.bool y2.1, .own 13 y2.2.length]]), some (.ints 186 .u32 y1.1.2), some (.ints 186 .u32 y1.2.2), none, some (.ints 186 .u32 y2.2), some (.gen 31 2 [[.bool false, .nil]])]⟩) : AA 5 #[true, true, true, true, true, true, true, false, true, true, true, true, true, false, false, false, false] ⟨33, [(0, .ptr 0 0 0), (1, .ptr 0 0 0), (2, .ptr 1 0 0), (8, .ptr 8 0 0), (9, .ptr 9 0 0), (12, .ptr 0 0 0), (14, .ptr 1 0 2), (16, .ptr 12 0 0), (19, .ptr 1 0 0), (20, .ptr 0 0 0)], [some (.gen 33 4 [[.bool q0.1.1, .own 2 q0.1.2.length, .bool q0.2.1, .own 3 q0.2.2.length]]), some (.gen 33 4 [[.bool y1.1.1, .own 10 y1.1.2.length, .bool y1.2.1, .own 11 y1.2.2.length]]), some (.ints 186 .u32 q0.1.2), some (.ints 186 .u32 q0.2.2), none, none, some (.pin 0 pl0), some (.pin 1 pl1), some (.gen 31 2 [[.bool false, .nil]]), some (.gen 31 2 [[.bool false, .nil]]), some (.ints 186 .u32 y1.1.2), some (.ints 186 .u32 y1.2.2), some (.gen 31 2 [[.bool false, .nil]])]⟩ := (hAA _ _ _).2 (by
  refine AWPB_one 7 _ ceg_rotabig_Rat_Add_B_1_15 rfl ?_
  refine AWPL_gs' (gs_ownH 9 1 (.ints 186 .u32 []) rfl rfl rfl) fun st' hr => ?_
  simp only [go_sem, List.cons_append, List.nil_append, List.set_cons_zero, List.set_cons_succ] at hr
  subst hr
  refine AWPL_gS [0, 1, 2, 7, 8, 15, 16, 19, 20, 21, 22, 23] [9, 13] [.ptr 0 0 0, .immp [.bool q0.1.1, .ints .u32 q0.1.2], .immp [.bool y1.2.1, .ints .u32 y1.2.2]] [some (.gen 33 4 [[.bool q0.1.1, .own 2 q0.1.2.length, .bool q0.2.1, .own 3 q0.2.2.length]]), some (.gen 33 4 [[.bool y1.1.1, .own 10 y1.1.2.length, .bool y1.2.1, .own 11 y1.2.2.length]]), some (.ints 186 .u32 q0.1.2), some (.ints 186 .u32 q0.2.2), none, none, some (.pin 0 pl0), some (.pin 1 pl1), some (.gen 31 2 [[.bool false, .nil]]), some (.gen 31 2 [[.bool y2.1, .own 14 y2.2.length]]), some (.ints 186 .u32 y1.1.2), some (.ints 186 .u32 y1.2.2), some (.gen 31 2 [[.bool false, .nil]]), none, some (.ints 186 .u32 y2.2)] (r' := .ptr 9 0 0) (W_rotabig_Int_Mul_r hy1) rfl rfl pcT rfl Try.call65 (of_decide_eq_true rfl) ⟨rfl, rfl, trivial⟩ (.ptr 0 rfl (.cons (ArgOk.part (j0 := 0) rfl rfl (of_decide_eq_true rfl) (.cons (.atom _ rfl) (.cons (.ownI _ _ _ _ _ q0.1.2 rfl (by simp) (by first | simp | exact List.take_of_length_le (by simp))) .nil))) (.cons (ArgOk.part (j0 := 2) rfl rfl (of_decide_eq_true rfl) (.cons (.atom _ rfl) (.cons (.ownI _ _ _ _ _ y1.2.2 rfl (by simp) (by first | simp | exact List.take_of_length_le (by simp))) .nil))) .nil))) (hscG trivial) (of_decide_eq_true rfl) rfl rfl rfl (of_decide_eq_true rfl) rfl fun st' hr => ?_
  simp only [go_sem] at hr
  subst hr
  refine AWPL_nil ?_
  refine QB_normal ?_
  exact AWPB_wk [0, 1, 2, 3, 4, 5, 6, 7, 8, 9, 10, 11, 13, 14, 12] mkWk ((hAA _ _ _).1 hn4))

theorem ceg_rotabig_Rat_Add_B_1_17 : (Region.ready .any reg_rotabig_Rat_Add_B_1.toArray #[true, true, true, true, true, true, true, false, false, true, true, true, true, false, false, false, false] == [7, 8]) = true := by kernel_rfl

theorem J_rotabig_Rat_Add_B_1_hn8 {q0 : (Bool × List Int) × (Bool × List Int)} {q1 : (Bool × List Int) × (Bool × List Int)} {y1 : (Bool × List Int) × (Bool × List Int)} {y2 : Bool × List Int} {y3 : (Bool × List Int) × (Bool × List Int)} {y4 : Bool × List Int} {y5 : Bool × List Int} {pl0 : AX.Loc} {pl1 : AX.Loc} (hy : rotabig_Rat_den_B ((q1.1.1, q1.1.2), (q1.2.1, q1.2.2)) = some y1) (hy1 : rotabig_Int_Mul_r q0.1.1 q0.1.2 y1.2.1 y1.2.2 (false, []) = some y2) (hy2 : rotabig_Rat_den_B ((q0.1.1, q0.1.2), (q0.2.1, q0.2.2)) = some y3) (hy3 : rotabig_Int_Mul_r y1.1.1 y1.1.2 y3.2.1 y3.2.2 (false, []) = some y4) (hy4 : rotabig_Int_Add_r y2.1 y2.2 y4.1 y4.2 (false, []) = some y5) {w0 : World} {Q : Exit → St → Prop} {AA : Nat → Array Bool → St → Prop} (hAA : ∀ g L st, AA g L st ↔ AWPB Try.prog w0 reg_rotabig_Rat_Add_B_1.toArray Q g L st) (hn6 : AA 5 #[true, true, true, true, true, true, true, true, false, true, true, true, true, false, false, false, false] ⟨33, [(0, .ptr 0 0 0), (1, .ptr 0 0 0), (2, .ptr 1 0 0), (8, .ptr 8 0 0), (15, .ptr 9 0 0), (19, .ptr 1 0 0), (20, .ptr 0 0 0)], [some (.gen 33 4 [[.bool q0.1.1, .own 2 q0.1.2.length, .bool q0.2.1, .own 3 q0.2.2.length]]), some (.gen 33 4 [[.bool y1.1.1, .own 10 y1.1.2.length, .bool y1.2.1, .own 11 y1.2.2.length]]), some (.ints 186 .u32 q0.1.2), some (.ints 186 .u32 q0.2.2), none, none, some (.pin 0 pl0), some (.pin 1 pl1), some (.gen 31 2 [[.bool false, .nil]]), some (.gen 31 2 [[.bool y2.1, .own 13 y2.2.length]]), some (.ints 186 .u32 y1.1.2), some (.ints 186 .u32 y1.2.2), none, some (.ints 186 .u32 y2.2)]⟩) (hn7 : AA 5 #[true, true, true, true, true, true, true, false, true, true, true, true, true, false, false, false, false] ⟨33, [(0, .ptr 0 0 0), (1, .ptr 0 0 0), (2, .ptr 1 0 0), (8, .ptr 8 0 0), (9, .ptr 9 0 0), (12, .ptr 0 0 0), (14, .ptr 1 0 2), (16, .ptr 12 0 0), (19, .ptr 1 0 0), (20, .ptr 0 0 0)], [some (.gen 33 4 [[.bool q0.1.1, .own 2 q0.1.2.length, .bool q0.2.1, .own 3 q0.2.2.length]]), some (.gen 33 4 [[.bool y1.1.1, .own 10 y1.1.2.length, .bool y1.2.1, .own 11 y1.2.2.length]]), some (.ints 186 .u32 q0.1.2), some (.ints 186 .u32 q0.2.2), none, none, some (.pin 0 pl0), some (.pin 1 pl1), some (.gen 31 2 [[.bool false, .nil]]), some (.gen 31 2 [[.bool false, .nil]]), some (.ints 186 .u32 y1.1.2), some (.ints 186 .u32 y1.2.2), some (.gen 31 2 [[.bool false, .nil]])]⟩) : AA 6 #[true, true, true, true, true, true, true, false, false, true, true, true, true, false, false, false, false] ⟨33, [(0, .ptr 0 0 0), (1, .ptr 0 0 0), (2, .ptr 1 0 0), (8, .ptr 8 0 0), (9, .ptr 9 0 0), (12, .ptr 0 0 0), (14, .ptr 1 0 2), (19, .ptr 1 0 0), (20, .ptr 0 0 0)], [some (.gen 33 4 [[.bool q0.1.1, .own 2 q0.1.2.length, .bool q0.2.1, .own 3 q0.2.2.length]]), some (.gen 33 4 [[.bool y1.1.1, .own 10 y1.1.2.length, .bool y1.2.1, .own 11 y1.2.2.length]]), some (.ints 186 .u32 q0.1.2), some (.ints 186 .u32 q0.2.2), none, none, some (.pin 0 pl0), some (.pin 1 pl1), some (.gen 31 2 [[.bool false, .nil]]), some (.gen 31 2 [[.bool false, .nil]]), some (.ints 186 .u32 y1.1.2), some (.ints 186 .u32 y1.2.2)]⟩ := (hAA _ _ _).2 (by
  refine AWPB_two 7 8 _ _ ceg_rotabig_Rat_Add_B_1_17 rfl rfl ?_ ?_
  ·skip
   refine AWPL_gs' (gs_ownH 9 1 (.ints 186 .u32 []) rfl rfl rfl) fun st' hr => ?_
   simp only [go_sem, List.cons_append, List.nil_append, List.set_cons_zero, List.set_cons_succ] at hr
   subst hr
   refine AWPL_gS [0, 1, 2, 7, 8, 15, 16, 19, 20, 21, 22, 23] [9, 12] [.ptr 0 0 0, .immp [.bool q0.1.1, .ints .u32 q0.1.2], .immp [.bool y1.2.1, .ints .u32 y1.2.2]] [some (.gen 33 4 [[.bool q0.1.1, .own 2 q0.1.2.length, .bool q0.2.1, .own 3 q0.2.2.length]]), some (.gen 33 4 [[.bool y1.1.1, .own 10 y1.1.2.length, .bool y1.2.1, .own 11 y1.2.2.length]]), some (.ints 186 .u32 q0.1.2), some (.ints 186 .u32 q0.2.2), none, none, some (.pin 0 pl0), some (.pin 1 pl1), some (.gen 31 2 [[.bool false, .nil]]), some (.gen 31 2 [[.bool y2.1, .own 13 y2.2.length]]), some (.ints 186 .u32 y1.1.2), some (.ints 186 .u32 y1.2.2), none, some (.ints 186 .u32 y2.2)] (r' := .ptr 9 0 0) (W_rotabig_Int_Mul_r hy1) rfl rfl pcT rfl Try.call65 (of_decide_eq_true rfl) ⟨rfl, rfl, trivial⟩ (.ptr 0 rfl (.cons (ArgOk.part (j0 := 0) rfl rfl (of_decide_eq_true rfl) (.cons (.atom _ rfl) (.cons (.ownI _ _ _ _ _ q0.1.2 rfl (by simp) (by first | simp | exact List.take_of_length_le (by simp))) .nil))) (.cons (ArgOk.part (j0 := 2) rfl rfl (of_decide_eq_true rfl) (.cons (.atom _ rfl) (.cons (.ownI _ _ _ _ _ y1.2.2 rfl (by simp) (by first | simp | exact List.take_of_length_le (by simp))) .nil))) .nil))) (hscG trivial) (of_decide_eq_true rfl) rfl rfl rfl (of_decide_eq_true rfl) rfl fun st' hr => ?_
   simp only [go_sem] at hr
   subst hr
   refine AWPL_nil ?_
   refine QB_normal ?_
   exact AWPB_wk [0, 1, 2, 3, 4, 5, 6, 7, 8, 9, 10, 11, 12, 13] mkWk ((hAA _ _ _).1 hn6)
  ·skip
   refine AWPL_rn tab_ok 1 [0, 1, 2, 7, 8, 9, 12, 14, 15, 16, 19, 20, 21, 22, 23] fun c st' hr => ?_
   simp only [go_sem] at hr
   obtain ⟨rfl, rfl⟩ := hr
   refine ⟨vc, ?_⟩
   refine AWPL_nil ?_
   refine QB_normal ?_
   exact AWPB_wk [0, 1, 2, 3, 4, 5, 6, 7, 8, 9, 10, 11, 12] mkWk ((hAA _ _ _).1 hn7))

theorem ceg_rotabig_Rat_Add_B_1_19 : (Region.ready .any reg_rotabig_Rat_Add_B_1.toArray #[true, true, true, true, true, true, false, false, true, true, true, true, true, false, false, false, false] == [6]) = true := by kernel_rfl

theorem J_rotabig_Rat_Add_B_1_hn9 {q0 : (Bool × List Int) × (Bool × List Int)} {q1 : (Bool × List Int) × (Bool × List Int)} {y1 : (Bool × List Int) × (Bool × List Int)} {y2 : Bool × List Int} {y3 : (Bool × List Int) × (Bool × List Int)} {y4 : Bool × List Int} {y5 : Bool × List Int} {pl0 : AX.Loc} {pl1 : AX.Loc} (hy : rotabig_Rat_den_B ((q1.1.1, q1.1.2), (q1.2.1, q1.2.2)) = some y1) (hy1 : rotabig_Int_Mul_r q0.1.1 q0.1.2 y1.2.1 y1.2.2 (false, []) = some y2) (hy2 : rotabig_Rat_den_B ((q0.1.1, q0.1.2), (q0.2.1, q0.2.2)) = some y3) (hy3 : rotabig_Int_Mul_r y1.1.1 y1.1.2 y3.2.1 y3.2.2 (false, []) = some y4) (hy4 : rotabig_Int_Add_r y2.1 y2.2 y4.1 y4.2 (false, []) = some y5) {w0 : World} {Q : Exit → St → Prop} {AA : Nat → Array Bool → St → Prop} (hAA : ∀ g L st, AA g L st ↔ AWPB Try.prog w0 reg_rotabig_Rat_Add_B_1.toArray Q g L st) (hn7 : AA 5 #[true, true, true, true, true, true, true, false, true, true, true, true, true, false, false, false, false] ⟨33, [(0, .ptr 0 0 0), (1, .ptr 0 0 0), (2, .ptr 1 0 0), (8, .ptr 8 0 0), (9, .ptr 9 0 0), (12, .ptr 0 0 0), (14, .ptr 1 0 2), (16, .ptr 12 0 0), (19, .ptr 1 0 0), (20, .ptr 0 0 0)], [some (.gen 33 4 [[.bool q0.1.1, .own 2 q0.1.2.length, .bool q0.2.1, .own 3 q0.2.2.length]]), some (.gen 33 4 [[.bool y1.1.1, .own 10 y1.1.2.length, .bool y1.2.1, .own 11 y1.2.2.length]]), some (.ints 186 .u32 q0.1.2), some (.ints 186 .u32 q0.2.2), none, none, some (.pin 0 pl0), some (.pin 1 pl1), some (.gen 31 2 [[.bool false, .nil]]), some (.gen 31 2 [[.bool false, .nil]]), some (.ints 186 .u32 y1.1.2), some (.ints 186 .u32 y1.2.2), some (.gen 31 2 [[.bool false, .nil]])]⟩) : AA 6 #[true, true, true, true, true, true, false, false, true, true, true, true, true, false, false, false, false] ⟨33, [(0, .ptr 0 0 0), (1, .ptr 0 0 0), (2, .ptr 1 0 0), (8, .ptr 8 0 0), (9, .ptr 9 0 0), (12, .ptr 0 0 0), (13, .ptr 1 0 0), (16, .ptr 10 0 0), (19, .ptr 1 0 0), (20, .ptr 0 0 0)], [some (.gen 33 4 [[.bool q0.1.1, .own 2 q0.1.2.length, .bool q0.2.1, .own 3 q0.2.2.length]]), some (.gen 33 4 [[.bool q1.1.1, .own 4 q1.1.2.length, .bool q1.2.1, .own 5 q1.2.2.length]]), some (.ints 186 .u32 q0.1.2), some (.ints 186 .u32 q0.2.2), some (.ints 186 .u32 q1.1.2), some (.ints 186 .u32 q1.2.2), some (.pin 0 pl0), some (.pin 1 pl1), some (.gen 31 2 [[.bool false, .nil]]), some (.gen 31 2 [[.bool false, .nil]]), some (.gen 31 2 [[.bool false, .nil]])]⟩ := (hAA _ _ _).2 (by
  refine AWPB_one 6 _ ceg_rotabig_Rat_Add_B_1_19 rfl ?_
  refine AWPL_gR [0, 1, 2, 7, 8, 9, 12, 14, 15, 16, 19, 20, 21, 22, 23] [1, 4, 5] [.ptr 0 0 0] [some (.gen 33 4 [[.bool q0.1.1, .own 2 q0.1.2.length, .bool q0.2.1, .own 3 q0.2.2.length]]), some (.gen 33 4 [[.bool y1.1.1, .own 11 y1.1.2.length, .bool y1.2.1, .own 12 y1.2.2.length]]), some (.ints 186 .u32 q0.1.2), some (.ints 186 .u32 q0.2.2), none, none, some (.pin 0 pl0), some (.pin 1 pl1), some (.gen 31 2 [[.bool false, .nil]]), some (.gen 31 2 [[.bool false, .nil]]), some (.gen 31 2 [[.bool false, .nil]]), some (.ints 186 .u32 y1.1.2), some (.ints 186 .u32 y1.2.2)] (r' := .ptr 1 0 2) (W_rotabig_Rat_den_B hy) rfl rfl pcT rfl Try.call66 (of_decide_eq_true rfl) ⟨rfl, rfl, rfl, trivial⟩ rfl (hscG trivial) (of_decide_eq_true rfl) rfl rfl rfl (of_decide_eq_true rfl) rfl fun st' hr => ?_
  simp only [go_sem] at hr
  subst hr
  refine AWPL_nil ?_
  refine QB_normal ?_
  exact AWPB_wk [0, 1, 2, 3, 4, 5, 6, 7, 8, 9, 11, 12, 10] mkWk ((hAA _ _ _).1 hn7))

theorem ceg_rotabig_Rat_Add_B_1_21 : (Region.ready .any reg_rotabig_Rat_Add_B_1.toArray #[true, true, true, true, true, true, false, false, false, true, true, true, true, false, false, false, false] == [6, 8]) = true := by kernel_rfl

theorem J_rotabig_Rat_Add_B_1_hn10 {q0 : (Bool × List Int) × (Bool × List Int)} {q1 : (Bool × List Int) × (Bool × List Int)} {y1 : (Bool × List Int) × (Bool × List Int)} {y2 : Bool × List Int} {y3 : (Bool × List Int) × (Bool × List Int)} {y4 : Bool × List Int} {y5 : Bool × List Int} {pl0 : AX.Loc} {pl1 : AX.Loc} (hy : rotabig_Rat_den_B ((q1.1.1, q1.1.2), (q1.2.1, q1.2.2)) = some y1) (hy1 : rotabig_Int_Mul_r q0.1.1 q0.1.2 y1.2.1 y1.2.2 (false, []) = some y2) (hy2 : rotabig_Rat_den_B ((q0.1.1, q0.1.2), (q0.2.1, q0.2.2)) = some y3) (hy3 : rotabig_Int_Mul_r y1.1.1 y1.1.2 y3.2.1 y3.2.2 (false, []) = some y4) (hy4 : rotabig_Int_Add_r y2.1 y2.2 y4.1 y4.2 (false, []) = some y5) {w0 : World} {Q : Exit → St → Prop} {AA : Nat → Array Bool → St → Prop} (hAA : ∀ g L st, AA g L st ↔ AWPB Try.prog w0 reg_rotabig_Rat_Add_B_1.toArray Q g L st) (hn8 : AA 6 #[true, true, true, true, true, true, true, false, false, true, true, true, true, false, false, false, false] ⟨33, [(0, .ptr 0 0 0), (1, .ptr 0 0 0), (2, .ptr 1 0 0), (8, .ptr 8 0 0), (9, .ptr 9 0 0), (12, .ptr 0 0 0), (14, .ptr 1 0 2), (19, .ptr 1 0 0), (20, .ptr 0 0 0)], [some (.gen 33 4 [[.bool q0.1.1, .own 2 q0.1.2.length, .bool q0.2.1, .own 3 q0.2.2.length]]), some (.gen 33 4 [[.bool y1.1.1, .own 10 y1.1.2.length, .bool y1.2.1, .own 11 y1.2.2.length]]), some (.ints 186 .u32 q0.1.2), some (.ints 186 .u32 q0.2.2), none, none, some (.pin 0 pl0), some (.pin 1 pl1), some (.gen 31 2 [[.bool false, .nil]]), some (.gen 31 2 [[.bool false, .nil]]), some (.ints 186 .u32 y1.1.2), some (.ints 186 .u32 y1.2.2)]⟩) (hn9 : AA 6 #[true, true, true, true, true, true, false, false, true, true, true, true, true, false, false, false, false] ⟨33, [(0, .ptr 0 0 0), (1, .ptr 0 0 0), (2, .ptr 1 0 0), (8, .ptr 8 0 0), (9, .ptr 9 0 0), (12, .ptr 0 0 0), (13, .ptr 1 0 0), (16, .ptr 10 0 0), (19, .ptr 1 0 0), (20, .ptr 0 0 0)], [some (.gen 33 4 [[.bool q0.1.1, .own 2 q0.1.2.length, .bool q0.2.1, .own 3 q0.2.2.length]]), some (.gen 33 4 [[.bool q1.1.1, .own 4 q1.1.2.length, .bool q1.2.1, .own 5 q1.2.2.length]]), some (.ints 186 .u32 q0.1.2), some (.ints 186 .u32 q0.2.2), some (.ints 186 .u32 q1.1.2), some (.ints 186 .u32 q1.2.2), some (.pin 0 pl0), some (.pin 1 pl1), some (.gen 31 2 [[.bool false, .nil]]), some (.gen 31 2 [[.bool false, .nil]]), some (.gen 31 2 [[.bool false, .nil]])]⟩) : AA 7 #[true, true, true, true, true, true, false, false, false, true, true, true, true, false, false, false, false] ⟨33, [(0, .ptr 0 0 0), (1, .ptr 0 0 0), (2, .ptr 1 0 0), (8, .ptr 8 0 0), (9, .ptr 9 0 0), (12, .ptr 0 0 0), (13, .ptr 1 0 0), (19, .ptr 1 0 0), (20, .ptr 0 0 0)], [some (.gen 33 4 [[.bool q0.1.1, .own 2 q0.1.2.length, .bool q0.2.1, .own 3 q0.2.2.length]]), some (.gen 33 4 [[.bool q1.1.1, .own 4 q1.1.2.length, .bool q1.2.1, .own 5 q1.2.2.length]]), some (.ints 186 .u32 q0.1.2), some (.ints 186 .u32 q0.2.2), some (.ints 186 .u32 q1.1.2), some (.ints 186 .u32 q1.2.2), some (.pin 0 pl0), some (.pin 1 pl1), some (.gen 31 2 [[.bool false, .nil]]), some (.gen 31 2 [[.bool false, .nil]])]⟩ := (hAA _ _ _).2 (by
  refine AWPB_two 6 8 _ _ ceg_rotabig_Rat_Add_B_1_21 rfl rfl ?_ ?_
  ·skip
   refine AWPL_gR [0, 1, 2, 7, 8, 9, 12, 14, 15, 16, 19, 20, 21, 22, 23] [1, 4, 5] [.ptr 0 0 0] [some (.gen 33 4 [[.bool q0.1.1, .own 2 q0.1.2.length, .bool q0.2.1, .own 3 q0.2.2.length]]), some (.gen 33 4 [[.bool y1.1.1, .own 10 y1.1.2.length, .bool y1.2.1, .own 11 y1.2.2.length]]), some (.ints 186 .u32 q0.1.2), some (.ints 186 .u32 q0.2.2), none, none, some (.pin 0 pl0), some (.pin 1 pl1), some (.gen 31 2 [[.bool false, .nil]]), some (.gen 31 2 [[.bool false, .nil]]), some (.ints 186 .u32 y1.1.2), some (.ints 186 .u32 y1.2.2)] (r' := .ptr 1 0 2) (W_rotabig_Rat_den_B hy) rfl rfl pcT rfl Try.call66 (of_decide_eq_true rfl) ⟨rfl, rfl, rfl, trivial⟩ rfl (hscG trivial) (of_decide_eq_true rfl) rfl rfl rfl (of_decide_eq_true rfl) rfl fun st' hr => ?_
   simp only [go_sem] at hr
   subst hr
   refine AWPL_nil ?_
   refine QB_normal ?_
   exact AWPB_wk [0, 1, 2, 3, 4, 5, 6, 7, 8, 9, 10, 11] mkWk ((hAA _ _ _).1 hn8)
  ·skip
   refine AWPL_rn tab_ok 1 [0, 1, 2, 7, 8, 9, 12, 13, 14, 15, 16, 19, 20, 21, 22, 23] fun c st' hr => ?_
   simp only [go_sem] at hr
   obtain ⟨rfl, rfl⟩ := hr
   refine ⟨vc, ?_⟩
   refine AWPL_nil ?_
   refine QB_normal ?_
   exact AWPB_wk [0, 1, 2, 3, 4, 5, 6, 7, 8, 9, 10] mkWk ((hAA _ _ _).1 hn9))

theorem ceg_rotabig_Rat_Add_B_1_23 : (Region.ready .any reg_rotabig_Rat_Add_B_1.toArray #[true, false, true, true, true, true, true, false, true, true, true, true, true, false, false, false, false] == [1]) = true := by kernel_rfl

theorem J_rotabig_Rat_Add_B_1_hn11 {q0 : (Bool × List Int) × (Bool × List Int)} {q1 : (Bool × List Int) × (Bool × List Int)} {y1 : (Bool × List Int) × (Bool × List Int)} {y2 : Bool × List Int} {y3 : (Bool × List Int) × (Bool × List Int)} {y4 : Bool × List Int} {y5 : Bool × List Int} {pl0 : AX.Loc} {pl1 : AX.Loc} (hy : rotabig_Rat_den_B ((q1.1.1, q1.1.2), (q1.2.1, q1.2.2)) = some y1) (hy1 : rotabig_Int_Mul_r q0.1.1 q0.1.2 y1.2.1 y1.2.2 (false, []) = some y2) (hy2 : rotabig_Rat_den_B ((q0.1.1, q0.1.2), (q0.2.1, q0.2.2)) = some y3) (hy3 : rotabig_Int_Mul_r y1.1.1 y1.1.2 y3.2.1 y3.2.2 (false, []) = some y4) (hy4 : rotabig_Int_Add_r y2.1 y2.2 y4.1 y4.2 (false, []) = some y5) {w0 : World} {Q : Exit → St → Prop} {AA : Nat → Array Bool → St → Prop} (hAA : ∀ g L st, AA g L st ↔ AWPB Try.prog w0 reg_rotabig_Rat_Add_B_1.toArray Q g L st) (hn7 : AA 5 #[true, true, true, true, true, true, true, false, true, true, true, true, true, false, false, false, false] ⟨33, [(0, .ptr 0 0 0), (1, .ptr 0 0 0), (2, .ptr 1 0 0), (8, .ptr 8 0 0), (9, .ptr 9 0 0), (12, .ptr 0 0 0), (14, .ptr 1 0 2), (16, .ptr 12 0 0), (19, .ptr 1 0 0), (20, .ptr 0 0 0)], [some (.gen 33 4 [[.bool q0.1.1, .own 2 q0.1.2.length, .bool q0.2.1, .own 3 q0.2.2.length]]), some (.gen 33 4 [[.bool y1.1.1, .own 10 y1.1.2.length, .bool y1.2.1, .own 11 y1.2.2.length]]), some (.ints 186 .u32 q0.1.2), some (.ints 186 .u32 q0.2.2), none, none, some (.pin 0 pl0), some (.pin 1 pl1), some (.gen 31 2 [[.bool false, .nil]]), some (.gen 31 2 [[.bool false, .nil]]), some (.ints 186 .u32 y1.1.2), some (.ints 186 .u32 y1.2.2), some (.gen 31 2 [[.bool false, .nil]])]⟩) : AA 6 #[true, false, true, true, true, true, true, false, true, true, true, true, true, false, false, false, false] ⟨33, [(0, .ptr 0 0 0), (1, .ptr 0 0 0), (2, .ptr 1 0 0), (8, .ptr 8 0 0), (12, .ptr 0 0 0), (14, .ptr 1 0 2), (16, .ptr 11 0 0), (19, .ptr 1 0 0), (20, .ptr 0 0 0)], [some (.gen 33 4 [[.bool q0.1.1, .own 2 q0.1.2.length, .bool q0.2.1, .own 3 q0.2.2.length]]), some (.gen 33 4 [[.bool y1.1.1, .own 9 y1.1.2.length, .bool y1.2.1, .own 10 y1.2.2.length]]), some (.ints 186 .u32 q0.1.2), some (.ints 186 .u32 q0.2.2), none, none, some (.pin 0 pl0), some (.pin 1 pl1), some (.gen 31 2 [[.bool false, .nil]]), some (.ints 186 .u32 y1.1.2), some (.ints 186 .u32 y1.2.2), some (.gen 31 2 [[.bool false, .nil]])]⟩ := (hAA _ _ _).2 (by
  refine AWPB_one 1 _ ceg_rotabig_Rat_Add_B_1_23 rfl ?_
  refine AWPL_rn tab_ok 1 [0, 1, 2, 7, 8, 9, 12, 14, 15, 16, 19, 20, 21, 22, 23] fun c st' hr => ?_
  simp only [go_sem] at hr
  obtain ⟨rfl, rfl⟩ := hr
  refine ⟨vc, ?_⟩
  refine AWPL_nil ?_
  refine QB_normal ?_
  exact AWPB_wk [0, 1, 2, 3, 4, 5, 6, 7, 8, 12, 9, 10, 11] mkWk ((hAA _ _ _).1 hn7))

theorem ceg_rotabig_Rat_Add_B_1_25 : (Region.ready .any reg_rotabig_Rat_Add_B_1.toArray #[true, false, true, true, true, true, true, false, false, true, true, true, true, false, false, false, false] == [1, 8]) = true := by kernel_rfl

theorem J_rotabig_Rat_Add_B_1_hn12 {q0 : (Bool × List Int) × (Bool × List Int)} {q1 : (Bool × List Int) × (Bool × List Int)} {y1 : (Bool × List Int) × (Bool × List Int)} {y2 : Bool × List Int} {y3 : (Bool × List Int) × (Bool × List Int)} {y4 : Bool × List Int} {y5 : Bool × List Int} {pl0 : AX.Loc} {pl1 : AX.Loc} (hy : rotabig_Rat_den_B ((q1.1.1, q1.1.2), (q1.2.1, q1.2.2)) = some y1) (hy1 : rotabig_Int_Mul_r q0.1.1 q0.1.2 y1.2.1 y1.2.2 (false, []) = some y2) (hy2 : rotabig_Rat_den_B ((q0.1.1, q0.1.2), (q0.2.1, q0.2.2)) = some y3) (hy3 : rotabig_Int_Mul_r y1.1.1 y1.1.2 y3.2.1 y3.2.2 (false, []) = some y4) (hy4 : rotabig_Int_Add_r y2.1 y2.2 y4.1 y4.2 (false, []) = some y5) {w0 : World} {Q : Exit → St → Prop} {AA : Nat → Array Bool → St → Prop} (hAA : ∀ g L st, AA g L st ↔ AWPB Try.prog w0 reg_rotabig_Rat_Add_B_1.toArray Q g L st) (hn8 : AA 6 #[true, true, true, true, true, true, true, false, false, true, true, true, true, false, false, false, false] ⟨33, [(0, .ptr 0 0 0), (1, .ptr 0 0 0), (2, .ptr 1 0 0), (8, .ptr 8 0 0), (9, .ptr 9 0 0), (12, .ptr 0 0 0), (14, .ptr 1 0 2), (19, .ptr 1 0 0), (20, .ptr 0 0 0)], [some (.gen 33 4 [[.bool q0.1.1, .own 2 q0.1.2.length, .bool q0.2.1, .own 3 q0.2.2.length]]), some (.gen 33 4 [[.bool y1.1.1, .own 10 y1.1.2.length, .bool y1.2.1, .own 11 y1.2.2.length]]), some (.ints 186 .u32 q0.1.2), some (.ints 186 .u32 q0.2.2), none, none, some (.pin 0 pl0), some (.pin 1 pl1), some (.gen 31 2 [[.bool false, .nil]]), some (.gen 31 2 [[.bool false, .nil]]), some (.ints 186 .u32 y1.1.2), some (.ints 186 .u32 y1.2.2)]⟩) (hn11 : AA 6 #[true, false, true, true, true, true, true, false, true, true, true, true, true, false, false, false, false] ⟨33, [(0, .ptr 0 0 0), (1, .ptr 0 0 0), (2, .ptr 1 0 0), (8, .ptr 8 0 0), (12, .ptr 0 0 0), (14, .ptr 1 0 2), (16, .ptr 11 0 0), (19, .ptr 1 0 0), (20, .ptr 0 0 0)], [some (.gen 33 4 [[.bool q0.1.1, .own 2 q0.1.2.length, .bool q0.2.1, .own 3 q0.2.2.length]]), some (.gen 33 4 [[.bool y1.1.1, .own 9 y1.1.2.length, .bool y1.2.1, .own 10 y1.2.2.length]]), some (.ints 186 .u32 q0.1.2), some (.ints 186 .u32 q0.2.2), none, none, some (.pin 0 pl0), some (.pin 1 pl1), some (.gen 31 2 [[.bool false, .nil]]), some (.ints 186 .u32 y1.1.2), some (.ints 186 .u32 y1.2.2), some (.gen 31 2 [[.bool false, .nil]])]⟩) : AA 7 #[true, false, true, true, true, true, true, false, false, true, true, true, true, false, false, false, false] ⟨33, [(0, .ptr 0 0 0), (1, .ptr 0 0 0), (2, .ptr 1 0 0), (8, .ptr 8 0 0), (12, .ptr 0 0 0), (14, .ptr 1 0 2), (19, .ptr 1 0 0), (20, .ptr 0 0 0)], [some (.gen 33 4 [[.bool q0.1.1, .own 2 q0.1.2.length, .bool q0.2.1, .own 3 q0.2.2.length]]), some (.gen 33 4 [[.bool y1.1.1, .own 9 y1.1.2.length, .bool y1.2.1, .own 10 y1.2.2.length]]), some (.ints 186 .u32 q0.1.2), some (.ints 186 .u32 q0.2.2), none, none, some (.pin 0 pl0), some (.pin 1 pl1), some (.gen 31 2 [[.bool false, .nil]]), some (.ints 186 .u32 y1.1.2), some (.ints 186 .u32 y1.2.2)]⟩ := (hAA _ _ _).2 (by
  refine AWPB_two 1 8 _ _ ceg_rotabig_Rat_Add_B_1_25 rfl rfl ?_ ?_
  ·skip
   refine AWPL_rn tab_ok 1 [0, 1, 2, 7, 8, 9, 12, 14, 15, 16, 19, 20, 21, 22, 23] fun c st' hr => ?_
   simp only [go_sem] at hr
   obtain ⟨rfl, rfl⟩ := hr
   refine ⟨vc, ?_⟩
   refine AWPL_nil ?_
   refine QB_normal ?_
   exact AWPB_wk [0, 1, 2, 3, 4, 5, 6, 7, 8, 11, 9, 10] mkWk ((hAA _ _ _).1 hn8)
  ·skip
   refine AWPL_rn tab_ok 1 [0, 1, 2, 7, 8, 9, 12, 14, 15, 16, 19, 20, 21, 22, 23] fun c st' hr => ?_
   simp only [go_sem] at hr
   obtain ⟨rfl, rfl⟩ := hr
   refine ⟨vc, ?_⟩
   refine AWPL_nil ?_
   refine QB_normal ?_
   exact AWPB_wk [0, 1, 2, 3, 4, 5, 6, 7, 8, 9, 10, 11] mkWk ((hAA _ _ _).1 hn11))

theorem ceg_rotabig_Rat_Add_B_1_27 : (Region.ready .any reg_rotabig_Rat_Add_B_1.toArray #[true, false, true, true, true, true, false, false, true, true, true, true, true, false, false, false, false] == [1, 6]) = true := by kernel_rfl

theorem J_rotabig_Rat_Add_B_1_hn13 {q0 : (Bool × List Int) × (Bool × List Int)} {q1 : (Bool × List Int) × (Bool × List Int)} {y1 : (Bool × List Int) × (Bool × List Int)} {y2 : Bool × List Int} {y3 : (Bool × List Int) × (Bool × List Int)} {y4 : Bool × List Int} {y5 : Bool × List Int} {pl0 : AX.Loc} {pl1 : AX.Loc} (hy : rotabig_Rat_den_B ((q1.1.1, q1.1.2), (q1.2.1, q1.2.2)) = some y1) (hy1 : rotabig_Int_Mul_r q0.1.1 q0.1.2 y1.2.1 y1.2.2 (false, []) = some y2) (hy2 : rotabig_Rat_den_B ((q0.1.1, q0.1.2), (q0.2.1, q0.2.2)) = some y3) (hy3 : rotabig_Int_Mul_r y1.1.1 y1.1.2 y3.2.1 y3.2.2 (false, []) = some y4) (hy4 : rotabig_Int_Add_r y2.1 y2.2 y4.1 y4.2 (false, []) = some y5) {w0 : World} {Q : Exit → St → Prop} {AA : Nat → Array Bool → St → Prop} (hAA : ∀ g L st, AA g L st ↔ AWPB Try.prog w0 reg_rotabig_Rat_Add_B_1.toArray Q g L st) (hn9 : AA 6 #[true, true, true, true, true, true, false, false, true, true, true, true, true, false, false, false, false] ⟨33, [(0, .ptr 0 0 0), (1, .ptr 0 0 0), (2, .ptr 1 0 0), (8, .ptr 8 0 0), (9, .ptr 9 0 0), (12, .ptr 0 0 0), (13, .ptr 1 0 0), (16, .ptr 10 0 0), (19, .ptr 1 0 0), (20, .ptr 0 0 0)], [some (.gen 33 4 [[.bool q0.1.1, .own 2 q0.1.2.length, .bool q0.2.1, .own 3 q0.2.2.length]]), some (.gen 33 4 [[.bool q1.1.1, .own 4 q1.1.2.length, .bool q1.2.1, .own 5 q1.2.2.length]]), some (.ints 186 .u32 q0.1.2), some (.ints 186 .u32 q0.2.2), some (.ints 186 .u32 q1.1.2), some (.ints 186 .u32 q1.2.2), some (.pin 0 pl0), some (.pin 1 pl1), some (.gen 31 2 [[.bool false, .nil]]), some (.gen 31 2 [[.bool false, .nil]]), some (.gen 31 2 [[.bool false, .nil]])]⟩) (hn11 : AA 6 #[true, false, true, true, true, true, true, false, true, true, true, true, true, false, false, false, false] ⟨33, [(0, .ptr 0 0 0), (1, .ptr 0 0 0), (2, .ptr 1 0 0), (8, .ptr 8 0 0), (12, .ptr 0 0 0), (14, .ptr 1 0 2), (16, .ptr 11 0 0), (19, .ptr 1 0 0), (20, .ptr 0 0 0)], [some (.gen 33 4 [[.bool q0.1.1, .own 2 q0.1.2.length, .bool q0.2.1, .own 3 q0.2.2.length]]), some (.gen 33 4 [[.bool y1.1.1, .own 9 y1.1.2.length, .bool y1.2.1, .own 10 y1.2.2.length]]), some (.ints 186 .u32 q0.1.2), some (.ints 186 .u32 q0.2.2), none, none, some (.pin 0 pl0), some (.pin 1 pl1), some (.gen 31 2 [[.bool false, .nil]]), some (.ints 186 .u32 y1.1.2), some (.ints 186 .u32 y1.2.2), some (.gen 31 2 [[.bool false, .nil]])]⟩) : AA 7 #[true, false, true, true, true, true, false, false, true, true, true, true, true, false, false, false, false] ⟨33, [(0, .ptr 0 0 0), (1, .ptr 0 0 0), (2, .ptr 1 0 0), (8, .ptr 8 0 0), (12, .ptr 0 0 0), (13, .ptr 1 0 0), (16, .ptr 9 0 0), (19, .ptr 1 0 0), (20, .ptr 0 0 0)], [some (.gen 33 4 [[.bool q0.1.1, .own 2 q0.1.2.length, .bool q0.2.1, .own 3 q0.2.2.length]]), some (.gen 33 4 [[.bool q1.1.1, .own 4 q1.1.2.length, .bool q1.2.1, .own 5 q1.2.2.length]]), some (.ints 186 .u32 q0.1.2), some (.ints 186 .u32 q0.2.2), some (.ints 186 .u32 q1.1.2), some (.ints 186 .u32 q1.2.2), some (.pin 0 pl0), some (.pin 1 pl1), some (.gen 31 2 [[.bool false, .nil]]), some (.gen 31 2 [[.bool false, .nil]])]⟩ := (hAA _ _ _).2 (by
  refine AWPB_two 1 6 _ _ ceg_rotabig_Rat_Add_B_1_27 rfl rfl ?_ ?_
  ·skip
   refine AWPL_rn tab_ok 1 [0, 1, 2, 7, 8, 9, 12, 13, 14, 15, 16, 19, 20, 21, 22, 23] fun c st' hr => ?_
   simp only [go_sem] at hr
   obtain ⟨rfl, rfl⟩ := hr
   refine ⟨vc, ?_⟩
   refine AWPL_nil ?_
   refine QB_normal ?_
   exact AWPB_wk [0, 1, 2, 3, 4, 5, 6, 7, 8, 10, 9] mkWk ((hAA _ _ _).1 hn9)
  ·skip
   refine AWPL_gR [0, 1, 2, 7, 8, 9, 12, 14, 15, 16, 19, 20, 21, 22, 23] [1, 4, 5] [.ptr 0 0 0] [some (.gen 33 4 [[.bool q0.1.1, .own 2 q0.1.2.length, .bool q0.2.1, .own 3 q0.2.2.length]]), some (.gen 33 4 [[.bool y1.1.1, .own 10 y1.1.2.length, .bool y1.2.1, .own 11 y1.2.2.length]]), some (.ints 186 .u32 q0.1.2), some (.ints 186 .u32 q0.2.2), none, none, some (.pin 0 pl0), some (.pin 1 pl1), some (.gen 31 2 [[.bool false, .nil]]), some (.gen 31 2 [[.bool false, .nil]]), some (.ints 186 .u32 y1.1.2), some (.ints 186 .u32 y1.2.2)] (r' := .ptr 1 0 2) (W_rotabig_Rat_den_B hy) rfl rfl pcT rfl Try.call66 (of_decide_eq_true rfl) ⟨rfl, rfl, rfl, trivial⟩ rfl (hscG trivial) (of_decide_eq_true rfl) rfl rfl rfl (of_decide_eq_true rfl) rfl fun st' hr => ?_
   simp only [go_sem] at hr
   subst hr
   refine AWPL_nil ?_
   refine QB_normal ?_
   exact AWPB_wk [0, 1, 2, 3, 4, 5, 6, 7, 8, 10, 11, 9] mkWk ((hAA _ _ _).1 hn11))

theorem ceg_rotabig_Rat_Add_B_1_29 : (Region.ready .any reg_rotabig_Rat_Add_B_1.toArray #[true, false, true, true, true, true, false, false, false, true, true, true, true, false, false, false, false] == [1, 6, 8]) = true := by kernel_rfl

theorem J_rotabig_Rat_Add_B_1_hn14 {q0 : (Bool × List Int) × (Bool × List Int)} {q1 : (Bool × List Int) × (Bool × List Int)} {y1 : (Bool × List Int) × (Bool × List Int)} {y2 : Bool × List Int} {y3 : (Bool × List Int) × (Bool × List Int)} {y4 : Bool × List Int} {y5 : Bool × List Int} {pl0 : AX.Loc} {pl1 : AX.Loc} (hy : rotabig_Rat_den_B ((q1.1.1, q1.1.2), (q1.2.1, q1.2.2)) = some y1) (hy1 : rotabig_Int_Mul_r q0.1.1 q0.1.2 y1.2.1 y1.2.2 (false, []) = some y2) (hy2 : rotabig_Rat_den_B ((q0.1.1, q0.1.2), (q0.2.1, q0.2.2)) = some y3) (hy3 : rotabig_Int_Mul_r y1.1.1 y1.1.2 y3.2.1 y3.2.2 (false, []) = some y4) (hy4 : rotabig_Int_Add_r y2.1 y2.2 y4.1 y4.2 (false, []) = some y5) {w0 : World} {Q : Exit → St → Prop} {AA : Nat → Array Bool → St → Prop} (hAA : ∀ g L st, AA g L st ↔ AWPB Try.prog w0 reg_rotabig_Rat_Add_B_1.toArray Q g L st) (hn10 : AA 7 #[true, true, true, true, true, true, false, false, false, true, true, true, true, false, false, false, false] ⟨33, [(0, .ptr 0 0 0), (1, .ptr 0 0 0), (2, .ptr 1 0 0), (8, .ptr 8 0 0), (9, .ptr 9 0 0), (12, .ptr 0 0 0), (13, .ptr 1 0 0), (19, .ptr 1 0 0), (20, .ptr 0 0 0)], [some (.gen 33 4 [[.bool q0.1.1, .own 2 q0.1.2.length, .bool q0.2.1, .own 3 q0.2.2.length]]), some (.gen 33 4 [[.bool q1.1.1, .own 4 q1.1.2.length, .bool q1.2.1, .own 5 q1.2.2.length]]), some (.ints 186 .u32 q0.1.2), some (.ints 186 .u32 q0.2.2), some (.ints 186 .u32 q1.1.2), some (.ints 186 .u32 q1.2.2), some (.pin 0 pl0), some (.pin 1 pl1), some (.gen 31 2 [[.bool false, .nil]]), some (.gen 31 2 [[.bool false, .nil]])]⟩) (hn12 : AA 7 #[true, false, true, true, true, true, true, false, false, true, true, true, true, false, false, false, false] ⟨33, [(0, .ptr 0 0 0), (1, .ptr 0 0 0), (2, .ptr 1 0 0), (8, .ptr 8 0 0), (12, .ptr 0 0 0), (14, .ptr 1 0 2), (19, .ptr 1 0 0), (20, .ptr 0 0 0)], [some (.gen 33 4 [[.bool q0.1.1, .own 2 q0.1.2.length, .bool q0.2.1, .own 3 q0.2.2.length]]), some (.gen 33 4 [[.bool y1.1.1, .own 9 y1.1.2.length, .bool y1.2.1, .own 10 y1.2.2.length]]), some (.ints 186 .u32 q0.1.2), some (.ints 186 .u32 q0.2.2), none, none, some (.pin 0 pl0), some (.pin 1 pl1), some (.gen 31 2 [[.bool false, .nil]]), some (.ints 186 .u32 y1.1.2), some (.ints 186 .u32 y1.2.2)]⟩) (hn13 : AA 7 #[true, false, true, true, true, true, false, false, true, true, true, true, true, false, false, false, false] ⟨33, [(0, .ptr 0 0 0), (1, .ptr 0 0 0), (2, .ptr 1 0 0), (8, .ptr 8 0 0), (12, .ptr 0 0 0), (13, .ptr 1 0 0), (16, .ptr 9 0 0), (19, .ptr 1 0 0), (20, .ptr 0 0 0)], [some (.gen 33 4 [[.bool q0.1.1, .own 2 q0.1.2.length, .bool q0.2.1, .own 3 q0.2.2.length]]), some (.gen 33 4 [[.bool q1.1.1, .own 4 q1.1.2.length, .bool q1.2.1, .own 5 q1.2.2.length]]), some (.ints 186 .u32 q0.1.2), some (.ints 186 .u32 q0.2.2), some (.ints 186 .u32 q1.1.2), some (.ints 186 .u32 q1.2.2), some (.pin 0 pl0), some (.pin 1 pl1), some (.gen 31 2 [[.bool false, .nil]]), some (.gen 31 2 [[.bool false, .nil]])]⟩) : AA 8 #[true, false, true, true, true, true, false, false, false, true, true, true, true, false, false, false, false] ⟨33, [(0, .ptr 0 0 0), (1, .ptr 0 0 0), (2, .ptr 1 0 0), (8, .ptr 8 0 0), (12, .ptr 0 0 0), (13, .ptr 1 0 0), (19, .ptr 1 0 0), (20, .ptr 0 0 0)], [some (.gen 33 4 [[.bool q0.1.1, .own 2 q0.1.2.length, .bool q0.2.1, .own 3 q0.2.2.length]]), some (.gen 33 4 [[.bool q1.1.1, .own 4 q1.1.2.length, .bool q1.2.1, .own 5 q1.2.2.length]]), some (.ints 186 .u32 q0.1.2), some (.ints 186 .u32 q0.2.2), some (.ints 186 .u32 q1.1.2), some (.ints 186 .u32 q1.2.2), some (.pin 0 pl0), some (.pin 1 pl1), some (.gen 31 2 [[.bool false, .nil]])]⟩ := (hAA _ _ _).2 (by
  refine AWPB_three 1 6 8 _ _ _ ceg_rotabig_Rat_Add_B_1_29 rfl rfl rfl ?_ ?_ ?_
  ·skip
   refine AWPL_rn tab_ok 1 [0, 1, 2, 7, 8, 9, 12, 13, 14, 15, 16, 19, 20, 21, 22, 23] fun c st' hr => ?_
   simp only [go_sem] at hr
   obtain ⟨rfl, rfl⟩ := hr
   refine ⟨vc, ?_⟩
   refine AWPL_nil ?_
   refine QB_normal ?_
   exact AWPB_wk [0, 1, 2, 3, 4, 5, 6, 7, 8, 9] mkWk ((hAA _ _ _).1 hn10)
  ·skip
   refine AWPL_gR [0, 1, 2, 7, 8, 9, 12, 14, 15, 16, 19, 20, 21, 22, 23] [1, 4, 5] [.ptr 0 0 0] [some (.gen 33 4 [[.bool q0.1.1, .own 2 q0.1.2.length, .bool q0.2.1, .own 3 q0.2.2.length]]), some (.gen 33 4 [[.bool y1.1.1, .own 9 y1.1.2.length, .bool y1.2.1, .own 10 y1.2.2.length]]), some (.ints 186 .u32 q0.1.2), some (.ints 186 .u32 q0.2.2), none, none, some (.pin 0 pl0), some (.pin 1 pl1), some (.gen 31 2 [[.bool false, .nil]]), some (.ints 186 .u32 y1.1.2), some (.ints 186 .u32 y1.2.2)] (r' := .ptr 1 0 2) (W_rotabig_Rat_den_B hy) rfl rfl pcT rfl Try.call66 (of_decide_eq_true rfl) ⟨rfl, rfl, rfl, trivial⟩ rfl (hscG trivial) (of_decide_eq_true rfl) rfl rfl rfl (of_decide_eq_true rfl) rfl fun st' hr => ?_
   simp only [go_sem] at hr
   subst hr
   refine AWPL_nil ?_
   refine QB_normal ?_
   exact AWPB_wk [0, 1, 2, 3, 4, 5, 6, 7, 8, 9, 10] mkWk ((hAA _ _ _).1 hn12)
  ·skip
   refine AWPL_rn tab_ok 1 [0, 1, 2, 7, 8, 9, 12, 13, 14, 15, 16, 19, 20, 21, 22, 23] fun c st' hr => ?_
   simp only [go_sem] at hr
   obtain ⟨rfl, rfl⟩ := hr
   refine ⟨vc, ?_⟩
   refine AWPL_nil ?_
   refine QB_normal ?_
   exact AWPB_wk [0, 1, 2, 3, 4, 5, 6, 7, 8, 9] mkWk ((hAA _ _ _).1 hn13))

theorem ceg_rotabig_Rat_Add_B_1_31 : (Region.ready .any reg_rotabig_Rat_Add_B_1.toArray #[false, true, true, true, true, true, true, true, true, true, true, true, true, true, true, false, false] == [0]) = true := by kernel_rfl

theorem J_rotabig_Rat_Add_B_1_hn15 {q0 : (Bool × List Int) × (Bool × List Int)} {q1 : (Bool × List Int) × (Bool × List Int)} {y1 : (Bool × List Int) × (Bool × List Int)} {y2 : Bool × List Int} {y3 : (Bool × List Int) × (Bool × List Int)} {y4 : Bool × List Int} {y5 : Bool × List Int} {pl0 : AX.Loc} {pl1 : AX.Loc} (hy : rotabig_Rat_den_B ((q1.1.1, q1.1.2), (q1.2.1, q1.2.2)) = some y1) (hy1 : rotabig_Int_Mul_r q0.1.1 q0.1.2 y1.2.1 y1.2.2 (false, []) = some y2) (hy2 : rotabig_Rat_den_B ((q0.1.1, q0.1.2), (q0.2.1, q0.2.2)) = some y3) (hy3 : rotabig_Int_Mul_r y1.1.1 y1.1.2 y3.2.1 y3.2.2 (false, []) = some y4) (hy4 : rotabig_Int_Add_r y2.1 y2.2 y4.1 y4.2 (false, []) = some y5) {w0 : World} {Q : Exit → St → Prop} {AA : Nat → Array Bool → St → Prop} (hAA : ∀ g L st, AA g L st ↔ AWPB Try.prog w0 reg_rotabig_Rat_Add_B_1.toArray Q g L st) (hn2 : AA 2 #[true, true, true, true, true, true, true, true, true, true, true, true, true, true, true, false, false] ⟨33, [(0, .ptr 0 0 0), (1, .ptr 0 0 0), (2, .ptr 1 0 0), (8, .ptr 8 0 0), (15, .ptr 9 0 0), (22, .ptr 14 0 0)], [some (.gen 33 4 [[.bool y3.1.1, .own 15 y3.1.2.length, .bool y3.2.1, .own 16 y3.2.2.length]]), some (.gen 33 4 [[.bool y1.1.1, .own 10 y1.1.2.length, .bool y1.2.1, .own 11 y1.2.2.length]]), none, none, none, none, some (.pin 0 pl0), some (.pin 1 pl1), some (.gen 31 2 [[.bool false, .nil]]), some (.gen 31 2 [[.bool y2.1, .own 13 y2.2.length]]), some (.ints 186 .u32 y1.1.2), some (.ints 186 .u32 y1.2.2), none, some (.ints 186 .u32 y2.2), some (.gen 31 2 [[.bool y4.1, .own 18 y4.2.length]]), some (.ints 186 .u32 y3.1.2), some (.ints 186 .u32 y3.2.2), none, some (.ints 186 .u32 y4.2)]⟩) : AA 3 #[false, true, true, true, true, true, true, true, true, true, true, true, true, true, true, false, false] ⟨33, [(0, .ptr 0 0 0), (1, .ptr 0 0 0), (2, .ptr 1 0 0), (15, .ptr 8 0 0), (22, .ptr 13 0 0)], [some (.gen 33 4 [[.bool y3.1.1, .own 14 y3.1.2.length, .bool y3.2.1, .own 15 y3.2.2.length]]), some (.gen 33 4 [[.bool y1.1.1, .own 9 y1.1.2.length, .bool y1.2.1, .own 10 y1.2.2.length]]), none, none, none, none, some (.pin 0 pl0), some (.pin 1 pl1), some (.gen 31 2 [[.bool y2.1, .own 12 y2.2.length]]), some (.ints 186 .u32 y1.1.2), some (.ints 186 .u32 y1.2.2), none, some (.ints 186 .u32 y2.2), some (.gen 31 2 [[.bool y4.1, .own 17 y4.2.length]]), some (.ints 186 .u32 y3.1.2), some (.ints 186 .u32 y3.2.2), none, some (.ints 186 .u32 y4.2)]⟩ := (hAA _ _ _).2 (by
  refine AWPB_one 0 _ ceg_rotabig_Rat_Add_B_1_31 rfl ?_
  refine AWPL_rn tab_ok 1 [0, 1, 2, 7, 8, 15, 22, 23] fun c st' hr => ?_
  simp only [go_sem] at hr
  obtain ⟨rfl, rfl⟩ := hr
  refine ⟨vc, ?_⟩
  refine AWPL_nil ?_
  refine QB_normal ?_
  exact AWPB_wk [0, 1, 2, 3, 4, 5, 6, 7, 18, 8, 9, 10, 11, 12, 13, 14, 15, 16, 17] mkWk ((hAA _ _ _).1 hn2))

theorem ceg_rotabig_Rat_Add_B_1_33 : (Region.ready .any reg_rotabig_Rat_Add_B_1.toArray #[false, true, true, true, true, true, true, true, true, true, true, true, true, true, false, false, false] == [0, 14]) = true := by kernel_rfl

theorem J_rotabig_Rat_Add_B_1_hn16 {q0 : (Bool × List Int) × (Bool × List Int)} {q1 : (Bool × List Int) × (Bool × List Int)} {y1 : (Bool × List Int) × (Bool × List Int)} {y2 : Bool × List Int} {y3 : (Bool × List Int) × (Bool × List Int)} {y4 : Bool × List Int} {y5 : Bool × List Int} {pl0 : AX.Loc} {pl1 : AX.Loc} (hy : rotabig_Rat_den_B ((q1.1.1, q1.1.2), (q1.2.1, q1.2.2)) = some y1) (hy1 : rotabig_Int_Mul_r q0.1.1 q0.1.2 y1.2.1 y1.2.2 (false, []) = some y2) (hy2 : rotabig_Rat_den_B ((q0.1.1, q0.1.2), (q0.2.1, q0.2.2)) = some y3) (hy3 : rotabig_Int_Mul_r y1.1.1 y1.1.2 y3.2.1 y3.2.2 (false, []) = some y4) (hy4 : rotabig_Int_Add_r y2.1 y2.2 y4.1 y4.2 (false, []) = some y5) {w0 : World} {Q : Exit → St → Prop} {AA : Nat → Array Bool → St → Prop} (hAA : ∀ g L st, AA g L st ↔ AWPB Try.prog w0 reg_rotabig_Rat_Add_B_1.toArray Q g L st) (hn3 : AA 3 #[true, true, true, true, true, true, true, true, true, true, true, true, true, true, false, false, false] ⟨33, [(0, .ptr 0 0 0), (1, .ptr 0 0 0), (2, .ptr 1 0 0), (8, .ptr 8 0 0), (15, .ptr 9 0 0), (16, .ptr 14 0 0), (19, .ptr 1 0 0), (21, .ptr 0 0 2)], [some (.gen 33 4 [[.bool y3.1.1, .own 15 y3.1.2.length, .bool y3.2.1, .own 16 y3.2.2.length]]), some (.gen 33 4 [[.bool y1.1.1, .own 10 y1.1.2.length, .bool y1.2.1, .own 11 y1.2.2.length]]), none, none, none, none, some (.pin 0 pl0), some (.pin 1 pl1), some (.gen 31 2 [[.bool false, .nil]]), some (.gen 31 2 [[.bool y2.1, .own 13 y2.2.length]]), some (.ints 186 .u32 y1.1.2), some (.ints 186 .u32 y1.2.2), none, some (.ints 186 .u32 y2.2), some (.gen 31 2 [[.bool false, .nil]]), some (.ints 186 .u32 y3.1.2), some (.ints 186 .u32 y3.2.2)]⟩) (hn15 : AA 3 #[false, true, true, true, true, true, true, true, true, true, true, true, true, true, true, false, false] ⟨33, [(0, .ptr 0 0 0), (1, .ptr 0 0 0), (2, .ptr 1 0 0), (15, .ptr 8 0 0), (22, .ptr 13 0 0)], [some (.gen 33 4 [[.bool y3.1.1, .own 14 y3.1.2.length, .bool y3.2.1, .own 15 y3.2.2.length]]), some (.gen 33 4 [[.bool y1.1.1, .own 9 y1.1.2.length, .bool y1.2.1, .own 10 y1.2.2.length]]), none, none, none, none, some (.pin 0 pl0), some (.pin 1 pl1), some (.gen 31 2 [[.bool y2.1, .own 12 y2.2.length]]), some (.ints 186 .u32 y1.1.2), some (.ints 186 .u32 y1.2.2), none, some (.ints 186 .u32 y2.2), some (.gen 31 2 [[.bool y4.1, .own 17 y4.2.length]]), some (.ints 186 .u32 y3.1.2), some (.ints 186 .u32 y3.2.2), none, some (.ints 186 .u32 y4.2)]⟩) : AA 4 #[false, true, true, true, true, true, true, true, true, true, true, true, true, true, false, false, false] ⟨33, [(0, .ptr 0 0 0), (1, .ptr 0 0 0), (2, .ptr 1 0 0), (15, .ptr 8 0 0), (16, .ptr 13 0 0), (19, .ptr 1 0 0), (21, .ptr 0 0 2)], [some (.gen 33 4 [[.bool y3.1.1, .own 14 y3.1.2.length, .bool y3.2.1, .own 15 y3.2.2.length]]), some (.gen 33 4 [[.bool y1.1.1, .own 9 y1.1.2.length, .bool y1.2.1, .own 10 y1.2.2.length]]), none, none, none, none, some (.pin 0 pl0), some (.pin 1 pl1), some (.gen 31 2 [[.bool y2.1, .own 12 y2.2.length]]), some (.ints 186 .u32 y1.1.2), some (.ints 186 .u32 y1.2.2), none, some (.ints 186 .u32 y2.2), some (.gen 31 2 [[.bool false, .nil]]), some (.ints 186 .u32 y3.1.2), some (.ints 186 .u32 y3.2.2)]⟩ := (hAA _ _ _).2 (by
  refine AWPB_two 0 14 _ _ ceg_rotabig_Rat_Add_B_1_33 rfl rfl ?_ ?_
  ·skip
   refine AWPL_rn tab_ok 1 [0, 1, 2, 7, 8, 15, 16, 19, 21, 22, 23] fun c st' hr => ?_
   simp only [go_sem] at hr
   obtain ⟨rfl, rfl⟩ := hr
   refine ⟨vc, ?_⟩
   refine AWPL_nil ?_
   refine QB_normal ?_
   exact AWPB_wk [0, 1, 2, 3, 4, 5, 6, 7, 16, 8, 9, 10, 11, 12, 13, 14, 15] mkWk ((hAA _ _ _).1 hn3)
  ·skip
   refine AWPL_gs' (gs_ownH 13 1 (.ints 186 .u32 []) rfl rfl rfl) fun st' hr => ?_
   simp only [go_sem, List.cons_append, List.nil_append, List.set_cons_zero, List.set_cons_succ] at hr
   subst hr
   refine AWPL_gS [0, 1, 2, 7, 8, 15, 22, 23] [13, 16] [.ptr 0 0 0, .immp [.bool y1.1.1, .ints .u32 y1.1.2], .immp [.bool y3.2.1, .ints .u32 y3.2.2]] [some (.gen 33 4 [[.bool y3.1.1, .own 14 y3.1.2.length, .bool y3.2.1, .own 15 y3.2.2.length]]), some (.gen 33 4 [[.bool y1.1.1, .own 9 y1.1.2.length, .bool y1.2.1, .own 10 y1.2.2.length]]), none, none, none, none, some (.pin 0 pl0), some (.pin 1 pl1), some (.gen 31 2 [[.bool y2.1, .own 12 y2.2.length]]), some (.ints 186 .u32 y1.1.2), some (.ints 186 .u32 y1.2.2), none, some (.ints 186 .u32 y2.2), some (.gen 31 2 [[.bool y4.1, .own 17 y4.2.length]]), some (.ints 186 .u32 y3.1.2), some (.ints 186 .u32 y3.2.2), none, some (.ints 186 .u32 y4.2)] (r' := .ptr 13 0 0) (W_rotabig_Int_Mul_r hy3) rfl rfl pcT rfl Try.call65 (of_decide_eq_true rfl) ⟨rfl, rfl, trivial⟩ (.ptr 0 rfl (.cons (ArgOk.part (j0 := 0) rfl rfl (of_decide_eq_true rfl) (.cons (.atom _ rfl) (.cons (.ownI _ _ _ _ _ y1.1.2 rfl (by simp) (by first | simp | exact List.take_of_length_le (by simp))) .nil))) (.cons (ArgOk.part (j0 := 2) rfl rfl (of_decide_eq_true rfl) (.cons (.atom _ rfl) (.cons (.ownI _ _ _ _ _ y3.2.2 rfl (by simp) (by first | simp | exact List.take_of_length_le (by simp))) .nil))) .nil))) (hscG trivial) (of_decide_eq_true rfl) rfl rfl rfl (of_decide_eq_true rfl) rfl fun st' hr => ?_
   simp only [go_sem] at hr
   subst hr
   refine AWPL_nil ?_
   refine QB_normal ?_
   exact AWPB_wk [0, 1, 2, 3, 4, 5, 6, 7, 8, 9, 10, 11, 12, 13, 14, 15, 16, 17] mkWk ((hAA _ _ _).1 hn15))

theorem ceg_rotabig_Rat_Add_B_1_35 : (Region.ready .any reg_rotabig_Rat_Add_B_1.toArray #[false, true, true, true, true, true, true, true, true, true, true, true, true, false, false, false, false] == [0, 13]) = true := by kernel_rfl

theorem J_rotabig_Rat_Add_B_1_hn17 {q0 : (Bool × List Int) × (Bool × List Int)} {q1 : (Bool × List Int) × (Bool × List Int)} {y1 : (Bool × List Int) × (Bool × List Int)} {y2 : Bool × List Int} {y3 : (Bool × List Int) × (Bool × List Int)} {y4 : Bool × List Int} {y5 : Bool × List Int} {pl0 : AX.Loc} {pl1 : AX.Loc} (hy : rotabig_Rat_den_B ((q1.1.1, q1.1.2), (q1.2.1, q1.2.2)) = some y1) (hy1 : rotabig_Int_Mul_r q0.1.1 q0.1.2 y1.2.1 y1.2.2 (false, []) = some y2) (hy2 : rotabig_Rat_den_B ((q0.1.1, q0.1.2), (q0.2.1, q0.2.2)) = some y3) (hy3 : rotabig_Int_Mul_r y1.1.1 y1.1.2 y3.2.1 y3.2.2 (false, []) = some y4) (hy4 : rotabig_Int_Add_r y2.1 y2.2 y4.1 y4.2 (false, []) = some y5) {w0 : World} {Q : Exit → St → Prop} {AA : Nat → Array Bool → St → Prop} (hAA : ∀ g L st, AA g L st ↔ AWPB Try.prog w0 reg_rotabig_Rat_Add_B_1.toArray Q g L st) (hn4 : AA 4 #[true, true, true, true, true, true, true, true, true, true, true, true, true, false, false, false, false] ⟨33, [(0, .ptr 0 0 0), (1, .ptr 0 0 0), (2, .ptr 1 0 0), (8, .ptr 8 0 0), (15, .ptr 9 0 0), (16, .ptr 14 0 0), (19, .ptr 1 0 0), (20, .ptr 0 0 0)], [some (.gen 33 4 [[.bool q0.1.1, .own 2 q0.1.2.length, .bool q0.2.1, .own 3 q0.2.2.length]]), some (.gen 33 4 [[.bool y1.1.1, .own 10 y1.1.2.length, .bool y1.2.1, .own 11 y1.2.2.length]]), some (.ints 186 .u32 q0.1.2), some (.ints 186 .u32 q0.2.2), none, none, some (.pin 0 pl0), some (.pin 1 pl1), some (.gen 31 2 [[.bool false, .nil]]), some (.gen 31 2 [[.bool y2.1, .own 13 y2.2.length]]), some (.ints 186 .u32 y1.1.2), some (.ints 186 .u32 y1.2.2), none, some (.ints 186 .u32 y2.2), some (.gen 31 2 [[.bool false, .nil]])]⟩) (hn16 : AA 4 #[false, true, true, true, true, true, true, true, true, true, true, true, true, true, false, false, false] ⟨33, [(0, .ptr 0 0 0), (1, .ptr 0 0 0), (2, .ptr 1 0 0), (15, .ptr 8 0 0), (16, .ptr 13 0 0), (19, .ptr 1 0 0), (21, .ptr 0 0 2)], [some (.gen 33 4 [[.bool y3.1.1, .own 14 y3.1.2.length, .bool y3.2.1, .own 15 y3.2.2.length]]), some (.gen 33 4 [[.bool y1.1.1, .own 9 y1.1.2.length, .bool y1.2.1, .own 10 y1.2.2.length]]), none, none, none, none, some (.pin 0 pl0), some (.pin 1 pl1), some (.gen 31 2 [[.bool y2.1, .own 12 y2.2.length]]), some (.ints 186 .u32 y1.1.2), some (.ints 186 .u32 y1.2.2), none, some (.ints 186 .u32 y2.2), some (.gen 31 2 [[.bool false, .nil]]), some (.ints 186 .u32 y3.1.2), some (.ints 186 .u32 y3.2.2)]⟩) : AA 5 #[false, true, true, true, true, true, true, true, true, true, true, true, true, false, false, false, false] ⟨33, [(0, .ptr 0 0 0), (1, .ptr 0 0 0), (2, .ptr 1 0 0), (15, .ptr 8 0 0), (16, .ptr 13 0 0), (19, .ptr 1 0 0), (20, .ptr 0 0 0)], [some (.gen 33 4 [[.bool q0.1.1, .own 2 q0.1.2.length, .bool q0.2.1, .own 3 q0.2.2.length]]), some (.gen 33 4 [[.bool y1.1.1, .own 9 y1.1.2.length, .bool y1.2.1, .own 10 y1.2.2.length]]), some (.ints 186 .u32 q0.1.2), some (.ints 186 .u32 q0.2.2), none, none, some (.pin 0 pl0), some (.pin 1 pl1), some (.gen 31 2 [[.bool y2.1, .own 12 y2.2.length]]), some (.ints 186 .u32 y1.1.2), some (.ints 186 .u32 y1.2.2), none, some (.ints 186 .u32 y2.2), some (.gen 31 2 [[.bool false, .nil]])]⟩ := (hAA _ _ _).2 (by
  refine AWPB_two 0 13 _ _ ceg_rotabig_Rat_Add_B_1_35 rfl rfl ?_ ?_
  ·skip
   refine AWPL_rn tab_ok 1 [0, 1, 2, 7, 8, 15, 16, 19, 20, 21, 22, 23] fun c st' hr => ?_
   simp only [go_sem] at hr
   obtain ⟨rfl, rfl⟩ := hr
   refine ⟨vc, ?_⟩
   refine AWPL_nil ?_
   refine QB_normal ?_
   exact AWPB_wk [0, 1, 2, 3, 4, 5, 6, 7, 14, 8, 9, 10, 11, 12, 13] mkWk ((hAA _ _ _).1 hn4)
  ·skip
   refine AWPL_gR [0, 1, 2, 7, 8, 15, 16, 19, 21, 22, 23] [0, 2, 3] [.ptr 0 0 0] [some (.gen 33 4 [[.bool y3.1.1, .own 14 y3.1.2.length, .bool y3.2.1, .own 15 y3.2.2.length]]), some (.gen 33 4 [[.bool y1.1.1, .own 9 y1.1.2.length, .bool y1.2.1, .own 10 y1.2.2.length]]), none, none, none, none, some (.pin 0 pl0), some (.pin 1 pl1), some (.gen 31 2 [[.bool y2.1, .own 12 y2.2.length]]), some (.ints 186 .u32 y1.1.2), some (.ints 186 .u32 y1.2.2), none, some (.ints 186 .u32 y2.2), some (.gen 31 2 [[.bool false, .nil]]), some (.ints 186 .u32 y3.1.2), some (.ints 186 .u32 y3.2.2)] (r' := .ptr 0 0 2) (W_rotabig_Rat_den_B hy2) rfl rfl pcT rfl Try.call66 (of_decide_eq_true rfl) ⟨rfl, rfl, rfl, trivial⟩ rfl (hscG trivial) (of_decide_eq_true rfl) rfl rfl rfl (of_decide_eq_true rfl) rfl fun st' hr => ?_
   simp only [go_sem] at hr
   subst hr
   refine AWPL_nil ?_
   refine QB_normal ?_
   exact AWPB_wk [0, 1, 2, 3, 4, 5, 6, 7, 8, 9, 10, 11, 12, 13, 14, 15] mkWk ((hAA _ _ _).1 hn16))

theorem ceg_rotabig_Rat_Add_B_1_37 : (Region.ready .any reg_rotabig_Rat_Add_B_1.toArray #[false, true, true, true, true, true, true, true, false, true, true, true, true, true, false, false, false] == [0, 8]) = true := by kernel_rfl

theorem J_rotabig_Rat_Add_B_1_hn18 {q0 : (Bool × List Int) × (Bool × List Int)} {q1 : (Bool × List Int) × (Bool × List Int)} {y1 : (Bool × List Int) × (Bool × List Int)} {y2 : Bool × List Int} {y3 : (Bool × List Int) × (Bool × List Int)} {y4 : Bool × List Int} {y5 : Bool × List Int} {pl0 : AX.Loc} {pl1 : AX.Loc} (hy : rotabig_Rat_den_B ((q1.1.1, q1.1.2), (q1.2.1, q1.2.2)) = some y1) (hy1 : rotabig_Int_Mul_r q0.1.1 q0.1.2 y1.2.1 y1.2.2 (false, []) = some y2) (hy2 : rotabig_Rat_den_B ((q0.1.1, q0.1.2), (q0.2.1, q0.2.2)) = some y3) (hy3 : rotabig_Int_Mul_r y1.1.1 y1.1.2 y3.2.1 y3.2.2 (false, []) = some y4) (hy4 : rotabig_Int_Add_r y2.1 y2.2 y4.1 y4.2 (false, []) = some y5) {w0 : World} {Q : Exit → St → Prop} {AA : Nat → Array Bool → St → Prop} (hAA : ∀ g L st, AA g L st ↔ AWPB Try.prog w0 reg_rotabig_Rat_Add_B_1.toArray Q g L st) (hn5 : AA 4 #[true, true, true, true, true, true, true, true, false, true, true, true, true, true, false, false, false] ⟨33, [(0, .ptr 0 0 0), (1, .ptr 0 0 0), (2, .ptr 1 0 0), (8, .ptr 8 0 0), (15, .ptr 9 0 0), (19, .ptr 1 0 0), (21, .ptr 0 0 2)], [some (.gen 33 4 [[.bool y3.1.1, .own 14 y3.1.2.length, .bool y3.2.1, .own 15 y3.2.2.length]]), some (.gen 33 4 [[.bool y1.1.1, .own 10 y1.1.2.length, .bool y1.2.1, .own 11 y1.2.2.length]]), none, none, none, none, some (.pin 0 pl0), some (.pin 1 pl1), some (.gen 31 2 [[.bool false, .nil]]), some (.gen 31 2 [[.bool y2.1, .own 13 y2.2.length]]), some (.ints 186 .u32 y1.1.2), some (.ints 186 .u32 y1.2.2), none, some (.ints 186 .u32 y2.2), some (.ints 186 .u32 y3.1.2), some (.ints 186 .u32 y3.2.2)]⟩) (hn16 : AA 4 #[false, true, true, true, true, true, true, true, true, true, true, true, true, true, false, false, false] ⟨33, [(0, .ptr 0 0 0), (1, .ptr 0 0 0), (2, .ptr 1 0 0), (15, .ptr 8 0 0), (16, .ptr 13 0 0), (19, .ptr 1 0 0), (21, .ptr 0 0 2)], [some (.gen 33 4 [[.bool y3.1.1, .own 14 y3.1.2.length, .bool y3.2.1, .own 15 y3.2.2.length]]), some (.gen 33 4 [[.bool y1.1.1, .own 9 y1.1.2.length, .bool y1.2.1, .own 10 y1.2.2.length]]), none, none, none, none, some (.pin 0 pl0), some (.pin 1 pl1), some (.gen 31 2 [[.bool y2.1, .own 12 y2.2.length]]), some (.ints 186 .u32 y1.1.2), some (.ints 186 .u32 y1.2.2), none, some (.ints 186 .u32 y2.2), some (.gen 31 2 [[.bool false, .nil]]), some (.ints 186 .u32 y3.1.2), some (.ints 186 .u32 y3.2.2)]⟩) : AA 5 #[false, true, true, true, true, true, true, true, false, true, true, true, true, true, false, false, false] ⟨33, [(0, .ptr 0 0 0), (1, .ptr 0 0 0), (2, .ptr 1 0 0), (15, .ptr 8 0 0), (19, .ptr 1 0 0), (21, .ptr 0 0 2)], [some (.gen 33 4 [[.bool y3.1.1, .own 13 y3.1.2.length, .bool y3.2.1, .own 14 y3.2.2.length]]), some (.gen 33 4 [[.bool y1.1.1, .own 9 y1.1.2.length, .bool y1.2.1, .own 10 y1.2.2.length]]), none, none, none, none, some (.pin 0 pl0), some (.pin 1 pl1), some (.gen 31 2 [[.bool y2.1, .own 12 y2.2.length]]), some (.ints 186 .u32 y1.1.2), some (.ints 186 .u32 y1.2.2), none, some (.ints 186 .u32 y2.2), some (.ints 186 .u32 y3.1.2), some (.ints 186 .u32 y3.2.2)]⟩ := (hAA _ _ _).2 (by
  refine AWPB_two 0 8 _ _ ceg_rotabig_Rat_Add_B_1_37 rfl rfl ?_ ?_
  ·skip
   refine AWPL_rn tab_ok 1 [0, 1, 2, 7, 8, 15, 16, 19, 21, 22, 23] fun c st' hr => ?_
   simp only [go_sem] at hr
   obtain ⟨rfl, rfl⟩ := hr
   refine ⟨vc, ?_⟩
   refine AWPL_nil ?_
   refine QB_normal ?_
   exact AWPB_wk [0, 1, 2, 3, 4, 5, 6, 7, 15, 8, 9, 10, 11, 12, 13, 14] mkWk ((hAA _ _ _).1 hn5)
  ·skip
   refine AWPL_rn tab_ok 1 [0, 1, 2, 7, 8, 15, 16, 19, 21, 22, 23] fun c st' hr => ?_
   simp only [go_sem] at hr
   obtain ⟨rfl, rfl⟩ := hr
   refine ⟨vc, ?_⟩
   refine AWPL_nil ?_
   refine QB_normal ?_
   exact AWPB_wk [0, 1, 2, 3, 4, 5, 6, 7, 8, 9, 10, 11, 12, 15, 13, 14] mkWk ((hAA _ _ _).1 hn16))

theorem ceg_rotabig_Rat_Add_B_1_39 : (Region.ready .any reg_rotabig_Rat_Add_B_1.toArray #[false, true, true, true, true, true, true, true, false, true, true, true, true, false, false, false, false] == [0, 8, 13]) = true := by kernel_rfl

theorem J_rotabig_Rat_Add_B_1_hn19 {q0 : (Bool × List Int) × (Bool × List Int)} {q1 : (Bool × List Int) × (Bool × List Int)} {y1 : (Bool × List Int) × (Bool × List Int)} {y2 : Bool × List Int} {y3 : (Bool × List Int) × (Bool × List Int)} {y4 : Bool × List Int} {y5 : Bool × List Int} {pl0 : AX.Loc} {pl1 : AX.Loc} (hy : rotabig_Rat_den_B ((q1.1.1, q1.1.2), (q1.2.1, q1.2.2)) = some y1) (hy1 : rotabig_Int_Mul_r q0.1.1 q0.1.2 y1.2.1 y1.2.2 (false, []) = some y2) (hy2 : rotabig_Rat_den_B ((q0.1.1, q0.1.2), (q0.2.1, q0.2.2)) = some y3) (hy3 : rotabig_Int_Mul_r y1.1.1 y1.1.2 y3.2.1 y3.2.2 (false, []) = some y4) (hy4 : rotabig_Int_Add_r y2.1 y2.2 y4.1 y4.2 (false, []) = some y5) {w0 : World} {Q : Exit → St → Prop} {AA : Nat → Array Bool → St → Prop} (hAA : ∀ g L st, AA g L st ↔ AWPB Try.prog w0 reg_rotabig_Rat_Add_B_1.toArray Q g L st) (hn6 : AA 5 #[true, true, true, true, true, true, true, true, false, true, true, true, true, false, false, false, false] ⟨33, [(0, .ptr 0 0 0), (1, .ptr 0 0 0), (2, .ptr 1 0 0), (8, .ptr 8 0 0), (15, .ptr 9 0 0), (19, .ptr 1 0 0), (20, .ptr 0 0 0)], [some (.gen 33 4 [[.bool q0.1.1, .own 2 q0.1.2.length, .bool q0.2.1, .own 3 q0.2.2.length]]), some (.gen 33 4 [[.bool y1.1.1, .own 10 y1.1.2.length, .bool y1.2.1, .own 11 y1.2.2.length]]), some (.ints 186 .u32 q0.1.2), some (.ints 186 .u32 q0.2.2), none, none, some (.pin 0 pl0), some (.pin 1 pl1), some (.gen 31 2 [[.bool false, .nil]]), some (.gen 31 2 [[.bool y2.1, .own 13 y2.2.length]]), some (.ints 186 .u32 y1.1.2), some (.ints 186 .u32 y1.2.2), none, some (.ints 186 .u32 y2.2)]⟩) (hn17 : AA 5 #[false, true, true, true, true, true, true, true, true, true, true, true, true, false, false, false, false] ⟨33, [(0, .ptr 0 0 0), (1, .ptr 0 0 0), (2, .ptr 1 0 0), (15, .ptr 8 0 0), (16, .ptr 13 0 0), (19, .ptr 1 0 0), (20, .ptr 0 0 0)], [some (.gen 33 4 [[.bool q0.1.1, .own 2 q0.1.2.length, .bool q0.2.1, .own 3 q0.2.2.length]]), some (.gen 33 4 [[.bool y1.1.1, .own 9 y1.1.2.length, .bool y1.2.1, .own 10 y1.2.2.length]]), some (.ints 186 .u32 q0.1.2), some (.ints 186 .u32 q0.2.2), none, none, some (.pin 0 pl0), some (.pin 1 pl1), some (.gen 31 2 [[.bool y2.1, .own 12 y2.2.length]]), some (.ints 186 .u32 y1.1.2), some (.ints 186 .u32 y1.2.2), none, some (.ints 186 .u32 y2.2), some (.gen 31 2 [[.bool false, .nil]])]⟩) (hn18 : AA 5 #[false, true, true, true, true, true, true, true, false, true, true, true, true, true, false, false, false] ⟨33, [(0, .ptr 0 0 0), (1, .ptr 0 0 0), (2, .ptr 1 0 0), (15, .ptr 8 0 0), (19, .ptr 1 0 0), (21, .ptr 0 0 2)], [some (.gen 33 4 [[.bool y3.1.1, .own 13 y3.1.2.length, .bool y3.2.1, .own 14 y3.2.2.length]]), some (.gen 33 4 [[.bool y1.1.1, .own 9 y1.1.2.length, .bool y1.2.1, .own 10 y1.2.2.length]]), none, none, none, none, some (.pin 0 pl0), some (.pin 1 pl1), some (.gen 31 2 [[.bool y2.1, .own 12 y2.2.length]]), some (.ints 186 .u32 y1.1.2), some (.ints 186 .u32 y1.2.2), none, some (.ints 186 .u32 y2.2), some (.ints 186 .u32 y3.1.2), some (.ints 186 .u32 y3.2.2)]⟩) : AA 6 #[false, true, true, true, true, true, true, true, false, true, true, true, true, false, false, false, false] ⟨33, [(0, .ptr 0 0 0), (1, .ptr 0 0 0), (2, .ptr 1 0 0), (15, .ptr 8 0 0), (19, .ptr 1 0 0), (20, .ptr 0 0 0)], [some (.gen 33 4 [[.bool q0.1.1, .own 2 q0.1.2.length, .bool q0.2.1, .own 3 q0.2.2.length]]), some (.gen 33 4 [[.bool y1.1.1, .own 9 y1.1.2.length, .bool y1.2.1, .own 10 y1.2.2.length]]), some (.ints 186 .u32 q0.1.2), some (.ints 186 .u32 q0.2.2), none, none, some (.pin 0 pl0), some (.pin 1 pl1), some (.gen 31 2 [[.bool y2.1, .own 12 y2.2.length]]), some (.ints 186 .u32 y1.1.2), some (.ints 186 .u32 y1.2.2), none, some (.ints 186 .u32 y2.2)]⟩ := (hAA _ _ _).2 (by
  refine AWPB_three 0 8 13 _ _ _ ceg_rotabig_Rat_Add_B_1_39 rfl rfl rfl ?_ ?_ ?_
  ·skip
   refine AWPL_rn tab_ok 1 [0, 1, 2, 7, 8, 15, 16, 19, 20, 21, 22, 23] fun c st' hr => ?_
   simp only [go_sem] at hr
   obtain ⟨rfl, rfl⟩ := hr
   refine ⟨vc, ?_⟩
   refine AWPL_nil ?_
   refine QB_normal ?_
   exact AWPB_wk [0, 1, 2, 3, 4, 5, 6, 7, 13, 8, 9, 10, 11, 12] mkWk ((hAA _ _ _).1 hn6)
  ·skip
   refine AWPL_rn tab_ok 1 [0, 1, 2, 7, 8, 15, 16, 19, 20, 21, 22, 23] fun c st' hr => ?_
   simp only [go_sem] at hr
   obtain ⟨rfl, rfl⟩ := hr
   refine ⟨vc, ?_⟩
   refine AWPL_nil ?_
   refine QB_normal ?_
   exact AWPB_wk [0, 1, 2, 3, 4, 5, 6, 7, 8, 9, 10, 11, 12, 13] mkWk ((hAA _ _ _).1 hn17)
  ·skip
   refine AWPL_gR [0, 1, 2, 7, 8, 15, 16, 19, 21, 22, 23] [0, 2, 3] [.ptr 0 0 0] [some (.gen 33 4 [[.bool y3.1.1, .own 13 y3.1.2.length, .bool y3.2.1, .own 14 y3.2.2.length]]), some (.gen 33 4 [[.bool y1.1.1, .own 9 y1.1.2.length, .bool y1.2.1, .own 10 y1.2.2.length]]), none, none, none, none, some (.pin 0 pl0), some (.pin 1 pl1), some (.gen 31 2 [[.bool y2.1, .own 12 y2.2.length]]), some (.ints 186 .u32 y1.1.2), some (.ints 186 .u32 y1.2.2), none, some (.ints 186 .u32 y2.2), some (.ints 186 .u32 y3.1.2), some (.ints 186 .u32 y3.2.2)] (r' := .ptr 0 0 2) (W_rotabig_Rat_den_B hy2) rfl rfl pcT rfl Try.call66 (of_decide_eq_true rfl) ⟨rfl, rfl, rfl, trivial⟩ rfl (hscG trivial) (of_decide_eq_true rfl) rfl rfl rfl (of_decide_eq_true rfl) rfl fun st' hr => ?_
   simp only [go_sem] at hr
   subst hr
   refine AWPL_nil ?_
   refine QB_normal ?_
   exact AWPB_wk [0, 1, 2, 3, 4, 5, 6, 7, 8, 9, 10, 11, 12, 13, 14] mkWk ((hAA _ _ _).1 hn18))

theorem ceg_rotabig_Rat_Add_B_1_41 : (Region.ready .any reg_rotabig_Rat_Add_B_1.toArray #[false, true, true, true, true, true, true, false, true, true, true, true, true, false, false, false, false] == [0, 7]) = true := by kernel_rfl

theorem J_rotabig_Rat_Add_B_1_hn20 {q0 : (Bool × List Int) × (Bool × List Int)} {q1 : (Bool × List Int) × (Bool × List Int)} {y1 : (Bool × List Int) × (Bool × List Int)} {y2 : Bool × List Int} {y3 : (Bool × List Int) × (Bool × List Int)} {y4 : Bool × List Int} {y5 : Bool × List Int} {pl0 : AX.Loc} {pl1 : AX.Loc} (hy : rotabig_Rat_den_B ((q1.1.1, q1.1.2), (q1.2.1, q1.2.2)) = some y1) (hy1 : rotabig_Int_Mul_r q0.1.1 q0.1.2 y1.2.1 y1.2.2 (false, []) = some y2) (hy2 : rotabig_Rat_den_B ((q0.1.1, q0.1.2), (q0.2.1, q0.2.2)) = some y3) (hy3 : rotabig_Int_Mul_r y1.1.1 y1.1.2 y3.2.1 y3.2.2 (false, []) = some y4) (hy4 : rotabig_Int_Add_r y2.1 y2.2 y4.1 y4.2 (false, []) = some y5) {w0 : World} {Q : Exit → St → Prop} {AA : Nat → Array Bool → St → Prop} (hAA : ∀ g L st, AA g L st ↔ AWPB Try.prog w0 reg_rotabig_Rat_Add_B_1.toArray Q g L st) (hn7 : AA 5 #[true, true, true, true, true, true, true, false, true, true, true, true, true, false, false, false, false] ⟨33, [(0, .ptr 0 0 0), (1, .ptr 0 0 0), (2, .ptr 1 0 0), (8, .ptr 8 0 0), (9, .ptr 9 0 0), (12, .ptr 0 0 0), (14, .ptr 1 0 2), (16, .ptr 12 0 0), (19, .ptr 1 0 0), (20, .ptr 0 0 0)], [some (.gen 33 4 [[.bool q0.1.1, .own 2 q0.1.2.length, .bool q0.2.1, .own 3 q0.2.2.length]]), some (.gen 33 4 [[.bool y1.1.1, .own 10 y1.1.2.length, .bool y1.2.1, .own 11 y1.2.2.length]]), some (.ints 186 .u32 q0.1.2), some (.ints 186 .u32 q0.2.2), none, none, some (.pin 0 pl0), some (.pin 1 pl1), some (.gen 31 2 [[.bool false, .nil]]), some (.gen 31 2 [[.bool false, .nil]]), some (.ints 186 .u32 y1.1.2), some (.ints 186 .u32 y1.2.2), some (.gen 31 2 [[.bool false, .nil]])]⟩) (hn17 : AA 5 #[false, true, true, true, true, true, true, true, true, true, true, true, true, false, false, false, false] ⟨33, [(0, .ptr 0 0 0), (1, .ptr 0 0 0), (2, .ptr 1 0 0), (15, .ptr 8 0 0), (16, .ptr 13 0 0), (19, .ptr 1 0 0), (20, .ptr 0 0 0)], [some (.gen 33 4 [[.bool q0.1.1, .own 2 q0.1.2.length, .bool q0.2.1, .own 3 q0.2.2.length]]), some (.gen 33 4 [[.bool y1.1.1, .own 9 y1.1.2.length, .bool y1.2.1, .own 10 y1.2.2.length]]), some (.ints 186 .u32 q0.1.2), some (.ints 186 .u32 q0.2.2), none, none, some (.pin 0 pl0), some (.pin 1 pl1), some (.gen 31 2 [[.bool y2.1, .own 12 y2.2.length]]), some (.ints 186 .u32 y1.1.2), some (.ints 186 .u32 y1.2.2), none, some (.ints 186 .u32 y2.2), some (.gen 31 2 [[.bool false, .nil]])]⟩) : AA 6 #[false, true, true, true, true, true, true, false, true, true, true, true, true, false, false, false, false] ⟨33, [(0, .ptr 0 0 0), (1, .ptr 0 0 0), (2, .ptr 1 0 0), (9, .ptr 8 0 0), (12, .ptr 0 0 0), (14, .ptr 1 0 2), (16, .ptr 11 0 0), (19, .ptr 1 0 0), (20, .ptr 0 0 0)], [some (.gen 33 4 [[.bool q0.1.1, .own 2 q0.1.2.length, .bool q0.2.1, .own 3 q0.2.2.length]]), some (.gen 33 4 [[.bool y1.1.1, .own 9 y1.1.2.length, .bool y1.2.1, .own 10 y1.2.2.length]]), some (.ints 186 .u32 q0.1.2), some (.ints 186 .u32 q0.2.2), none, none, some (.pin 0 pl0), some (.pin 1 pl1), some (.gen 31 2 [[.bool false, .nil]]), some (.ints 186 .u32 y1.1.2), some (.ints 186 .u32 y1.2.2), some (.gen 31 2 [[.bool false, .nil]])]⟩ := (hAA _ _ _).2 (by
  refine AWPB_two 0 7 _ _ ceg_rotabig_Rat_Add_B_1_41 rfl rfl ?_ ?_
  ·skip
   refine AWPL_rn tab_ok 1 [0, 1, 2, 7, 8, 9, 12, 14, 15, 16, 19, 20, 21, 22, 23] fun c st' hr => ?_
   simp only [go_sem] at hr
   obtain ⟨rfl, rfl⟩ := hr
   refine ⟨vc, ?_⟩
   refine AWPL_nil ?_
   refine QB_normal ?_
   exact AWPB_wk [0, 1, 2, 3, 4, 5, 6, 7, 12, 8, 9, 10, 11] mkWk ((hAA _ _ _).1 hn7)
  ·skip
   refine AWPL_gs' (gs_ownH 8 1 (.ints 186 .u32 []) rfl rfl rfl) fun st' hr => ?_
   simp only [go_sem, List.cons_append, List.nil_append, List.set_cons_zero, List.set_cons_succ] at hr
   subst hr
   refine AWPL_gS [0, 1, 2, 7, 8, 15, 16, 19, 20, 21, 22, 23] [8, 12] [.ptr 0 0 0, .immp [.bool q0.1.1, .ints .u32 q0.1.2], .immp [.bool y1.2.1, .ints .u32 y1.2.2]] [some (.gen 33 4 [[.bool q0.1.1, .own 2 q0.1.2.length, .bool q0.2.1, .own 3 q0.2.2.length]]), some (.gen 33 4 [[.bool y1.1.1, .own 9 y1.1.2.length, .bool y1.2.1, .own 10 y1.2.2.length]]), some (.ints 186 .u32 q0.1.2), some (.ints 186 .u32 q0.2.2), none, none, some (.pin 0 pl0), some (.pin 1 pl1), some (.gen 31 2 [[.bool y2.1, .own 13 y2.2.length]]), some (.ints 186 .u32 y1.1.2), some (.ints 186 .u32 y1.2.2), some (.gen 31 2 [[.bool false, .nil]]), none, some (.ints 186 .u32 y2.2)] (r' := .ptr 8 0 0) (W_rotabig_Int_Mul_r hy1) rfl rfl pcT rfl Try.call65 (of_decide_eq_true rfl) ⟨rfl, rfl, trivial⟩ (.ptr 0 rfl (.cons (ArgOk.part (j0 := 0) rfl rfl (of_decide_eq_true rfl) (.cons (.atom _ rfl) (.cons (.ownI _ _ _ _ _ q0.1.2 rfl (by simp) (by first | simp | exact List.take_of_length_le (by simp))) .nil))) (.cons (ArgOk.part (j0 := 2) rfl rfl (of_decide_eq_true rfl) (.cons (.atom _ rfl) (.cons (.ownI _ _ _ _ _ y1.2.2 rfl (by simp) (by first | simp | exact List.take_of_length_le (by simp))) .nil))) .nil))) (hscG trivial) (of_decide_eq_true rfl) rfl rfl rfl (of_decide_eq_true rfl) rfl fun st' hr => ?_
   simp only [go_sem] at hr
   subst hr
   refine AWPL_nil ?_
   refine QB_normal ?_
   exact AWPB_wk [0, 1, 2, 3, 4, 5, 6, 7, 8, 9, 10, 12, 13, 11] mkWk ((hAA _ _ _).1 hn17))

theorem ceg_rotabig_Rat_Add_B_1_43 : (Region.ready .any reg_rotabig_Rat_Add_B_1.toArray #[false, true, true, true, true, true, true, false, false, true, true, true, true, false, false, false, false] == [0, 7, 8]) = true := by kernel_rfl

theorem J_rotabig_Rat_Add_B_1_hn21 {q0 : (Bool × List Int) × (Bool × List Int)} {q1 : (Bool × List Int) × (Bool × List Int)} {y1 : (Bool × List Int) × (Bool × List Int)} {y2 : Bool × List Int} {y3 : (Bool × List Int) × (Bool × List Int)} {y4 : Bool × List Int} {y5 : Bool × List Int} {pl0 : AX.Loc} {pl1 : AX.Loc} (hy : rotabig_Rat_den_B ((q1.1.1, q1.1.2), (q1.2.1, q1.2.2)) = some y1) (hy1 : rotabig_Int_Mul_r q0.1.1 q0.1.2 y1.2.1 y1.2.2 (false, []) = some y2) (hy2 : rotabig_Rat_den_B ((q0.1.1, q0.1.2), (q0.2.1, q0.2.2)) = some y3) (hy3 : rotabig_Int_Mul_r y1.1.1 y1.1.2 y3.2.1 y3.2.2 (false, []) = some y4) (hy4 : rotabig_Int_Add_r y2.1 y2.2 y4.1 y4.2 (false, []) = some y5) {w0 : World} {Q : Exit → St → Prop} {AA : Nat → Array Bool → St → Prop} (hAA : ∀ g L st, AA g L st ↔ AWPB Try.prog w0 reg_rotabig_Rat_Add_B_1.toArray Q g L st) (hn8 : AA 6 #[true, true, true, true, true, true, true, false, false, true, true, true, true, false, false, false, false] ⟨33, [(0, .ptr 0 0 0), (1, .ptr 0 0 0), (2, .ptr 1 0 0), (8, .ptr 8 0 0), (9, .ptr 9 0 0), (12, .ptr 0 0 0), (14, .ptr 1 0 2), (19, .ptr 1 0 0), (20, .ptr 0 0 0)], [some (.gen 33 4 [[.bool q0.1.1, .own 2 q0.1.2.length, .bool q0.2.1, .own 3 q0.2.2.length]]), some (.gen 33 4 [[.bool y1.1.1, .own 10 y1.1.2.length, .bool y1.2.1, .own 11 y1.2.2.length]]), some (.ints 186 .u32 q0.1.2), some (.ints 186 .u32 q0.2.2), none, none, some (.pin 0 pl0), some (.pin 1 pl1), some (.gen 31 2 [[.bool false, .nil]]), some (.gen 31 2 [[.bool false, .nil]]), some (.ints 186 .u32 y1.1.2), some (.ints 186 .u32 y1.2.2)]⟩) (hn19 : AA 6 #[false, true, true, true, true, true, true, true, false, true, true, true, true, false, false, false, false] ⟨33, [(0, .ptr 0 0 0), (1, .ptr 0 0 0), (2, .ptr 1 0 0), (15, .ptr 8 0 0), (19, .ptr 1 0 0), (20, .ptr 0 0 0)], [some (.gen 33 4 [[.bool q0.1.1, .own 2 q0.1.2.length, .bool q0.2.1, .own 3 q0.2.2.length]]), some (.gen 33 4 [[.bool y1.1.1, .own 9 y1.1.2.length, .bool y1.2.1, .own 10 y1.2.2.length]]), some (.ints 186 .u32 q0.1.2), some (.ints 186 .u32 q0.2.2), none, none, some (.pin 0 pl0), some (.pin 1 pl1), some (.gen 31 2 [[.bool y2.1, .own 12 y2.2.length]]), some (.ints 186 .u32 y1.1.2), some (.ints 186 .u32 y1.2.2), none, some (.ints 186 .u32 y2.2)]⟩) (hn20 : AA 6 #[false, true, true, true, true, true, true, false, true, true, true, true, true, false, false, false, false] ⟨33, [(0, .ptr 0 0 0), (1, .ptr 0 0 0), (2, .ptr 1 0 0), (9, .ptr 8 0 0), (12, .ptr 0 0 0), (14, .ptr 1 0 2), (16, .ptr 11 0 0), (19, .ptr 1 0 0), (20, .ptr 0 0 0)], [some (.gen 33 4 [[.bool q0.1.1, .own 2 q0.1.2.length, .bool q0.2.1, .own 3 q0.2.2.length]]), some (.gen 33 4 [[.bool y1.1.1, .own 9 y1.1.2.length, .bool y1.2.1, .own 10 y1.2.2.length]]), some (.ints 186 .u32 q0.1.2), some (.ints 186 .u32 q0.2.2), none, none, some (.pin 0 pl0), some (.pin 1 pl1), some (.gen 31 2 [[.bool false, .nil]]), some (.ints 186 .u32 y1.1.2), some (.ints 186 .u32 y1.2.2), some (.gen 31 2 [[.bool false, .nil]])]⟩) : AA 7 #[false, true, true, true, true, true, true, false, false, true, true, true, true, false, false, false, false] ⟨33, [(0, .ptr 0 0 0), (1, .ptr 0 0 0), (2, .ptr 1 0 0), (9, .ptr 8 0 0), (12, .ptr 0 0 0), (14, .ptr 1 0 2), (19, .ptr 1 0 0), (20, .ptr 0 0 0)], [some (.gen 33 4 [[.bool q0.1.1, .own 2 q0.1.2.length, .bool q0.2.1, .own 3 q0.2.2.length]]), some (.gen 33 4 [[.bool y1.1.1, .own 9 y1.1.2.length, .bool y1.2.1, .own 10 y1.2.2.length]]), some (.ints 186 .u32 q0.1.2), some (.ints 186 .u32 q0.2.2), none, none, some (.pin 0 pl0), some (.pin 1 pl1), some (.gen 31 2 [[.bool false, .nil]]), some (.ints 186 .u32 y1.1.2), some (.ints 186 .u32 y1.2.2)]⟩ := (hAA _ _ _).2 (by
  refine AWPB_three 0 7 8 _ _ _ ceg_rotabig_Rat_Add_B_1_43 rfl rfl rfl ?_ ?_ ?_
  ·skip
   refine AWPL_rn tab_ok 1 [0, 1, 2, 7, 8, 9, 12, 14, 15, 16, 19, 20, 21, 22, 23] fun c st' hr => ?_
   simp only [go_sem] at hr
   obtain ⟨rfl, rfl⟩ := hr
   refine ⟨vc, ?_⟩
   refine AWPL_nil ?_
   refine QB_normal ?_
   exact AWPB_wk [0, 1, 2, 3, 4, 5, 6, 7, 11, 8, 9, 10] mkWk ((hAA _ _ _).1 hn8)
  ·skip
   refine AWPL_gs' (gs_ownH 8 1 (.ints 186 .u32 []) rfl rfl rfl) fun st' hr => ?_
   simp only [go_sem, List.cons_append, List.nil_append, List.set_cons_zero, List.set_cons_succ] at hr
   subst hr
   refine AWPL_gS [0, 1, 2, 7, 8, 15, 16, 19, 20, 21, 22, 23] [8, 11] [.ptr 0 0 0, .immp [.bool q0.1.1, .ints .u32 q0.1.2], .immp [.bool y1.2.1, .ints .u32 y1.2.2]] [some (.gen 33 4 [[.bool q0.1.1, .own 2 q0.1.2.length, .bool q0.2.1, .own 3 q0.2.2.length]]), some (.gen 33 4 [[.bool y1.1.1, .own 9 y1.1.2.length, .bool y1.2.1, .own 10 y1.2.2.length]]), some (.ints 186 .u32 q0.1.2), some (.ints 186 .u32 q0.2.2), none, none, some (.pin 0 pl0), some (.pin 1 pl1), some (.gen 31 2 [[.bool y2.1, .own 12 y2.2.length]]), some (.ints 186 .u32 y1.1.2), some (.ints 186 .u32 y1.2.2), none, some (.ints 186 .u32 y2.2)] (r' := .ptr 8 0 0) (W_rotabig_Int_Mul_r hy1) rfl rfl pcT rfl Try.call65 (of_decide_eq_true rfl) ⟨rfl, rfl, trivial⟩ (.ptr 0 rfl (.cons (ArgOk.part (j0 := 0) rfl rfl (of_decide_eq_true rfl) (.cons (.atom _ rfl) (.cons (.ownI _ _ _ _ _ q0.1.2 rfl (by simp) (by first | simp | exact List.take_of_length_le (by simp))) .nil))) (.cons (ArgOk.part (j0 := 2) rfl rfl (of_decide_eq_true rfl) (.cons (.atom _ rfl) (.cons (.ownI _ _ _ _ _ y1.2.2 rfl (by simp) (by first | simp | exact List.take_of_length_le (by simp))) .nil))) .nil))) (hscG trivial) (of_decide_eq_true rfl) rfl rfl rfl (of_decide_eq_true rfl) rfl fun st' hr => ?_
   simp only [go_sem] at hr
   subst hr
   refine AWPL_nil ?_
   refine QB_normal ?_
   exact AWPB_wk [0, 1, 2, 3, 4, 5, 6, 7, 8, 9, 10, 11, 12] mkWk ((hAA _ _ _).1 hn19)
  ·skip
   refine AWPL_rn tab_ok 1 [0, 1, 2, 7, 8, 9, 12, 14, 15, 16, 19, 20, 21, 22, 23] fun c st' hr => ?_
   simp only [go_sem] at hr
   obtain ⟨rfl, rfl⟩ := hr
   refine ⟨vc, ?_⟩
   refine AWPL_nil ?_
   refine QB_normal ?_
   exact AWPB_wk [0, 1, 2, 3, 4, 5, 6, 7, 8, 9, 10, 11] mkWk ((hAA _ _ _).1 hn20))

theorem ceg_rotabig_Rat_Add_B_1_45 : (Region.ready .any reg_rotabig_Rat_Add_B_1.toArray #[false, true, true, true, true, true, false, false, true, true, true, true, true, false, false, false, false] == [0, 6]) = true := by kernel_rfl

theorem J_rotabig_Rat_Add_B_1_hn22 {q0 : (Bool × List Int) × (Bool × List Int)} {q1 : (Bool × List Int) × (Bool × List Int)} {y1 : (Bool × List Int) × (Bool × List Int)} {y2 : Bool × List Int} {y3 : (Bool × List Int) × (Bool × List Int)} {y4 : Bool × List Int} {y5 : Bool × List Int} {pl0 : AX.Loc} {pl1 : AX.Loc} (hy : rotabig_Rat_den_B ((q1.1.1, q1.1.2), (q1.2.1, q1.2.2)) = some y1) (hy1 : rotabig_Int_Mul_r q0.1.1 q0.1.2 y1.2.1 y1.2.2 (false, []) = some y2) (hy2 : rotabig_Rat_den_B ((q0.1.1, q0.1.2), (q0.2.1, q0.2.2)) = some y3) (hy3 : rotabig_Int_Mul_r y1.1.1 y1.1.2 y3.2.1 y3.2.2 (false, []) = some y4) (hy4 : rotabig_Int_Add_r y2.1 y2.2 y4.1 y4.2 (false, []) = some y5) {w0 : World} {Q : Exit → St → Prop} {AA : Nat → Array Bool → St → Prop} (hAA : ∀ g L st, AA g L st ↔ AWPB Try.prog w0 reg_rotabig_Rat_Add_B_1.toArray Q g L st) (hn9 : AA 6 #[true, true, true, true, true, true, false, false, true, true, true, true, true, false, false, false, false] ⟨33, [(0, .ptr 0 0 0), (1, .ptr 0 0 0), (2, .ptr 1 0 0), (8, .ptr 8 0 0), (9, .ptr 9 0 0), (12, .ptr 0 0 0), (13, .ptr 1 0 0), (16, .ptr 10 0 0), (19, .ptr 1 0 0), (20, .ptr 0 0 0)], [some (.gen 33 4 [[.bool q0.1.1, .own 2 q0.1.2.length, .bool q0.2.1, .own 3 q0.2.2.length]]), some (.gen 33 4 [[.bool q1.1.1, .own 4 q1.1.2.length, .bool q1.2.1, .own 5 q1.2.2.length]]), some (.ints 186 .u32 q0.1.2), some (.ints 186 .u32 q0.2.2), some (.ints 186 .u32 q1.1.2), some (.ints 186 .u32 q1.2.2), some (.pin 0 pl0), some (.pin 1 pl1), some (.gen 31 2 [[.bool false, .nil]]), some (.gen 31 2 [[.bool false, .nil]]), some (.gen 31 2 [[.bool false, .nil]])]⟩) (hn20 : AA 6 #[false, true, true, true, true, true, true, false, true, true, true, true, true, false, false, false, false] ⟨33, [(0, .ptr 0 0 0), (1, .ptr 0 0 0), (2, .ptr 1 0 0), (9, .ptr 8 0 0), (12, .ptr 0 0 0), (14, .ptr 1 0 2), (16, .ptr 11 0 0), (19, .ptr 1 0 0), (20, .ptr 0 0 0)], [some (.gen 33 4 [[.bool q0.1.1, .own 2 q0.1.2.length, .bool q0.2.1, .own 3 q0.2.2.length]]), some (.gen 33 4 [[.bool y1.1.1, .own 9 y1.1.2.length, .bool y1.2.1, .own 10 y1.2.2.length]]), some (.ints 186 .u32 q0.1.2), some (.ints 186 .u32 q0.2.2), none, none, some (.pin 0 pl0), some (.pin 1 pl1), some (.gen 31 2 [[.bool false, .nil]]), some (.ints 186 .u32 y1.1.2), some (.ints 186 .u32 y1.2.2), some (.gen 31 2 [[.bool false, .nil]])]⟩) : AA 7 #[false, true, true, true, true, true, false, false, true, true, true, true, true, false, false, false, false] ⟨33, [(0, .ptr 0 0 0), (1, .ptr 0 0 0), (2, .ptr 1 0 0), (9, .ptr 8 0 0), (12, .ptr 0 0 0), (13, .ptr 1 0 0), (16, .ptr 9 0 0), (19, .ptr 1 0 0), (20, .ptr 0 0 0)], [some (.gen 33 4 [[.bool q0.1.1, .own 2 q0.1.2.length, .bool q0.2.1, .own 3 q0.2.2.length]]), some (.gen 33 4 [[.bool q1.1.1, .own 4 q1.1.2.length, .bool q1.2.1, .own 5 q1.2.2.length]]), some (.ints 186 .u32 q0.1.2), some (.ints 186 .u32 q0.2.2), some (.ints 186 .u32 q1.1.2), some (.ints 186 .u32 q1.2.2), some (.pin 0 pl0), some (.pin 1 pl1), some (.gen 31 2 [[.bool false, .nil]]), some (.gen 31 2 [[.bool false, .nil]])]⟩ := (hAA _ _ _).2 (by
  refine AWPB_two 0 6 _ _ ceg_rotabig_Rat_Add_B_1_45 rfl rfl ?_ ?_
  ·skip
   refine AWPL_rn tab_ok 1 [0, 1, 2, 7, 8, 9, 12, 13, 14, 15, 16, 19, 20, 21, 22, 23] fun c st' hr => ?_
   simp only [go_sem] at hr
   obtain ⟨rfl, rfl⟩ := hr
   refine ⟨vc, ?_⟩
   refine AWPL_nil ?_
   refine QB_normal ?_
   exact AWPB_wk [0, 1, 2, 3, 4, 5, 6, 7, 10, 8, 9] mkWk ((hAA _ _ _).1 hn9)
  ·skip
   refine AWPL_gR [0, 1, 2, 7, 8, 9, 12, 14, 15, 16, 19, 20, 21, 22, 23] [1, 4, 5] [.ptr 0 0 0] [some (.gen 33 4 [[.bool q0.1.1, .own 2 q0.1.2.length, .bool q0.2.1, .own 3 q0.2.2.length]]), some (.gen 33 4 [[.bool y1.1.1, .own 10 y1.1.2.length, .bool y1.2.1, .own 11 y1.2.2.length]]), some (.ints 186 .u32 q0.1.2), some (.ints 186 .u32 q0.2.2), none, none, some (.pin 0 pl0), some (.pin 1 pl1), some (.gen 31 2 [[.bool false, .nil]]), some (.gen 31 2 [[.bool false, .nil]]), some (.ints 186 .u32 y1.1.2), some (.ints 186 .u32 y1.2.2)] (r' := .ptr 1 0 2) (W_rotabig_Rat_den_B hy) rfl rfl pcT rfl Try.call66 (of_decide_eq_true rfl) ⟨rfl, rfl, rfl, trivial⟩ rfl (hscG trivial) (of_decide_eq_true rfl) rfl rfl rfl (of_decide_eq_true rfl) rfl fun st' hr => ?_
   simp only [go_sem] at hr
   subst hr
   refine AWPL_nil ?_
   refine QB_normal ?_
   exact AWPB_wk [0, 1, 2, 3, 4, 5, 6, 7, 8, 10, 11, 9] mkWk ((hAA _ _ _).1 hn20))

theorem ceg_rotabig_Rat_Add_B_1_47 : (Region.ready .any reg_rotabig_Rat_Add_B_1.toArray #[false, true, true, true, true, true, false, false, false, true, true, true, true, false, false, false, false] == [0, 6, 8]) = true := by kernel_rfl

theorem J_rotabig_Rat_Add_B_1_hn23 {q0 : (Bool × List Int) × (Bool × List Int)} {q1 : (Bool × List Int) × (Bool × List Int)} {y1 : (Bool × List Int) × (Bool × List Int)} {y2 : Bool × List Int} {y3 : (Bool × List Int) × (Bool × List Int)} {y4 : Bool × List Int} {y5 : Bool × List Int} {pl0 : AX.Loc} {pl1 : AX.Loc} (hy : rotabig_Rat_den_B ((q1.1.1, q1.1.2), (q1.2.1, q1.2.2)) = some y1) (hy1 : rotabig_Int_Mul_r q0.1.1 q0.1.2 y1.2.1 y1.2.2 (false, []) = some y2) (hy2 : rotabig_Rat_den_B ((q0.1.1, q0.1.2), (q0.2.1, q0.2.2)) = some y3) (hy3 : rotabig_Int_Mul_r y1.1.1 y1.1.2 y3.2.1 y3.2.2 (false, []) = some y4) (hy4 : rotabig_Int_Add_r y2.1 y2.2 y4.1 y4.2 (false, []) = some y5) {w0 : World} {Q : Exit → St → Prop} {AA : Nat → Array Bool → St → Prop} (hAA : ∀ g L st, AA g L st ↔ AWPB Try.prog w0 reg_rotabig_Rat_Add_B_1.toArray Q g L st) (hn10 : AA 7 #[true, true, true, true, true, true, false, false, false, true, true, true, true, false, false, false, false] ⟨33, [(0, .ptr 0 0 0), (1, .ptr 0 0 0), (2, .ptr 1 0 0), (8, .ptr 8 0 0), (9, .ptr 9 0 0), (12, .ptr 0 0 0), (13, .ptr 1 0 0), (19, .ptr 1 0 0), (20, .ptr 0 0 0)], [some (.gen 33 4 [[.bool q0.1.1, .own 2 q0.1.2.length, .bool q0.2.1, .own 3 q0.2.2.length]]), some (.gen 33 4 [[.bool q1.1.1, .own 4 q1.1.2.length, .bool q1.2.1, .own 5 q1.2.2.length]]), some (.ints 186 .u32 q0.1.2), some (.ints 186 .u32 q0.2.2), some (.ints 186 .u32 q1.1.2), some (.ints 186 .u32 q1.2.2), some (.pin 0 pl0), some (.pin 1 pl1), some (.gen 31 2 [[.bool false, .nil]]), some (.gen 31 2 [[.bool false, .nil]])]⟩) (hn21 : AA 7 #[false, true, true, true, true, true, true, false, false, true, true, true, true, false, false, false, false] ⟨33, [(0, .ptr 0 0 0), (1, .ptr 0 0 0), (2, .ptr 1 0 0), (9, .ptr 8 0 0), (12, .ptr 0 0 0), (14, .ptr 1 0 2), (19, .ptr 1 0 0), (20, .ptr 0 0 0)], [some (.gen 33 4 [[.bool q0.1.1, .own 2 q0.1.2.length, .bool q0.2.1, .own 3 q0.2.2.length]]), some (.gen 33 4 [[.bool y1.1.1, .own 9 y1.1.2.length, .bool y1.2.1, .own 10 y1.2.2.length]]), some (.ints 186 .u32 q0.1.2), some (.ints 186 .u32 q0.2.2), none, none, some (.pin 0 pl0), some (.pin 1 pl1), some (.gen 31 2 [[.bool false, .nil]]), some (.ints 186 .u32 y1.1.2), some (.ints 186 .u32 y1.2.2)]⟩) (hn22 : AA 7 #[false, true, true, true, true, true, false, false, true, true, true, true, true, false, false, false, false] ⟨33, [(0, .ptr 0 0 0), (1, .ptr 0 0 0), (2, .ptr 1 0 0), (9, .ptr 8 0 0), (12, .ptr 0 0 0), (13, .ptr 1 0 0), (16, .ptr 9 0 0), (19, .ptr 1 0 0), (20, .ptr 0 0 0)], [some (.gen 33 4 [[.bool q0.1.1, .own 2 q0.1.2.length, .bool q0.2.1, .own 3 q0.2.2.length]]), some (.gen 33 4 [[.bool q1.1.1, .own 4 q1.1.2.length, .bool q1.2.1, .own 5 q1.2.2.length]]), some (.ints 186 .u32 q0.1.2), some (.ints 186 .u32 q0.2.2), some (.ints 186 .u32 q1.1.2), some (.ints 186 .u32 q1.2.2), some (.pin 0 pl0), some (.pin 1 pl1), some (.gen 31 2 [[.bool false, .nil]]), some (.gen 31 2 [[.bool false, .nil]])]⟩) : AA 8 #[false, true, true, true, true, true, false, false, false, true, true, true, true, false, false, false, false] ⟨33, [(0, .ptr 0 0 0), (1, .ptr 0 0 0), (2, .ptr 1 0 0), (9, .ptr 8 0 0), (12, .ptr 0 0 0), (13, .ptr 1 0 0), (19, .ptr 1 0 0), (20, .ptr 0 0 0)], [some (.gen 33 4 [[.bool q0.1.1, .own 2 q0.1.2.length, .bool q0.2.1, .own 3 q0.2.2.length]]), some (.gen 33 4 [[.bool q1.1.1, .own 4 q1.1.2.length, .bool q1.2.1, .own 5 q1.2.2.length]]), some (.ints 186 .u32 q0.1.2), some (.ints 186 .u32 q0.2.2), some (.ints 186 .u32 q1.1.2), some (.ints 186 .u32 q1.2.2), some (.pin 0 pl0), some (.pin 1 pl1), some (.gen 31 2 [[.bool false, .nil]])]⟩ := (hAA _ _ _).2 (by
  refine AWPB_three 0 6 8 _ _ _ ceg_rotabig_Rat_Add_B_1_47 rfl rfl rfl ?_ ?_ ?_
  ·skip
   refine AWPL_rn tab_ok 1 [0, 1, 2, 7, 8, 9, 12, 13, 14, 15, 16, 19, 20, 21, 22, 23] fun c st' hr => ?_
   simp only [go_sem] at hr
   obtain ⟨rfl, rfl⟩ := hr
   refine ⟨vc, ?_⟩
   refine AWPL_nil ?_
   refine QB_normal ?_
   exact AWPB_wk [0, 1, 2, 3, 4, 5, 6, 7, 9, 8] mkWk ((hAA _ _ _).1 hn10)
  ·skip
   refine AWPL_gR [0, 1, 2, 7, 8, 9, 12, 14, 15, 16, 19, 20, 21, 22, 23] [1, 4, 5] [.ptr 0 0 0] [some (.gen 33 4 [[.bool q0.1.1, .own 2 q0.1.2.length, .bool q0.2.1, .own 3 q0.2.2.length]]), some (.gen 33 4 [[.bool y1.1.1, .own 9 y1.1.2.length, .bool y1.2.1, .own 10 y1.2.2.length]]), some (.ints 186 .u32 q0.1.2), some (.ints 186 .u32 q0.2.2), none, none, some (.pin 0 pl0), some (.pin 1 pl1), some (.gen 31 2 [[.bool false, .nil]]), some (.ints 186 .u32 y1.1.2), some (.ints 186 .u32 y1.2.2)] (r' := .ptr 1 0 2) (W_rotabig_Rat_den_B hy) rfl rfl pcT rfl Try.call66 (of_decide_eq_true rfl) ⟨rfl, rfl, rfl, trivial⟩ rfl (hscG trivial) (of_decide_eq_true rfl) rfl rfl rfl (of_decide_eq_true rfl) rfl fun st' hr => ?_
   simp only [go_sem] at hr
   subst hr
   refine AWPL_nil ?_
   refine QB_normal ?_
   exact AWPB_wk [0, 1, 2, 3, 4, 5, 6, 7, 8, 9, 10] mkWk ((hAA _ _ _).1 hn21)
  ·skip
   refine AWPL_rn tab_ok 1 [0, 1, 2, 7, 8, 9, 12, 13, 14, 15, 16, 19, 20, 21, 22, 23] fun c st' hr => ?_
   simp only [go_sem] at hr
   obtain ⟨rfl, rfl⟩ := hr
   refine ⟨vc, ?_⟩
   refine AWPL_nil ?_
   refine QB_normal ?_
   exact AWPB_wk [0, 1, 2, 3, 4, 5, 6, 7, 8, 9] mkWk ((hAA _ _ _).1 hn22))

theorem ceg_rotabig_Rat_Add_B_1_49 : (Region.ready .any reg_rotabig_Rat_Add_B_1.toArray #[false, false, true, true, true, true, true, false, true, true, true, true, true, false, false, false, false] == [0, 1]) = true := by kernel_rfl

theorem J_rotabig_Rat_Add_B_1_hn24 {q0 : (Bool × List Int) × (Bool × List Int)} {q1 : (Bool × List Int) × (Bool × List Int)} {y1 : (Bool × List Int) × (Bool × List Int)} {y2 : Bool × List Int} {y3 : (Bool × List Int) × (Bool × List Int)} {y4 : Bool × List Int} {y5 : Bool × List Int} {pl0 : AX.Loc} {pl1 : AX.Loc} (hy : rotabig_Rat_den_B ((q1.1.1, q1.1.2), (q1.2.1, q1.2.2)) = some y1) (hy1 : rotabig_Int_Mul_r q0.1.1 q0.1.2 y1.2.1 y1.2.2 (false, []) = some y2) (hy2 : rotabig_Rat_den_B ((q0.1.1, q0.1.2), (q0.2.1, q0.2.2)) = some y3) (hy3 : rotabig_Int_Mul_r y1.1.1 y1.1.2 y3.2.1 y3.2.2 (false, []) = some y4) (hy4 : rotabig_Int_Add_r y2.1 y2.2 y4.1 y4.2 (false, []) = some y5) {w0 : World} {Q : Exit → St → Prop} {AA : Nat → Array Bool → St → Prop} (hAA : ∀ g L st, AA g L st ↔ AWPB Try.prog w0 reg_rotabig_Rat_Add_B_1.toArray Q g L st) (hn11 : AA 6 #[true, false, true, true, true, true, true, false, true, true, true, true, true, false, false, false, false] ⟨33, [(0, .ptr 0 0 0), (1, .ptr 0 0 0), (2, .ptr 1 0 0), (8, .ptr 8 0 0), (12, .ptr 0 0 0), (14, .ptr 1 0 2), (16, .ptr 11 0 0), (19, .ptr 1 0 0), (20, .ptr 0 0 0)], [some (.gen 33 4 [[.bool q0.1.1, .own 2 q0.1.2.length, .bool q0.2.1, .own 3 q0.2.2.length]]), some (.gen 33 4 [[.bool y1.1.1, .own 9 y1.1.2.length, .bool y1.2.1, .own 10 y1.2.2.length]]), some (.ints 186 .u32 q0.1.2), some (.ints 186 .u32 q0.2.2), none, none, some (.pin 0 pl0), some (.pin 1 pl1), some (.gen 31 2 [[.bool false, .nil]]), some (.ints 186 .u32 y1.1.2), some (.ints 186 .u32 y1.2.2), some (.gen 31 2 [[.bool false, .nil]])]⟩) (hn20 : AA 6 #[false, true, true, true, true, true, true, false, true, true, true, true, true, false, false, false, false] ⟨33, [(0, .ptr 0 0 0), (1, .ptr 0 0 0), (2, .ptr 1 0 0), (9, .ptr 8 0 0), (12, .ptr 0 0 0), (14, .ptr 1 0 2), (16, .ptr 11 0 0), (19, .ptr 1 0 0), (20, .ptr 0 0 0)], [some (.gen 33 4 [[.bool q0.1.1, .own 2 q0.1.2.length, .bool q0.2.1, .own 3 q0.2.2.length]]), some (.gen 33 4 [[.bool y1.1.1, .own 9 y1.1.2.length, .bool y1.2.1, .own 10 y1.2.2.length]]), some (.ints 186 .u32 q0.1.2), some (.ints 186 .u32 q0.2.2), none, none, some (.pin 0 pl0), some (.pin 1 pl1), some (.gen 31 2 [[.bool false, .nil]]), some (.ints 186 .u32 y1.1.2), some (.ints 186 .u32 y1.2.2), some (.gen 31 2 [[.bool false, .nil]])]⟩) : AA 7 #[false, false, true, true, true, true, true, false, true, true, true, true, true, false, false, false, false] ⟨33, [(0, .ptr 0 0 0), (1, .ptr 0 0 0), (2, .ptr 1 0 0), (12, .ptr 0 0 0), (14, .ptr 1 0 2), (16, .ptr 10 0 0), (19, .ptr 1 0 0), (20, .ptr 0 0 0)], [some (.gen 33 4 [[.bool q0.1.1, .own 2 q0.1.2.length, .bool q0.2.1, .own 3 q0.2.2.length]]), some (.gen 33 4 [[.bool y1.1.1, .own 8 y1.1.2.length, .bool y1.2.1, .own 9 y1.2.2.length]]), some (.ints 186 .u32 q0.1.2), some (.ints 186 .u32 q0.2.2), none, none, some (.pin 0 pl0), some (.pin 1 pl1), some (.ints 186 .u32 y1.1.2), some (.ints 186 .u32 y1.2.2), some (.gen 31 2 [[.bool false, .nil]])]⟩ := (hAA _ _ _).2 (by
  refine AWPB_two 0 1 _ _ ceg_rotabig_Rat_Add_B_1_49 rfl rfl ?_ ?_
  ·skip
   refine AWPL_rn tab_ok 1 [0, 1, 2, 7, 8, 9, 12, 14, 15, 16, 19, 20, 21, 22, 23] fun c st' hr => ?_
   simp only [go_sem] at hr
   obtain ⟨rfl, rfl⟩ := hr
   refine ⟨vc, ?_⟩
   refine AWPL_nil ?_
   refine QB_normal ?_
   exact AWPB_wk [0, 1, 2, 3, 4, 5, 6, 7, 11, 8, 9, 10] mkWk ((hAA _ _ _).1 hn11)
  ·skip
   refine AWPL_rn tab_ok 1 [0, 1, 2, 7, 8, 9, 12, 14, 15, 16, 19, 20, 21, 22, 23] fun c st' hr => ?_
   simp only [go_sem] at hr
   obtain ⟨rfl, rfl⟩ := hr
   refine ⟨vc, ?_⟩
   refine AWPL_nil ?_
   refine QB_normal ?_
   exact AWPB_wk [0, 1, 2, 3, 4, 5, 6, 7, 11, 8, 9, 10] mkWk ((hAA _ _ _).1 hn20))

theorem ceg_rotabig_Rat_Add_B_1_51 : (Region.ready .any reg_rotabig_Rat_Add_B_1.toArray #[false, false, true, true, true, true, true, false, false, true, true, true, true, false, false, false, false] == [0, 1, 8]) = true := by kernel_rfl

theorem J_rotabig_Rat_Add_B_1_hn25 {q0 : (Bool × List Int) × (Bool × List Int)} {q1 : (Bool × List Int) × (Bool × List Int)} {y1 : (Bool × List Int) × (Bool × List Int)} {y2 : Bool × List Int} {y3 : (Bool × List Int) × (Bool × List Int)} {y4 : Bool × List Int} {y5 : Bool × List Int} {pl0 : AX.Loc} {pl1 : AX.Loc} (hy : rotabig_Rat_den_B ((q1.1.1, q1.1.2), (q1.2.1, q1.2.2)) = some y1) (hy1 : rotabig_Int_Mul_r q0.1.1 q0.1.2 y1.2.1 y1.2.2 (false, []) = some y2) (hy2 : rotabig_Rat_den_B ((q0.1.1, q0.1.2), (q0.2.1, q0.2.2)) = some y3) (hy3 : rotabig_Int_Mul_r y1.1.1 y1.1.2 y3.2.1 y3.2.2 (false, []) = some y4) (hy4 : rotabig_Int_Add_r y2.1 y2.2 y4.1 y4.2 (false, []) = some y5) {w0 : World} {Q : Exit → St → Prop} {AA : Nat → Array Bool → St → Prop} (hAA : ∀ g L st, AA g L st ↔ AWPB Try.prog w0 reg_rotabig_Rat_Add_B_1.toArray Q g L st) (hn12 : AA 7 #[true, false, true, true, true, true, true, false, false, true, true, true, true, false, false, false, false] ⟨33, [(0, .ptr 0 0 0), (1, .ptr 0 0 0), (2, .ptr 1 0 0), (8, .ptr 8 0 0), (12, .ptr 0 0 0), (14, .ptr 1 0 2), (19, .ptr 1 0 0), (20, .ptr 0 0 0)], [some (.gen 33 4 [[.bool q0.1.1, .own 2 q0.1.2.length, .bool q0.2.1, .own 3 q0.2.2.length]]), some (.gen 33 4 [[.bool y1.1.1, .own 9 y1.1.2.length, .bool y1.2.1, .own 10 y1.2.2.length]]), some (.ints 186 .u32 q0.1.2), some (.ints 186 .u32 q0.2.2), none, none, some (.pin 0 pl0), some (.pin 1 pl1), some (.gen 31 2 [[.bool false, .nil]]), some (.ints 186 .u32 y1.1.2), some (.ints 186 .u32 y1.2.2)]⟩) (hn21 : AA 7 #[false, true, true, true, true, true, true, false, false, true, true, true, true, false, false, false, false] ⟨33, [(0, .ptr 0 0 0), (1, .ptr 0 0 0), (2, .ptr 1 0 0), (9, .ptr 8 0 0), (12, .ptr 0 0 0), (14, .ptr 1 0 2), (19, .ptr 1 0 0), (20, .ptr 0 0 0)], [some (.gen 33 4 [[.bool q0.1.1, .own 2 q0.1.2.length, .bool q0.2.1, .own 3 q0.2.2.length]]), some (.gen 33 4 [[.bool y1.1.1, .own 9 y1.1.2.length, .bool y1.2.1, .own 10 y1.2.2.length]]), some (.ints 186 .u32 q0.1.2), some (.ints 186 .u32 q0.2.2), none, none, some (.pin 0 pl0), some (.pin 1 pl1), some (.gen 31 2 [[.bool false, .nil]]), some (.ints 186 .u32 y1.1.2), some (.ints 186 .u32 y1.2.2)]⟩) (hn24 : AA 7 #[false, false, true, true, true, true, true, false, true, true, true, true, true, false, false, false, false] ⟨33, [(0, .ptr 0 0 0), (1, .ptr 0 0 0), (2, .ptr 1 0 0), (12, .ptr 0 0 0), (14, .ptr 1 0 2), (16, .ptr 10 0 0), (19, .ptr 1 0 0), (20, .ptr 0 0 0)], [some (.gen 33 4 [[.bool q0.1.1, .own 2 q0.1.2.length, .bool q0.2.1, .own 3 q0.2.2.length]]), some (.gen 33 4 [[.bool y1.1.1, .own 8 y1.1.2.length, .bool y1.2.1, .own 9 y1.2.2.length]]), some (.ints 186 .u32 q0.1.2), some (.ints 186 .u32 q0.2.2), none, none, some (.pin 0 pl0), some (.pin 1 pl1), some (.ints 186 .u32 y1.1.2), some (.ints 186 .u32 y1.2.2), some (.gen 31 2 [[.bool false, .nil]])]⟩) : AA 8 #[false, false, true, true, true, true, true, false, false, true, true, true, true, false, false, false, false] ⟨33, [(0, .ptr 0 0 0), (1, .ptr 0 0 0), (2, .ptr 1 0 0), (12, .ptr 0 0 0), (14, .ptr 1 0 2), (19, .ptr 1 0 0), (20, .ptr 0 0 0)], [some (.gen 33 4 [[.bool q0.1.1, .own 2 q0.1.2.length, .bool q0.2.1, .own 3 q0.2.2.length]]), some (.gen 33 4 [[.bool y1.1.1, .own 8 y1.1.2.length, .bool y1.2.1, .own 9 y1.2.2.length]]), some (.ints 186 .u32 q0.1.2), some (.ints 186 .u32 q0.2.2), none, none, some (.pin 0 pl0), some (.pin 1 pl1), some (.ints 186 .u32 y1.1.2), some (.ints 186 .u32 y1.2.2)]⟩ := (hAA _ _ _).2 (by
  refine AWPB_three 0 1 8 _ _ _ ceg_rotabig_Rat_Add_B_1_51 rfl rfl rfl ?_ ?_ ?_
  ·skip
   refine AWPL_rn tab_ok 1 [0, 1, 2, 7, 8, 9, 12, 14, 15, 16, 19, 20, 21, 22, 23] fun c st' hr => ?_
   simp only [go_sem] at hr
   obtain ⟨rfl, rfl⟩ := hr
   refine ⟨vc, ?_⟩
   refine AWPL_nil ?_
   refine QB_normal ?_
   exact AWPB_wk [0, 1, 2, 3, 4, 5, 6, 7, 10, 8, 9] mkWk ((hAA _ _ _).1 hn12)
  ·skip
   refine AWPL_rn tab_ok 1 [0, 1, 2, 7, 8, 9, 12, 14, 15, 16, 19, 20, 21, 22, 23] fun c st' hr => ?_
   simp only [go_sem] at hr
   obtain ⟨rfl, rfl⟩ := hr
   refine ⟨vc, ?_⟩
   refine AWPL_nil ?_
   refine QB_normal ?_
   exact AWPB_wk [0, 1, 2, 3, 4, 5, 6, 7, 10, 8, 9] mkWk ((hAA _ _ _).1 hn21)
  ·skip
   refine AWPL_rn tab_ok 1 [0, 1, 2, 7, 8, 9, 12, 14, 15, 16, 19, 20, 21, 22, 23] fun c st' hr => ?_
   simp only [go_sem] at hr
   obtain ⟨rfl, rfl⟩ := hr
   refine ⟨vc, ?_⟩
   refine AWPL_nil ?_
   refine QB_normal ?_
   exact AWPB_wk [0, 1, 2, 3, 4, 5, 6, 7, 8, 9, 10] mkWk ((hAA _ _ _).1 hn24))

theorem ceg_rotabig_Rat_Add_B_1_53 : (Region.ready .any reg_rotabig_Rat_Add_B_1.toArray #[false, false, true, true, true, true, false, false, true, true, true, true, true, false, false, false, false] == [0, 1, 6]) = true := by kernel_rfl

theorem J_rotabig_Rat_Add_B_1_hn26 {q0 : (Bool × List Int) × (Bool × List Int)} {q1 : (Bool × List Int) × (Bool × List Int)} {y1 : (Bool × List Int) × (Bool × List Int)} {y2 : Bool × List Int} {y3 : (Bool × List Int) × (Bool × List Int)} {y4 : Bool × List Int} {y5 : Bool × List Int} {pl0 : AX.Loc} {pl1 : AX.Loc} (hy : rotabig_Rat_den_B ((q1.1.1, q1.1.2), (q1.2.1, q1.2.2)) = some y1) (hy1 : rotabig_Int_Mul_r q0.1.1 q0.1.2 y1.2.1 y1.2.2 (false, []) = some y2) (hy2 : rotabig_Rat_den_B ((q0.1.1, q0.1.2), (q0.2.1, q0.2.2)) = some y3) (hy3 : rotabig_Int_Mul_r y1.1.1 y1.1.2 y3.2.1 y3.2.2 (false, []) = some y4) (hy4 : rotabig_Int_Add_r y2.1 y2.2 y4.1 y4.2 (false, []) = some y5) {w0 : World} {Q : Exit → St → Prop} {AA : Nat → Array Bool → St → Prop} (hAA : ∀ g L st, AA g L st ↔ AWPB Try.prog w0 reg_rotabig_Rat_Add_B_1.toArray Q g L st) (hn13 : AA 7 #[true, false, true, true, true, true, false, false, true, true, true, true, true, false, false, false, false] ⟨33, [(0, .ptr 0 0 0), (1, .ptr 0 0 0), (2, .ptr 1 0 0), (8, .ptr 8 0 0), (12, .ptr 0 0 0), (13, .ptr 1 0 0), (16, .ptr 9 0 0), (19, .ptr 1 0 0), (20, .ptr 0 0 0)], [some (.gen 33 4 [[.bool q0.1.1, .own 2 q0.1.2.length, .bool q0.2.1, .own 3 q0.2.2.length]]), some (.gen 33 4 [[.bool q1.1.1, .own 4 q1.1.2.length, .bool q1.2.1, .own 5 q1.2.2.length]]), some (.ints 186 .u32 q0.1.2), some (.ints 186 .u32 q0.2.2), some (.ints 186 .u32 q1.1.2), some (.ints 186 .u32 q1.2.2), some (.pin 0 pl0), some (.pin 1 pl1), some (.gen 31 2 [[.bool false, .nil]]), some (.gen 31 2 [[.bool false, .nil]])]⟩) (hn22 : AA 7 #[false, true, true, true, true, true, false, false, true, true, true, true, true, false, false, false, false] ⟨33, [(0, .ptr 0 0 0), (1, .ptr 0 0 0), (2, .ptr 1 0 0), (9, .ptr 8 0 0), (12, .ptr 0 0 0), (13, .ptr 1 0 0), (16, .ptr 9 0 0), (19, .ptr 1 0 0), (20, .ptr 0 0 0)], [some (.gen 33 4 [[.bool q0.1.1, .own 2 q0.1.2.length, .bool q0.2.1, .own 3 q0.2.2.length]]), some (.gen 33 4 [[.bool q1.1.1, .own 4 q1.1.2.length, .bool q1.2.1, .own 5 q1.2.2.length]]), some (.ints 186 .u32 q0.1.2), some (.ints 186 .u32 q0.2.2), some (.ints 186 .u32 q1.1.2), some (.ints 186 .u32 q1.2.2), some (.pin 0 pl0), some (.pin 1 pl1), some (.gen 31 2 [[.bool false, .nil]]), some (.gen 31 2 [[.bool false, .nil]])]⟩) (hn24 : AA 7 #[false, false, true, true, true, true, true, false, true, true, true, true, true, false, false, false, false] ⟨33, [(0, .ptr 0 0 0), (1, .ptr 0 0 0), (2, .ptr 1 0 0), (12, .ptr 0 0 0), (14, .ptr 1 0 2), (16, .ptr 10 0 0), (19, .ptr 1 0 0), (20, .ptr 0 0 0)], [some (.gen 33 4 [[.bool q0.1.1, .own 2 q0.1.2.length, .bool q0.2.1, .own 3 q0.2.2.length]]), some (.gen 33 4 [[.bool y1.1.1, .own 8 y1.1.2.length, .bool y1.2.1, .own 9 y1.2.2.length]]), some (.ints 186 .u32 q0.1.2), some (.ints 186 .u32 q0.2.2), none, none, some (.pin 0 pl0), some (.pin 1 pl1), some (.ints 186 .u32 y1.1.2), some (.ints 186 .u32 y1.2.2), some (.gen 31 2 [[.bool false, .nil]])]⟩) : AA 8 #[false, false, true, true, true, true, false, false, true, true, true, true, true, false, false, false, false] ⟨33, [(0, .ptr 0 0 0), (1, .ptr 0 0 0), (2, .ptr 1 0 0), (12, .ptr 0 0 0), (13, .ptr 1 0 0), (16, .ptr 8 0 0), (19, .ptr 1 0 0), (20, .ptr 0 0 0)], [some (.gen 33 4 [[.bool q0.1.1, .own 2 q0.1.2.length, .bool q0.2.1, .own 3 q0.2.2.length]]), some (.gen 33 4 [[.bool q1.1.1, .own 4 q1.1.2.length, .bool q1.2.1, .own 5 q1.2.2.length]]), some (.ints 186 .u32 q0.1.2), some (.ints 186 .u32 q0.2.2), some (.ints 186 .u32 q1.1.2), some (.ints 186 .u32 q1.2.2), some (.pin 0 pl0), some (.pin 1 pl1), some (.gen 31 2 [[.bool false, .nil]])]⟩ := (hAA _ _ _).2 (by
  refine AWPB_three 0 1 6 _ _ _ ceg_rotabig_Rat_Add_B_1_53 rfl rfl rfl ?_ ?_ ?_
  ·skip
   refine AWPL_rn tab_ok 1 [0, 1, 2, 7, 8, 9, 12, 13, 14, 15, 16, 19, 20, 21, 22, 23] fun c st' hr => ?_
   simp only [go_sem] at hr
   obtain ⟨rfl, rfl⟩ := hr
   refine ⟨vc, ?_⟩
   refine AWPL_nil ?_
   refine QB_normal ?_
   exact AWPB_wk [0, 1, 2, 3, 4, 5, 6, 7, 9, 8] mkWk ((hAA _ _ _).1 hn13)
  ·skip
   refine AWPL_rn tab_ok 1 [0, 1, 2, 7, 8, 9, 12, 13, 14, 15, 16, 19, 20, 21, 22, 23] fun c st' hr => ?_
   simp only [go_sem] at hr
   obtain ⟨rfl, rfl⟩ := hr
   refine ⟨vc, ?_⟩
   refine AWPL_nil ?_
   refine QB_normal ?_
   exact AWPB_wk [0, 1, 2, 3, 4, 5, 6, 7, 9, 8] mkWk ((hAA _ _ _).1 hn22)
  ·skip
   refine AWPL_gR [0, 1, 2, 7, 8, 9, 12, 14, 15, 16, 19, 20, 21, 22, 23] [1, 4, 5] [.ptr 0 0 0] [some (.gen 33 4 [[.bool q0.1.1, .own 2 q0.1.2.length, .bool q0.2.1, .own 3 q0.2.2.length]]), some (.gen 33 4 [[.bool y1.1.1, .own 9 y1.1.2.length, .bool y1.2.1, .own 10 y1.2.2.length]]), some (.ints 186 .u32 q0.1.2), some (.ints 186 .u32 q0.2.2), none, none, some (.pin 0 pl0), some (.pin 1 pl1), some (.gen 31 2 [[.bool false, .nil]]), some (.ints 186 .u32 y1.1.2), some (.ints 186 .u32 y1.2.2)] (r' := .ptr 1 0 2) (W_rotabig_Rat_den_B hy) rfl rfl pcT rfl Try.call66 (of_decide_eq_true rfl) ⟨rfl, rfl, rfl, trivial⟩ rfl (hscG trivial) (of_decide_eq_true rfl) rfl rfl rfl (of_decide_eq_true rfl) rfl fun st' hr => ?_
   simp only [go_sem] at hr
   subst hr
   refine AWPL_nil ?_
   refine QB_normal ?_
   exact AWPB_wk [0, 1, 2, 3, 4, 5, 6, 7, 9, 10, 8] mkWk ((hAA _ _ _).1 hn24))

theorem ceg_rotabig_Rat_Add_B_1_55 : (Region.ready .any reg_rotabig_Rat_Add_B_1.toArray #[false, false, true, true, true, true, false, false, false, true, true, true, true, false, false, false, false] == [0, 1, 6, 8]) = true := by kernel_rfl

theorem J_rotabig_Rat_Add_B_1_hn27 {q0 : (Bool × List Int) × (Bool × List Int)} {q1 : (Bool × List Int) × (Bool × List Int)} {y1 : (Bool × List Int) × (Bool × List Int)} {y2 : Bool × List Int} {y3 : (Bool × List Int) × (Bool × List Int)} {y4 : Bool × List Int} {y5 : Bool × List Int} {pl0 : AX.Loc} {pl1 : AX.Loc} (hy : rotabig_Rat_den_B ((q1.1.1, q1.1.2), (q1.2.1, q1.2.2)) = some y1) (hy1 : rotabig_Int_Mul_r q0.1.1 q0.1.2 y1.2.1 y1.2.2 (false, []) = some y2) (hy2 : rotabig_Rat_den_B ((q0.1.1, q0.1.2), (q0.2.1, q0.2.2)) = some y3) (hy3 : rotabig_Int_Mul_r y1.1.1 y1.1.2 y3.2.1 y3.2.2 (false, []) = some y4) (hy4 : rotabig_Int_Add_r y2.1 y2.2 y4.1 y4.2 (false, []) = some y5) {w0 : World} {Q : Exit → St → Prop} {AA : Nat → Array Bool → St → Prop} (hAA : ∀ g L st, AA g L st ↔ AWPB Try.prog w0 reg_rotabig_Rat_Add_B_1.toArray Q g L st) (hn14 : AA 8 #[true, false, true, true, true, true, false, false, false, true, true, true, true, false, false, false, false] ⟨33, [(0, .ptr 0 0 0), (1, .ptr 0 0 0), (2, .ptr 1 0 0), (8, .ptr 8 0 0), (12, .ptr 0 0 0), (13, .ptr 1 0 0), (19, .ptr 1 0 0), (20, .ptr 0 0 0)], [some (.gen 33 4 [[.bool q0.1.1, .own 2 q0.1.2.length, .bool q0.2.1, .own 3 q0.2.2.length]]), some (.gen 33 4 [[.bool q1.1.1, .own 4 q1.1.2.length, .bool q1.2.1, .own 5 q1.2.2.length]]), some (.ints 186 .u32 q0.1.2), some (.ints 186 .u32 q0.2.2), some (.ints 186 .u32 q1.1.2), some (.ints 186 .u32 q1.2.2), some (.pin 0 pl0), some (.pin 1 pl1), some (.gen 31 2 [[.bool false, .nil]])]⟩) (hn23 : AA 8 #[false, true, true, true, true, true, false, false, false, true, true, true, true, false, false, false, false] ⟨33, [(0, .ptr 0 0 0), (1, .ptr 0 0 0), (2, .ptr 1 0 0), (9, .ptr 8 0 0), (12, .ptr 0 0 0), (13, .ptr 1 0 0), (19, .ptr 1 0 0), (20, .ptr 0 0 0)], [some (.gen 33 4 [[.bool q0.1.1, .own 2 q0.1.2.length, .bool q0.2.1, .own 3 q0.2.2.length]]), some (.gen 33 4 [[.bool q1.1.1, .own 4 q1.1.2.length, .bool q1.2.1, .own 5 q1.2.2.length]]), some (.ints 186 .u32 q0.1.2), some (.ints 186 .u32 q0.2.2), some (.ints 186 .u32 q1.1.2), some (.ints 186 .u32 q1.2.2), some (.pin 0 pl0), some (.pin 1 pl1), some (.gen 31 2 [[.bool false, .nil]])]⟩) (hn25 : AA 8 #[false, false, true, true, true, true, true, false, false, true, true, true, true, false, false, false, false] ⟨33, [(0, .ptr 0 0 0), (1, .ptr 0 0 0), (2, .ptr 1 0 0), (12, .ptr 0 0 0), (14, .ptr 1 0 2), (19, .ptr 1 0 0), (20, .ptr 0 0 0)], [some (.gen 33 4 [[.bool q0.1.1, .own 2 q0.1.2.length, .bool q0.2.1, .own 3 q0.2.2.length]]), some (.gen 33 4 [[.bool y1.1.1, .own 8 y1.1.2.length, .bool y1.2.1, .own 9 y1.2.2.length]]), some (.ints 186 .u32 q0.1.2), some (.ints 186 .u32 q0.2.2), none, none, some (.pin 0 pl0), some (.pin 1 pl1), some (.ints 186 .u32 y1.1.2), some (.ints 186 .u32 y1.2.2)]⟩) (hn26 : AA 8 #[false, false, true, true, true, true, false, false, true, true, true, true, true, false, false, false, false] ⟨33, [(0, .ptr 0 0 0), (1, .ptr 0 0 0), (2, .ptr 1 0 0), (12, .ptr 0 0 0), (13, .ptr 1 0 0), (16, .ptr 8 0 0), (19, .ptr 1 0 0), (20, .ptr 0 0 0)], [some (.gen 33 4 [[.bool q0.1.1, .own 2 q0.1.2.length, .bool q0.2.1, .own 3 q0.2.2.length]]), some (.gen 33 4 [[.bool q1.1.1, .own 4 q1.1.2.length, .bool q1.2.1, .own 5 q1.2.2.length]]), some (.ints 186 .u32 q0.1.2), some (.ints 186 .u32 q0.2.2), some (.ints 186 .u32 q1.1.2), some (.ints 186 .u32 q1.2.2), some (.pin 0 pl0), some (.pin 1 pl1), some (.gen 31 2 [[.bool false, .nil]])]⟩) : AA 9 #[false, false, true, true, true, true, false, false, false, true, true, true, true, false, false, false, false] ⟨33, [(0, .ptr 0 0 0), (1, .ptr 0 0 0), (2, .ptr 1 0 0), (12, .ptr 0 0 0), (13, .ptr 1 0 0), (19, .ptr 1 0 0), (20, .ptr 0 0 0)], [some (.gen 33 4 [[.bool q0.1.1, .own 2 q0.1.2.length, .bool q0.2.1, .own 3 q0.2.2.length]]), some (.gen 33 4 [[.bool q1.1.1, .own 4 q1.1.2.length, .bool q1.2.1, .own 5 q1.2.2.length]]), some (.ints 186 .u32 q0.1.2), some (.ints 186 .u32 q0.2.2), some (.ints 186 .u32 q1.1.2), some (.ints 186 .u32 q1.2.2), some (.pin 0 pl0), some (.pin 1 pl1)]⟩ := (hAA _ _ _).2 (by
  refine AWPB_four 0 1 6 8 _ _ _ _ ceg_rotabig_Rat_Add_B_1_55 rfl rfl rfl rfl ?_ ?_ ?_ ?_
  ·skip
   refine AWPL_rn tab_ok 1 [0, 1, 2, 7, 8, 9, 12, 13, 14, 15, 16, 19, 20, 21, 22, 23] fun c st' hr => ?_
   simp only [go_sem] at hr
   obtain ⟨rfl, rfl⟩ := hr
   refine ⟨vc, ?_⟩
   refine AWPL_nil ?_
   refine QB_normal ?_
   exact AWPB_wk [0, 1, 2, 3, 4, 5, 6, 7, 8] mkWk ((hAA _ _ _).1 hn14)
  ·skip
   refine AWPL_rn tab_ok 1 [0, 1, 2, 7, 8, 9, 12, 13, 14, 15, 16, 19, 20, 21, 22, 23] fun c st' hr => ?_
   simp only [go_sem] at hr
   obtain ⟨rfl, rfl⟩ := hr
   refine ⟨vc, ?_⟩
   refine AWPL_nil ?_
   refine QB_normal ?_
   exact AWPB_wk [0, 1, 2, 3, 4, 5, 6, 7, 8] mkWk ((hAA _ _ _).1 hn23)
  ·skip
   refine AWPL_gR [0, 1, 2, 7, 8, 9, 12, 14, 15, 16, 19, 20, 21, 22, 23] [1, 4, 5] [.ptr 0 0 0] [some (.gen 33 4 [[.bool q0.1.1, .own 2 q0.1.2.length, .bool q0.2.1, .own 3 q0.2.2.length]]), some (.gen 33 4 [[.bool y1.1.1, .own 8 y1.1.2.length, .bool y1.2.1, .own 9 y1.2.2.length]]), some (.ints 186 .u32 q0.1.2), some (.ints 186 .u32 q0.2.2), none, none, some (.pin 0 pl0), some (.pin 1 pl1), some (.ints 186 .u32 y1.1.2), some (.ints 186 .u32 y1.2.2)] (r' := .ptr 1 0 2) (W_rotabig_Rat_den_B hy) rfl rfl pcT rfl Try.call66 (of_decide_eq_true rfl) ⟨rfl, rfl, rfl, trivial⟩ rfl (hscG trivial) (of_decide_eq_true rfl) rfl rfl rfl (of_decide_eq_true rfl) rfl fun st' hr => ?_
   simp only [go_sem] at hr
   subst hr
   refine AWPL_nil ?_
   refine QB_normal ?_
   exact AWPB_wk [0, 1, 2, 3, 4, 5, 6, 7, 8, 9] mkWk ((hAA _ _ _).1 hn25)
  ·skip
   refine AWPL_rn tab_ok 1 [0, 1, 2, 7, 8, 9, 12, 13, 14, 15, 16, 19, 20, 21, 22, 23] fun c st' hr => ?_
   simp only [go_sem] at hr
   obtain ⟨rfl, rfl⟩ := hr
   refine ⟨vc, ?_⟩
   refine AWPL_nil ?_
   refine QB_normal ?_
   exact AWPB_wk [0, 1, 2, 3, 4, 5, 6, 7, 8] mkWk ((hAA _ _ _).1 hn26))

theorem ceg_rotabig_Rat_Add_B_1_57 : (Region.noSelect reg_rotabig_Rat_Add_B_1.toArray && Region.free .any reg_rotabig_Rat_Add_B_1.toArray #[false, false, true, true, true, true, false, false, false, true, true, true, false, false, false, false, false] 12 && (Region.ready .any reg_rotabig_Rat_Add_B_1.toArray #[false, false, true, true, true, true, false, false, false, true, true, true, false, false, false, false, false]).contains 12) = true := by kernel_rfl

theorem J_rotabig_Rat_Add_B_1_hn28 {q0 : (Bool × List Int) × (Bool × List Int)} {q1 : (Bool × List Int) × (Bool × List Int)} {y1 : (Bool × List Int) × (Bool × List Int)} {y2 : Bool × List Int} {y3 : (Bool × List Int) × (Bool × List Int)} {y4 : Bool × List Int} {y5 : Bool × List Int} {pl0 : AX.Loc} {pl1 : AX.Loc} (hy : rotabig_Rat_den_B ((q1.1.1, q1.1.2), (q1.2.1, q1.2.2)) = some y1) (hy1 : rotabig_Int_Mul_r q0.1.1 q0.1.2 y1.2.1 y1.2.2 (false, []) = some y2) (hy2 : rotabig_Rat_den_B ((q0.1.1, q0.1.2), (q0.2.1, q0.2.2)) = some y3) (hy3 : rotabig_Int_Mul_r y1.1.1 y1.1.2 y3.2.1 y3.2.2 (false, []) = some y4) (hy4 : rotabig_Int_Add_r y2.1 y2.2 y4.1 y4.2 (false, []) = some y5) {w0 : World} {Q : Exit → St → Prop} {AA : Nat → Array Bool → St → Prop} (hAA : ∀ g L st, AA g L st ↔ AWPB Try.prog w0 reg_rotabig_Rat_Add_B_1.toArray Q g L st) (hn27 : AA 9 #[false, false, true, true, true, true, false, false, false, true, true, true, true, false, false, false, false] ⟨33, [(0, .ptr 0 0 0), (1, .ptr 0 0 0), (2, .ptr 1 0 0), (12, .ptr 0 0 0), (13, .ptr 1 0 0), (19, .ptr 1 0 0), (20, .ptr 0 0 0)], [some (.gen 33 4 [[.bool q0.1.1, .own 2 q0.1.2.length, .bool q0.2.1, .own 3 q0.2.2.length]]), some (.gen 33 4 [[.bool q1.1.1, .own 4 q1.1.2.length, .bool q1.2.1, .own 5 q1.2.2.length]]), some (.ints 186 .u32 q0.1.2), some (.ints 186 .u32 q0.2.2), some (.ints 186 .u32 q1.1.2), some (.ints 186 .u32 q1.2.2), some (.pin 0 pl0), some (.pin 1 pl1)]⟩) : AA 10 #[false, false, true, true, true, true, false, false, false, true, true, true, false, false, false, false, false] ⟨33, [(0, .ptr 0 0 0), (1, .ptr 0 0 0), (2, .ptr 1 0 0), (12, .ptr 0 0 0), (13, .ptr 1 0 0), (19, .ptr 1 0 0)], [some (.gen 33 4 [[.bool q0.1.1, .own 2 q0.1.2.length, .bool q0.2.1, .own 3 q0.2.2.length]]), some (.gen 33 4 [[.bool q1.1.1, .own 4 q1.1.2.length, .bool q1.2.1, .own 5 q1.2.2.length]]), some (.ints 186 .u32 q0.1.2), some (.ints 186 .u32 q0.2.2), some (.ints 186 .u32 q1.1.2), some (.ints 186 .u32 q1.2.2), some (.pin 0 pl0), some (.pin 1 pl1)]⟩ := (hAA _ _ _).2 (by
  refine AWPB_take2 tab_ok [0, 1, 2, 7, 8, 9, 12, 13, 14, 15, 16, 19, 20, 21, 22, 23] 12 _ rfl rfl rfl ceg_rotabig_Rat_Add_B_1_57 fun c st' hr => ?_
  simp only [go_sem] at hr
  obtain ⟨rfl, rfl⟩ := hr
  refine ⟨vc, ?_⟩
  exact AWPB_wk [0, 1, 2, 3, 4, 5, 6, 7] mkWk ((hAA _ _ _).1 hn27))

theorem ceg_rotabig_Rat_Add_B_1_59 : (Region.noSelect reg_rotabig_Rat_Add_B_1.toArray && Region.free .any reg_rotabig_Rat_Add_B_1.toArray #[false, false, true, true, true, true, false, false, false, true, true, false, false, false, false, false, false] 11 && (Region.ready .any reg_rotabig_Rat_Add_B_1.toArray #[false, false, true, true, true, true, false, false, false, true, true, false, false, false, false, false, false]).contains 11) = true := by kernel_rfl

theorem J_rotabig_Rat_Add_B_1_hn29 {q0 : (Bool × List Int) × (Bool × List Int)} {q1 : (Bool × List Int) × (Bool × List Int)} {y1 : (Bool × List Int) × (Bool × List Int)} {y2 : Bool × List Int} {y3 : (Bool × List Int) × (Bool × List Int)} {y4 : Bool × List Int} {y5 : Bool × List Int} {pl0 : AX.Loc} {pl1 : AX.Loc} (hy : rotabig_Rat_den_B ((q1.1.1, q1.1.2), (q1.2.1, q1.2.2)) = some y1) (hy1 : rotabig_Int_Mul_r q0.1.1 q0.1.2 y1.2.1 y1.2.2 (false, []) = some y2) (hy2 : rotabig_Rat_den_B ((q0.1.1, q0.1.2), (q0.2.1, q0.2.2)) = some y3) (hy3 : rotabig_Int_Mul_r y1.1.1 y1.1.2 y3.2.1 y3.2.2 (false, []) = some y4) (hy4 : rotabig_Int_Add_r y2.1 y2.2 y4.1 y4.2 (false, []) = some y5) {w0 : World} {Q : Exit → St → Prop} {AA : Nat → Array Bool → St → Prop} (hAA : ∀ g L st, AA g L st ↔ AWPB Try.prog w0 reg_rotabig_Rat_Add_B_1.toArray Q g L st) (hn28 : AA 10 #[false, false, true, true, true, true, false, false, false, true, true, true, false, false, false, false, false] ⟨33, [(0, .ptr 0 0 0), (1, .ptr 0 0 0), (2, .ptr 1 0 0), (12, .ptr 0 0 0), (13, .ptr 1 0 0), (19, .ptr 1 0 0)], [some (.gen 33 4 [[.bool q0.1.1, .own 2 q0.1.2.length, .bool q0.2.1, .own 3 q0.2.2.length]]), some (.gen 33 4 [[.bool q1.1.1, .own 4 q1.1.2.length, .bool q1.2.1, .own 5 q1.2.2.length]]), some (.ints 186 .u32 q0.1.2), some (.ints 186 .u32 q0.2.2), some (.ints 186 .u32 q1.1.2), some (.ints 186 .u32 q1.2.2), some (.pin 0 pl0), some (.pin 1 pl1)]⟩) : AA 11 #[false, false, true, true, true, true, false, false, false, true, true, false, false, false, false, false, false] ⟨33, [(0, .ptr 0 0 0), (1, .ptr 0 0 0), (2, .ptr 1 0 0), (12, .ptr 0 0 0), (13, .ptr 1 0 0), (18, .ptr 1 0 0)], [some (.gen 33 4 [[.bool q0.1.1, .own 2 q0.1.2.length, .bool q0.2.1, .own 3 q0.2.2.length]]), some (.gen 33 4 [[.bool q1.1.1, .own 4 q1.1.2.length, .bool q1.2.1, .own 5 q1.2.2.length]]), some (.ints 186 .u32 q0.1.2), some (.ints 186 .u32 q0.2.2), some (.ints 186 .u32 q1.1.2), some (.ints 186 .u32 q1.2.2), some (.pin 0 pl0), some (.pin 1 pl1)]⟩ := (hAA _ _ _).2 (by
  refine AWPB_take2 tab_ok [0, 1, 2, 7, 8, 9, 12, 13, 14, 15, 16, 19, 20, 21, 22, 23] 11 _ rfl rfl rfl ceg_rotabig_Rat_Add_B_1_59 fun c st' hr => ?_
  simp only [go_sem] at hr
  obtain ⟨rfl, rfl⟩ := hr
  refine ⟨vc, ?_⟩
  exact AWPB_wk [0, 1, 2, 3, 4, 5, 6, 7] mkWk ((hAA _ _ _).1 hn28))

theorem ceg_rotabig_Rat_Add_B_1_61 : (Region.noSelect reg_rotabig_Rat_Add_B_1.toArray && Region.free .any reg_rotabig_Rat_Add_B_1.toArray #[false, false, true, true, true, true, false, false, false, true, false, false, false, false, false, false, false] 10 && (Region.ready .any reg_rotabig_Rat_Add_B_1.toArray #[false, false, true, true, true, true, false, false, false, true, false, false, false, false, false, false, false]).contains 10) = true := by kernel_rfl

theorem J_rotabig_Rat_Add_B_1_hn30 {q0 : (Bool × List Int) × (Bool × List Int)} {q1 : (Bool × List Int) × (Bool × List Int)} {y1 : (Bool × List Int) × (Bool × List Int)} {y2 : Bool × List Int} {y3 : (Bool × List Int) × (Bool × List Int)} {y4 : Bool × List Int} {y5 : Bool × List Int} {pl0 : AX.Loc} {pl1 : AX.Loc} (hy : rotabig_Rat_den_B ((q1.1.1, q1.1.2), (q1.2.1, q1.2.2)) = some y1) (hy1 : rotabig_Int_Mul_r q0.1.1 q0.1.2 y1.2.1 y1.2.2 (false, []) = some y2) (hy2 : rotabig_Rat_den_B ((q0.1.1, q0.1.2), (q0.2.1, q0.2.2)) = some y3) (hy3 : rotabig_Int_Mul_r y1.1.1 y1.1.2 y3.2.1 y3.2.2 (false, []) = some y4) (hy4 : rotabig_Int_Add_r y2.1 y2.2 y4.1 y4.2 (false, []) = some y5) {w0 : World} {Q : Exit → St → Prop} {AA : Nat → Array Bool → St → Prop} (hAA : ∀ g L st, AA g L st ↔ AWPB Try.prog w0 reg_rotabig_Rat_Add_B_1.toArray Q g L st) (hn29 : AA 11 #[false, false, true, true, true, true, false, false, false, true, true, false, false, false, false, false, false] ⟨33, [(0, .ptr 0 0 0), (1, .ptr 0 0 0), (2, .ptr 1 0 0), (12, .ptr 0 0 0), (13, .ptr 1 0 0), (18, .ptr 1 0 0)], [some (.gen 33 4 [[.bool q0.1.1, .own 2 q0.1.2.length, .bool q0.2.1, .own 3 q0.2.2.length]]), some (.gen 33 4 [[.bool q1.1.1, .own 4 q1.1.2.length, .bool q1.2.1, .own 5 q1.2.2.length]]), some (.ints 186 .u32 q0.1.2), some (.ints 186 .u32 q0.2.2), some (.ints 186 .u32 q1.1.2), some (.ints 186 .u32 q1.2.2), some (.pin 0 pl0), some (.pin 1 pl1)]⟩) : AA 12 #[false, false, true, true, true, true, false, false, false, true, false, false, false, false, false, false, false] ⟨33, [(0, .ptr 0 0 0), (1, .ptr 0 0 0), (2, .ptr 1 0 0), (12, .ptr 0 0 0), (13, .ptr 1 0 0), (17, .ptr 1 0 0)], [some (.gen 33 4 [[.bool q0.1.1, .own 2 q0.1.2.length, .bool q0.2.1, .own 3 q0.2.2.length]]), some (.gen 33 4 [[.bool q1.1.1, .own 4 q1.1.2.length, .bool q1.2.1, .own 5 q1.2.2.length]]), some (.ints 186 .u32 q0.1.2), some (.ints 186 .u32 q0.2.2), some (.ints 186 .u32 q1.1.2), some (.ints 186 .u32 q1.2.2), some (.pin 0 pl0), some (.pin 1 pl1)]⟩ := (hAA _ _ _).2 (by
  refine AWPB_take2 tab_ok [0, 1, 2, 7, 8, 9, 12, 13, 14, 15, 16, 18, 19, 20, 21, 22, 23] 10 _ rfl rfl rfl ceg_rotabig_Rat_Add_B_1_61 fun c st' hr => ?_
  simp only [go_sem] at hr
  obtain ⟨rfl, rfl⟩ := hr
  refine ⟨vc, ?_⟩
  exact AWPB_wk [0, 1, 2, 3, 4, 5, 6, 7] mkWk ((hAA _ _ _).1 hn29))

theorem ceg_rotabig_Rat_Add_B_1_63 : (Region.noSelect reg_rotabig_Rat_Add_B_1.toArray && Region.free .any reg_rotabig_Rat_Add_B_1.toArray #[false, false, true, true, true, true, false, false, false, false, false, false, false, false, false, false, false] 9 && (Region.ready .any reg_rotabig_Rat_Add_B_1.toArray #[false, false, true, true, true, true, false, false, false, false, false, false, false, false, false, false, false]).contains 9) = true := by kernel_rfl

theorem J_rotabig_Rat_Add_B_1_hn31 {q0 : (Bool × List Int) × (Bool × List Int)} {q1 : (Bool × List Int) × (Bool × List Int)} {y1 : (Bool × List Int) × (Bool × List Int)} {y2 : Bool × List Int} {y3 : (Bool × List Int) × (Bool × List Int)} {y4 : Bool × List Int} {y5 : Bool × List Int} {pl0 : AX.Loc} {pl1 : AX.Loc} (hy : rotabig_Rat_den_B ((q1.1.1, q1.1.2), (q1.2.1, q1.2.2)) = some y1) (hy1 : rotabig_Int_Mul_r q0.1.1 q0.1.2 y1.2.1 y1.2.2 (false, []) = some y2) (hy2 : rotabig_Rat_den_B ((q0.1.1, q0.1.2), (q0.2.1, q0.2.2)) = some y3) (hy3 : rotabig_Int_Mul_r y1.1.1 y1.1.2 y3.2.1 y3.2.2 (false, []) = some y4) (hy4 : rotabig_Int_Add_r y2.1 y2.2 y4.1 y4.2 (false, []) = some y5) {w0 : World} {Q : Exit → St → Prop} {AA : Nat → Array Bool → St → Prop} (hAA : ∀ g L st, AA g L st ↔ AWPB Try.prog w0 reg_rotabig_Rat_Add_B_1.toArray Q g L st) (hn30 : AA 12 #[false, false, true, true, true, true, false, false, false, true, false, false, false, false, false, false, false] ⟨33, [(0, .ptr 0 0 0), (1, .ptr 0 0 0), (2, .ptr 1 0 0), (12, .ptr 0 0 0), (13, .ptr 1 0 0), (17, .ptr 1 0 0)], [some (.gen 33 4 [[.bool q0.1.1, .own 2 q0.1.2.length, .bool q0.2.1, .own 3 q0.2.2.length]]), some (.gen 33 4 [[.bool q1.1.1, .own 4 q1.1.2.length, .bool q1.2.1, .own 5 q1.2.2.length]]), some (.ints 186 .u32 q0.1.2), some (.ints 186 .u32 q0.2.2), some (.ints 186 .u32 q1.1.2), some (.ints 186 .u32 q1.2.2), some (.pin 0 pl0), some (.pin 1 pl1)]⟩) : AA 13 #[false, false, true, true, true, true, false, false, false, false, false, false, false, false, false, false, false] ⟨33, [(0, .ptr 0 0 0), (1, .ptr 0 0 0), (2, .ptr 1 0 0), (12, .ptr 0 0 0), (13, .ptr 1 0 0)], [some (.gen 33 4 [[.bool q0.1.1, .own 2 q0.1.2.length, .bool q0.2.1, .own 3 q0.2.2.length]]), some (.gen 33 4 [[.bool q1.1.1, .own 4 q1.1.2.length, .bool q1.2.1, .own 5 q1.2.2.length]]), some (.ints 186 .u32 q0.1.2), some (.ints 186 .u32 q0.2.2), some (.ints 186 .u32 q1.1.2), some (.ints 186 .u32 q1.2.2), some (.pin 0 pl0), some (.pin 1 pl1)]⟩ := (hAA _ _ _).2 (by
  refine AWPB_take2 tab_ok [0, 1, 2, 7, 8, 9, 12, 13, 14, 15, 16, 17, 18, 19, 20, 21, 22, 23] 9 _ rfl rfl rfl ceg_rotabig_Rat_Add_B_1_63 fun c st' hr => ?_
  simp only [go_sem] at hr
  obtain ⟨rfl, rfl⟩ := hr
  refine ⟨vc, ?_⟩
  exact AWPB_wk [0, 1, 2, 3, 4, 5, 6, 7] mkWk ((hAA _ _ _).1 hn30))

theorem ceg_rotabig_Rat_Add_B_1_65 : (Region.noSelect reg_rotabig_Rat_Add_B_1.toArray && Region.free .any reg_rotabig_Rat_Add_B_1.toArray #[false, false, true, true, false, true, false, false, false, false, false, false, false, false, false, false, false] 4 && (Region.ready .any reg_rotabig_Rat_Add_B_1.toArray #[false, false, true, true, false, true, false, false, false, false, false, false, false, false, false, false, false]).contains 4) = true := by kernel_rfl

theorem J_rotabig_Rat_Add_B_1_hn32 {q0 : (Bool × List Int) × (Bool × List Int)} {q1 : (Bool × List Int) × (Bool × List Int)} {y1 : (Bool × List Int) × (Bool × List Int)} {y2 : Bool × List Int} {y3 : (Bool × List Int) × (Bool × List Int)} {y4 : Bool × List Int} {y5 : Bool × List Int} {pl0 : AX.Loc} {pl1 : AX.Loc} (hy : rotabig_Rat_den_B ((q1.1.1, q1.1.2), (q1.2.1, q1.2.2)) = some y1) (hy1 : rotabig_Int_Mul_r q0.1.1 q0.1.2 y1.2.1 y1.2.2 (false, []) = some y2) (hy2 : rotabig_Rat_den_B ((q0.1.1, q0.1.2), (q0.2.1, q0.2.2)) = some y3) (hy3 : rotabig_Int_Mul_r y1.1.1 y1.1.2 y3.2.1 y3.2.2 (false, []) = some y4) (hy4 : rotabig_Int_Add_r y2.1 y2.2 y4.1 y4.2 (false, []) = some y5) {w0 : World} {Q : Exit → St → Prop} {AA : Nat → Array Bool → St → Prop} (hAA : ∀ g L st, AA g L st ↔ AWPB Try.prog w0 reg_rotabig_Rat_Add_B_1.toArray Q g L st) (hn31 : AA 13 #[false, false, true, true, true, true, false, false, false, false, false, false, false, false, false, false, false] ⟨33, [(0, .ptr 0 0 0), (1, .ptr 0 0 0), (2, .ptr 1 0 0), (12, .ptr 0 0 0), (13, .ptr 1 0 0)], [some (.gen 33 4 [[.bool q0.1.1, .own 2 q0.1.2.length, .bool q0.2.1, .own 3 q0.2.2.length]]), some (.gen 33 4 [[.bool q1.1.1, .own 4 q1.1.2.length, .bool q1.2.1, .own 5 q1.2.2.length]]), some (.ints 186 .u32 q0.1.2), some (.ints 186 .u32 q0.2.2), some (.ints 186 .u32 q1.1.2), some (.ints 186 .u32 q1.2.2), some (.pin 0 pl0), some (.pin 1 pl1)]⟩) : AA 14 #[false, false, true, true, false, true, false, false, false, false, false, false, false, false, false, false, false] ⟨33, [(0, .ptr 0 0 0), (1, .ptr 0 0 0), (2, .ptr 1 0 0), (11, .ptr 0 0 0), (13, .ptr 1 0 0)], [some (.gen 33 4 [[.bool q0.1.1, .own 2 q0.1.2.length, .bool q0.2.1, .own 3 q0.2.2.length]]), some (.gen 33 4 [[.bool q1.1.1, .own 4 q1.1.2.length, .bool q1.2.1, .own 5 q1.2.2.length]]), some (.ints 186 .u32 q0.1.2), some (.ints 186 .u32 q0.2.2), some (.ints 186 .u32 q1.1.2), some (.ints 186 .u32 q1.2.2), some (.pin 0 pl0), some (.pin 1 pl1)]⟩ := (hAA _ _ _).2 (by
  refine AWPB_take2 tab_ok [0, 1, 2, 7, 8, 9, 12, 13, 14, 15, 16, 17, 18, 19, 20, 21, 22, 23] 4 _ rfl rfl rfl ceg_rotabig_Rat_Add_B_1_65 fun c st' hr => ?_
  simp only [go_sem] at hr
  obtain ⟨rfl, rfl⟩ := hr
  refine ⟨vc, ?_⟩
  exact AWPB_wk [0, 1, 2, 3, 4, 5, 6, 7] mkWk ((hAA _ _ _).1 hn31))

theorem ceg_rotabig_Rat_Add_B_1_67 : (Region.noSelect reg_rotabig_Rat_Add_B_1.toArray && Region.free .any reg_rotabig_Rat_Add_B_1.toArray #[false, false, true, false, false, true, false, false, false, false, false, false, false, false, false, false, false] 3 && (Region.ready .any reg_rotabig_Rat_Add_B_1.toArray #[false, false, true, false, false, true, false, false, false, false, false, false, false, false, false, false, false]).contains 3) = true := by kernel_rfl

theorem J_rotabig_Rat_Add_B_1_hn33 {q0 : (Bool × List Int) × (Bool × List Int)} {q1 : (Bool × List Int) × (Bool × List Int)} {y1 : (Bool × List Int) × (Bool × List Int)} {y2 : Bool × List Int} {y3 : (Bool × List Int) × (Bool × List Int)} {y4 : Bool × List Int} {y5 : Bool × List Int} {pl0 : AX.Loc} {pl1 : AX.Loc} (hy : rotabig_Rat_den_B ((q1.1.1, q1.1.2), (q1.2.1, q1.2.2)) = some y1) (hy1 : rotabig_Int_Mul_r q0.1.1 q0.1.2 y1.2.1 y1.2.2 (false, []) = some y2) (hy2 : rotabig_Rat_den_B ((q0.1.1, q0.1.2), (q0.2.1, q0.2.2)) = some y3) (hy3 : rotabig_Int_Mul_r y1.1.1 y1.1.2 y3.2.1 y3.2.2 (false, []) = some y4) (hy4 : rotabig_Int_Add_r y2.1 y2.2 y4.1 y4.2 (false, []) = some y5) {w0 : World} {Q : Exit → St → Prop} {AA : Nat → Array Bool → St → Prop} (hAA : ∀ g L st, AA g L st ↔ AWPB Try.prog w0 reg_rotabig_Rat_Add_B_1.toArray Q g L st) (hn32 : AA 14 #[false, false, true, true, false, true, false, false, false, false, false, false, false, false, false, false, false] ⟨33, [(0, .ptr 0 0 0), (1, .ptr 0 0 0), (2, .ptr 1 0 0), (11, .ptr 0 0 0), (13, .ptr 1 0 0)], [some (.gen 33 4 [[.bool q0.1.1, .own 2 q0.1.2.length, .bool q0.2.1, .own 3 q0.2.2.length]]), some (.gen 33 4 [[.bool q1.1.1, .own 4 q1.1.2.length, .bool q1.2.1, .own 5 q1.2.2.length]]), some (.ints 186 .u32 q0.1.2), some (.ints 186 .u32 q0.2.2), some (.ints 186 .u32 q1.1.2), some (.ints 186 .u32 q1.2.2), some (.pin 0 pl0), some (.pin 1 pl1)]⟩) : AA 15 #[false, false, true, false, false, true, false, false, false, false, false, false, false, false, false, false, false] ⟨33, [(0, .ptr 0 0 0), (1, .ptr 0 0 0), (2, .ptr 1 0 0), (10, .ptr 0 0 0), (13, .ptr 1 0 0)], [some (.gen 33 4 [[.bool q0.1.1, .own 2 q0.1.2.length, .bool q0.2.1, .own 3 q0.2.2.length]]), some (.gen 33 4 [[.bool q1.1.1, .own 4 q1.1.2.length, .bool q1.2.1, .own 5 q1.2.2.length]]), some (.ints 186 .u32 q0.1.2), some (.ints 186 .u32 q0.2.2), some (.ints 186 .u32 q1.1.2), some (.ints 186 .u32 q1.2.2), some (.pin 0 pl0), some (.pin 1 pl1)]⟩ := (hAA _ _ _).2 (by
  refine AWPB_take2 tab_ok [0, 1, 2, 7, 8, 9, 11, 12, 13, 14, 15, 16, 17, 18, 19, 20, 21, 22, 23] 3 _ rfl rfl rfl ceg_rotabig_Rat_Add_B_1_67 fun c st' hr => ?_
  simp only [go_sem] at hr
  obtain ⟨rfl, rfl⟩ := hr
  refine ⟨vc, ?_⟩
  exact AWPB_wk [0, 1, 2, 3, 4, 5, 6, 7] mkWk ((hAA _ _ _).1 hn32))

theorem ceg_rotabig_Rat_Add_B_1_69 : (Region.noSelect reg_rotabig_Rat_Add_B_1.toArray && Region.free .any reg_rotabig_Rat_Add_B_1.toArray #[false, false, false, false, false, true, false, false, false, false, false, false, false, false, false, false, false] 2 && (Region.ready .any reg_rotabig_Rat_Add_B_1.toArray #[false, false, false, false, false, true, false, false, false, false, false, false, false, false, false, false, false]).contains 2) = true := by kernel_rfl

theorem J_rotabig_Rat_Add_B_1_hn34 {q0 : (Bool × List Int) × (Bool × List Int)} {q1 : (Bool × List Int) × (Bool × List Int)} {y1 : (Bool × List Int) × (Bool × List Int)} {y2 : Bool × List Int} {y3 : (Bool × List Int) × (Bool × List Int)} {y4 : Bool × List Int} {y5 : Bool × List Int} {pl0 : AX.Loc} {pl1 : AX.Loc} (hy : rotabig_Rat_den_B ((q1.1.1, q1.1.2), (q1.2.1, q1.2.2)) = some y1) (hy1 : rotabig_Int_Mul_r q0.1.1 q0.1.2 y1.2.1 y1.2.2 (false, []) = some y2) (hy2 : rotabig_Rat_den_B ((q0.1.1, q0.1.2), (q0.2.1, q0.2.2)) = some y3) (hy3 : rotabig_Int_Mul_r y1.1.1 y1.1.2 y3.2.1 y3.2.2 (false, []) = some y4) (hy4 : rotabig_Int_Add_r y2.1 y2.2 y4.1 y4.2 (false, []) = some y5) {w0 : World} {Q : Exit → St → Prop} {AA : Nat → Array Bool → St → Prop} (hAA : ∀ g L st, AA g L st ↔ AWPB Try.prog w0 reg_rotabig_Rat_Add_B_1.toArray Q g L st) (hn33 : AA 15 #[false, false, true, false, false, true, false, false, false, false, false, false, false, false, false, false, false] ⟨33, [(0, .ptr 0 0 0), (1, .ptr 0 0 0), (2, .ptr 1 0 0), (10, .ptr 0 0 0), (13, .ptr 1 0 0)], [some (.gen 33 4 [[.bool q0.1.1, .own 2 q0.1.2.length, .bool q0.2.1, .own 3 q0.2.2.length]]), some (.gen 33 4 [[.bool q1.1.1, .own 4 q1.1.2.length, .bool q1.2.1, .own 5 q1.2.2.length]]), some (.ints 186 .u32 q0.1.2), some (.ints 186 .u32 q0.2.2), some (.ints 186 .u32 q1.1.2), some (.ints 186 .u32 q1.2.2), some (.pin 0 pl0), some (.pin 1 pl1)]⟩) : AA 16 #[false, false, false, false, false, true, false, false, false, false, false, false, false, false, false, false, false] ⟨33, [(0, .ptr 0 0 0), (1, .ptr 0 0 0), (2, .ptr 1 0 0), (13, .ptr 1 0 0)], [some (.gen 33 4 [[.bool q0.1.1, .own 2 q0.1.2.length, .bool q0.2.1, .own 3 q0.2.2.length]]), some (.gen 33 4 [[.bool q1.1.1, .own 4 q1.1.2.length, .bool q1.2.1, .own 5 q1.2.2.length]]), some (.ints 186 .u32 q0.1.2), some (.ints 186 .u32 q0.2.2), some (.ints 186 .u32 q1.1.2), some (.ints 186 .u32 q1.2.2), some (.pin 0 pl0), some (.pin 1 pl1)]⟩ := (hAA _ _ _).2 (by
  refine AWPB_take2 tab_ok [0, 1, 2, 7, 8, 9, 10, 11, 12, 13, 14, 15, 16, 17, 18, 19, 20, 21, 22, 23] 2 _ rfl rfl rfl ceg_rotabig_Rat_Add_B_1_69 fun c st' hr => ?_
  simp only [go_sem] at hr
  obtain ⟨rfl, rfl⟩ := hr
  refine ⟨vc, ?_⟩
  exact AWPB_wk [0, 1, 2, 3, 4, 5, 6, 7] mkWk ((hAA _ _ _).1 hn33))

theorem J_rotabig_Rat_Add_B_1_hn35 {q0 : (Bool × List Int) × (Bool × List Int)} {q1 : (Bool × List Int) × (Bool × List Int)} {y1 : (Bool × List Int) × (Bool × List Int)} {y2 : Bool × List Int} {y3 : (Bool × List Int) × (Bool × List Int)} {y4 : Bool × List Int} {y5 : Bool × List Int} {pl0 : AX.Loc} {pl1 : AX.Loc} (hy : rotabig_Rat_den_B ((q1.1.1, q1.1.2), (q1.2.1, q1.2.2)) = some y1) (hy1 : rotabig_Int_Mul_r q0.1.1 q0.1.2 y1.2.1 y1.2.2 (false, []) = some y2) (hy2 : rotabig_Rat_den_B ((q0.1.1, q0.1.2), (q0.2.1, q0.2.2)) = some y3) (hy3 : rotabig_Int_Mul_r y1.1.1 y1.1.2 y3.2.1 y3.2.2 (false, []) = some y4) (hy4 : rotabig_Int_Add_r y2.1 y2.2 y4.1 y4.2 (false, []) = some y5) {w0 : World} {Q : Exit → St → Prop} {AA : Nat → Array Bool → St → Prop} (hAA : ∀ g L st, AA g L st ↔ AWPB Try.prog w0 reg_rotabig_Rat_Add_B_1.toArray Q g L st) (hn34 : AA 16 #[false, false, false, false, false, true, false, false, false, false, false, false, false, false, false, false, false] ⟨33, [(0, .ptr 0 0 0), (1, .ptr 0 0 0), (2, .ptr 1 0 0), (13, .ptr 1 0 0)], [some (.gen 33 4 [[.bool q0.1.1, .own 2 q0.1.2.length, .bool q0.2.1, .own 3 q0.2.2.length]]), some (.gen 33 4 [[.bool q1.1.1, .own 4 q1.1.2.length, .bool q1.2.1, .own 5 q1.2.2.length]]), some (.ints 186 .u32 q0.1.2), some (.ints 186 .u32 q0.2.2), some (.ints 186 .u32 q1.1.2), some (.ints 186 .u32 q1.2.2), some (.pin 0 pl0), some (.pin 1 pl1)]⟩) : AA 17 #[false, false, false, false, false, false, false, false, false, false, false, false, false, false, false, false, false] ⟨33, [(0, .ptr 0 0 0), (1, .ptr 0 0 0), (2, .ptr 1 0 0)], [some (.gen 33 4 [[.bool q0.1.1, .own 2 q0.1.2.length, .bool q0.2.1, .own 3 q0.2.2.length]]), some (.gen 33 4 [[.bool q1.1.1, .own 4 q1.1.2.length, .bool q1.2.1, .own 5 q1.2.2.length]]), some (.ints 186 .u32 q0.1.2), some (.ints 186 .u32 q0.2.2), some (.ints 186 .u32 q1.1.2), some (.ints 186 .u32 q1.2.2), some (.pin 0 pl0), some (.pin 1 pl1)]⟩ := (hAA _ _ _).2 (by
  refine AWPB_takeB tab_ok [0, 1, 2, 7, 8, 9, 10, 11, 12, 13, 14, 15, 16, 17, 18, 19, 20, 21, 22, 23] 5 [6, 7, 13, 14, 15, 16] _ rfl ceg_rotabig_Rat_Add_B_1_1 fun c st' hr => ?_
  simp only [go_sem] at hr
  obtain ⟨rfl, rfl⟩ := hr
  refine ⟨vc, ?_⟩
  exact AWPB_wk [0, 1, 2, 3, 4, 5, 6, 7] mkWk ((hAA _ _ _).1 hn34))


theorem W_rotabig_Rat_Add_B {q0 : (Bool × List Int) × (Bool × List Int)} {q1 : (Bool × List Int) × (Bool × List Int)} {r : ((Bool × List Int) × (Bool × List Int)) × ((Bool × List Int) × (Bool × List Int))} (hK : rotabig_Rat_Add_B q0 q1 = some r) : InG Try.prog 16 [(.gen 33 4 [[.bool q0.1.1, .own 2 q0.1.2.length, .bool q0.2.1, .own 3 q0.2.2.length]]), (.gen 33 4 [[.bool q1.1.1, .own 4 q1.1.2.length, .bool q1.2.1, .own 5 q1.2.2.length]]), (.ints 186 .u32 q0.1.2), (.ints 186 .u32 q0.2.2), (.ints 186 .u32 q1.1.2), (.ints 186 .u32 q1.2.2)] 2 (fun _ => [.ptr 0 0 0, .ptr 0 0 0, .ptr 1 0 0]) (.ptr 0 0 0) [(.gen 33 4 [[.bool r.1.1.1, .own 2 r.1.1.2.length, .bool r.1.2.1, .own 3 r.1.2.2.length]]), (.gen 33 4 [[.bool r.2.1.1, .own 4 r.2.1.2.length, .bool r.2.2.1, .own 5 r.2.2.2.length]]), (.ints 186 .u32 r.1.1.2), (.ints 186 .u32 r.1.2.2), (.ints 186 .u32 r.2.1.2), (.ints 186 .u32 r.2.2.2)] := by
  refine InG_intro tab_ok (n := 33) (l := [.tmp 6]) Try.func16 rfl rfl rfl (fun ls => by first | (split <;> simp) | simp) (of_decide_eq_true rfl) (of_decide_eq_true rfl) rfl rfl rfl (by simp [renB, ren0, renI, List.range, List.range.loop]) (of_decide_eq_true rfl) (of_decide_eq_true rfl) fun w0 ls hls => ?_
  obtain ⟨pl0, pl1, rfl⟩ : ∃ pl0 pl1, ls = [pl0, pl1] := by
    match ls, hls with
    | [a, b], _ => exact ⟨a, b, rfl⟩
  simp only [pinL, List.map_cons, List.map_nil, List.cons_append, List.nil_append, Nat.zero_add, Nat.reduceAdd]
  unfold rotabig_Rat_Add_B at hK
  refine AWP_seq ?_
  refine AWP_rg tab_ok [0, 1, 2] fun c st' hr => ?_
  simp only [go_sem] at hr
  obtain ⟨rfl, rfl⟩ := hr
  refine ⟨vc, ?_⟩
  with_reducible refine thenC_normal ?_
  refine AWP_seq ?_
  replace hK := bind_s hK
  obtain ⟨y1, hy, hK⟩ := hK
  replace hK := bind_s hK
  obtain ⟨y2, hy1, hK⟩ := hK
  replace hK := bind_s hK
  obtain ⟨y3, hy2, hK⟩ := hK
  replace hK := bind_s hK
  obtain ⟨y4, hy3, hK⟩ := hK
  replace hK := bind_s hK
  obtain ⟨y5, hy4, hK⟩ := hK
  refine AWP_drawJ ⟨33, [(0, .ptr 0 0 0), (1, .ptr 0 0 0), (2, .ptr 1 0 0), (7, .ptr 8 0 0)], [some (.gen 33 4 [[.bool y3.1.1, .own 15 y3.1.2.length, .bool y3.2.1, .own 16 y3.2.2.length]]), some (.gen 33 4 [[.bool y1.1.1, .own 10 y1.1.2.length, .bool y1.2.1, .own 11 y1.2.2.length]]), none, none, none, none, some (.pin 0 pl0), some (.pin 1 pl1), some (.gen 31 2 [[.bool y5.1, .own 20 y5.2.length]]), some (.gen 31 2 [[.bool y2.1, .own 13 y2.2.length]]), some (.ints 186 .u32 y1.1.2), some (.ints 186 .u32 y1.2.2), none, some (.ints 186 .u32 y2.2), some (.gen 31 2 [[.bool y4.1, .own 18 y4.2.length]]), some (.ints 186 .u32 y3.1.2), some (.ints 186 .u32 y3.2.2), none, some (.ints 186 .u32 y4.2), none, some (.ints 186 .u32 y5.2)]⟩ mixed ?_ ?_
  ·change AWPB _ _ reg_rotabig_Rat_Add_B_1.toArray _ _ _ _
   refine AWPB_memo fun AA hAA => ?_
   have hn : AA 0 #[true, true, true, true, true, true, true, true, true, true, true, true, true, true, true, true, true] ⟨33, [(0, .ptr 0 0 0), (1, .ptr 0 0 0), (2, .ptr 1 0 0), (7, .ptr 8 0 0)], [some (.gen 33 4 [[.bool y3.1.1, .own 15 y3.1.2.length, .bool y3.2.1, .own 16 y3.2.2.length]]), some (.gen 33 4 [[.bool y1.1.1, .own 10 y1.1.2.length, .bool y1.2.1, .own 11 y1.2.2.length]]), none, none, none, none, some (.pin 0 pl0), some (.pin 1 pl1), some (.gen 31 2 [[.bool y5.1, .own 20 y5.2.length]]), some (.gen 31 2 [[.bool y2.1, .own 13 y2.2.length]]), some (.ints 186 .u32 y1.1.2), some (.ints 186 .u32 y1.2.2), none, some (.ints 186 .u32 y2.2), some (.gen 31 2 [[.bool y4.1, .own 18 y4.2.length]]), some (.ints 186 .u32 y3.1.2), some (.ints 186 .u32 y3.2.2), none, some (.ints 186 .u32 y4.2), none, some (.ints 186 .u32 y5.2)]⟩ := (hAA _ _ _).2 (by
    exact AWPB_end [0, 1, 2, 3, 4, 5, 6, 7, 8, 9, 10, 11, 12, 13, 14, 15, 16, 17, 18, 19, 20] ceg_rotabig_Rat_Add_B_1_3 mkWk)
   have hn1 := J_rotabig_Rat_Add_B_1_hn1 hy hy1 hy2 hy3 hy4 hAA hn
   have hn2 := J_rotabig_Rat_Add_B_1_hn2 hy hy1 hy2 hy3 hy4 hAA hn1
   have hn3 := J_rotabig_Rat_Add_B_1_hn3 hy hy1 hy2 hy3 hy4 hAA hn2
   have hn4 := J_rotabig_Rat_Add_B_1_hn4 hy hy1 hy2 hy3 hy4 hAA hn3
   have hn5 := J_rotabig_Rat_Add_B_1_hn5 hy hy1 hy2 hy3 hy4 hAA hn3
   have hn6 := J_rotabig_Rat_Add_B_1_hn6 hy hy1 hy2 hy3 hy4 hAA hn4 hn5
   have hn7 := J_rotabig_Rat_Add_B_1_hn7 hy hy1 hy2 hy3 hy4 hAA hn4
   have hn8 := J_rotabig_Rat_Add_B_1_hn8 hy hy1 hy2 hy3 hy4 hAA hn6 hn7
   have hn9 := J_rotabig_Rat_Add_B_1_hn9 hy hy1 hy2 hy3 hy4 hAA hn7
   have hn10 := J_rotabig_Rat_Add_B_1_hn10 hy hy1 hy2 hy3 hy4 hAA hn8 hn9
   have hn11 := J_rotabig_Rat_Add_B_1_hn11 hy hy1 hy2 hy3 hy4 hAA hn7
   have hn12 := J_rotabig_Rat_Add_B_1_hn12 hy hy1 hy2 hy3 hy4 hAA hn8 hn11
   have hn13 := J_rotabig_Rat_Add_B_1_hn13 hy hy1 hy2 hy3 hy4 hAA hn9 hn11
   have hn14 := J_rotabig_Rat_Add_B_1_hn14 hy hy1 hy2 hy3 hy4 hAA hn10 hn12 hn13
   have hn15 := J_rotabig_Rat_Add_B_1_hn15 hy hy1 hy2 hy3 hy4 hAA hn2
   have hn16 := J_rotabig_Rat_Add_B_1_hn16 hy hy1 hy2 hy3 hy4 hAA hn3 hn15
   have hn17 := J_rotabig_Rat_Add_B_1_hn17 hy hy1 hy2 hy3 hy4 hAA hn4 hn16
   have hn18 := J_rotabig_Rat_Add_B_1_hn18 hy hy1 hy2 hy3 hy4 hAA hn5 hn16
   have hn19 := J_rotabig_Rat_Add_B_1_hn19 hy hy1 hy2 hy3 hy4 hAA hn6 hn17 hn18
   have hn20 := J_rotabig_Rat_Add_B_1_hn20 hy hy1 hy2 hy3 hy4 hAA hn7 hn17
   have hn21 := J_rotabig_Rat_Add_B_1_hn21 hy hy1 hy2 hy3 hy4 hAA hn8 hn19 hn20
   have hn22 := J_rotabig_Rat_Add_B_1_hn22 hy hy1 hy2 hy3 hy4 hAA hn9 hn20
   have hn23 := J_rotabig_Rat_Add_B_1_hn23 hy hy1 hy2 hy3 hy4 hAA hn10 hn21 hn22
   have hn24 := J_rotabig_Rat_Add_B_1_hn24 hy hy1 hy2 hy3 hy4 hAA hn11 hn20
   have hn25 := J_rotabig_Rat_Add_B_1_hn25 hy hy1 hy2 hy3 hy4 hAA hn12 hn21 hn24
   have hn26 := J_rotabig_Rat_Add_B_1_hn26 hy hy1 hy2 hy3 hy4 hAA hn13 hn22 hn24
   have hn27 := J_rotabig_Rat_Add_B_1_hn27 hy hy1 hy2 hy3 hy4 hAA hn14 hn23 hn25 hn26
   have hn28 := J_rotabig_Rat_Add_B_1_hn28 hy hy1 hy2 hy3 hy4 hAA hn27
   have hn29 := J_rotabig_Rat_Add_B_1_hn29 hy hy1 hy2 hy3 hy4 hAA hn28
   have hn30 := J_rotabig_Rat_Add_B_1_hn30 hy hy1 hy2 hy3 hy4 hAA hn29
   have hn31 := J_rotabig_Rat_Add_B_1_hn31 hy hy1 hy2 hy3 hy4 hAA hn30
   have hn32 := J_rotabig_Rat_Add_B_1_hn32 hy hy1 hy2 hy3 hy4 hAA hn31
   have hn33 := J_rotabig_Rat_Add_B_1_hn33 hy hy1 hy2 hy3 hy4 hAA hn32
   have hn34 := J_rotabig_Rat_Add_B_1_hn34 hy hy1 hy2 hy3 hy4 hAA hn33
   have hn35 := J_rotabig_Rat_Add_B_1_hn35 hy hy1 hy2 hy3 hy4 hAA hn34
   exact (hAA _ _ _).2 (AWPB_wk [0, 1, 2, 3, 4, 5, 6, 7] mkWk ((hAA _ _ _).1 hn35))
  with_reducible refine thenC_normal ?_
  refine AWP_seq ?_
  refine AWP_rl ?_
  refine AWPL_rn tab_ok 4 [2, 24, 25, 26, 27] fun c st' hr => ?_
  simp only [go_sem] at hr
  obtain ⟨rfl, rfl⟩ := hr
  refine ⟨vc, ?_⟩
  replace hK := bind_s hK
  obtain ⟨y6, hy, hK⟩ := hK
  refine AWPL_gR [2, 24, 25, 26, 28] [0, 15, 16] [.ptr 0 0 0] [some (.gen 33 4 [[.bool y6.1.1, .own 22 y6.1.2.length, .bool y6.2.1, .own 23 y6.2.2.length]]), some (.gen 33 4 [[.bool y1.1.1, .own 10 y1.1.2.length, .bool y1.2.1, .own 11 y1.2.2.length]]), none, none, none, none, some (.pin 0 pl0), some (.pin 1 pl1), some (.gen 31 2 [[.bool y5.1, .own 20 y5.2.length]]), some (.gen 31 2 [[.bool y2.1, .own 13 y2.2.length]]), some (.ints 186 .u32 y1.1.2), some (.ints 186 .u32 y1.2.2), none, some (.ints 186 .u32 y2.2), some (.gen 31 2 [[.bool y4.1, .own 18 y4.2.length]]), none, none, none, some (.ints 186 .u32 y4.2), none, some (.ints 186 .u32 y5.2), some (.gen 31 2 [[.bool false, .nil]]), some (.ints 186 .u32 y6.1.2), some (.ints 186 .u32 y6.2.2)] (r' := .ptr 0 0 2) (W_rotabig_Rat_den_B hy) rfl rfl pcT rfl Try.call66 (of_decide_eq_true rfl) ⟨rfl, rfl, rfl, trivial⟩ rfl (hscG trivial) (of_decide_eq_true rfl) rfl rfl rfl (of_decide_eq_true rfl) rfl fun st' hr => ?_
  simp only [go_sem] at hr
  subst hr
  clear hy
  refine AWPL_rn tab_ok 1 [24, 25, 26, 28, 29] fun c st' hr => ?_
  simp only [go_sem] at hr
  obtain ⟨rfl, rfl⟩ := hr
  refine ⟨vc, ?_⟩
  replace hK := bind_s hK
  obtain ⟨y7, hy, hK⟩ := hK
  refine AWPL_gR [24, 25, 26, 28, 30] [1, 10, 11] [.ptr 0 0 0] [some (.gen 33 4 [[.bool y6.1.1, .own 22 y6.1.2.length, .bool y6.2.1, .own 23 y6.2.2.length]]), some (.gen 33 4 [[.bool y7.1.1, .own 24 y7.1.2.length, .bool y7.2.1, .own 25 y7.2.2.length]]), none, none, none, none, some (.pin 0 pl0), some (.pin 1 pl1), some (.gen 31 2 [[.bool y5.1, .own 20 y5.2.length]]), some (.gen 31 2 [[.bool y2.1, .own 13 y2.2.length]]), none, none, none, some (.ints 186 .u32 y2.2), some (.gen 31 2 [[.bool y4.1, .own 18 y4.2.length]]), none, none, none, some (.ints 186 .u32 y4.2), none, some (.ints 186 .u32 y5.2), some (.gen 31 2 [[.bool false, .nil]]), some (.ints 186 .u32 y6.1.2), some (.ints 186 .u32 y6.2.2), some (.ints 186 .u32 y7.1.2), some (.ints 186 .u32 y7.2.2)] (r' := .ptr 1 0 2) (W_rotabig_Rat_den_B hy) rfl rfl pcT rfl Try.call66 (of_decide_eq_true rfl) ⟨rfl, rfl, rfl, trivial⟩ rfl (hscG trivial) (of_decide_eq_true rfl) rfl rfl rfl (of_decide_eq_true rfl) rfl fun st' hr => ?_
  simp only [go_sem] at hr
  subst hr
  clear hy
  refine AWPL_gs' (gs_ownH 21 1 (.ints 186 .u32 []) rfl rfl rfl) fun st' hr => ?_
  simp only [go_sem, List.cons_append, List.nil_append, List.set_cons_zero, List.set_cons_succ] at hr
  subst hr
  replace hK := bind_s hK
  obtain ⟨y8, hy, hK⟩ := hK
  refine AWPL_gS [24, 25, 31] [21, 26] [.ptr 0 0 0, .immp [.bool y6.2.1, .ints .u32 y6.2.2], .immp [.bool y7.2.1, .ints .u32 y7.2.2]] [some (.gen 33 4 [[.bool y6.1.1, .own 22 y6.1.2.length, .bool y6.2.1, .own 23 y6.2.2.length]]), some (.gen 33 4 [[.bool y7.1.1, .own 24 y7.1.2.length, .bool y7.2.1, .own 25 y7.2.2.length]]), none, none, none, none, some (.pin 0 pl0), some (.pin 1 pl1), some (.gen 31 2 [[.bool y5.1, .own 20 y5.2.length]]), some (.gen 31 2 [[.bool y2.1, .own 13 y2.2.length]]), none, none, none, some (.ints 186 .u32 y2.2), some (.gen 31 2 [[.bool y4.1, .own 18 y4.2.length]]), none, none, none, some (.ints 186 .u32 y4.2), none, some (.ints 186 .u32 y5.2), some (.gen 31 2 [[.bool y8.1, .own 27 y8.2.length]]), some (.ints 186 .u32 y6.1.2), some (.ints 186 .u32 y6.2.2), some (.ints 186 .u32 y7.1.2), some (.ints 186 .u32 y7.2.2), none, some (.ints 186 .u32 y8.2)] (r' := .ptr 21 0 0) (W_rotabig_Int_Mul_r hy) rfl rfl pcT rfl Try.call65 (of_decide_eq_true rfl) ⟨rfl, rfl, trivial⟩ (.ptr 0 rfl (.cons (ArgOk.part (j0 := 2) rfl rfl (of_decide_eq_true rfl) (.cons (.atom _ rfl) (.cons (.ownI _ _ _ _ _ y6.2.2 rfl (by simp) (by first | simp | exact List.take_of_length_le (by simp))) .nil))) (.cons (ArgOk.part (j0 := 2) rfl rfl (of_decide_eq_true rfl) (.cons (.atom _ rfl) (.cons (.ownI _ _ _ _ _ y7.2.2 rfl (by simp) (by first | simp | exact List.take_of_length_le (by simp))) .nil))) .nil))) (hscG trivial) (of_decide_eq_true rfl) rfl rfl rfl (of_decide_eq_true rfl) rfl fun st' hr => ?_
  simp only [go_sem] at hr
  subst hr
  clear hy
  replace hK := bind_s hK
  obtain ⟨y9, hy, hK⟩ := hK
  refine AWPL_gS [32] [0, 22, 23] [.ptr 0 0 0, .immp [.bool y5.1, .ints .u32 y5.2], .immp [.bool y8.1, .ints .u32 y8.2]] [some (.gen 33 4 [[.bool y9.1.1, .own 28 y9.1.2.length, .bool y9.2.1, .own 29 y9.2.2.length]]), some (.gen 33 4 [[.bool y7.1.1, .own 24 y7.1.2.length, .bool y7.2.1, .own 25 y7.2.2.length]]), none, none, none, none, some (.pin 0 pl0), some (.pin 1 pl1), some (.gen 31 2 [[.bool y5.1, .own 20 y5.2.length]]), some (.gen 31 2 [[.bool y2.1, .own 13 y2.2.length]]), none, none, none, some (.ints 186 .u32 y2.2), some (.gen 31 2 [[.bool y4.1, .own 18 y4.2.length]]), none, none, none, some (.ints 186 .u32 y4.2), none, some (.ints 186 .u32 y5.2), some (.gen 31 2 [[.bool y8.1, .own 27 y8.2.length]]), none, none, some (.ints 186 .u32 y7.1.2), some (.ints 186 .u32 y7.2.2), none, some (.ints 186 .u32 y8.2), some (.ints 186 .u32 y9.1.2), some (.ints 186 .u32 y9.2.2)] (r' := .ptr 0 0 0) (W_rotabig_Rat_SetFrac hy) rfl rfl pcT rfl Try.call67 (of_decide_eq_true rfl) ⟨rfl, rfl, rfl, trivial⟩ (.ptr 0 rfl (.cons (ArgOk.part (j0 := 0) rfl rfl (of_decide_eq_true rfl) (.cons (.atom _ rfl) (.cons (.ownI _ _ _ _ _ y5.2 rfl (by simp) (by first | simp | exact List.take_of_length_le (by simp))) .nil))) (.cons (ArgOk.part (j0 := 0) rfl rfl (of_decide_eq_true rfl) (.cons (.atom _ rfl) (.cons (.ownI _ _ _ _ _ y8.2 rfl (by simp) (by first | simp | exact List.take_of_length_le (by simp))) .nil))) .nil))) (hscG trivial) (of_decide_eq_true rfl) rfl rfl rfl (of_decide_eq_true rfl) rfl fun st' hr => ?_
  simp only [go_sem] at hr
  subst hr
  clear hy
  refine AWPL_rn tab_ok 1 [6] fun c st' hr => ?_
  simp only [go_sem] at hr
  obtain ⟨rfl, rfl⟩ := hr
  refine ⟨vc, ?_⟩
  refine AWPL_nil ?_
  with_reducible refine thenC_normal ?_
  refine AWP_ret ?_
  cases hK
  refine EndsRW [0, 1, 28, 29, 24, 25, 6, 7] (.inl rfl) (of_decide_eq_true rfl) (by simp) rfl (fun c x hr => ?_) endH
  simp only [go_sem] at hr
  obtain ⟨rfl, rfl⟩ := hr
  exact ⟨rfl, endR⟩

theorem W_rotabig_Rat_Add {q0 : (Bool × List Int) × (Bool × List Int)} {q1 : (Bool × List Int) × (Bool × List Int)} {r : ((Bool × List Int) × (Bool × List Int)) × ((Bool × List Int) × (Bool × List Int))} (hK : rotabig_Rat_Add q0 q1 = some r) : InG Try.prog 16 [(.gen 33 4 [[.bool q0.1.1, .own 2 q0.1.2.length, .bool q0.2.1, .own 3 q0.2.2.length]]), (.gen 33 4 [[.bool q1.1.1, .own 4 q1.1.2.length, .bool q1.2.1, .own 5 q1.2.2.length]]), (.ints 186 .u32 q0.1.2), (.ints 186 .u32 q0.2.2), (.ints 186 .u32 q1.1.2), (.ints 186 .u32 q1.2.2)] 2 (fun _ => [.ptr 0 0 0, .ptr 0 0 0, .ptr 1 0 0]) (.ptr 0 0 0) [(.gen 33 4 [[.bool r.1.1.1, .own 2 r.1.1.2.length, .bool r.1.2.1, .own 3 r.1.2.2.length]]), (.gen 33 4 [[.bool r.2.1.1, .own 4 r.2.1.2.length, .bool r.2.2.1, .own 5 r.2.2.2.length]]), (.ints 186 .u32 r.1.1.2), (.ints 186 .u32 r.1.2.2), (.ints 186 .u32 r.2.1.2), (.ints 186 .u32 r.2.2.2)] := by
  unfold rotabig_Rat_Add at hK
  split at hK
  · exact W_rotabig_Rat_Add_A hK
  · exact W_rotabig_Rat_Add_B hK


theorem W_rotabig_Int_Cmp {x_0 : Bool} {x_1 : List Int} {y_0 : Bool} {y_1 : List Int} {r : Int} (hK : rotabig_Int_Cmp x_0 x_1 y_0 y_1 = some r) : Pure Try.prog 69 [.immp [.bool x_0, .ints .u32 x_1], .immp [.bool y_0, .ints .u32 y_1]] (.int .i64 r) [] := by
  refine Pure_introF tab_ok (n := 35) (l := [.tmp 4]) Try.func69 rfl rfl rfl (by simp) fun hfact w0 => ?_
  simp only [factL1, fact1, fact0, factL0, lo, hi, maxLen, and_true] at hfact
  unfold rotabig_Int_Cmp at hK
  refine AWP_seq ?_
  refine AWP_rg tab_ok [0, 1] fun c st' hr => ?_
  simp only [go_sem] at hr
  obtain ⟨rfl, rfl⟩ := hr
  refine ⟨vc, ?_⟩
  with_reducible refine thenC_normal ?_
  refine AWP_seq ?_
  refine AWP_seq ?_
  refine AWP_dr tab_ok [0, 1, 14] mixed (by kernel_rfl) fun c st' hr => ?_
  simp only [go_sem] at hr
  obtain ⟨rfl, rfl⟩ := hr
  refine ⟨vc, ?_⟩
  with_reducible refine thenC_normal ?_
  refine AWP_condP (¬ (x_0 = true ↔ y_0 = true)) rfl bd (fun hb => ?_) (fun hb => ?_)
  ·replace hK := ite_t hK hb
   refine AWP_seq ?_
   refine AWP_seq ?_
   refine AWP_rg tab_ok [18] fun c st' hr => ?_
   simp only [go_sem] at hr
   obtain ⟨rfl, rfl⟩ := hr
   refine ⟨vc, ?_⟩
   with_reducible refine thenC_normal ?_
   refine AWP_condP (x_0 = true) rfl bd (fun hb1 => ?_) (fun hb1 => ?_)
   ·replace hK := ite_t hK hb1
    refine AWP_seq ?_
    refine AWP_rg tab_ok [4] fun c st' hr => ?_
    simp only [go_sem] at hr
    obtain ⟨rfl, rfl⟩ := hr
    refine ⟨vc, ?_⟩
    with_reducible refine thenC_normal ?_
    refine AWP_ret ?_
    with_reducible refine thenC_ret (thenC_ret ?_)
    cases hK
    refine EndsRW [] (.inl rfl) (of_decide_eq_true rfl) (by simp) rfl (fun c x hr => ?_) trivial
    simp only [go_sem] at hr
    obtain ⟨rfl, rfl⟩ := hr
    exact ⟨rfl, endR⟩
   ·replace hK := ite_f hK hb1
    refine AWP_skip ?_
    with_reducible refine thenC_normal ?_
    refine AWP_seq ?_
    refine AWP_rg tab_ok [4] fun c st' hr => ?_
    simp only [go_sem] at hr
    obtain ⟨rfl, rfl⟩ := hr
    refine ⟨vc, ?_⟩
    with_reducible refine thenC_normal ?_
    refine AWP_ret ?_
    with_reducible refine thenC_ret ?_
    cases hK
    refine EndsRW [] (.inl rfl) (of_decide_eq_true rfl) (by simp) rfl (fun c x hr => ?_) trivial
    simp only [go_sem] at hr
    obtain ⟨rfl, rfl⟩ := hr
    exact ⟨rfl, endR⟩
  ·replace hK := ite_f hK hb
   refine AWP_skip ?_
   with_reducible refine thenC_normal ?_
   refine AWP_seq ?_
   refine AWP_drawQ mixed (by kernel_rfl) ?_
   refine AWQL_rn tab_ok 8 [0, 22, 26] fun c st' hr => ?_
   simp only [go_sem] at hr
   obtain ⟨rfl, rfl⟩ := hr
   refine ⟨vc, ?_⟩
   replace hK := bind_s hK
   obtain ⟨y1, hy, hK⟩ := hK
   refine AWQL_callK [0, 27] (W_rotabig_cmp hy) rfl rfl pcT rfl Try.call131 (.cons (.atom _ rfl) (.cons (.atom _ rfl) .nil)) (hscG trivial) (of_decide_eq_true rfl) rfl fun st' hr => ?_
   simp only [go_sem] at hr
   subst hr
   clear hy
   refine AWQL_rn tab_ok 1 [0, 5] fun c st' hr => ?_
   simp only [go_sem] at hr
   obtain ⟨rfl, rfl⟩ := hr
   refine ⟨vc, ?_⟩
   refine AWQL_nil ?_
   with_reducible refine thenC_normal ?_
   refine AWP_seq ?_
   refine AWP_seq ?_
   refine AWP_rg tab_ok [5, 31] fun c st' hr => ?_
   simp only [go_sem] at hr
   obtain ⟨rfl, rfl⟩ := hr
   refine ⟨vc, ?_⟩
   with_reducible refine thenC_normal ?_
   refine AWP_condP (x_0 = true) rfl bd (fun hb2 => ?_) (fun hb2 => ?_)
   ·replace hK := ite_t hK hb2
    refine AWP_seq ?_
    replace hK := chk_some hK
    obtain ⟨h, hK⟩ := hK
    refine AWP_rg tab_ok [4] fun c st' hr => ?_
    simp only [go_sem] at hr
    obtain ⟨rfl, rfl⟩ := hr
    refine ⟨vc, ?_⟩
    with_reducible refine thenC_normal ?_
    refine AWP_ret ?_
    with_reducible refine thenC_ret ?_
    cases hK
    refine EndsRW [] (.inl rfl) (of_decide_eq_true rfl) (by simp) rfl (fun c x hr => ?_) trivial
    simp only [go_sem] at hr
    obtain ⟨rfl, rfl⟩ := hr
    exact ⟨rfl, endR⟩
   ·replace hK := ite_f hK hb2
    refine AWP_skip ?_
    with_reducible refine thenC_normal ?_
    refine AWP_seq ?_
    refine AWP_rg tab_ok [4] fun c st' hr => ?_
    simp only [go_sem] at hr
    obtain ⟨rfl, rfl⟩ := hr
    refine ⟨vc, ?_⟩
    with_reducible refine thenC_normal ?_
    refine AWP_ret ?_
    cases hK
    refine EndsRW [] (.inl rfl) (of_decide_eq_true rfl) (by simp) rfl (fun c x hr => ?_) trivial
    simp only [go_sem] at hr
    obtain ⟨rfl, rfl⟩ := hr
    exact ⟨rfl, endR⟩

/-- The operations of a drawn region. -/
def reg_rotabig_Rat_Cmp_A_3 : List Oper := (⟨_, rfl⟩ : { l : List Oper // (Try.f20.body.bind (regIn 3)) = some l }).1

theorem ceg_rotabig_Rat_Cmp_A_3_1 : firstOk reg_rotabig_Rat_Cmp_A_3.toArray #[false, false, false, false, false, false, false, false, false, false, false, false, false, false, false, false] 4 [5, 6, 12, 13, 14, 15] = true := by kernel_rfl

theorem ceg_rotabig_Rat_Cmp_A_3_2 : firstOk reg_rotabig_Rat_Cmp_A_3.toArray #[true, true, true, true, true, true, true, true, true, true, true, true, true, true, true, false] 15 [] = true := by kernel_rfl

theorem ceg_rotabig_Rat_Cmp_A_3_3 : (Region.ready .any reg_rotabig_Rat_Cmp_A_3.toArray #[true, true, true, true, true, true, true, true, true, true, true, true, true, true, true, true] == []) = true := by kernel_rfl

theorem J_rotabig_Rat_Cmp_A_3_hn1 {y1 : (Bool × List Int) × ((Bool × List Int) × (Bool × List Int))} {y2 : (Bool × List Int) × (Bool × List Int)} {y5 : (Bool × List Int) × (Bool × List Int)} {y6 : Bool × List Int} {y7 : (Bool × List Int) × ((Bool × List Int) × (Bool × List Int))} {y8 : Bool × List Int} {y9 : Int} {pl0 : AX.Loc} {pl1 : AX.Loc} (hy : rotabig_Rat_den_B ((y2.1.1, y2.1.2), (y2.2.1, y2.2.2)) = some y5) (hy1 : rotabig_Int_Mul_r y1.2.1.1 y1.2.1.2 y5.2.1 y5.2.2 (false, []) = some y6) (hy2 : rotabig_Rat_den_A ((y1.2.1.1, y1.2.1.2), (y1.2.2.1, y1.2.2.2)) = some y7) (hy3 : rotabig_Int_Mul_r y5.1.1 y5.1.2 y7.1.1 y7.1.2 (false, []) = some y8) (hy4 : rotabig_Int_Cmp y6.1 y6.2 y8.1 y8.2 = some y9) {w0 : World} {Q : Exit → St → Prop} {AA : Nat → Array Bool → St → Prop} (hAA : ∀ g L st, AA g L st ↔ AWPB Try.prog w0 reg_rotabig_Rat_Cmp_A_3.toArray Q g L st) (hn : AA 0 #[true, true, true, true, true, true, true, true, true, true, true, true, true, true, true, true] ⟨33, [(4, .int .i64 y9)], [some (.gen 33 4 [[.bool y7.2.1.1, .own 20 y7.2.1.2.length, .bool y7.2.2.1, .own 21 y7.2.2.2.length]]), some (.gen 33 4 [[.bool y5.1.1, .own 15 y5.1.2.length, .bool y5.2.1, .own 16 y5.2.2.length]]), none, none, none, none, some (.pin 0 pl0), some (.pin 1 pl1), none, none, some (.gen 31 2 [[.bool y1.1.1, .own 11 y1.1.2.length]]), some (.ints 186 .u32 y1.1.2), none, none, some (.gen 31 2 [[.bool y6.1, .own 18 y6.2.length]]), some (.ints 186 .u32 y5.1.2), some (.ints 186 .u32 y5.2.2), none, some (.ints 186 .u32 y6.2), some (.gen 31 2 [[.bool y8.1, .own 25 y8.2.length]]), some (.ints 186 .u32 y7.2.1.2), some (.ints 186 .u32 y7.2.2.2), some (.gen 31 2 [[.bool y7.1.1, .own 23 y7.1.2.length]]), some (.ints 186 .u32 y7.1.2), none, some (.ints 186 .u32 y8.2)]⟩) : AA 1 #[true, true, true, true, true, true, true, true, true, true, true, true, true, true, true, false] ⟨33, [(32, .int .i64 y9)], [some (.gen 33 4 [[.bool y7.2.1.1, .own 20 y7.2.1.2.length, .bool y7.2.2.1, .own 21 y7.2.2.2.length]]), some (.gen 33 4 [[.bool y5.1.1, .own 15 y5.1.2.length, .bool y5.2.1, .own 16 y5.2.2.length]]), none, none, none, none, some (.pin 0 pl0), some (.pin 1 pl1), none, none, some (.gen 31 2 [[.bool y1.1.1, .own 11 y1.1.2.length]]), some (.ints 186 .u32 y1.1.2), none, none, some (.gen 31 2 [[.bool y6.1, .own 18 y6.2.length]]), some (.ints 186 .u32 y5.1.2), some (.ints 186 .u32 y5.2.2), none, some (.ints 186 .u32 y6.2), some (.gen 31 2 [[.bool y8.1, .own 25 y8.2.length]]), some (.ints 186 .u32 y7.2.1.2), some (.ints 186 .u32 y7.2.2.2), some (.gen 31 2 [[.bool y7.1.1, .own 23 y7.1.2.length]]), some (.ints 186 .u32 y7.1.2), none, some (.ints 186 .u32 y8.2)]⟩ := (hAA _ _ _).2 (by
  refine AWPB_takeB tab_ok [4] 15 [] _ rfl ceg_rotabig_Rat_Cmp_A_3_2 fun c st' hr => ?_
  simp only [go_sem] at hr
  obtain ⟨rfl, rfl⟩ := hr
  refine ⟨vc, ?_⟩
  exact AWPB_wk [0, 1, 2, 3, 4, 5, 6, 7, 8, 9, 10, 11, 12, 13, 14, 15, 16, 17, 18, 19, 20, 21, 22, 23, 24, 25] mkWk ((hAA _ _ _).1 hn))

theorem ceg_rotabig_Rat_Cmp_A_3_5 : (Region.ready .any reg_rotabig_Rat_Cmp_A_3.toArray #[true, true, true, true, true, true, true, true, true, true, true, true, true, true, false, false] == [14]) = true := by kernel_rfl


end Go.SH
