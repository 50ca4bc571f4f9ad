/-
  That the code computes these functions: rotakeep_TutteReciprocity. By a program of mine (shal.py). Conditions: none.
-/
import Derived.Test.YtlpikingpnenkaaDoorAxT
import Derived.Test.YtlpikingpnenkaaDoorAxR
import Derived.Test.YtlpikingpnenkaaDoorAxBg
import Derived.Test.YtlpikingpnenkaaDoorAxRx
import Derived.Test.YtlpikingpnenkaaDoorSkTutteReciprocity
import Derived.Test.YtlpikingpnenkaaDoorWprotabig
import Derived.Test.YtlpikingpnenkaaDoorWprotakeep
import Derived.Test.YtlpikingpnenkaaDoorWprotalaw
import Derived.Test.YtlpikingpnenkaaDoorWprotaref
import Derived.Test.YtlpikingpnenkaaDoorWpstrconv
import Derived.Test.YtlpikingpnenkaaDoorWptutte
set_option linter.unusedVariables false
set_option linter.unusedSimpArgs false
set_option maxRecDepth 8000
set_option maxHeartbeats 4000000
namespace Go.SH
open Go Go.AX Go.AX.Tryd Go.Proofs


theorem W_rotakeep_TutteReciprocity {g_0 : Int} {g_1 : List (Int × Int)} {a1 : Int} {r : Bool} (hK : rotakeep_TutteReciprocity g_0 g_1 a1 = some r) : Pure Tryd.prog 3 [.agg [.int .i64 g_0, .fn 2 g_1.length (fun i => [.int .i64 ((g_1.getD i (0, 0)).1), .int .i64 ((g_1.getD i (0, 0)).2)])], .int .i64 a1] (.bool r) [] := by
  refine Pure_introF tab_ok (n := 153) (l := [.tmp 4]) Tryd.func3 rfl rfl rfl (by simp) fun hfact w0 => ?_
  simp only [factL1, fact1, fact0, factL0, lo, hi, maxLen, and_true] at hfact
  unfold rotakeep_TutteReciprocity at hK
  refine AWP_seq ?_
  refine AWP_rg tab_ok [1, 2] fun c st' hr => ?_
  simp only [go_sem] at hr
  obtain ⟨rfl, rfl⟩ := hr
  refine ⟨vc, ?_⟩
  with_reducible refine thenC_normal ?_
  refine AWP_seq ?_
  refine AWP_seq ?_
  refine AWP_rl ?_
  refine AWPL_rn tab_ok 1 [1, 2, 21] fun c st' hr => ?_
  simp only [go_sem] at hr
  obtain ⟨rfl, rfl⟩ := hr
  refine ⟨vc, ?_⟩
  replace hK := bind_s hK
  obtain ⟨y, hy, hK⟩ := hK
  refine AWPL_callK [1, 2, 22] (W_tutte_Chromatic hy) rfl rfl pcT rfl Tryd.call5 (.cons (.agg _ _ rfl (ArgsOk.get (.cons (.atom _ rfl) (.cons (by first | exact .nilI _ | exact .fnOf _ _ _ _ (.nilM _)) .nil))).2) .nil) (hscG trivial) (of_decide_eq_true rfl) (by first | rfl | simp [nI, nI1, nI0]) (by first | rfl | simp [nIB, nI0]) fun st' hr => ?_
  simp only [go_sem] at hr
  subst hr
  clear hy
  refine AWPL_rn tab_ok 5 [1, 2, 5, 6] fun c st' hr => ?_
  simp only [go_sem] at hr
  obtain ⟨rfl, rfl⟩ := hr
  refine ⟨vc, ?_⟩
  refine AWPL_nil ?_
  with_reducible refine thenC_normal ?_
  refine AWP_seq ?_
  refine AWP_rl ?_
  refine AWPL_rn tab_ok 4 [1, 2, 27, 28] fun c st' hr => ?_
  simp only [go_sem] at hr
  obtain ⟨rfl, rfl⟩ := hr
  refine ⟨vc, ?_⟩
  by_cases hg : ¬ (y.2 ≠ 0)
  ·replace hK := ite_t hK hg
   refine AWPL_stP [(1, .int .i64 a1), (2, .ptr 0 0 0), (27, .bool false), (28, .opt true (.own 1 y.1.length))] (by first | (simp [SameS, AX.look, hg]; done) | (simp at hg ⊢; simp [SameS, AX.look, hg]; done) | (simp_all [SameS, AX.look]; done)) ?_
   refine AWPL_effT tab_ok [1, 2, 27, 28, 29] pcT fun c st' hr => ?_
   simp only [go_sem] at hr
   obtain ⟨rfl, rfl⟩ := hr
   refine ⟨vc, ?_⟩
   replace hK := bind_s hK
   obtain ⟨y1, hy, hK⟩ := hK
   refine AWPL_callK [1, 2, 27, 30] (W_rotalaw_Same_int64 hy) rfl rfl pcT rfl Tryd.call6 (.cons (.ownI _ _ _ _ _ y.1 rfl (by simp) (by first | simp | exact List.take_of_length_le (by simp))) (.cons (.ownI _ _ _ _ _ [0, 1] rfl (by simp) (by first | simp | exact List.take_of_length_le (by simp))) .nil)) (hscG trivial) (of_decide_eq_true rfl) (by first | rfl | simp [nI, nI1, nI0]) (by first | rfl | simp [nIB, nI0]) fun st' hr => ?_
   simp only [go_sem] at hr
   subst hr
   clear hy
   refine AWPL_rn tab_ok 2 [1, 2, 32] fun c st' hr => ?_
   simp only [go_sem] at hr
   obtain ⟨rfl, rfl⟩ := hr
   refine ⟨vc, ?_⟩
   refine AWPL_nil ?_
   with_reducible refine thenC_normal ?_
   refine AWP_condP (¬ (y1 = true)) rfl bd (fun hb => ?_) (fun hb => ?_)
   ·replace hK := ite_t hK hb
    refine AWP_seq ?_
    refine AWP_rg tab_ok [4] fun c st' hr => ?_
    simp only [go_sem] at hr
    obtain ⟨rfl, rfl⟩ := hr
    refine ⟨vc, ?_⟩
    with_reducible refine thenC_normal ?_
    refine AWP_ret ?_
    with_reducible refine thenC_ret ?_
    cases hK
    refine EndsRW [] (.inl rfl) (of_decide_eq_true rfl) (by simp) rfl (fun c x hr => ?_) trivial
    simp only [go_sem] at hr
    obtain ⟨rfl, rfl⟩ := hr
    exact ⟨rfl, endR⟩
   ·replace hK := ite_f hK hb
    refine AWP_skip ?_
    with_reducible refine thenC_normal ?_
    refine AWP_seq ?_
    refine AWP_rl ?_
    refine AWPL_rn tab_ok 1 [1, 2, 34] fun c st' hr => ?_
    simp only [go_sem] at hr
    obtain ⟨rfl, rfl⟩ := hr
    refine ⟨vc, ?_⟩
    replace hK := bind_s hK
    obtain ⟨y2, hy, hK⟩ := hK
    refine AWPL_callK [1, 2, 35] (W_tutte_Chromatic hy) rfl rfl pcT rfl Tryd.call5 (.cons (.agg _ _ rfl (ArgsOk.get (.cons (.atom _ rfl) (.cons (.atom _ rfl) .nil))).2) .nil) (hscG trivial) (of_decide_eq_true rfl) (by first | rfl | simp [nI, nI1, nI0]) (by first | rfl | simp [nIB, nI0]) fun st' hr => ?_
    simp only [go_sem] at hr
    subst hr
    clear hy
    refine AWPL_rn tab_ok 5 [1, 2, 7, 8] fun c st' hr => ?_
    simp only [go_sem] at hr
    obtain ⟨rfl, rfl⟩ := hr
    refine ⟨vc, ?_⟩
    refine AWPL_nil ?_
    with_reducible refine thenC_normal ?_
    refine AWP_seq ?_
    refine AWP_seq ?_
    refine AWP_rg tab_ok [1, 2, 7, 8, 50] fun c st' hr => ?_
    simp only [go_sem] at hr
    obtain ⟨rfl, rfl⟩ := hr
    refine ⟨vc, ?_⟩
    with_reducible refine thenC_normal ?_
    refine AWP_condP (((y2.2 ≠ 0 ∨ 5 < g_0) ∨ 6 < (g_1.length : Int))) rfl bd (fun hb1 => ?_) (fun hb1 => ?_)
    ·replace hK := ite_t hK hb1
     refine AWP_seq ?_
     refine AWP_rg tab_ok [4] fun c st' hr => ?_
     simp only [go_sem] at hr
     obtain ⟨rfl, rfl⟩ := hr
     refine ⟨vc, ?_⟩
     with_reducible refine thenC_normal ?_
     refine AWP_ret ?_
     with_reducible refine thenC_ret ?_
     cases hK
     refine EndsRW [] (.inl rfl) (of_decide_eq_true rfl) (by simp) rfl (fun c x hr => ?_) trivial
     simp only [go_sem] at hr
     obtain ⟨rfl, rfl⟩ := hr
     exact ⟨rfl, endR⟩
    ·replace hK := ite_f hK hb1
     refine AWP_skip ?_
     with_reducible refine thenC_normal ?_
     refine AWP_seq ?_
     refine AWP_rl ?_
     refine AWPL_rn tab_ok 1 [2, 7, 58] fun c st' hr => ?_
     simp only [go_sem] at hr
     obtain ⟨rfl, rfl⟩ := hr
     refine ⟨vc, ?_⟩
     replace hK := bind_s hK
     obtain ⟨y3, hy, hK⟩ := hK
     refine AWPL_callK [2, 7, 59] (W_rotaref_Pick hy) rfl rfl pcT rfl Tryd.call7 (.cons (.atom _ rfl) (.cons (.atom _ rfl) .nil)) (hscG trivial) (of_decide_eq_true rfl) (by first | rfl | simp [nI, nI1, nI0]) (by first | rfl | simp [nIB, nI0]) fun st' hr => ?_
     simp only [go_sem] at hr
     subst hr
     clear hy
     replace hK := chk_some hK
     obtain ⟨h, hK⟩ := hK
     refine AWPL_rn tab_ok 2 [2, 7, 9] fun c st' hr => ?_
     simp only [go_sem] at hr
     obtain ⟨rfl, rfl⟩ := hr
     refine ⟨vc, ?_⟩
     refine AWPL_nil ?_
     with_reducible refine thenC_normal ?_
     refine AWP_seq ?_
     refine AWP_rg tab_ok [2, 7, 9, 10] fun c st' hr => ?_
     simp only [go_sem] at hr
     obtain ⟨rfl, rfl⟩ := hr
     refine ⟨vc, ?_⟩
     with_reducible refine thenC_normal ?_
     refine AWP_seq ?_
     refine AWP_seq ?_
     replace hK := chk_some hK
     obtain ⟨h1, hK⟩ := hK
     refine AWP_rg tab_ok [2, 7, 9, 10, 64, 65] fun c st' hr => ?_
     simp only [go_sem] at hr
     obtain ⟨rfl, rfl⟩ := hr
     refine ⟨vc, ?_⟩
     with_reducible refine thenC_normal ?_
     refine AWP_block ?_
     refine AWP_loopX 0 (fun ((v, v1) : Int × Int) => ⟨153, [(2, .ptr 0 0 0), (7, .own 1 y2.1.length), (9, .int .i64 (1 + y3)), (10, .int .i64 v), (64, .int .i64 (2 ^ (g_1.length : Int).toNat : Int)), (65, .int .i64 v1)], [some (.gen 24 2 [[.int .i64 g_0, .fn 2 g_1.length (fun i => [.int .i64 ((g_1.getD i (0, 0)).1), .int .i64 ((g_1.getD i (0, 0)).2)])]]), some (.ints 2 .i64 y2.1)]⟩) (fun (v2 : Int) => ⟨153, [(2, .ptr 0 0 0), (7, .own 1 y2.1.length), (9, .int .i64 (1 + y3)), (10, .int .i64 v2)], [some (.gen 24 2 [[.int .i64 g_0, .fn 2 g_1.length (fun i => [.int .i64 ((g_1.getD i (0, 0)).1), .int .i64 ((g_1.getD i (0, 0)).2)])]]), some (.ints 2 .i64 y2.1)]⟩) (fun v => v) (0, 0) [0, 3] hK mkWk ?_ ?_
     ·clear hK; rintro ⟨v, v1⟩ b hK hpost1
      try dsimp only at hK
      change AWP _ _ _ _ ⟨153, [(2, .ptr 0 0 0), (7, .own 1 y2.1.length), (9, .int .i64 (1 + y3)), (10, .int .i64 v), (64, .int .i64 (2 ^ (g_1.length : Int).toNat : Int)), (65, .int .i64 v1)], [some (.gen 24 2 [[.int .i64 g_0, .fn 2 g_1.length (fun i => [.int .i64 ((g_1.getD i (0, 0)).1), .int .i64 ((g_1.getD i (0, 0)).2)])]]), some (.ints 2 .i64 y2.1)]⟩
      refine AWP_seq ?_
      refine AWP_rg tab_ok [2, 7, 9, 10, 64, 65, 66] fun c st' hr => ?_
      simp only [go_sem] at hr
      obtain ⟨rfl, rfl⟩ := hr
      refine ⟨vc, ?_⟩
      with_reducible refine thenC_normal ?_
      refine AWP_seq ?_
      refine AWP_condP (v1 < (2 ^ (g_1.length : Int).toNat : Int)) rfl bd (fun hb2 => ?_) (fun hb2 => ?_)
      ·replace hK := ite_t hK hb2
       refine AWP_skip ?_
       with_reducible refine thenC_normal ?_
       refine AWP_seq ?_
       refine AWP_block ?_
       refine AWP_seq ?_
       refine AWP_rg tab_ok [2, 7, 9, 10, 11, 64, 65] fun c st' hr => ?_
       simp only [go_sem] at hr
       obtain ⟨rfl, rfl⟩ := hr
       refine ⟨vc, ?_⟩
       with_reducible refine thenC_normal ?_
       refine AWP_seq ?_
       refine AWP_rg tab_ok [2, 7, 9, 10, 11, 12, 64, 65] fun c st' hr => ?_
       simp only [go_sem] at hr
       obtain ⟨rfl, rfl⟩ := hr
       refine ⟨vc, ?_⟩
       with_reducible refine thenC_normal ?_
       refine AWP_ownH 2 1 (.gen 32 2 []) rfl rfl rfl fun st' hr => ?_
       simp only [go_sem] at hr
       subst hr
       refine AWP_seq ?_
       refine AWP_seq ?_
       refine AWP_rg tab_ok [2, 7, 9, 10, 11, 12, 64, 65, 72, 73, 74] fun c st' hr => ?_
       simp only [go_sem] at hr
       obtain ⟨rfl, rfl⟩ := hr
       refine ⟨vc, ?_⟩
       with_reducible refine thenC_normal ?_
       refine AWP_block ?_
       refine AWP_loopX 2 (fun ((v3, v4) : (List (Int × Int)) × Int) => ⟨153, [(2, .ptr 0 0 0), (7, .own 1 y2.1.length), (9, .int .i64 (1 + y3)), (10, .int .i64 v), (11, .int .i64 v1), (12, .ptr 2 0 0), (64, .int .i64 (2 ^ (g_1.length : Int).toNat : Int)), (65, .int .i64 v1), (72, .fn 2 g_1.length (fun i => [.int .i64 ((g_1.getD i (0, 0)).1), .int .i64 ((g_1.getD i (0, 0)).2)])), (73, .int .i64 (g_1.length : Int)), (74, .int .i64 v4)], [some (.gen 24 2 [[.int .i64 g_0, .fn 2 g_1.length (fun i => [.int .i64 ((g_1.getD i (0, 0)).1), .int .i64 ((g_1.getD i (0, 0)).2)])]]), some (.ints 2 .i64 y2.1), some (.gen 24 2 [[.int .i64 g_0, .own 3 v3.length]]), some (.gen 32 2 (List.map (fun e => [.int .i64 e.1, .int .i64 e.2]) v3))]⟩) (fun (v5 : List (Int × Int)) => ⟨153, [(2, .ptr 0 0 0), (7, .own 1 y2.1.length), (9, .int .i64 (1 + y3)), (10, .int .i64 v), (12, .ptr 2 0 0), (64, .int .i64 (2 ^ (g_1.length : Int).toNat : Int)), (65, .int .i64 v1)], [some (.gen 24 2 [[.int .i64 g_0, .fn 2 g_1.length (fun i => [.int .i64 ((g_1.getD i (0, 0)).1), .int .i64 ((g_1.getD i (0, 0)).2)])]]), some (.ints 2 .i64 y2.1), some (.gen 24 2 [[.int .i64 g_0, .own 3 v5.length]]), some (.gen 32 2 (List.map (fun e => [.int .i64 e.1, .int .i64 e.2]) v5))]⟩) (fun v => v) ([], 0) [0, 1, 2, 3] hK mkWk ?_ ?_
       ·clear hK; rintro ⟨v3, v4⟩ b1 hK hpost2
        try dsimp only at hK
        change AWP _ _ _ _ ⟨153, [(2, .ptr 0 0 0), (7, .own 1 y2.1.length), (9, .int .i64 (1 + y3)), (10, .int .i64 v), (11, .int .i64 v1), (12, .ptr 2 0 0), (64, .int .i64 (2 ^ (g_1.length : Int).toNat : Int)), (65, .int .i64 v1), (72, .fn 2 g_1.length (fun i => [.int .i64 ((g_1.getD i (0, 0)).1), .int .i64 ((g_1.getD i (0, 0)).2)])), (73, .int .i64 (g_1.length : Int)), (74, .int .i64 v4)], [some (.gen 24 2 [[.int .i64 g_0, .fn 2 g_1.length (fun i => [.int .i64 ((g_1.getD i (0, 0)).1), .int .i64 ((g_1.getD i (0, 0)).2)])]]), some (.ints 2 .i64 y2.1), some (.gen 24 2 [[.int .i64 g_0, .own 3 v3.length]]), some (.gen 32 2 (List.map (fun e => [.int .i64 e.1, .int .i64 e.2]) v3))]⟩
        refine AWP_seq ?_
        refine AWP_rg tab_ok [2, 7, 9, 10, 11, 12, 64, 65, 72, 73, 74, 75] fun c st' hr => ?_
        simp only [go_sem] at hr
        obtain ⟨rfl, rfl⟩ := hr
        refine ⟨vc, ?_⟩
        with_reducible refine thenC_normal ?_
        refine AWP_seq ?_
        refine AWP_condP (v4 < (g_1.length : Int)) rfl bd (fun hb3 => ?_) (fun hb3 => ?_)
        ·replace hK := ite_t hK hb3
         refine AWP_skip ?_
         with_reducible refine thenC_normal ?_
         refine AWP_seq ?_
         refine AWP_block ?_
         refine AWP_seq ?_
         replace hK := chk_some hK
         obtain ⟨h2, hK⟩ := hK
         refine AWP_rg tab_ok [2, 7, 9, 10, 11, 12, 13, 14, 64, 65, 72, 73, 74] fun c st' hr => ?_
         simp only [go_sem] at hr
         obtain ⟨rfl, rfl⟩ := hr
         refine ⟨vc, ?_⟩
         with_reducible refine thenC_normal ?_
         refine AWP_seq ?_
         refine AWP_seq ?_
         refine AWP_rl ?_
         refine AWPL_rn tab_ok 2 [2, 7, 9, 10, 11, 12, 14, 64, 65, 72, 73, 74, 79, 80] fun c st' hr => ?_
         simp only [go_sem] at hr
         obtain ⟨rfl, rfl⟩ := hr
         refine ⟨vc, ?_⟩
         replace hK := bind_s hK
         obtain ⟨y4, hy, hK⟩ := hK
         refine AWPL_callK [2, 7, 9, 10, 11, 12, 14, 64, 65, 72, 73, 74, 81] (W_rotaref_In hy) rfl rfl pcT rfl Tryd.call8 (.cons (.atom _ rfl) (.cons (.atom _ rfl) .nil)) (hscG trivial) (of_decide_eq_true rfl) (by first | rfl | simp [nI, nI1, nI0]) (by first | rfl | simp [nIB, nI0]) fun st' hr => ?_
         simp only [go_sem] at hr
         subst hr
         clear hy
         refine AWPL_nil ?_
         with_reducible refine thenC_normal ?_
         refine AWP_condP (y4 = true) rfl bd (fun hb4 => ?_) (fun hb4 => ?_)
         ·replace hK := ite_t hK hb4
          refine AWP_rg tab_ok [2, 7, 9, 10, 11, 12, 14, 64, 65, 72, 73, 74] fun c st' hr => ?_
          simp only [go_sem] at hr
          obtain ⟨rfl, rfl⟩ := hr
          refine ⟨vc, ?_⟩
          with_reducible refine thenC_normal ?_
          replace hK := chk_some hK
          obtain ⟨h3, hK⟩ := hK
          refine AWP_rg tab_ok [2, 7, 9, 10, 11, 12, 64, 65, 72, 73, 74] fun c st' hr => ?_
          simp only [go_sem] at hr
          obtain ⟨rfl, rfl⟩ := hr
          refine ⟨vc, ?_⟩
          with_reducible refine inBlockA_normal (thenC_normal ?_)
          refine AWP_facts (by simp) fun hfx => ?_
          simp only [factS, factV, fact1, fact0, factL0, lo, hi, maxLen, and_true, true_and] at hfx
          refine AWP_rg tab_ok [2, 7, 9, 10, 11, 12, 64, 65, 72, 73, 74] fun c st' hr => ?_
          simp only [go_sem] at hr
          obtain ⟨rfl, rfl⟩ := hr
          refine ⟨vc, ?_⟩
          clear hfx
          refine again_n (v3 ++ [((g_1.getD v4.toNat (0, 0)).2, (g_1.getD v4.toNat (0, 0)).1)], v4 + 1) [0, 1, 2, 6] hK mkWk
         ·replace hK := ite_f hK hb4
          refine AWP_skip ?_
          with_reducible refine thenC_normal ?_
          replace hK := chk_some hK
          obtain ⟨h4, hK⟩ := hK
          refine AWP_rg tab_ok [2, 7, 9, 10, 11, 12, 64, 65, 72, 73, 74] fun c st' hr => ?_
          simp only [go_sem] at hr
          obtain ⟨rfl, rfl⟩ := hr
          refine ⟨vc, ?_⟩
          with_reducible refine inBlockA_normal (thenC_normal ?_)
          refine AWP_facts (by simp) fun hfx => ?_
          simp only [factS, factV, fact1, fact0, factL0, lo, hi, maxLen, and_true, true_and] at hfx
          refine AWP_rg tab_ok [2, 7, 9, 10, 11, 12, 64, 65, 72, 73, 74] fun c st' hr => ?_
          simp only [go_sem] at hr
          obtain ⟨rfl, rfl⟩ := hr
          refine ⟨vc, ?_⟩
          clear hfx
          refine again_n (v3 ++ [((g_1.getD v4.toNat (0, 0)).1, (g_1.getD v4.toNat (0, 0)).2)], v4 + 1) [0, 1, 2, 6] hK mkWk
        ·replace hK := ite_f hK hb3
         refine AWP_exit ?_
         with_reducible refine thenC_exit (again_x ?_)
         refine cutX_here v3 [0, 1, 2, 3] (by have hq := hpost2 _ hK; exact hq) mkWk
       ·clear hK; rintro v5 hK
        try dsimp only at hK
        refine exS ⟨153, [(2, .ptr 0 0 0), (7, .own 1 y2.1.length), (9, .int .i64 (1 + y3)), (10, .int .i64 v), (12, .ptr 2 0 0), (64, .int .i64 (2 ^ (g_1.length : Int).toNat : Int)), (65, .int .i64 v1)], [some (.gen 24 2 [[.int .i64 g_0, .fn 2 g_1.length (fun i => [.int .i64 ((g_1.getD i (0, 0)).1), .int .i64 ((g_1.getD i (0, 0)).2)])]]), some (.ints 2 .i64 y2.1), some (.gen 24 2 [[.int .i64 g_0, .own 3 v5.length]]), some (.gen 32 2 (List.map (fun e => [.int .i64 e.1, .int .i64 e.2]) v5))]⟩ rfl ?_
        with_reducible refine inBlockA_exit (thenC_normal ?_)
        refine AWP_seq ?_
        refine AWP_seq ?_
        refine AWP_rl ?_
        refine AWPL_rn tab_ok 1 [2, 7, 9, 10, 12, 64, 65, 95] fun c st' hr => ?_
        simp only [go_sem] at hr
        obtain ⟨rfl, rfl⟩ := hr
        refine ⟨vc, ?_⟩
        replace hK := bind_s hK
        obtain ⟨y5, hy, hK⟩ := hK
        refine AWPL_callK [2, 7, 9, 10, 12, 64, 65, 96] (W_rotakeep_ringed hy) rfl rfl pcT rfl Tryd.call9 (.cons (.agg _ _ rfl (ArgsOk.get (.cons (.atom _ rfl) (.cons (.ownEnc (fun e => [.int .i64 e.1, .int .i64 e.2]) (0, 0) v5 (by first | rfl | (simp; done)) (by first | rfl | (simp; done)) (fun _ => rfl) (fun _ => rfl)) .nil))).2) .nil) (hscG trivial) (of_decide_eq_true rfl) (by first | rfl | simp [nI, nI1, nI0]) (by first | rfl | simp [nIB, nI0]) fun st' hr => ?_
        simp only [go_sem] at hr
        subst hr
        clear hy
        refine AWPL_nil ?_
        with_reducible refine thenC_normal ?_
        refine AWP_condP (y5 = true) rfl bd (fun hb5 => ?_) (fun hb5 => ?_)
        ·replace hK := ite_t hK hb5
         refine AWP_exit ?_
         with_reducible refine thenC_exit (inBlockA_exit (thenC_normal ?_))
         refine AWP_facts (by simp) fun hfx => ?_
         simp only [factS, factV, fact1, fact0, factL0, lo, hi, maxLen, and_true, true_and] at hfx
         refine AWP_rg tab_ok [2, 7, 9, 10, 64, 65] fun c st' hr => ?_
         simp only [go_sem] at hr
         obtain ⟨rfl, rfl⟩ := hr
         refine ⟨vc, ?_⟩
         clear hfx
         refine again_n (v, v1 + 1) [0, 1] hK mkWk
        ·replace hK := ite_f hK hb5
         refine AWP_skip ?_
         with_reducible refine thenC_normal ?_
         refine AWP_seq ?_
         refine AWP_rl ?_
         refine AWPL_rn tab_ok 3 [2, 7, 9, 10, 12, 64, 65, 97, 99] fun c st' hr => ?_
         simp only [go_sem] at hr
         obtain ⟨rfl, rfl⟩ := hr
         refine ⟨vc, ?_⟩
         replace hK := bind_s hK
         obtain ⟨y6, hy, hK⟩ := hK
         refine AWPL_callK [2, 7, 9, 10, 12, 64, 65, 100] (W_rotakeep_power hy) rfl rfl pcT rfl Tryd.call10 (.cons (.atom _ rfl) (.cons (.atom _ rfl) .nil)) (hscG trivial) (of_decide_eq_true rfl) (by first | rfl | simp [nI, nI1, nI0]) (by first | rfl | simp [nIB, nI0]) fun st' hr => ?_
         simp only [go_sem] at hr
         subst hr
         clear hy
         refine AWPL_rn tab_ok 1 [2, 7, 9, 10, 12, 64, 65, 100, 101] fun c st' hr => ?_
         simp only [go_sem] at hr
         obtain ⟨rfl, rfl⟩ := hr
         refine ⟨vc, ?_⟩
         refine AWPL_nil ?_
         with_reducible refine thenC_normal ?_
         refine AWP_block ?_
         refine AWP_loopX 4 (fun ((v6, v7) : Int × Int) => ⟨153, [(2, .ptr 0 0 0), (7, .own 1 y2.1.length), (9, .int .i64 (1 + y3)), (10, .int .i64 v6), (12, .ptr 2 0 0), (64, .int .i64 (2 ^ (g_1.length : Int).toNat : Int)), (65, .int .i64 v1), (100, .int .i64 y6), (101, .int .i64 v7)], [some (.gen 24 2 [[.int .i64 g_0, .fn 2 g_1.length (fun i => [.int .i64 ((g_1.getD i (0, 0)).1), .int .i64 ((g_1.getD i (0, 0)).2)])]]), some (.ints 2 .i64 y2.1), some (.gen 24 2 [[.int .i64 g_0, .own 3 v5.length]]), some (.gen 32 2 (List.map (fun e => [.int .i64 e.1, .int .i64 e.2]) v5))]⟩) (fun (v8 : Int) => ⟨153, [(2, .ptr 0 0 0), (7, .own 1 y2.1.length), (9, .int .i64 (1 + y3)), (10, .int .i64 v8), (64, .int .i64 (2 ^ (g_1.length : Int).toNat : Int)), (65, .int .i64 v1)], [some (.gen 24 2 [[.int .i64 g_0, .fn 2 g_1.length (fun i => [.int .i64 ((g_1.getD i (0, 0)).1), .int .i64 ((g_1.getD i (0, 0)).2)])]]), some (.ints 2 .i64 y2.1)]⟩) (fun v => v) (v, 0) [0, 1, 2, 3] hK mkWk ?_ ?_
         ·clear hK; rintro ⟨v6, v7⟩ b2 hK hpost3
          try dsimp only at hK
          change AWP _ _ _ _ ⟨153, [(2, .ptr 0 0 0), (7, .own 1 y2.1.length), (9, .int .i64 (1 + y3)), (10, .int .i64 v6), (12, .ptr 2 0 0), (64, .int .i64 (2 ^ (g_1.length : Int).toNat : Int)), (65, .int .i64 v1), (100, .int .i64 y6), (101, .int .i64 v7)], [some (.gen 24 2 [[.int .i64 g_0, .fn 2 g_1.length (fun i => [.int .i64 ((g_1.getD i (0, 0)).1), .int .i64 ((g_1.getD i (0, 0)).2)])]]), some (.ints 2 .i64 y2.1), some (.gen 24 2 [[.int .i64 g_0, .own 3 v5.length]]), some (.gen 32 2 (List.map (fun e => [.int .i64 e.1, .int .i64 e.2]) v5))]⟩
          refine AWP_seq ?_
          refine AWP_rg tab_ok [2, 7, 9, 10, 12, 64, 65, 100, 101, 102] fun c st' hr => ?_
          simp only [go_sem] at hr
          obtain ⟨rfl, rfl⟩ := hr
          refine ⟨vc, ?_⟩
          with_reducible refine thenC_normal ?_
          refine AWP_seq ?_
          refine AWP_condP (v7 < y6) rfl bd (fun hb6 => ?_) (fun hb6 => ?_)
          ·replace hK := ite_t hK hb6
           refine AWP_skip ?_
           with_reducible refine thenC_normal ?_
           refine AWP_seq ?_
           refine AWP_block ?_
           refine AWP_seq ?_
           refine AWP_rg tab_ok [2, 7, 9, 10, 12, 15, 64, 65, 100, 101] fun c st' hr => ?_
           simp only [go_sem] at hr
           obtain ⟨rfl, rfl⟩ := hr
           refine ⟨vc, ?_⟩
           with_reducible refine thenC_normal ?_
           refine AWP_seq ?_
           refine AWP_rg tab_ok [2, 7, 9, 10, 12, 15, 16, 64, 65, 100, 101] fun c st' hr => ?_
           simp only [go_sem] at hr
           obtain ⟨rfl, rfl⟩ := hr
           refine ⟨vc, ?_⟩
           with_reducible refine thenC_normal ?_
           refine AWP_seq ?_
           refine AWP_seq ?_
           refine AWP_rg tab_ok [2, 7, 9, 10, 12, 15, 16, 64, 65, 100, 101, 105, 106, 107] fun c st' hr => ?_
           simp only [go_sem] at hr
           obtain ⟨rfl, rfl⟩ := hr
           refine ⟨vc, ?_⟩
           with_reducible refine thenC_normal ?_
           refine AWP_block ?_
           refine AWP_loopX 6 (fun ((v9, v10) : Bool × Int) => ⟨153, [(2, .ptr 0 0 0), (7, .own 1 y2.1.length), (9, .int .i64 (1 + y3)), (10, .int .i64 v6), (12, .ptr 2 0 0), (15, .int .i64 v7), (16, .bool v9), (64, .int .i64 (2 ^ (g_1.length : Int).toNat : Int)), (65, .int .i64 v1), (100, .int .i64 y6), (101, .int .i64 v7), (105, .own 3 v5.length), (106, .int .i64 (v5.length : Int)), (107, .int .i64 v10)], [some (.gen 24 2 [[.int .i64 g_0, .fn 2 g_1.length (fun i => [.int .i64 ((g_1.getD i (0, 0)).1), .int .i64 ((g_1.getD i (0, 0)).2)])]]), some (.ints 2 .i64 y2.1), some (.gen 24 2 [[.int .i64 g_0, .own 3 v5.length]]), some (.gen 32 2 (List.map (fun e => [.int .i64 e.1, .int .i64 e.2]) v5))]⟩) (fun (v11 : Bool) => ⟨153, [(2, .ptr 0 0 0), (7, .own 1 y2.1.length), (9, .int .i64 (1 + y3)), (10, .int .i64 v6), (12, .ptr 2 0 0), (16, .bool v11), (64, .int .i64 (2 ^ (g_1.length : Int).toNat : Int)), (65, .int .i64 v1), (100, .int .i64 y6), (101, .int .i64 v7)], [some (.gen 24 2 [[.int .i64 g_0, .fn 2 g_1.length (fun i => [.int .i64 ((g_1.getD i (0, 0)).1), .int .i64 ((g_1.getD i (0, 0)).2)])]]), some (.ints 2 .i64 y2.1), some (.gen 24 2 [[.int .i64 g_0, .own 3 v5.length]]), some (.gen 32 2 (List.map (fun e => [.int .i64 e.1, .int .i64 e.2]) v5))]⟩) (fun v => v) (true, 0) [0, 1, 2, 3] hK mkWk ?_ ?_
           ·clear hK; rintro ⟨v9, v10⟩ b3 hK hpost4
            try dsimp only at hK
            change AWP _ _ _ _ ⟨153, [(2, .ptr 0 0 0), (7, .own 1 y2.1.length), (9, .int .i64 (1 + y3)), (10, .int .i64 v6), (12, .ptr 2 0 0), (15, .int .i64 v7), (16, .bool v9), (64, .int .i64 (2 ^ (g_1.length : Int).toNat : Int)), (65, .int .i64 v1), (100, .int .i64 y6), (101, .int .i64 v7), (105, .own 3 v5.length), (106, .int .i64 (v5.length : Int)), (107, .int .i64 v10)], [some (.gen 24 2 [[.int .i64 g_0, .fn 2 g_1.length (fun i => [.int .i64 ((g_1.getD i (0, 0)).1), .int .i64 ((g_1.getD i (0, 0)).2)])]]), some (.ints 2 .i64 y2.1), some (.gen 24 2 [[.int .i64 g_0, .own 3 v5.length]]), some (.gen 32 2 (List.map (fun e => [.int .i64 e.1, .int .i64 e.2]) v5))]⟩
            refine AWP_seq ?_
            refine AWP_rg tab_ok [2, 7, 9, 10, 12, 15, 16, 64, 65, 100, 101, 105, 106, 107, 108] fun c st' hr => ?_
            simp only [go_sem] at hr
            obtain ⟨rfl, rfl⟩ := hr
            refine ⟨vc, ?_⟩
            with_reducible refine thenC_normal ?_
            refine AWP_seq ?_
            refine AWP_condP (v10 < (v5.length : Int)) rfl bd (fun hb7 => ?_) (fun hb7 => ?_)
            ·replace hK := ite_t hK hb7
             refine AWP_skip ?_
             with_reducible refine thenC_normal ?_
             refine AWP_seq ?_
             refine AWP_block ?_
             refine AWP_seq ?_
             refine AWP_rl ?_
             replace hK := chk_some hK
             obtain ⟨h5, hK⟩ := hK
             refine AWPL_rn tab_ok 4 [2, 7, 9, 10, 12, 15, 16, 18, 64, 65, 100, 101, 105, 106, 107] fun c st' hr => ?_
             have hlb := ldE (fun e => [.int .i64 e.1, .int .i64 e.2]) ((0, 0)) (v5) (v10.toNat) (by first | omega | (simp only [List.length_set, List.length_replicate]; omega))
             simp only [go_sem, List.take_zero, List.nil_append, List.append_nil, List.drop_zero, List.length_replicate, List.length_set, hlb] at hr
             obtain ⟨rfl, rfl⟩ := hr
             refine ⟨vc, ?_⟩
             refine AWPL_stE ⟨153, [(2, .ptr 0 0 0), (7, .own 1 y2.1.length), (9, .int .i64 (1 + y3)), (10, .int .i64 v6), (12, .ptr 2 0 0), (15, .int .i64 v7), (16, .bool v9), (64, .int .i64 (2 ^ (g_1.length : Int).toNat : Int)), (65, .int .i64 v1), (100, .int .i64 y6), (101, .int .i64 v7), (105, .own 3 v5.length), (106, .int .i64 (v5.length : Int)), (107, .int .i64 v10), (18, .ptr 4 0 0)], [some (.gen 24 2 [[.int .i64 g_0, .fn 2 g_1.length (fun i => [.int .i64 ((g_1.getD i (0, 0)).1), .int .i64 ((g_1.getD i (0, 0)).2)])]]), some (.ints 2 .i64 y2.1), some (.gen 24 2 [[.int .i64 g_0, .own 3 v5.length]]), some (.gen 32 2 (List.map (fun e => [.int .i64 e.1, .int .i64 e.2]) v5)), some (.gen 32 2 [[.int .i64 ((v5.getD v10.toNat (0, 0)).1), .int .i64 ((v5.getD v10.toNat (0, 0)).2)]])]⟩ (by first | rfl | (simp; done) | (congr 3 <;> simp; done)) ?_
             refine AWPL_nil ?_
             with_reducible refine thenC_normal ?_
             refine AWP_drawQ mixed (by kernel_rfl) ?_
             refine AWQL_rn tab_ok 6 [2, 7, 9, 10, 12, 15, 18, 64, 65, 100, 101, 105, 106, 107, 112, 113, 114, 116] fun c st' hr => ?_
             simp only [go_sem] at hr
             obtain ⟨rfl, rfl⟩ := hr
             refine ⟨vc, ?_⟩
             replace hK := bind_s hK
             obtain ⟨y7, hy, hK⟩ := hK
             refine AWQL_callGP [2, 7, 9, 10, 12, 15, 18, 64, 65, 100, 101, 105, 106, 107, 112, 113, 117] (v9 = true) (fun hg => (W_rotakeep_power (ite_t hy hg))) rfl rfl pcG rfl Tryd.call10 (.cons (.atom _ rfl) (.cons (.atom _ rfl) .nil)) (fun hg => hscG hg) (of_decide_eq_true rfl) rfl fun st' hr => ?_
             simp only [go_sem] at hr
             subst hr
             clear hy
             replace hK := chk_some hK
             obtain ⟨h6, hK⟩ := hK
             refine AWQL_rn tab_ok 7 [2, 7, 9, 10, 12, 15, 64, 65, 100, 101, 105, 106, 107, 112, 120, 121, 122, 124] fun c st' hr => ?_
             simp only [go_sem] at hr
             obtain ⟨rfl, rfl⟩ := hr
             refine ⟨vc, ?_⟩
             replace hK := bind_s hK
             obtain ⟨y8, hy, hK⟩ := hK
             refine AWQL_callGP [2, 7, 9, 10, 12, 15, 64, 65, 100, 101, 105, 106, 107, 112, 120, 121, 125] (v9 = true) (fun hg => (W_rotakeep_power (ite_t hy hg))) rfl rfl pcG rfl Tryd.call10 (.cons (.atom _ rfl) (.cons (.atom _ rfl) .nil)) (fun hg => hscG hg) (of_decide_eq_true rfl) rfl fun st' hr => ?_
             simp only [go_sem] at hr
             subst hr
             clear hy
             replace hK := chk_some hK
             obtain ⟨h7, hK⟩ := hK
             refine AWQL_rn tab_ok 6 [2, 7, 9, 10, 12, 15, 16, 64, 65, 100, 101, 105, 106, 107] fun c st' hr => ?_
             simp only [go_sem] at hr
             obtain ⟨rfl, rfl⟩ := hr
             refine ⟨by clear hK hpost1 hpost3 hpost4; cases v9 <;> simp_all, ?_⟩
             refine AWQL_nil ?_
             with_reducible refine inBlockA_normal (thenC_normal ?_)
             refine AWP_facts (by simp) fun hfx => ?_
             simp only [factS, factV, fact1, fact0, factL0, lo, hi, maxLen, and_true, true_and] at hfx
             refine AWP_rg tab_ok [2, 7, 9, 10, 12, 15, 16, 64, 65, 100, 101, 105, 106, 107] fun c st' hr => ?_
             simp only [go_sem] at hr
             obtain ⟨rfl, rfl⟩ := hr
             refine ⟨vc, ?_⟩
             clear hfx
             refine again_n (decide ((v9 = true ∧ Int.tmod (Int.tdiv v7 y8) (1 + y3) ≤ Int.tmod (Int.tdiv v7 y7) (1 + y3))), v10 + 1) [0, 1, 2, 3] hK mkWk
            ·replace hK := ite_f hK hb7
             refine AWP_exit ?_
             with_reducible refine thenC_exit (again_x ?_)
             refine cutX_here v9 [0, 1, 2, 3] (by have hq := hpost4 _ hK; exact hq) mkWk
           ·clear hK; rintro v11 hK
            try dsimp only at hK
            refine exS ⟨153, [(2, .ptr 0 0 0), (7, .own 1 y2.1.length), (9, .int .i64 (1 + y3)), (10, .int .i64 v6), (12, .ptr 2 0 0), (16, .bool v11), (64, .int .i64 (2 ^ (g_1.length : Int).toNat : Int)), (65, .int .i64 v1), (100, .int .i64 y6), (101, .int .i64 v7)], [some (.gen 24 2 [[.int .i64 g_0, .fn 2 g_1.length (fun i => [.int .i64 ((g_1.getD i (0, 0)).1), .int .i64 ((g_1.getD i (0, 0)).2)])]]), some (.ints 2 .i64 y2.1), some (.gen 24 2 [[.int .i64 g_0, .own 3 v5.length]]), some (.gen 32 2 (List.map (fun e => [.int .i64 e.1, .int .i64 e.2]) v5))]⟩ rfl ?_
            with_reducible refine inBlockA_exit (thenC_normal ?_)
            refine AWP_seq ?_
            refine AWP_rg tab_ok [2, 7, 9, 10, 12, 64, 65, 100, 101, 132] fun c st' hr => ?_
            simp only [go_sem] at hr
            obtain ⟨rfl, rfl⟩ := hr
            refine ⟨vc, ?_⟩
            with_reducible refine thenC_normal ?_
            refine AWP_condP (v11 = true) rfl bd (fun hb8 => ?_) (fun hb8 => ?_)
            ·replace hK := ite_t hK hb8
             replace hK := chk_some hK
             obtain ⟨h8, hK⟩ := hK
             refine AWP_rg tab_ok [2, 7, 9, 10, 12, 64, 65, 100, 101] fun c st' hr => ?_
             simp only [go_sem] at hr
             obtain ⟨rfl, rfl⟩ := hr
             refine ⟨vc, ?_⟩
             with_reducible refine inBlockA_normal (thenC_normal ?_)
             refine AWP_facts (by simp) fun hfx => ?_
             simp only [factS, factV, fact1, fact0, factL0, lo, hi, maxLen, and_true, true_and] at hfx
             refine AWP_rg tab_ok [2, 7, 9, 10, 12, 64, 65, 100, 101] fun c st' hr => ?_
             simp only [go_sem] at hr
             obtain ⟨rfl, rfl⟩ := hr
             refine ⟨vc, ?_⟩
             clear hfx
             refine again_n (v6 + 1, v7 + 1) [0, 1, 2, 3] hK mkWk
            ·replace hK := ite_f hK hb8
             refine AWP_skip ?_
             with_reducible refine inBlockA_normal (thenC_normal ?_)
             refine AWP_facts (by simp) fun hfx => ?_
             simp only [factS, factV, fact1, fact0, factL0, lo, hi, maxLen, and_true, true_and] at hfx
             refine AWP_rg tab_ok [2, 7, 9, 10, 12, 64, 65, 100, 101] fun c st' hr => ?_
             simp only [go_sem] at hr
             obtain ⟨rfl, rfl⟩ := hr
             refine ⟨vc, ?_⟩
             clear hfx
             refine again_n (v6, v7 + 1) [0, 1, 2, 3] hK mkWk
          ·replace hK := ite_f hK hb6
           refine AWP_exit ?_
           with_reducible refine thenC_exit (again_x ?_)
           refine cutX_here v6 [0, 1] (by have hq := hpost3 _ hK; exact hq) mkWk
         ·clear hK; rintro v8 hK
          try dsimp only at hK
          refine exS ⟨153, [(2, .ptr 0 0 0), (7, .own 1 y2.1.length), (9, .int .i64 (1 + y3)), (10, .int .i64 v8), (64, .int .i64 (2 ^ (g_1.length : Int).toNat : Int)), (65, .int .i64 v1)], [some (.gen 24 2 [[.int .i64 g_0, .fn 2 g_1.length (fun i => [.int .i64 ((g_1.getD i (0, 0)).1), .int .i64 ((g_1.getD i (0, 0)).2)])]]), some (.ints 2 .i64 y2.1)]⟩ rfl ?_
          with_reducible refine inBlockA_exit (inBlockA_normal (thenC_normal ?_))
          refine AWP_facts (by simp) fun hfx => ?_
          simp only [factS, factV, fact1, fact0, factL0, lo, hi, maxLen, and_true, true_and] at hfx
          refine AWP_rg tab_ok [2, 7, 9, 10, 64, 65] fun c st' hr => ?_
          simp only [go_sem] at hr
          obtain ⟨rfl, rfl⟩ := hr
          refine ⟨vc, ?_⟩
          clear hfx
          refine again_n (v8, v1 + 1) [0, 1] hK mkWk
      ·replace hK := ite_f hK hb2
       refine AWP_exit ?_
       with_reducible refine thenC_exit (again_x ?_)
       refine cutX_here v [0, 1] (by have hq := hpost1 _ hK; exact hq) mkWk
     ·clear hK; rintro v2 hK
      try dsimp only at hK
      refine exS ⟨153, [(2, .ptr 0 0 0), (7, .own 1 y2.1.length), (9, .int .i64 (1 + y3)), (10, .int .i64 v2)], [some (.gen 24 2 [[.int .i64 g_0, .fn 2 g_1.length (fun i => [.int .i64 ((g_1.getD i (0, 0)).1), .int .i64 ((g_1.getD i (0, 0)).2)])]]), some (.ints 2 .i64 y2.1)]⟩ rfl ?_
      with_reducible refine inBlockA_exit (thenC_normal ?_)
      refine AWP_seq ?_
      refine AWP_rl ?_
      replace hK := chk_some hK
      obtain ⟨h9, hK⟩ := hK
      refine AWPL_rn tab_ok 3 [2, 10, 137, 139] fun c st' hr => ?_
      simp only [go_sem] at hr
      obtain ⟨rfl, rfl⟩ := hr
      refine ⟨vc, ?_⟩
      replace hK := bind_s hK
      obtain ⟨y9, hy, hK⟩ := hK
      refine AWPL_callK [2, 10, 140] (W_rotakeep_value hy) rfl rfl pcT rfl Tryd.call11 (.cons (.ownI _ _ _ _ _ y2.1 rfl (by simp) (by first | simp | exact List.take_of_length_le (by simp))) (.cons (.atom _ rfl) .nil)) (hscG trivial) (of_decide_eq_true rfl) (by first | rfl | simp [nI, nI1, nI0]) (by first | rfl | simp [nIB, nI0]) fun st' hr => ?_
      simp only [go_sem] at hr
      subst hr
      clear hy
      refine AWPL_rn tab_ok 1 [2, 10, 19] fun c st' hr => ?_
      simp only [go_sem] at hr
      obtain ⟨rfl, rfl⟩ := hr
      refine ⟨vc, ?_⟩
      refine AWPL_nil ?_
      with_reducible refine thenC_normal ?_
      refine AWP_seqJ (fun (v12, v13) => ⟨153, [(10, .int .i64 v2), (19, .ptr 0 0 0)], [some (.gen 51 2 [[.bool v12, .own 1 v13.length]]), some (.ints 64 .u32 v13)]⟩) hK ?_ ?_
      ·clear hK; intro j hK; try dsimp only at hK
       refine AWP_seq ?_
       refine AWP_rg tab_ok [10, 19, 144] fun c st' hr => ?_
       simp only [go_sem] at hr
       obtain ⟨rfl, rfl⟩ := hr
       refine ⟨vc, ?_⟩
       with_reducible refine thenC_normal ?_
       refine AWP_condP (Int.tmod g_0 2 = 1) rfl bd (fun hb9 => ?_) (fun hb9 => ?_)
       ·replace hK := ite_t hK hb9
        refine AWP_rl ?_
        refine AWPL_rn tab_ok 2 [10, 19, 145, 146] fun c st' hr => ?_
        simp only [go_sem] at hr
        obtain ⟨rfl, rfl⟩ := hr
        refine ⟨vc, ?_⟩
        replace hK := bind_s hK
        obtain ⟨y10, hy, hK⟩ := hK
        refine AWPL_gR [10, 19] [2, 3] [.ptr 0 0 0, .ptr 0 0 0] [some (.gen 24 2 [[.int .i64 g_0, .fn 2 g_1.length (fun i => [.int .i64 ((g_1.getD i (0, 0)).1), .int .i64 ((g_1.getD i (0, 0)).2)])]]), some (.ints 2 .i64 y2.1), some (.gen 51 2 [[.bool y10.1, .own 4 y10.2.length]]), none, some (.ints 64 .u32 y10.2)] (r' := .ptr 2 0 0) (W_rotabig_Int_Neg hy) rfl rfl pcT rfl Tryd.call12 (of_decide_eq_true rfl) ⟨rfl, rfl, trivial⟩ rfl (hscG trivial) (of_decide_eq_true rfl) rfl rfl rfl (of_decide_eq_true rfl) rfl fun st' hr => ?_
        simp only [go_sem] at hr
        subst hr
        clear hy
        refine AWPL_nil ?_
        refine join_n (y10.1, y10.2) [2, 4] hK mkWk
       ·replace hK := ite_f hK hb9
        refine AWP_skip ?_
        refine join_n (y9.1, y9.2) [2, 3] hK mkWk
      ·clear hK; intro q hK; obtain ⟨v12, v13⟩ := q
       try dsimp only at hK
       change AWP _ _ _ _ ⟨153, [(10, .int .i64 v2), (19, .ptr 0 0 0)], [some (.gen 51 2 [[.bool v12, .own 1 v13.length]]), some (.ints 64 .u32 v13)]⟩
       refine AWP_seq ?_
       refine AWP_rl ?_
       refine AWPL_rn tab_ok 1 [10, 148] fun c st' hr => ?_
       simp only [go_sem] at hr
       obtain ⟨rfl, rfl⟩ := hr
       refine ⟨vc, ?_⟩
       replace hK := bind_s hK
       obtain ⟨y11, hy, hK⟩ := hK
       refine AWPL_callK [10, 149] (W_rotabig_Int_String hy) rfl rfl pcT rfl Tryd.call13 (.cons (.ptrM _ _ _ _ _ _ _ rfl rfl rfl (ArgsOk.get (.cons (.atom _ rfl) (.cons (.ownI _ _ _ _ _ v13 rfl (by simp) (by first | simp | exact List.take_of_length_le (by simp))) .nil))).2) .nil) (hscG trivial) (of_decide_eq_true rfl) (by first | rfl | simp [nI, nI1, nI0]) (by first | rfl | simp [nIB, nI0]) fun st' hr => ?_
       simp only [go_sem] at hr
       subst hr
       clear hy
       refine AWPL_rn tab_ok 1 [149, 150] fun c st' hr => ?_
       simp only [go_sem] at hr
       obtain ⟨rfl, rfl⟩ := hr
       refine ⟨vc, ?_⟩
       replace hK := bind_s hK
       obtain ⟨y12, hy, hK⟩ := hK
       refine AWPL_callK [149, 151] (W_strconv_Itoa hy) rfl rfl pcT rfl Tryd.call14 (.cons (.atom _ rfl) .nil) (hscG trivial) (of_decide_eq_true rfl) (by first | rfl | simp [nI, nI1, nI0]) (by first | rfl | simp [nIB, nI0]) fun st' hr => ?_
       simp only [go_sem] at hr
       subst hr
       clear hy
       refine AWPL_rn tab_ok 2 [4] fun c st' hr => ?_
       simp only [go_sem] at hr
       obtain ⟨rfl, rfl⟩ := hr
       refine ⟨vc, ?_⟩
       refine AWPL_nil ?_
       with_reducible refine thenC_normal ?_
       refine AWP_ret ?_
       cases hK
       refine EndsRW [] (.inl rfl) (of_decide_eq_true rfl) (by simp) rfl (fun c x hr => ?_) trivial
       simp only [go_sem] at hr
       obtain ⟨rfl, rfl⟩ := hr
       exact ⟨rfl, endR⟩
  ·replace hK := ite_f hK hg
   refine AWPL_stP [(1, .int .i64 a1), (2, .ptr 0 0 0), (27, .bool true), (28, .opt false (.own 1 y.1.length))] (by first | (simp [SameS, AX.look, hg]; done) | (simp at hg ⊢; simp [SameS, AX.look, hg]; done) | (simp_all [SameS, AX.look]; done)) ?_
   refine AWPL_skipV [1, 2, 27, 28, 29] (.junk) rfl pcF (of_decide_eq_true rfl) fun st' hr => ?_
   simp only [go_sem] at hr
   subst hr
   refine AWPL_skipV [1, 2, 27, 30] (.bool false) rfl pcF (of_decide_eq_true rfl) fun st' hr => ?_
   simp only [go_sem] at hr
   subst hr
   refine AWPL_rn tab_ok 2 [1, 2, 32] fun c st' hr => ?_
   simp only [go_sem] at hr
   obtain ⟨rfl, rfl⟩ := hr
   refine ⟨vc, ?_⟩
   refine AWPL_nil ?_
   with_reducible refine thenC_normal ?_
   refine AWP_condP (True) rfl bd (fun hb10 => ?_) (fun hb10 => ?_)
   rotate_left 1
   ·exact absurd trivial hb10
   clear hb10
   refine AWP_seq ?_
   refine AWP_rg tab_ok [4] fun c st' hr => ?_
   simp only [go_sem] at hr
   obtain ⟨rfl, rfl⟩ := hr
   refine ⟨vc, ?_⟩
   with_reducible refine thenC_normal ?_
   refine AWP_ret ?_
   with_reducible refine thenC_ret ?_
   cases hK
   refine EndsRW [] (.inl rfl) (of_decide_eq_true rfl) (by simp) rfl (fun c x hr => ?_) trivial
   simp only [go_sem] at hr
   obtain ⟨rfl, rfl⟩ := hr
   exact ⟨rfl, endR⟩

end Go.SH
