/-
  That the code computes these functions: rotakeep_TutteFlows. By a program of mine (shal.py). Conditions: none.
-/
import Derived.Test.YtlpikingpnenkaaDoorAxT
import Derived.Test.YtlpikingpnenkaaDoorAxR
import Derived.Test.YtlpikingpnenkaaDoorSkTutteFlows
import Derived.Test.YtlpikingpnenkaaDoorWprotabig
import Derived.Test.YtlpikingpnenkaaDoorWprotakeep
import Derived.Test.YtlpikingpnenkaaDoorWprotalaw
import Derived.Test.YtlpikingpnenkaaDoorWprotaref
import Derived.Test.YtlpikingpnenkaaDoorWpslices
import Derived.Test.YtlpikingpnenkaaDoorWpstrconv
import Derived.Test.YtlpikingpnenkaaDoorWptutte
set_option linter.unusedVariables false
set_option linter.unusedSimpArgs false
set_option maxRecDepth 8000
set_option maxHeartbeats 4000000
namespace Go.SH
open Go Go.AX Go.AX.Tryd Go.Proofs


theorem W_rotakeep_TutteFlows {g_0 : Int} {g_1 : List (Int × Int)} {a1 : Int} {r : Bool} (hK : rotakeep_TutteFlows g_0 g_1 a1 = some r) : Pure Tryd.prog 4 [.agg [.int .i64 g_0, .fn 2 g_1.length (fun i => [.int .i64 ((g_1.getD i (0, 0)).1), .int .i64 ((g_1.getD i (0, 0)).2)])], .int .i64 a1] (.bool r) [] := by
  refine Pure_introF tab_ok (n := 105) (l := [.tmp 4]) Tryd.func4 rfl rfl rfl (by simp) fun hfact w0 => ?_
  simp only [factL1, fact1, fact0, factL0, lo, hi, maxLen, and_true] at hfact
  unfold rotakeep_TutteFlows at hK
  refine AWP_seq ?_
  refine AWP_rg tab_ok [1, 2] fun c st' hr => ?_
  simp only [go_sem] at hr
  obtain ⟨rfl, rfl⟩ := hr
  refine ⟨vc, ?_⟩
  with_reducible refine thenC_normal ?_
  refine AWP_seq ?_
  refine AWP_seq ?_
  refine AWP_rl ?_
  refine AWPL_rn tab_ok 3 [1, 2, 19] fun c st' hr => ?_
  simp only [go_sem] at hr
  obtain ⟨rfl, rfl⟩ := hr
  refine ⟨vc, ?_⟩
  replace hK := bind_s hK
  obtain ⟨y, hy, hK⟩ := hK
  refine AWPL_callK [1, 2, 20] (W_tutte_Flow hy) rfl rfl pcT rfl Tryd.call15 (.cons (.agg _ _ rfl (ArgsOk.get (.cons (.atom _ rfl) (.cons (.ownEnc (fun e => [.int .i64 e.1, .int .i64 e.2]) (0, 0) [(0, 0)] (by first | rfl | (simp; done)) (by first | rfl | (simp; done)) (fun _ => rfl) (fun _ => rfl)) .nil))).2) .nil) (hscG trivial) (of_decide_eq_true rfl) (by first | rfl | simp [nI, nI1, nI0]) (by first | rfl | simp [nIB, nI0]) fun st' hr => ?_
  simp only [go_sem] at hr
  subst hr
  clear hy
  refine AWPL_rn tab_ok 5 [1, 2, 5, 6] fun c st' hr => ?_
  simp only [go_sem] at hr
  obtain ⟨rfl, rfl⟩ := hr
  refine ⟨vc, ?_⟩
  refine AWPL_nil ?_
  with_reducible refine thenC_normal ?_
  refine AWP_seq ?_
  refine AWP_rl ?_
  refine AWPL_rn tab_ok 4 [1, 2, 25, 26] fun c st' hr => ?_
  simp only [go_sem] at hr
  obtain ⟨rfl, rfl⟩ := hr
  refine ⟨vc, ?_⟩
  by_cases hg : ¬ (y.2 ≠ 0)
  ·replace hK := ite_t hK hg
   refine AWPL_stP [(1, .int .i64 a1), (2, .ptr 0 0 0), (25, .bool false), (26, .opt true (.own 2 y.1.length))] (by first | (simp [SameS, AX.look, hg]; done) | (simp at hg ⊢; simp [SameS, AX.look, hg]; done) | (simp_all [SameS, AX.look]; done)) ?_
   refine AWPL_effT tab_ok [1, 2, 25, 26, 27] pcT fun c st' hr => ?_
   simp only [go_sem] at hr
   obtain ⟨rfl, rfl⟩ := hr
   refine ⟨vc, ?_⟩
   replace hK := bind_s hK
   obtain ⟨y1, hy, hK⟩ := hK
   refine AWPL_callK [1, 2, 25, 28] (W_rotalaw_Same_int64 hy) rfl rfl pcT rfl Tryd.call6 (.cons (.ownI _ _ _ _ _ y.1 rfl (by simp) (by first | simp | exact List.take_of_length_le (by simp))) (.cons (.ownI _ _ _ _ _ [(-1), 1] rfl (by simp) (by first | simp | exact List.take_of_length_le (by simp))) .nil)) (hscG trivial) (of_decide_eq_true rfl) (by first | rfl | simp [nI, nI1, nI0]) (by first | rfl | simp [nIB, nI0]) fun st' hr => ?_
   simp only [go_sem] at hr
   subst hr
   clear hy
   refine AWPL_rn tab_ok 2 [1, 2, 30] fun c st' hr => ?_
   simp only [go_sem] at hr
   obtain ⟨rfl, rfl⟩ := hr
   refine ⟨vc, ?_⟩
   refine AWPL_nil ?_
   with_reducible refine thenC_normal ?_
   refine AWP_condP (¬ (y1 = true)) rfl bd (fun hb => ?_) (fun hb => ?_)
   ·replace hK := ite_t hK hb
    refine AWP_seq ?_
    refine AWP_rg tab_ok [4] fun c st' hr => ?_
    simp only [go_sem] at hr
    obtain ⟨rfl, rfl⟩ := hr
    refine ⟨vc, ?_⟩
    with_reducible refine thenC_normal ?_
    refine AWP_ret ?_
    with_reducible refine thenC_ret ?_
    cases hK
    refine EndsRW [] (.inl rfl) (of_decide_eq_true rfl) (by simp) rfl (fun c x hr => ?_) trivial
    simp only [go_sem] at hr
    obtain ⟨rfl, rfl⟩ := hr
    exact ⟨rfl, endR⟩
   ·replace hK := ite_f hK hb
    refine AWP_skip ?_
    with_reducible refine thenC_normal ?_
    refine AWP_seq ?_
    refine AWP_rl ?_
    refine AWPL_rn tab_ok 1 [1, 2, 32] fun c st' hr => ?_
    simp only [go_sem] at hr
    obtain ⟨rfl, rfl⟩ := hr
    refine ⟨vc, ?_⟩
    replace hK := bind_s hK
    obtain ⟨y2, hy, hK⟩ := hK
    refine AWPL_callK [1, 2, 33] (W_tutte_Flow hy) rfl rfl pcT rfl Tryd.call15 (.cons (.agg _ _ rfl (ArgsOk.get (.cons (.atom _ rfl) (.cons (.atom _ rfl) .nil))).2) .nil) (hscG trivial) (of_decide_eq_true rfl) (by first | rfl | simp [nI, nI1, nI0]) (by first | rfl | simp [nIB, nI0]) fun st' hr => ?_
    simp only [go_sem] at hr
    subst hr
    clear hy
    refine AWPL_rn tab_ok 5 [1, 2, 7, 8] fun c st' hr => ?_
    simp only [go_sem] at hr
    obtain ⟨rfl, rfl⟩ := hr
    refine ⟨vc, ?_⟩
    refine AWPL_nil ?_
    with_reducible refine thenC_normal ?_
    refine AWP_seq ?_
    refine AWP_seq ?_
    refine AWP_rg tab_ok [1, 2, 7, 37] fun c st' hr => ?_
    simp only [go_sem] at hr
    obtain ⟨rfl, rfl⟩ := hr
    refine ⟨vc, ?_⟩
    with_reducible refine thenC_normal ?_
    refine AWP_condP (y2.2 ≠ 0) rfl bd (fun hb1 => ?_) (fun hb1 => ?_)
    ·replace hK := ite_t hK hb1
     refine AWP_seq ?_
     refine AWP_rg tab_ok [4] fun c st' hr => ?_
     simp only [go_sem] at hr
     obtain ⟨rfl, rfl⟩ := hr
     refine ⟨vc, ?_⟩
     with_reducible refine thenC_normal ?_
     refine AWP_ret ?_
     with_reducible refine thenC_ret ?_
     cases hK
     refine EndsRW [] (.inl rfl) (of_decide_eq_true rfl) (by simp) rfl (fun c x hr => ?_) trivial
     simp only [go_sem] at hr
     obtain ⟨rfl, rfl⟩ := hr
     exact ⟨rfl, endR⟩
    ·replace hK := ite_f hK hb1
     refine AWP_skip ?_
     with_reducible refine thenC_normal ?_
     refine AWP_seq ?_
     refine AWP_rl ?_
     refine AWPL_rn tab_ok 1 [2, 7, 41] fun c st' hr => ?_
     simp only [go_sem] at hr
     obtain ⟨rfl, rfl⟩ := hr
     refine ⟨vc, ?_⟩
     replace hK := bind_s hK
     obtain ⟨y3, hy, hK⟩ := hK
     refine AWPL_callK [2, 7, 42] (W_rotaref_Pick hy) rfl rfl pcT rfl Tryd.call7 (.cons (.atom _ rfl) (.cons (.atom _ rfl) .nil)) (hscG trivial) (of_decide_eq_true rfl) (by first | rfl | simp [nI, nI1, nI0]) (by first | rfl | simp [nIB, nI0]) fun st' hr => ?_
     simp only [go_sem] at hr
     subst hr
     clear hy
     replace hK := chk_some hK
     obtain ⟨h, hK⟩ := hK
     refine AWPL_rn tab_ok 3 [2, 7, 9] fun c st' hr => ?_
     simp only [go_sem] at hr
     obtain ⟨rfl, rfl⟩ := hr
     refine ⟨vc, ?_⟩
     refine AWPL_nil ?_
     with_reducible refine thenC_normal ?_
     refine AWP_seq ?_
     refine AWP_rg tab_ok [2, 7, 9, 10] fun c st' hr => ?_
     simp only [go_sem] at hr
     obtain ⟨rfl, rfl⟩ := hr
     refine ⟨vc, ?_⟩
     with_reducible refine thenC_normal ?_
     refine AWP_seq ?_
     refine AWP_seq ?_
     refine AWP_rl ?_
     replace hK := chk_some hK
     obtain ⟨h1, hK⟩ := hK
     refine AWPL_rn tab_ok 5 [2, 7, 9, 10, 45, 48] fun c st' hr => ?_
     simp only [go_sem] at hr
     obtain ⟨rfl, rfl⟩ := hr
     refine ⟨vc, ?_⟩
     replace hK := bind_s hK
     obtain ⟨y4, hy, hK⟩ := hK
     refine AWPL_callK [2, 7, 9, 10, 49] (W_rotakeep_power hy) rfl rfl pcT rfl Tryd.call10 (.cons (.atom _ rfl) (.cons (.atom _ rfl) .nil)) (hscG trivial) (of_decide_eq_true rfl) (by first | rfl | simp [nI, nI1, nI0]) (by first | rfl | simp [nIB, nI0]) fun st' hr => ?_
     simp only [go_sem] at hr
     subst hr
     clear hy
     refine AWPL_rn tab_ok 1 [2, 7, 9, 10, 49, 50] fun c st' hr => ?_
     simp only [go_sem] at hr
     obtain ⟨rfl, rfl⟩ := hr
     refine ⟨vc, ?_⟩
     refine AWPL_nil ?_
     with_reducible refine thenC_normal ?_
     refine AWP_block ?_
     refine AWP_loopX 0 (fun ((v, v1) : Int × Int) => ⟨105, [(2, .ptr 0 0 0), (7, .own 1 y2.1.length), (9, .ptr 2 0 0), (10, .int .i64 v), (49, .int .i64 y4), (50, .int .i64 v1)], [some (.gen 24 2 [[.int .i64 g_0, .fn 2 g_1.length (fun i => [.int .i64 ((g_1.getD i (0, 0)).1), .int .i64 ((g_1.getD i (0, 0)).2)])]]), some (.ints 2 .i64 y2.1), some (.ints 3 .i64 [1 + y3])]⟩) (fun (v2 : Int) => ⟨105, [(7, .own 0 y2.1.length), (9, .ptr 1 0 0), (10, .int .i64 v2)], [some (.ints 2 .i64 y2.1), some (.ints 3 .i64 [1 + y3])]⟩) (fun v => v) (0, 0) [0, 4, 5] hK mkWk ?_ ?_
     ·clear hK; rintro ⟨v, v1⟩ b hK hpost1
      try dsimp only at hK
      change AWP _ _ _ _ ⟨105, [(2, .ptr 0 0 0), (7, .own 1 y2.1.length), (9, .ptr 2 0 0), (10, .int .i64 v), (49, .int .i64 y4), (50, .int .i64 v1)], [some (.gen 24 2 [[.int .i64 g_0, .fn 2 g_1.length (fun i => [.int .i64 ((g_1.getD i (0, 0)).1), .int .i64 ((g_1.getD i (0, 0)).2)])]]), some (.ints 2 .i64 y2.1), some (.ints 3 .i64 [1 + y3])]⟩
      refine AWP_seq ?_
      refine AWP_rg tab_ok [2, 7, 9, 10, 49, 50, 51] fun c st' hr => ?_
      simp only [go_sem] at hr
      obtain ⟨rfl, rfl⟩ := hr
      refine ⟨vc, ?_⟩
      with_reducible refine thenC_normal ?_
      refine AWP_seq ?_
      refine AWP_condP (v1 < y4) rfl bd (fun hb2 => ?_) (fun hb2 => ?_)
      ·replace hK := ite_t hK hb2
       refine AWP_skip ?_
       with_reducible refine thenC_normal ?_
       refine AWP_seq ?_
       refine AWP_block ?_
       refine AWP_seq ?_
       refine AWP_rg tab_ok [2, 7, 9, 10, 11, 49, 50] fun c st' hr => ?_
       simp only [go_sem] at hr
       obtain ⟨rfl, rfl⟩ := hr
       refine ⟨vc, ?_⟩
       with_reducible refine thenC_normal ?_
       refine AWP_seq ?_
       replace hK := chk_some hK
       obtain ⟨h2, hK⟩ := hK
       refine AWP_rg tab_ok [2, 7, 9, 10, 11, 12, 49, 50] fun c st' hr => ?_
       simp only [go_sem] at hr
       obtain ⟨rfl, rfl⟩ := hr
       refine ⟨vc, ?_⟩
       with_reducible refine thenC_normal ?_
       refine AWP_seq ?_
       refine AWP_seq ?_
       refine AWP_rg tab_ok [2, 7, 9, 10, 11, 12, 49, 50, 57, 58, 59] fun c st' hr => ?_
       simp only [go_sem] at hr
       obtain ⟨rfl, rfl⟩ := hr
       refine ⟨vc, ?_⟩
       with_reducible refine thenC_normal ?_
       refine AWP_block ?_
       refine AWP_loopX 2 (fun ((v3, v4) : List Int × Int) => ⟨105, [(2, .ptr 0 0 0), (7, .own 1 y2.1.length), (9, .ptr 2 0 0), (10, .int .i64 v), (11, .int .i64 v1), (12, .own 3 v3.length), (49, .int .i64 y4), (50, .int .i64 v1), (57, .fn 2 g_1.length (fun i => [.int .i64 ((g_1.getD i (0, 0)).1), .int .i64 ((g_1.getD i (0, 0)).2)])), (58, .int .i64 (g_1.length : Int)), (59, .int .i64 v4)], [some (.gen 24 2 [[.int .i64 g_0, .fn 2 g_1.length (fun i => [.int .i64 ((g_1.getD i (0, 0)).1), .int .i64 ((g_1.getD i (0, 0)).2)])]]), some (.ints 2 .i64 y2.1), some (.ints 3 .i64 [1 + y3]), some (.ints 3 .i64 v3)]⟩) (fun (v5 : List Int) => ⟨105, [(2, .ptr 0 0 0), (7, .own 1 y2.1.length), (9, .ptr 2 0 0), (10, .int .i64 v), (12, .own 3 v5.length), (49, .int .i64 y4), (50, .int .i64 v1)], [some (.gen 24 2 [[.int .i64 g_0, .fn 2 g_1.length (fun i => [.int .i64 ((g_1.getD i (0, 0)).1), .int .i64 ((g_1.getD i (0, 0)).2)])]]), some (.ints 2 .i64 y2.1), some (.ints 3 .i64 [1 + y3]), some (.ints 3 .i64 v5)]⟩) (fun v => v) (List.replicate g_0.toNat 0, 0) [0, 1, 2, 3] hK mkWk ?_ ?_
       ·clear hK; rintro ⟨v3, v4⟩ b1 hK hpost2
        try dsimp only at hK
        change AWP _ _ _ _ ⟨105, [(2, .ptr 0 0 0), (7, .own 1 y2.1.length), (9, .ptr 2 0 0), (10, .int .i64 v), (11, .int .i64 v1), (12, .own 3 v3.length), (49, .int .i64 y4), (50, .int .i64 v1), (57, .fn 2 g_1.length (fun i => [.int .i64 ((g_1.getD i (0, 0)).1), .int .i64 ((g_1.getD i (0, 0)).2)])), (58, .int .i64 (g_1.length : Int)), (59, .int .i64 v4)], [some (.gen 24 2 [[.int .i64 g_0, .fn 2 g_1.length (fun i => [.int .i64 ((g_1.getD i (0, 0)).1), .int .i64 ((g_1.getD i (0, 0)).2)])]]), some (.ints 2 .i64 y2.1), some (.ints 3 .i64 [1 + y3]), some (.ints 3 .i64 v3)]⟩
        refine AWP_seq ?_
        refine AWP_rg tab_ok [2, 7, 9, 10, 11, 12, 49, 50, 57, 58, 59, 60] fun c st' hr => ?_
        simp only [go_sem] at hr
        obtain ⟨rfl, rfl⟩ := hr
        refine ⟨vc, ?_⟩
        with_reducible refine thenC_normal ?_
        refine AWP_seq ?_
        refine AWP_condP (v4 < (g_1.length : Int)) rfl bd (fun hb3 => ?_) (fun hb3 => ?_)
        ·replace hK := ite_t hK hb3
         refine AWP_skip ?_
         with_reducible refine thenC_normal ?_
         refine AWP_seq ?_
         refine AWP_block ?_
         refine AWP_seq ?_
         replace hK := chk_some hK
         obtain ⟨h3, hK⟩ := hK
         refine AWP_rg tab_ok [2, 7, 9, 10, 11, 12, 13, 14, 49, 50, 57, 58, 59] fun c st' hr => ?_
         simp only [go_sem] at hr
         obtain ⟨rfl, rfl⟩ := hr
         refine ⟨vc, ?_⟩
         with_reducible refine thenC_normal ?_
         refine AWP_seq ?_
         refine AWP_drawQ mixed (by kernel_rfl) ?_
         replace hK := chk_some hK
         obtain ⟨h4, hK⟩ := hK
         refine AWQL_rn tab_ok 4 [2, 7, 9, 10, 11, 12, 14, 49, 50, 57, 58, 59, 64, 66, 67] fun c st' hr => ?_
         simp only [go_sem] at hr
         obtain ⟨rfl, rfl⟩ := hr
         refine ⟨vc, ?_⟩
         replace hK := bind_s hK
         obtain ⟨y5, hy, hK⟩ := hK
         refine AWQL_callK [2, 7, 9, 10, 11, 12, 14, 49, 50, 57, 58, 59, 64, 68] (W_rotakeep_power hy) rfl rfl pcT rfl Tryd.call10 (.cons (.atom _ rfl) (.cons (.atom _ rfl) .nil)) (hscG trivial) (of_decide_eq_true rfl) rfl fun st' hr => ?_
         simp only [go_sem] at hr
         subst hr
         clear hy
         replace hK := chk_some hK
         obtain ⟨h5, hK⟩ := hK
         refine AWQL_rn tab_ok 6 [2, 7, 9, 10, 11, 12, 14, 15, 49, 50, 57, 58, 59] fun c st' hr => ?_
         simp only [go_sem] at hr
         obtain ⟨rfl, rfl⟩ := hr
         refine ⟨vc, ?_⟩
         refine AWQL_nil ?_
         with_reducible refine thenC_normal ?_
         refine AWP_seq ?_
         replace hK := chk_some hK
         obtain ⟨h6, hK⟩ := hK
         refine AWP_rg tab_ok [2, 7, 9, 10, 11, 12, 14, 15, 49, 50, 57, 58, 59] fun c st' hr => ?_
         simp only [go_sem] at hr
         obtain ⟨rfl, rfl⟩ := hr
         refine ⟨vc, ?_⟩
         with_reducible refine thenC_normal ?_
         replace hK := chk_some hK
         obtain ⟨h7, hK⟩ := hK
         refine AWP_rg tab_ok [2, 7, 9, 10, 11, 12, 49, 50, 57, 58, 59] fun c st' hr => ?_
         simp only [go_sem] at hr
         obtain ⟨rfl, rfl⟩ := hr
         refine ⟨vc, ?_⟩
         with_reducible refine inBlockA_normal (thenC_normal ?_)
         refine AWP_facts (by simp) fun hfx => ?_
         simp only [factS, factV, fact1, fact0, factL0, lo, hi, maxLen, and_true, true_and] at hfx
         refine AWP_rg tab_ok [2, 7, 9, 10, 11, 12, 49, 50, 57, 58, 59] fun c st' hr => ?_
         simp only [go_sem] at hr
         obtain ⟨rfl, rfl⟩ := hr
         refine ⟨vc, ?_⟩
         clear hfx
         refine again_n ((v3.set ((g_1.getD v4.toNat (0, 0)).1).toNat ((v3.getD ((g_1.getD v4.toNat (0, 0)).1).toNat 0) + (1 + (Int.tmod (Int.tdiv v1 y5) ((1 + y3) - 1))))).set ((g_1.getD v4.toNat (0, 0)).2).toNat (((v3.set ((g_1.getD v4.toNat (0, 0)).1).toNat ((v3.getD ((g_1.getD v4.toNat (0, 0)).1).toNat 0) + (1 + (Int.tmod (Int.tdiv v1 y5) ((1 + y3) - 1))))).getD ((g_1.getD v4.toNat (0, 0)).2).toNat 0) - (1 + (Int.tmod (Int.tdiv v1 y5) ((1 + y3) - 1)))), v4 + 1) [0, 1, 2, 3] hK mkWk
        ·replace hK := ite_f hK hb3
         refine AWP_exit ?_
         with_reducible refine thenC_exit (again_x ?_)
         refine cutX_here v3 [0, 1, 2, 3] (by have hq := hpost2 _ hK; exact hq) mkWk
       ·clear hK; rintro v5 hK
        try dsimp only at hK
        refine exS ⟨105, [(2, .ptr 0 0 0), (7, .own 1 y2.1.length), (9, .ptr 2 0 0), (10, .int .i64 v), (12, .own 3 v5.length), (49, .int .i64 y4), (50, .int .i64 v1)], [some (.gen 24 2 [[.int .i64 g_0, .fn 2 g_1.length (fun i => [.int .i64 ((g_1.getD i (0, 0)).1), .int .i64 ((g_1.getD i (0, 0)).2)])]]), some (.ints 2 .i64 y2.1), some (.ints 3 .i64 [1 + y3]), some (.ints 3 .i64 v5)]⟩ rfl ?_
        with_reducible refine inBlockA_exit (thenC_normal ?_)
        refine AWP_seq ?_
        refine AWP_rl ?_
        refine AWPL_rn tab_ok 2 [2, 7, 9, 10, 49, 50, 91, 92] fun c st' hr => ?_
        simp only [go_sem] at hr
        obtain ⟨rfl, rfl⟩ := hr
        refine ⟨vc, ?_⟩
        replace hK := bind_s hK
        obtain ⟨y6, hy, hK⟩ := hK
        refine AWPL_callK [2, 7, 9, 10, 49, 50, 93] (W_slices_ContainsFunc_int_int Tryd.call17 rfl (fun _ _ hh => by simpa using W_rotakeep_TutteFlows_1 hh) hy) rfl rfl pcT rfl Tryd.call16 (.cons (.ownI _ _ _ _ _ v5 rfl (by simp) (by first | simp | exact List.take_of_length_le (by simp))) (.cons (.funcOf (.cons (.ptrI _ _ _ _ _ _ rfl rfl) .nil)) .nil)) (hscG trivial) (of_decide_eq_true rfl) (by first | rfl | simp [nI, nI1, nI0]) (by first | rfl | simp [nIB, nI0]) fun st' hr => ?_
        simp only [go_sem] at hr
        subst hr
        clear hy
        refine AWPL_rn tab_ok 1 [2, 7, 9, 10, 49, 50, 94] fun c st' hr => ?_
        simp only [go_sem] at hr
        obtain ⟨rfl, rfl⟩ := hr
        refine ⟨vc, ?_⟩
        refine AWPL_nil ?_
        with_reducible refine thenC_normal ?_
        refine AWP_condP (¬ (y6 = true)) rfl bd (fun hb4 => ?_) (fun hb4 => ?_)
        ·replace hK := ite_t hK hb4
         replace hK := chk_some hK
         obtain ⟨h8, hK⟩ := hK
         refine AWP_rg tab_ok [2, 7, 9, 10, 49, 50] fun c st' hr => ?_
         simp only [go_sem] at hr
         obtain ⟨rfl, rfl⟩ := hr
         refine ⟨vc, ?_⟩
         with_reducible refine inBlockA_normal (thenC_normal ?_)
         refine AWP_facts (by simp) fun hfx => ?_
         simp only [factS, factV, fact1, fact0, factL0, lo, hi, maxLen, and_true, true_and] at hfx
         refine AWP_rg tab_ok [2, 7, 9, 10, 49, 50] fun c st' hr => ?_
         simp only [go_sem] at hr
         obtain ⟨rfl, rfl⟩ := hr
         refine ⟨vc, ?_⟩
         clear hfx
         refine again_n (v + 1, v1 + 1) [0, 1, 2] hK mkWk
        ·replace hK := ite_f hK hb4
         refine AWP_skip ?_
         with_reducible refine inBlockA_normal (thenC_normal ?_)
         refine AWP_facts (by simp) fun hfx => ?_
         simp only [factS, factV, fact1, fact0, factL0, lo, hi, maxLen, and_true, true_and] at hfx
         refine AWP_rg tab_ok [2, 7, 9, 10, 49, 50] fun c st' hr => ?_
         simp only [go_sem] at hr
         obtain ⟨rfl, rfl⟩ := hr
         refine ⟨vc, ?_⟩
         clear hfx
         refine again_n (v, v1 + 1) [0, 1, 2] hK mkWk
      ·replace hK := ite_f hK hb2
       refine AWP_exit ?_
       with_reducible refine thenC_exit (again_x ?_)
       refine cutX_here v [1, 2] (by have hq := hpost1 _ hK; exact hq) mkWk
     ·clear hK; rintro v2 hK
      try dsimp only at hK
      refine exS ⟨105, [(7, .own 0 y2.1.length), (9, .ptr 1 0 0), (10, .int .i64 v2)], [some (.ints 2 .i64 y2.1), some (.ints 3 .i64 [1 + y3])]⟩ rfl ?_
      with_reducible refine inBlockA_exit (thenC_normal ?_)
      refine AWP_seq ?_
      refine AWP_rl ?_
      refine AWPL_rn tab_ok 2 [10, 98, 99] fun c st' hr => ?_
      simp only [go_sem] at hr
      obtain ⟨rfl, rfl⟩ := hr
      refine ⟨vc, ?_⟩
      replace hK := bind_s hK
      obtain ⟨y7, hy, hK⟩ := hK
      refine AWPL_callK [10, 100] (W_rotakeep_value hy) rfl rfl pcT rfl Tryd.call11 (.cons (.ownI _ _ _ _ _ y2.1 rfl (by simp) (by first | simp | exact List.take_of_length_le (by simp))) (.cons (.atom _ rfl) .nil)) (hscG trivial) (of_decide_eq_true rfl) (by first | rfl | simp [nI, nI1, nI0]) (by first | rfl | simp [nIB, nI0]) fun st' hr => ?_
      simp only [go_sem] at hr
      subst hr
      clear hy
      replace hK := bind_s hK
      obtain ⟨y8, hy, hK⟩ := hK
      refine AWPL_callK [10, 101] (W_rotabig_Int_String hy) rfl rfl pcT rfl Tryd.call13 (.cons (.ptrM _ _ _ _ _ _ _ rfl rfl rfl (ArgsOk.get (.cons (.atom _ rfl) (.cons (.ownI _ _ _ _ _ y7.2 rfl (by simp) (by first | simp | exact List.take_of_length_le (by simp))) .nil))).2) .nil) (hscG trivial) (of_decide_eq_true rfl) (by first | rfl | simp [nI, nI1, nI0]) (by first | rfl | simp [nIB, nI0]) fun st' hr => ?_
      simp only [go_sem] at hr
      subst hr
      clear hy
      refine AWPL_rn tab_ok 1 [101, 102] fun c st' hr => ?_
      simp only [go_sem] at hr
      obtain ⟨rfl, rfl⟩ := hr
      refine ⟨vc, ?_⟩
      replace hK := bind_s hK
      obtain ⟨y9, hy, hK⟩ := hK
      refine AWPL_callK [101, 103] (W_strconv_Itoa hy) rfl rfl pcT rfl Tryd.call14 (.cons (.atom _ rfl) .nil) (hscG trivial) (of_decide_eq_true rfl) (by first | rfl | simp [nI, nI1, nI0]) (by first | rfl | simp [nIB, nI0]) fun st' hr => ?_
      simp only [go_sem] at hr
      subst hr
      clear hy
      refine AWPL_rn tab_ok 2 [4] fun c st' hr => ?_
      simp only [go_sem] at hr
      obtain ⟨rfl, rfl⟩ := hr
      refine ⟨vc, ?_⟩
      refine AWPL_nil ?_
      with_reducible refine thenC_normal ?_
      refine AWP_ret ?_
      cases hK
      refine EndsRW [] (.inl rfl) (of_decide_eq_true rfl) (by simp) rfl (fun c x hr => ?_) trivial
      simp only [go_sem] at hr
      obtain ⟨rfl, rfl⟩ := hr
      exact ⟨rfl, endR⟩
  ·replace hK := ite_f hK hg
   refine AWPL_stP [(1, .int .i64 a1), (2, .ptr 0 0 0), (25, .bool true), (26, .opt false (.own 2 y.1.length))] (by first | (simp [SameS, AX.look, hg]; done) | (simp at hg ⊢; simp [SameS, AX.look, hg]; done) | (simp_all [SameS, AX.look]; done)) ?_
   refine AWPL_skipV [1, 2, 25, 26, 27] (.junk) rfl pcF (of_decide_eq_true rfl) fun st' hr => ?_
   simp only [go_sem] at hr
   subst hr
   refine AWPL_skipV [1, 2, 25, 28] (.bool false) rfl pcF (of_decide_eq_true rfl) fun st' hr => ?_
   simp only [go_sem] at hr
   subst hr
   refine AWPL_rn tab_ok 2 [1, 2, 30] fun c st' hr => ?_
   simp only [go_sem] at hr
   obtain ⟨rfl, rfl⟩ := hr
   refine ⟨vc, ?_⟩
   refine AWPL_nil ?_
   with_reducible refine thenC_normal ?_
   refine AWP_condP (True) rfl bd (fun hb5 => ?_) (fun hb5 => ?_)
   rotate_left 1
   ·exact absurd trivial hb5
   clear hb5
   refine AWP_seq ?_
   refine AWP_rg tab_ok [4] fun c st' hr => ?_
   simp only [go_sem] at hr
   obtain ⟨rfl, rfl⟩ := hr
   refine ⟨vc, ?_⟩
   with_reducible refine thenC_normal ?_
   refine AWP_ret ?_
   with_reducible refine thenC_ret ?_
   cases hK
   refine EndsRW [] (.inl rfl) (of_decide_eq_true rfl) (by simp) rfl (fun c x hr => ?_) trivial
   simp only [go_sem] at hr
   obtain ⟨rfl, rfl⟩ := hr
   exact ⟨rfl, endR⟩

end Go.SH
