/-
  That the code computes these functions: rotakeep_ringed_1, rotakeep_ringed, rotakeep_power, rotakeep_value. By a program of mine (shal.py). Conditions: none.
-/
import Derived.Test.YtlpikingpnenkaaDoorAxT
import Derived.Test.YtlpikingpnenkaaDoorAxR
import Derived.Test.YtlpikingpnenkaaDoorAxRx
import Derived.Test.YtlpikingpnenkaaDoorSp
import Derived.Test.YtlpikingpnenkaaDoorWprotabig
import Derived.Test.YtlpikingpnenkaaDoorWprotaref
import Derived.Test.YtlpikingpnenkaaDoorWpslices
set_option linter.unusedVariables false
set_option linter.unusedSimpArgs false
set_option maxRecDepth 8000
set_option maxHeartbeats 4000000
namespace Go.SH
open Go Go.AX Go.AX.Tryd Go.Proofs


theorem W_rotakeep_ringed_1 {e_0 : Int} {e_1 : Int} {c0 : Int} {c1 : Int} {r : Bool} (hK : rotakeep_ringed_1 e_0 e_1 c0 c1 = some r) : Pure Tryd.prog 23 [.agg [.int .i64 e_0, .int .i64 e_1], .intp .i64 c0, .intp .i64 c1] (.bool r) [] := by
  refine Pure_introF tab_ok (n := 15) (l := [.tmp 4]) Tryd.func23 rfl rfl rfl (by simp) fun hfact w0 => ?_
  simp only [factL1, fact1, fact0, factL0, lo, hi, maxLen, and_true] at hfact
  unfold rotakeep_ringed_1 at hK
  refine AWP_seq ?_
  refine AWP_rg tab_ok [1, 2, 3] fun c st' hr => ?_
  simp only [go_sem] at hr
  obtain ⟨rfl, rfl⟩ := hr
  refine ⟨vc, ?_⟩
  with_reducible refine thenC_normal ?_
  refine AWP_seq ?_
  refine AWP_rl ?_
  refine AWPL_rn tab_ok 8 [9, 10, 12] fun c st' hr => ?_
  simp only [go_sem] at hr
  obtain ⟨rfl, rfl⟩ := hr
  refine ⟨vc, ?_⟩
  replace hK := bind_s hK
  obtain ⟨y, hy, hK⟩ := hK
  refine AWPL_callGP [9, 13] (e_1 = c0) (fun hg => (W_rotaref_In (ite_t hy hg))) rfl rfl pcG rfl Tryd.call8 (.cons (.atom _ rfl) (.cons (.atom _ rfl) .nil)) (fun hg => hscG hg) (of_decide_eq_true rfl) (by first | rfl | simp [nI, nI1, nI0]) (by first | rfl | simp [sh, sh1, sh0]) fun st' hr => ?_
  simp only [go_sem] at hr
  subst hr
  clear hy
  refine AWPL_rn tab_ok 2 [4] fun c st' hr => ?_
  simp only [go_sem] at hr
  obtain ⟨rfl, rfl⟩ := hr
  refine ⟨vc, ?_⟩
  refine AWPL_nil ?_
  with_reducible refine thenC_normal ?_
  refine AWP_ret ?_
  cases hK
  refine EndsRW [] (.inl rfl) (of_decide_eq_true rfl) (by simp) rfl (fun c x hr => ?_) trivial
  simp only [go_sem] at hr
  obtain ⟨rfl, rfl⟩ := hr
  exact ⟨rfl, endR⟩


theorem W_rotakeep_ringed {g_0 : Int} {g_1 : List (Int × Int)} {r : Bool} (hK : rotakeep_ringed g_0 g_1 = some r) : Pure Tryd.prog 9 [.agg [.int .i64 g_0, .fn 2 g_1.length (fun i => [.int .i64 ((g_1.getD i (0, 0)).1), .int .i64 ((g_1.getD i (0, 0)).2)])]] (.bool r) [] := by
  refine Pure_introF tab_ok (n := 30) (l := [.tmp 2]) Tryd.func9 rfl rfl rfl (by simp) fun hfact w0 => ?_
  simp only [factL1, fact1, fact0, factL0, lo, hi, maxLen, and_true] at hfact
  unfold rotakeep_ringed at hK
  refine AWP_seq ?_
  refine AWP_rg tab_ok [1] fun c st' hr => ?_
  simp only [go_sem] at hr
  obtain ⟨rfl, rfl⟩ := hr
  refine ⟨vc, ?_⟩
  with_reducible refine thenC_normal ?_
  refine AWP_seq ?_
  refine AWP_rl ?_
  refine AWPL_rn tab_ok 2 [1, 6] fun c st' hr => ?_
  simp only [go_sem] at hr
  obtain ⟨rfl, rfl⟩ := hr
  refine ⟨vc, ?_⟩
  replace hK := bind_s hK
  obtain ⟨y, hy, hK⟩ := hK
  refine AWPL_callK [1, 7] (W_rotaref_All hy) rfl rfl pcT rfl Tryd.call21 (.cons (.atom _ rfl) .nil) (hscG trivial) (of_decide_eq_true rfl) (by first | rfl | simp [nI, nI1, nI0]) (by first | rfl | simp [nIB, nI0]) fun st' hr => ?_
  simp only [go_sem] at hr
  subst hr
  clear hy
  refine AWPL_rn tab_ok 2 [1, 3] fun c st' hr => ?_
  simp only [go_sem] at hr
  obtain ⟨rfl, rfl⟩ := hr
  refine ⟨vc, ?_⟩
  refine AWPL_nil ?_
  with_reducible refine thenC_normal ?_
  refine AWP_seq ?_
  refine AWP_seq ?_
  refine AWP_rg tab_ok [1, 3, 9, 10] fun c st' hr => ?_
  simp only [go_sem] at hr
  obtain ⟨rfl, rfl⟩ := hr
  refine ⟨vc, ?_⟩
  with_reducible refine thenC_normal ?_
  refine AWP_block ?_
  refine AWP_loopX 0 (fun ((left, v) : Int × Int) => ⟨30, [(1, .ptr 0 0 0), (3, .ptr 1 0 0), (9, .int .i64 g_0), (10, .int .i64 v)], [some (.gen 24 2 [[.int .i64 g_0, .fn 2 g_1.length (fun i => [.int .i64 ((g_1.getD i (0, 0)).1), .int .i64 ((g_1.getD i (0, 0)).2)])]]), some (.ints 3 .i64 [left])]⟩) (fun (left1 : Int) => ⟨30, [(3, .ptr 0 0 0)], [some (.ints 3 .i64 [left1])]⟩) (fun v => v) (y, 0) [0, 1] hK mkWk ?_ ?_
  ·clear hK; rintro ⟨left, v⟩ b hK hpost1
   try dsimp only at hK
   change AWP _ _ _ _ ⟨30, [(1, .ptr 0 0 0), (3, .ptr 1 0 0), (9, .int .i64 g_0), (10, .int .i64 v)], [some (.gen 24 2 [[.int .i64 g_0, .fn 2 g_1.length (fun i => [.int .i64 ((g_1.getD i (0, 0)).1), .int .i64 ((g_1.getD i (0, 0)).2)])]]), some (.ints 3 .i64 [left])]⟩
   refine AWP_seq ?_
   refine AWP_rg tab_ok [1, 3, 9, 10, 11] fun c st' hr => ?_
   simp only [go_sem] at hr
   obtain ⟨rfl, rfl⟩ := hr
   refine ⟨vc, ?_⟩
   with_reducible refine thenC_normal ?_
   refine AWP_seq ?_
   refine AWP_condP (v < g_0) rfl bd (fun hb => ?_) (fun hb => ?_)
   ·replace hK := ite_t hK hb
    refine AWP_skip ?_
    with_reducible refine thenC_normal ?_
    refine AWP_seq ?_
    refine AWP_block ?_
    refine AWP_seq ?_
    refine AWP_rg tab_ok [1, 3, 9, 10, 13, 14] fun c st' hr => ?_
    simp only [go_sem] at hr
    obtain ⟨rfl, rfl⟩ := hr
    refine ⟨vc, ?_⟩
    with_reducible refine thenC_normal ?_
    refine AWP_block ?_
    refine AWP_loopX 2 (fun ((left2, v1) : Int × Int) => ⟨30, [(1, .ptr 0 0 0), (3, .ptr 1 0 0), (9, .int .i64 g_0), (10, .int .i64 v), (13, .int .i64 g_0), (14, .int .i64 v1)], [some (.gen 24 2 [[.int .i64 g_0, .fn 2 g_1.length (fun i => [.int .i64 ((g_1.getD i (0, 0)).1), .int .i64 ((g_1.getD i (0, 0)).2)])]]), some (.ints 3 .i64 [left2])]⟩) (fun (left3 : Int) => ⟨30, [(1, .ptr 0 0 0), (3, .ptr 1 0 0), (9, .int .i64 g_0), (10, .int .i64 v)], [some (.gen 24 2 [[.int .i64 g_0, .fn 2 g_1.length (fun i => [.int .i64 ((g_1.getD i (0, 0)).1), .int .i64 ((g_1.getD i (0, 0)).2)])]]), some (.ints 3 .i64 [left3])]⟩) (fun v => v) (left, 0) [0, 1] hK mkWk ?_ ?_
    ·clear hK; rintro ⟨left2, v1⟩ b1 hK hpost2
     try dsimp only at hK
     change AWP _ _ _ _ ⟨30, [(1, .ptr 0 0 0), (3, .ptr 1 0 0), (9, .int .i64 g_0), (10, .int .i64 v), (13, .int .i64 g_0), (14, .int .i64 v1)], [some (.gen 24 2 [[.int .i64 g_0, .fn 2 g_1.length (fun i => [.int .i64 ((g_1.getD i (0, 0)).1), .int .i64 ((g_1.getD i (0, 0)).2)])]]), some (.ints 3 .i64 [left2])]⟩
     refine AWP_seq ?_
     refine AWP_rg tab_ok [1, 3, 9, 10, 13, 14, 15] fun c st' hr => ?_
     simp only [go_sem] at hr
     obtain ⟨rfl, rfl⟩ := hr
     refine ⟨vc, ?_⟩
     with_reducible refine thenC_normal ?_
     refine AWP_seq ?_
     refine AWP_condP (v1 < g_0) rfl bd (fun hb1 => ?_) (fun hb1 => ?_)
     ·replace hK := ite_t hK hb1
      refine AWP_skip ?_
      with_reducible refine thenC_normal ?_
      refine AWP_seq ?_
      refine AWP_block ?_
      refine AWP_seq ?_
      refine AWP_rg tab_ok [1, 3, 4, 9, 10, 13, 14] fun c st' hr => ?_
      simp only [go_sem] at hr
      obtain ⟨rfl, rfl⟩ := hr
      refine ⟨vc, ?_⟩
      with_reducible refine thenC_normal ?_
      refine AWP_seq ?_
      refine AWP_rl ?_
      refine AWPL_rn tab_ok 3 [1, 3, 4, 9, 10, 13, 14, 18, 19] fun c st' hr => ?_
      simp only [go_sem] at hr
      obtain ⟨rfl, rfl⟩ := hr
      refine ⟨vc, ?_⟩
      replace hK := bind_s hK
      obtain ⟨y1, hy, hK⟩ := hK
      refine AWPL_callK [1, 3, 4, 9, 10, 13, 14, 20] (W_slices_ContainsFunc_api_Edge_api_Edge Tryd.call23 rfl (fun _ _ _ hh => by simpa using W_rotakeep_ringed_1 hh) hy) rfl rfl pcT rfl Tryd.call22 (.cons (.atom _ rfl) (.cons (.funcOf (.cons (.ptrI _ _ _ _ _ _ rfl rfl) (.cons (.ptrI _ _ _ _ _ _ rfl rfl) .nil))) .nil)) (hscG trivial) (of_decide_eq_true rfl) (by first | rfl | simp [nI, nI1, nI0]) (by first | rfl | simp [nIB, nI0]) fun st' hr => ?_
      simp only [go_sem] at hr
      subst hr
      clear hy
      refine AWPL_rn tab_ok 1 [1, 3, 4, 9, 10, 13, 14, 21] fun c st' hr => ?_
      simp only [go_sem] at hr
      obtain ⟨rfl, rfl⟩ := hr
      refine ⟨vc, ?_⟩
      refine AWPL_nil ?_
      with_reducible refine thenC_normal ?_
      refine AWP_condP (¬ (y1 = true)) rfl bd (fun hb2 => ?_) (fun hb2 => ?_)
      ·replace hK := ite_t hK hb2
       replace hK := chk_some hK
       obtain ⟨h, hK⟩ := hK
       refine AWP_dt tab_ok 4 [1, 3, 9, 10, 13, 14] mixed (by kernel_rfl) fun c st' hr => ?_
       simp only [go_sem] at hr
       obtain ⟨rfl, rfl⟩ := hr
       refine ⟨vc, ?_⟩
       with_reducible refine inBlockA_normal (thenC_normal ?_)
       refine AWP_facts (by simp) fun hfx => ?_
       simp only [factS, factV, fact1, fact0, factL0, lo, hi, maxLen, and_true, true_and] at hfx
       refine AWP_rg tab_ok [1, 3, 9, 10, 13, 14] fun c st' hr => ?_
       simp only [go_sem] at hr
       obtain ⟨rfl, rfl⟩ := hr
       refine ⟨vc, ?_⟩
       clear hfx
       refine again_n (iandnot left2 (2 ^ v1.toNat : Int), v1 + 1) [0, 1] hK mkWk
      ·replace hK := ite_f hK hb2
       refine AWP_skip ?_
       with_reducible refine inBlockA_normal (thenC_normal ?_)
       refine AWP_facts (by simp) fun hfx => ?_
       simp only [factS, factV, fact1, fact0, factL0, lo, hi, maxLen, and_true, true_and] at hfx
       refine AWP_rg tab_ok [1, 3, 9, 10, 13, 14] fun c st' hr => ?_
       simp only [go_sem] at hr
       obtain ⟨rfl, rfl⟩ := hr
       refine ⟨vc, ?_⟩
       clear hfx
       refine again_n (left2, v1 + 1) [0, 1] hK mkWk
     ·replace hK := ite_f hK hb1
      refine AWP_exit ?_
      with_reducible refine thenC_exit (again_x ?_)
      refine cutX_here left2 [0, 1] (by have hq := hpost2 _ hK; exact hq) mkWk
    ·clear hK; rintro left3 hK
     try dsimp only at hK
     refine exS ⟨30, [(1, .ptr 0 0 0), (3, .ptr 1 0 0), (9, .int .i64 g_0), (10, .int .i64 v)], [some (.gen 24 2 [[.int .i64 g_0, .fn 2 g_1.length (fun i => [.int .i64 ((g_1.getD i (0, 0)).1), .int .i64 ((g_1.getD i (0, 0)).2)])]]), some (.ints 3 .i64 [left3])]⟩ rfl ?_
     with_reducible refine inBlockA_exit (inBlockA_normal (thenC_normal ?_))
     refine AWP_facts (by simp) fun hfx => ?_
     simp only [factS, factV, fact1, fact0, factL0, lo, hi, maxLen, and_true, true_and] at hfx
     refine AWP_rg tab_ok [1, 3, 9, 10] fun c st' hr => ?_
     simp only [go_sem] at hr
     obtain ⟨rfl, rfl⟩ := hr
     refine ⟨vc, ?_⟩
     clear hfx
     refine again_n (left3, v + 1) [0, 1] hK mkWk
   ·replace hK := ite_f hK hb
    refine AWP_exit ?_
    with_reducible refine thenC_exit (again_x ?_)
    refine cutX_here left [1] (by have hq := hpost1 _ hK; exact hq) mkWk
  ·clear hK; rintro left1 hK
   try dsimp only at hK
   refine exS ⟨30, [(3, .ptr 0 0 0)], [some (.ints 3 .i64 [left1])]⟩ rfl ?_
   with_reducible refine inBlockA_exit (thenC_normal ?_)
   refine AWP_seq ?_
   refine AWP_rg tab_ok [2] fun c st' hr => ?_
   simp only [go_sem] at hr
   obtain ⟨rfl, rfl⟩ := hr
   refine ⟨vc, ?_⟩
   with_reducible refine thenC_normal ?_
   refine AWP_ret ?_
   cases hK
   refine EndsRW [] (.inl rfl) (of_decide_eq_true rfl) (by simp) rfl (fun c x hr => ?_) trivial
   simp only [go_sem] at hr
   obtain ⟨rfl, rfl⟩ := hr
   exact ⟨rfl, endR⟩


theorem W_rotakeep_power {a : Int} {b : Int} {r : Int} (hK : rotakeep_power a b = some r) : Pure Tryd.prog 10 [.int .i64 a, .int .i64 b] (.int .i64 r) [] := by
  refine Pure_introF tab_ok (n := 14) (l := [.tmp 4]) Tryd.func10 rfl rfl rfl (by simp) fun hfact w0 => ?_
  simp only [factL1, fact1, fact0, factL0, lo, hi, maxLen, and_true] at hfact
  unfold rotakeep_power at hK
  refine AWP_seq ?_
  refine AWP_rg tab_ok [0, 1] fun c st' hr => ?_
  simp only [go_sem] at hr
  obtain ⟨rfl, rfl⟩ := hr
  refine ⟨vc, ?_⟩
  with_reducible refine thenC_normal ?_
  refine AWP_seq ?_
  refine AWP_rg tab_ok [0, 1, 5] fun c st' hr => ?_
  simp only [go_sem] at hr
  obtain ⟨rfl, rfl⟩ := hr
  refine ⟨vc, ?_⟩
  with_reducible refine thenC_normal ?_
  refine AWP_seq ?_
  refine AWP_seq ?_
  refine AWP_rg tab_ok [0, 5, 6, 7] fun c st' hr => ?_
  simp only [go_sem] at hr
  obtain ⟨rfl, rfl⟩ := hr
  refine ⟨vc, ?_⟩
  with_reducible refine thenC_normal ?_
  refine AWP_block ?_
  refine AWP_loopX 0 (fun ((n, v) : Int × Int) => ⟨14, [(0, .int .i64 a), (5, .int .i64 n), (6, .int .i64 b), (7, .int .i64 v)], []⟩) (fun (n1 : Int) => ⟨14, [(5, .int .i64 n1)], []⟩) (fun v => v) (1, 0) [] hK mkWk ?_ ?_
  ·clear hK; rintro ⟨n, v⟩ b1 hK hpost1
   try dsimp only at hK
   change AWP _ _ _ _ ⟨14, [(0, .int .i64 a), (5, .int .i64 n), (6, .int .i64 b), (7, .int .i64 v)], []⟩
   refine AWP_seq ?_
   refine AWP_rg tab_ok [0, 5, 6, 7, 8] fun c st' hr => ?_
   simp only [go_sem] at hr
   obtain ⟨rfl, rfl⟩ := hr
   refine ⟨vc, ?_⟩
   with_reducible refine thenC_normal ?_
   refine AWP_seq ?_
   refine AWP_condP (v < b) rfl bd (fun hb => ?_) (fun hb => ?_)
   ·replace hK := ite_t hK hb
    refine AWP_skip ?_
    with_reducible refine thenC_normal ?_
    refine AWP_seq ?_
    refine AWP_block ?_
    replace hK := chk_some hK
    obtain ⟨h, hK⟩ := hK
    refine AWP_rg tab_ok [0, 5, 6, 7] fun c st' hr => ?_
    simp only [go_sem] at hr
    obtain ⟨rfl, rfl⟩ := hr
    refine ⟨vc, ?_⟩
    with_reducible refine inBlockA_normal (thenC_normal ?_)
    refine AWP_facts (by simp) fun hfx => ?_
    simp only [factS, factV, fact1, fact0, factL0, lo, hi, maxLen, and_true, true_and] at hfx
    refine AWP_rg tab_ok [0, 5, 6, 7] fun c st' hr => ?_
    simp only [go_sem] at hr
    obtain ⟨rfl, rfl⟩ := hr
    refine ⟨vc, ?_⟩
    clear hfx
    refine again_n (n * a, v + 1) [] hK mkWk
   ·replace hK := ite_f hK hb
    refine AWP_exit ?_
    with_reducible refine thenC_exit (again_x ?_)
    refine cutX_here n [] (by have hq := hpost1 _ hK; exact hq) mkWk
  ·clear hK; rintro n1 hK
   try dsimp only at hK
   refine exS ⟨14, [(5, .int .i64 n1)], []⟩ rfl ?_
   with_reducible refine inBlockA_exit (thenC_normal ?_)
   refine AWP_seq ?_
   refine AWP_rg tab_ok [4] fun c st' hr => ?_
   simp only [go_sem] at hr
   obtain ⟨rfl, rfl⟩ := hr
   refine ⟨vc, ?_⟩
   with_reducible refine thenC_normal ?_
   refine AWP_ret ?_
   cases hK
   refine EndsRW [] (.inl rfl) (of_decide_eq_true rfl) (by simp) rfl (fun c x hr => ?_) trivial
   simp only [go_sem] at hr
   obtain ⟨rfl, rfl⟩ := hr
   exact ⟨rfl, endR⟩


theorem W_rotakeep_value {c : List Int} {at0 : Int} {r : Bool × List Int} (hK : rotakeep_value c at0 = some r) : Pure Tryd.prog 11 [.ints .i64 c, .int .i64 at0] (.ptr 0 0 0) [(.gen 51 2 [[.bool r.1, .own 1 r.2.length]]), (.ints 64 .u32 r.2)] := by
  refine Pure_introF tab_ok (n := 29) (l := [.tmp 4]) Tryd.func11 rfl rfl rfl (by simp) fun hfact w0 => ?_
  simp only [factL1, fact1, fact0, factL0, lo, hi, maxLen, and_true] at hfact
  unfold rotakeep_value at hK
  refine AWP_seq ?_
  refine AWP_rg tab_ok [0, 1] fun c st' hr => ?_
  simp only [go_sem] at hr
  obtain ⟨rfl, rfl⟩ := hr
  refine ⟨vc, ?_⟩
  with_reducible refine thenC_normal ?_
  refine AWP_seq ?_
  refine AWP_rg tab_ok [0, 1, 5] fun c st' hr => ?_
  simp only [go_sem] at hr
  obtain ⟨rfl, rfl⟩ := hr
  refine ⟨vc, ?_⟩
  with_reducible refine thenC_normal ?_
  refine AWP_ownH 0 1 (.ints 64 .u32 []) rfl rfl rfl fun st' hr => ?_
  simp only [go_sem] at hr
  subst hr
  refine AWP_seq ?_
  refine AWP_seq ?_
  replace hK := chk_some hK
  obtain ⟨h, hK⟩ := hK
  refine AWP_rg tab_ok [0, 1, 5, 6] fun c st' hr => ?_
  simp only [go_sem] at hr
  obtain ⟨rfl, rfl⟩ := hr
  refine ⟨vc, ?_⟩
  with_reducible refine thenC_normal ?_
  refine AWP_block ?_
  refine AWP_loopX 0 (fun ((sum, sum1, i) : Bool × List Int × Int) => ⟨29, [(0, .ints .i64 c), (1, .int .i64 at0), (5, .ptr 0 0 0), (6, .int .i64 i)], [some (.gen 51 2 [[.bool sum, .own 1 sum1.length]]), some (.ints 64 .u32 sum1)]⟩) (fun ((sum2, sum3) : Bool × List Int) => ⟨29, [(5, .ptr 0 0 0)], [some (.gen 51 2 [[.bool sum2, .own 1 sum3.length]]), some (.ints 64 .u32 sum3)]⟩) (fun v => v) (false, [], (c.length : Int) - 1) [0, 1] hK mkWk ?_ ?_
  ·clear hK; rintro ⟨sum, sum1, i⟩ b hK hpost1
   try dsimp only at hK
   change AWP _ _ _ _ ⟨29, [(0, .ints .i64 c), (1, .int .i64 at0), (5, .ptr 0 0 0), (6, .int .i64 i)], [some (.gen 51 2 [[.bool sum, .own 1 sum1.length]]), some (.ints 64 .u32 sum1)]⟩
   refine AWP_seq ?_
   refine AWP_seq ?_
   refine AWP_rg tab_ok [0, 1, 5, 6, 12] fun c st' hr => ?_
   simp only [go_sem] at hr
   obtain ⟨rfl, rfl⟩ := hr
   refine ⟨vc, ?_⟩
   with_reducible refine thenC_normal ?_
   refine AWP_condP (0 ≤ i) rfl bd (fun hb => ?_) (fun hb => ?_)
   ·replace hK := ite_t hK hb
    refine AWP_skip ?_
    with_reducible refine thenC_normal ?_
    refine AWP_seq ?_
    refine AWP_block ?_
    refine AWP_seq ?_
    refine AWP_rl ?_
    refine AWPL_rn tab_ok 3 [0, 1, 5, 6, 15, 16, 17] fun c st' hr => ?_
    simp only [go_sem] at hr
    obtain ⟨rfl, rfl⟩ := hr
    refine ⟨vc, ?_⟩
    replace hK := bind_s hK
    obtain ⟨y, hy, hK⟩ := hK
    refine AWPL_callK [0, 1, 5, 6, 15, 16, 18] (W_rotabig_NewInt hy) rfl rfl pcT rfl Tryd.call25 (.cons (.atom _ rfl) .nil) (hscG trivial) (of_decide_eq_true rfl) (by first | rfl | simp [nI, nI1, nI0]) (by first | rfl | simp [nIB, nI0]) fun st' hr => ?_
    simp only [go_sem] at hr
    subst hr
    clear hy
    replace hK := bind_s hK
    obtain ⟨y1, hy, hK⟩ := hK
    refine AWPL_gR [0, 1, 5, 6] [0, 2, 1, 3] [.ptr 0 0 0, .ptr 0 0 0, .ptr 1 0 0] [some (.gen 51 2 [[.bool y1.1.1, .own 4 y1.1.2.length]]), none, some (.gen 51 2 [[.bool y1.2.1, .own 5 y1.2.2.length]]), none, some (.ints 64 .u32 y1.1.2), some (.ints 64 .u32 y1.2.2)] (r' := .ptr 0 0 0) (W_rotabig_Int_Mul hy) rfl rfl pcT rfl Tryd.call24 (of_decide_eq_true rfl) ⟨rfl, rfl, rfl, rfl, trivial⟩ rfl (hscG trivial) (of_decide_eq_true rfl) rfl rfl rfl (of_decide_eq_true rfl) rfl fun st' hr => ?_
    simp only [go_sem] at hr
    subst hr
    clear hy
    refine AWPL_nil ?_
    with_reducible refine thenC_normal ?_
    refine AWP_rl ?_
    replace hK := chk_some hK
    obtain ⟨h2, hK⟩ := hK
    refine AWPL_rn tab_ok 6 [0, 1, 5, 6, 20, 21, 25] fun c st' hr => ?_
    simp only [go_sem] at hr
    obtain ⟨rfl, rfl⟩ := hr
    refine ⟨vc, ?_⟩
    replace hK := bind_s hK
    obtain ⟨y2, hy, hK⟩ := hK
    refine AWPL_callK [0, 1, 5, 6, 20, 21, 26] (W_rotabig_NewInt hy) rfl rfl pcT rfl Tryd.call25 (.cons (.atom _ rfl) .nil) (hscG trivial) (of_decide_eq_true rfl) (by first | rfl | simp [nI, nI1, nI0]) (by first | rfl | simp [nIB, nI0]) fun st' hr => ?_
    simp only [go_sem] at hr
    subst hr
    clear hy
    replace hK := bind_s hK
    obtain ⟨y3, hy, hK⟩ := hK
    refine AWPL_gR [0, 1, 5, 6] [0, 6, 4, 7] [.ptr 0 0 0, .ptr 0 0 0, .ptr 1 0 0] [some (.gen 51 2 [[.bool y3.1.1, .own 8 y3.1.2.length]]), none, some (.gen 51 2 [[.bool y1.2.1, .own 5 y1.2.2.length]]), none, none, some (.ints 64 .u32 y1.2.2), some (.gen 51 2 [[.bool y3.2.1, .own 9 y3.2.2.length]]), none, some (.ints 64 .u32 y3.1.2), some (.ints 64 .u32 y3.2.2)] (r' := .ptr 0 0 0) (W_rotabig_Int_Add hy) rfl rfl pcT rfl Tryd.call26 (of_decide_eq_true rfl) ⟨rfl, rfl, rfl, rfl, trivial⟩ rfl (hscG trivial) (of_decide_eq_true rfl) rfl rfl rfl (of_decide_eq_true rfl) rfl fun st' hr => ?_
    simp only [go_sem] at hr
    subst hr
    clear hy
    refine AWPL_nil ?_
    with_reducible refine inBlockA_normal (thenC_normal ?_)
    replace hK := chk_some hK
    obtain ⟨h4, hK⟩ := hK
    refine AWP_rg tab_ok [0, 1, 5, 6] fun c st' hr => ?_
    simp only [go_sem] at hr
    obtain ⟨rfl, rfl⟩ := hr
    refine ⟨vc, ?_⟩
    refine again_n (y3.1.1, y3.1.2, i - 1) [0, 8] hK mkWk
   ·replace hK := ite_f hK hb
    refine AWP_exit ?_
    with_reducible refine thenC_exit (again_x ?_)
    refine cutX_here (sum, sum1) [0, 1] (by have hq := hpost1 _ hK; exact hq) mkWk
  ·clear hK; rintro ⟨sum2, sum3⟩ hK
   try dsimp only at hK
   refine exS ⟨29, [(5, .ptr 0 0 0)], [some (.gen 51 2 [[.bool sum2, .own 1 sum3.length]]), some (.ints 64 .u32 sum3)]⟩ rfl ?_
   with_reducible refine inBlockA_exit (thenC_normal ?_)
   refine AWP_seq ?_
   refine AWP_rg tab_ok [4] fun c st' hr => ?_
   simp only [go_sem] at hr
   obtain ⟨rfl, rfl⟩ := hr
   refine ⟨vc, ?_⟩
   with_reducible refine thenC_normal ?_
   refine AWP_ret ?_
   cases hK
   refine EndsRW [0, 1] (.inl rfl) (of_decide_eq_true rfl) (by simp) rfl (fun c x hr => ?_) endH
   simp only [go_sem] at hr
   obtain ⟨rfl, rfl⟩ := hr
   exact ⟨rfl, endR⟩

end Go.SH
