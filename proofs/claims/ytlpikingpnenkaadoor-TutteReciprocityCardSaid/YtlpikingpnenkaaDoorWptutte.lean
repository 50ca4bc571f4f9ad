/-
  That the code computes these functions: tutte_parted_1, tutte_parted, tutte_size, tutte_Chromatic. By a program of mine (shal.py). Conditions: none.
-/
import Derived.Test.YtlpikingpnenkaaDoorAxT
import Derived.Test.YtlpikingpnenkaaDoorAxR
import Derived.Test.YtlpikingpnenkaaDoorSp
import Derived.Test.YtlpikingpnenkaaDoorWpbits
import Derived.Test.YtlpikingpnenkaaDoorWpkindsg
set_option linter.unusedVariables false
set_option linter.unusedSimpArgs false
set_option maxRecDepth 8000
set_option maxHeartbeats 4000000
namespace Go.SH
open Go Go.AX Go.AX.Tryd Go.Proofs


theorem W_tutte_parted_1 {v : Int} {c0 : List Int} {r : Int} (hK : tutte_parted_1 v c0 = some r) : Pure Tryd.prog 32 [.int .i64 v, .immp [.ints .i64 c0]] (.int .i64 r) [] := by
  refine Pure_introF tab_ok (n := 15) (l := [.tmp 3]) Tryd.func32 rfl rfl rfl (by simp) fun hfact w0 => ?_
  simp only [factL1, fact1, fact0, factL0, lo, hi, maxLen, and_true] at hfact
  unfold tutte_parted_1 at hK
  refine AWP_seq ?_
  refine AWP_rg tab_ok [0, 1] fun c st' hr => ?_
  simp only [go_sem] at hr
  obtain ⟨rfl, rfl⟩ := hr
  refine ⟨vc, ?_⟩
  with_reducible refine thenC_normal ?_
  refine AWP_seq ?_
  refine AWP_block ?_
  refine AWP_loopX 0 (fun (v1 : Int) => ⟨15, [(0, .int .i64 v1), (1, .immp [.ints .i64 c0])], []⟩) (fun (v2 : Int) => ⟨15, [(0, .int .i64 v2)], []⟩) (fun v => v) v [] hK mkWk ?_ ?_
  ·clear hK; rintro v1 b hK hpost1
   try dsimp only at hK
   change AWP _ _ _ _ ⟨15, [(0, .int .i64 v1), (1, .immp [.ints .i64 c0])], []⟩
   refine AWP_seq ?_
   refine AWP_seq ?_
   replace hK := chk_some hK
   obtain ⟨h, hK⟩ := hK
   refine AWP_rg tab_ok [0, 1, 9] fun c st' hr => ?_
   simp only [go_sem] at hr
   obtain ⟨rfl, rfl⟩ := hr
   refine ⟨vc, ?_⟩
   with_reducible refine thenC_normal ?_
   refine AWP_condP (c0.getD v1.toNat 0 ≠ v1) rfl bd (fun hb => ?_) (fun hb => ?_)
   ·replace hK := ite_t hK hb
    refine AWP_skip ?_
    with_reducible refine thenC_normal ?_
    refine AWP_block ?_
    replace hK := chk_some hK
    obtain ⟨h1, hK⟩ := hK
    refine AWP_rg tab_ok [0, 1] fun c st' hr => ?_
    simp only [go_sem] at hr
    obtain ⟨rfl, rfl⟩ := hr
    refine ⟨vc, ?_⟩
    with_reducible refine inBlockA_normal ?_
    refine again_n (c0.getD v1.toNat 0) [] hK mkWk
   ·replace hK := ite_f hK hb
    refine AWP_exit ?_
    with_reducible refine thenC_exit (again_x ?_)
    refine cutX_here v1 [] (by have hq := hpost1 _ hK; exact hq) mkWk
  ·clear hK; rintro v2 hK
   try dsimp only at hK
   refine exS ⟨15, [(0, .int .i64 v2)], []⟩ rfl ?_
   with_reducible refine inBlockA_exit (thenC_normal ?_)
   refine AWP_seq ?_
   refine AWP_rg tab_ok [3] fun c st' hr => ?_
   simp only [go_sem] at hr
   obtain ⟨rfl, rfl⟩ := hr
   refine ⟨vc, ?_⟩
   with_reducible refine thenC_normal ?_
   refine AWP_ret ?_
   cases hK
   refine EndsRW [] (.inl rfl) (of_decide_eq_true rfl) (by simp) rfl (fun c x hr => ?_) trivial
   simp only [go_sem] at hr
   obtain ⟨rfl, rfl⟩ := hr
   exact ⟨rfl, endR⟩


theorem W_tutte_parted {g_0 : Int} {g_1 : List (Int × Int)} {s : Int} {r : Int} (hK : tutte_parted g_0 g_1 s = some r) : Pure Tryd.prog 19 [.agg [.int .i64 g_0, .fn 2 g_1.length (fun i => [.int .i64 ((g_1.getD i (0, 0)).1), .int .i64 ((g_1.getD i (0, 0)).2)])], .int .i64 s] (.int .i64 r) [] := by
  refine Pure_introF tab_ok (n := 63) (l := [.tmp 4]) Tryd.func19 rfl rfl rfl (by simp) fun hfact w0 => ?_
  simp only [factL1, fact1, fact0, factL0, lo, hi, maxLen, and_true] at hfact
  unfold tutte_parted at hK
  refine AWP_seq ?_
  refine AWP_rg tab_ok [1, 2] fun c st' hr => ?_
  simp only [go_sem] at hr
  obtain ⟨rfl, rfl⟩ := hr
  refine ⟨vc, ?_⟩
  with_reducible refine thenC_normal ?_
  refine AWP_seq ?_
  replace hK := chk_some hK
  obtain ⟨h, hK⟩ := hK
  refine AWP_rg tab_ok [1, 2, 5] fun c st' hr => ?_
  simp only [go_sem] at hr
  obtain ⟨rfl, rfl⟩ := hr
  refine ⟨vc, ?_⟩
  with_reducible refine thenC_normal ?_
  refine AWP_seq ?_
  refine AWP_seq ?_
  refine AWP_rg tab_ok [1, 2, 5, 17, 18] fun c st' hr => ?_
  simp only [go_sem] at hr
  obtain ⟨rfl, rfl⟩ := hr
  refine ⟨vc, ?_⟩
  with_reducible refine thenC_normal ?_
  refine AWP_block ?_
  refine AWP_loopX 0 (fun ((root, v) : List Int × Int) => ⟨63, [(1, .int .i64 s), (2, .ptr 0 0 0), (5, .ptr 1 0 0), (17, .int .i64 ((List.replicate g_0.toNat 0).length : Int)), (18, .int .i64 v)], [some (.gen 24 2 [[.int .i64 g_0, .fn 2 g_1.length (fun i => [.int .i64 ((g_1.getD i (0, 0)).1), .int .i64 ((g_1.getD i (0, 0)).2)])]]), some (.gen 41 1 [[.own 2 root.length]]), some (.ints 3 .i64 root)]⟩) (fun (root1 : List Int) => ⟨63, [(1, .int .i64 s), (2, .ptr 0 0 0), (5, .ptr 1 0 0)], [some (.gen 24 2 [[.int .i64 g_0, .fn 2 g_1.length (fun i => [.int .i64 ((g_1.getD i (0, 0)).1), .int .i64 ((g_1.getD i (0, 0)).2)])]]), some (.gen 41 1 [[.own 2 root1.length]]), some (.ints 3 .i64 root1)]⟩) (fun v => v) (List.replicate g_0.toNat 0, 0) [0, 2, 1] hK mkWk ?_ ?_
  ·clear hK; rintro ⟨root, v⟩ b hK hpost1
   try dsimp only at hK
   change AWP _ _ _ _ ⟨63, [(1, .int .i64 s), (2, .ptr 0 0 0), (5, .ptr 1 0 0), (17, .int .i64 ((List.replicate g_0.toNat 0).length : Int)), (18, .int .i64 v)], [some (.gen 24 2 [[.int .i64 g_0, .fn 2 g_1.length (fun i => [.int .i64 ((g_1.getD i (0, 0)).1), .int .i64 ((g_1.getD i (0, 0)).2)])]]), some (.gen 41 1 [[.own 2 root.length]]), some (.ints 3 .i64 root)]⟩
   refine AWP_seq ?_
   refine AWP_rg tab_ok [1, 2, 5, 17, 18, 19] fun c st' hr => ?_
   simp only [go_sem] at hr
   obtain ⟨rfl, rfl⟩ := hr
   refine ⟨vc, ?_⟩
   with_reducible refine thenC_normal ?_
   refine AWP_seq ?_
   refine AWP_condP (v < ((List.replicate g_0.toNat 0).length : Int)) rfl bd (fun hb => ?_) (fun hb => ?_)
   ·replace hK := ite_t hK hb
    refine AWP_skip ?_
    with_reducible refine thenC_normal ?_
    refine AWP_seq ?_
    refine AWP_block ?_
    refine AWP_seq ?_
    refine AWP_rg tab_ok [1, 2, 5, 6, 17, 18] fun c st' hr => ?_
    simp only [go_sem] at hr
    obtain ⟨rfl, rfl⟩ := hr
    refine ⟨vc, ?_⟩
    with_reducible refine thenC_normal ?_
    replace hK := chk_some hK
    obtain ⟨h1, hK⟩ := hK
    refine AWP_rg tab_ok [1, 2, 5, 17, 18] fun c st' hr => ?_
    simp only [go_sem] at hr
    obtain ⟨rfl, rfl⟩ := hr
    refine ⟨vc, ?_⟩
    with_reducible refine inBlockA_normal (thenC_normal ?_)
    refine AWP_facts (by simp) fun hfx => ?_
    simp only [factS, factV, fact1, fact0, factL0, lo, hi, maxLen, and_true, true_and] at hfx
    refine AWP_rg tab_ok [1, 2, 5, 17, 18] fun c st' hr => ?_
    simp only [go_sem] at hr
    obtain ⟨rfl, rfl⟩ := hr
    refine ⟨vc, ?_⟩
    clear hfx
    refine again_n (root.set v.toNat v, v + 1) [0, 1, 2] hK mkWk
   ·replace hK := ite_f hK hb
    refine AWP_exit ?_
    with_reducible refine thenC_exit (again_x ?_)
    refine cutX_here root [0, 1, 2] (by have hq := hpost1 _ hK; exact hq) mkWk
  ·clear hK; rintro root1 hK
   try dsimp only at hK
   refine exS ⟨63, [(1, .int .i64 s), (2, .ptr 0 0 0), (5, .ptr 1 0 0)], [some (.gen 24 2 [[.int .i64 g_0, .fn 2 g_1.length (fun i => [.int .i64 ((g_1.getD i (0, 0)).1), .int .i64 ((g_1.getD i (0, 0)).2)])]]), some (.gen 41 1 [[.own 2 root1.length]]), some (.ints 3 .i64 root1)]⟩ rfl ?_
   with_reducible refine inBlockA_exit (thenC_normal ?_)
   refine AWP_seq ?_
   refine AWP_rg tab_ok [1, 2, 5, 7] fun c st' hr => ?_
   simp only [go_sem] at hr
   obtain ⟨rfl, rfl⟩ := hr
   refine ⟨vc, ?_⟩
   with_reducible refine thenC_normal ?_
   refine AWP_seq ?_
   refine AWP_rg tab_ok [1, 2, 5, 7, 8] fun c st' hr => ?_
   simp only [go_sem] at hr
   obtain ⟨rfl, rfl⟩ := hr
   refine ⟨vc, ?_⟩
   with_reducible refine thenC_normal ?_
   refine AWP_seq ?_
   refine AWP_seq ?_
   refine AWP_rg tab_ok [1, 5, 7, 8, 30, 31, 32] fun c st' hr => ?_
   simp only [go_sem] at hr
   obtain ⟨rfl, rfl⟩ := hr
   refine ⟨vc, ?_⟩
   with_reducible refine thenC_normal ?_
   refine AWP_block ?_
   refine AWP_loopX 2 (fun ((root2, n, v1) : List Int × Int × Int) => ⟨63, [(1, .int .i64 s), (5, .ptr 0 0 0), (7, .func 32 [.ptr 0 0 0]), (8, .int .i64 n), (30, .fn 2 g_1.length (fun i => [.int .i64 ((g_1.getD i (0, 0)).1), .int .i64 ((g_1.getD i (0, 0)).2)])), (31, .int .i64 (g_1.length : Int)), (32, .int .i64 v1)], [some (.gen 41 1 [[.own 1 root2.length]]), some (.ints 3 .i64 root2)]⟩) (fun (n1 : Int) => ⟨63, [(8, .int .i64 n1)], []⟩) (fun v => v) (root1, g_0, 0) [1, 2] hK mkWk ?_ ?_
   ·clear hK; rintro ⟨root2, n, v1⟩ b1 hK hpost2
    try dsimp only at hK
    change AWP _ _ _ _ ⟨63, [(1, .int .i64 s), (5, .ptr 0 0 0), (7, .func 32 [.ptr 0 0 0]), (8, .int .i64 n), (30, .fn 2 g_1.length (fun i => [.int .i64 ((g_1.getD i (0, 0)).1), .int .i64 ((g_1.getD i (0, 0)).2)])), (31, .int .i64 (g_1.length : Int)), (32, .int .i64 v1)], [some (.gen 41 1 [[.own 1 root2.length]]), some (.ints 3 .i64 root2)]⟩
    refine AWP_seq ?_
    refine AWP_rg tab_ok [1, 5, 7, 8, 30, 31, 32, 33] fun c st' hr => ?_
    simp only [go_sem] at hr
    obtain ⟨rfl, rfl⟩ := hr
    refine ⟨vc, ?_⟩
    with_reducible refine thenC_normal ?_
    refine AWP_seq ?_
    refine AWP_condP (v1 < (g_1.length : Int)) rfl bd (fun hb1 => ?_) (fun hb1 => ?_)
    ·replace hK := ite_t hK hb1
     refine AWP_skip ?_
     with_reducible refine thenC_normal ?_
     refine AWP_seq ?_
     refine AWP_block ?_
     refine AWP_seq ?_
     replace hK := chk_some hK
     obtain ⟨h2, hK⟩ := hK
     refine AWP_rg tab_ok [1, 5, 7, 8, 9, 10, 30, 31, 32] fun c st' hr => ?_
     simp only [go_sem] at hr
     obtain ⟨rfl, rfl⟩ := hr
     refine ⟨vc, ?_⟩
     with_reducible refine thenC_normal ?_
     refine AWP_seq ?_
     refine AWP_drawQ mixed (by kernel_rfl) ?_
     refine AWQL_rn tab_ok 3 [1, 5, 7, 8, 9, 10, 30, 31, 32, 37, 39] fun c st' hr => ?_
     simp only [go_sem] at hr
     obtain ⟨rfl, rfl⟩ := hr
     refine ⟨vc, ?_⟩
     replace hK := bind_s hK
     obtain ⟨y, hy, hK⟩ := hK
     refine AWQL_callK [1, 5, 7, 8, 9, 10, 30, 31, 32, 40] (W_tutte_parted_1 hy) rfl rfl pcT rfl Tryd.call32 (.cons (.atom _ rfl) (.cons (.ptrM _ _ _ _ _ _ _ rfl rfl rfl (ArgsOk.get (.cons (.ownI _ _ _ _ _ root2 rfl (by simp) (by first | simp | exact List.take_of_length_le (by simp))) .nil)).2) .nil)) (hscG trivial) (of_decide_eq_true rfl) rfl fun st' hr => ?_
     simp only [go_sem] at hr
     subst hr
     clear hy
     refine AWQL_rn tab_ok 3 [1, 5, 7, 8, 9, 30, 31, 32, 40, 41, 43] fun c st' hr => ?_
     simp only [go_sem] at hr
     obtain ⟨rfl, rfl⟩ := hr
     refine ⟨vc, ?_⟩
     replace hK := bind_s hK
     obtain ⟨y1, hy, hK⟩ := hK
     refine AWQL_callK [1, 5, 7, 8, 9, 30, 31, 32, 40, 44] (W_tutte_parted_1 hy) rfl rfl pcT rfl Tryd.call32 (.cons (.atom _ rfl) (.cons (.ptrM _ _ _ _ _ _ _ rfl rfl rfl (ArgsOk.get (.cons (.ownI _ _ _ _ _ root2 rfl (by simp) (by first | simp | exact List.take_of_length_le (by simp))) .nil)).2) .nil)) (hscG trivial) (of_decide_eq_true rfl) rfl fun st' hr => ?_
     simp only [go_sem] at hr
     subst hr
     clear hy
     refine AWQL_rn tab_ok 2 [1, 5, 7, 8, 9, 11, 12, 30, 31, 32] fun c st' hr => ?_
     simp only [go_sem] at hr
     obtain ⟨rfl, rfl⟩ := hr
     refine ⟨vc, ?_⟩
     refine AWQL_nil ?_
     with_reducible refine thenC_normal ?_
     refine AWP_seq ?_
     replace hK := chk_some hK
     obtain ⟨h3, hK⟩ := hK
     refine AWP_rg tab_ok [1, 5, 7, 8, 11, 12, 30, 31, 32, 54] fun c st' hr => ?_
     simp only [go_sem] at hr
     obtain ⟨rfl, rfl⟩ := hr
     refine ⟨vc, ?_⟩
     with_reducible refine thenC_normal ?_
     refine AWP_condP ((iand (s / 2 ^ v1.toNat) 1 = 1 ∧ y ≠ y1)) rfl bd (fun hb2 => ?_) (fun hb2 => ?_)
     ·replace hK := ite_t hK hb2
      refine AWP_seq ?_
      replace hK := chk_some hK
      obtain ⟨h4, hK⟩ := hK
      refine AWP_rg tab_ok [1, 5, 7, 8, 30, 31, 32] fun c st' hr => ?_
      simp only [go_sem] at hr
      obtain ⟨rfl, rfl⟩ := hr
      refine ⟨vc, ?_⟩
      with_reducible refine thenC_normal ?_
      replace hK := chk_some hK
      obtain ⟨h5, hK⟩ := hK
      refine AWP_rg tab_ok [1, 5, 7, 8, 30, 31, 32] fun c st' hr => ?_
      simp only [go_sem] at hr
      obtain ⟨rfl, rfl⟩ := hr
      refine ⟨vc, ?_⟩
      with_reducible refine inBlockA_normal (thenC_normal ?_)
      refine AWP_facts (by simp) fun hfx => ?_
      simp only [factS, factV, fact1, fact0, factL0, lo, hi, maxLen, and_true, true_and] at hfx
      refine AWP_rg tab_ok [1, 5, 7, 8, 30, 31, 32] fun c st' hr => ?_
      simp only [go_sem] at hr
      obtain ⟨rfl, rfl⟩ := hr
      refine ⟨vc, ?_⟩
      clear hfx
      refine again_n (root2.set y.toNat y1, n - 1, v1 + 1) [0, 1] hK mkWk
     ·replace hK := ite_f hK hb2
      refine AWP_skip ?_
      with_reducible refine inBlockA_normal (thenC_normal ?_)
      refine AWP_facts (by simp) fun hfx => ?_
      simp only [factS, factV, fact1, fact0, factL0, lo, hi, maxLen, and_true, true_and] at hfx
      refine AWP_rg tab_ok [1, 5, 7, 8, 30, 31, 32] fun c st' hr => ?_
      simp only [go_sem] at hr
      obtain ⟨rfl, rfl⟩ := hr
      refine ⟨vc, ?_⟩
      clear hfx
      refine again_n (root2, n, v1 + 1) [0, 1] hK mkWk
    ·replace hK := ite_f hK hb1
     refine AWP_exit ?_
     with_reducible refine thenC_exit (again_x ?_)
     refine cutX_here n [] (by have hq := hpost2 _ hK; exact hq) mkWk
   ·clear hK; rintro n1 hK
    try dsimp only at hK
    refine exS ⟨63, [(8, .int .i64 n1)], []⟩ rfl ?_
    with_reducible refine inBlockA_exit (thenC_normal ?_)
    refine AWP_seq ?_
    refine AWP_rg tab_ok [4] fun c st' hr => ?_
    simp only [go_sem] at hr
    obtain ⟨rfl, rfl⟩ := hr
    refine ⟨vc, ?_⟩
    with_reducible refine thenC_normal ?_
    refine AWP_ret ?_
    cases hK
    refine EndsRW [] (.inl rfl) (of_decide_eq_true rfl) (by simp) rfl (fun c x hr => ?_) trivial
    simp only [go_sem] at hr
    obtain ⟨rfl, rfl⟩ := hr
    exact ⟨rfl, endR⟩


theorem W_tutte_size {s : Int} {r : Int} (hK : tutte_size s = some r) : Pure Tryd.prog 20 [.int .i64 s] (.int .i64 r) [] := by
  refine Pure_introF tab_ok (n := 6) (l := [.tmp 2]) Tryd.func20 rfl rfl rfl (by simp) fun hfact w0 => ?_
  simp only [factL1, fact1, fact0, factL0, lo, hi, maxLen, and_true] at hfact
  unfold tutte_size at hK
  refine AWP_seq ?_
  refine AWP_rg tab_ok [0] fun c st' hr => ?_
  simp only [go_sem] at hr
  obtain ⟨rfl, rfl⟩ := hr
  refine ⟨vc, ?_⟩
  with_reducible refine thenC_normal ?_
  refine AWP_seq ?_
  refine AWP_rl ?_
  replace hK := chk_some hK
  obtain ⟨h, hK⟩ := hK
  refine AWPL_rn tab_ok 2 [4] fun c st' hr => ?_
  simp only [go_sem] at hr
  obtain ⟨rfl, rfl⟩ := hr
  refine ⟨vc, ?_⟩
  replace hK := bind_s hK
  obtain ⟨y, hy, hK⟩ := hK
  refine AWPL_callK [5] (W_bits_OnesCount hy) rfl rfl pcT rfl Tryd.call33 (.cons (.atom _ rfl) .nil) (hscG trivial) (of_decide_eq_true rfl) (by first | rfl | simp [nI, nI1, nI0]) (by first | rfl | simp [nIB, nI0]) fun st' hr => ?_
  simp only [go_sem] at hr
  subst hr
  clear hy
  refine AWPL_rn tab_ok 1 [2] fun c st' hr => ?_
  simp only [go_sem] at hr
  obtain ⟨rfl, rfl⟩ := hr
  refine ⟨vc, ?_⟩
  refine AWPL_nil ?_
  with_reducible refine thenC_normal ?_
  refine AWP_ret ?_
  cases hK
  refine EndsRW [] (.inl rfl) (of_decide_eq_true rfl) (by simp) rfl (fun c x hr => ?_) trivial
  simp only [go_sem] at hr
  obtain ⟨rfl, rfl⟩ := hr
  exact ⟨rfl, endR⟩


theorem W_tutte_Chromatic {g_0 : Int} {g_1 : List (Int × Int)} {r : List Int × Int} (hK : tutte_Chromatic g_0 g_1 = some r) : Pure Tryd.prog 5 [.agg [.int .i64 g_0, .fn 2 g_1.length (fun i => [.int .i64 ((g_1.getD i (0, 0)).1), .int .i64 ((g_1.getD i (0, 0)).2)])]] (.tup [.own 0 r.1.length, .int .i64 r.2]) [(.ints 2 .i64 r.1)] := by
  refine Pure_introF tab_ok (n := 38) (l := [.tmp 2, .tmp 3]) Tryd.func5 rfl rfl rfl (by simp) fun hfact w0 => ?_
  simp only [factL1, fact1, fact0, factL0, lo, hi, maxLen, and_true] at hfact
  unfold tutte_Chromatic at hK
  refine AWP_seq ?_
  refine AWP_rg tab_ok [1] fun c st' hr => ?_
  simp only [go_sem] at hr
  obtain ⟨rfl, rfl⟩ := hr
  refine ⟨vc, ?_⟩
  with_reducible refine thenC_normal ?_
  refine AWP_seq ?_
  refine AWP_seq ?_
  refine AWP_rl ?_
  refine AWPL_rn tab_ok 1 [1, 7] fun c st' hr => ?_
  simp only [go_sem] at hr
  obtain ⟨rfl, rfl⟩ := hr
  refine ⟨vc, ?_⟩
  replace hK := bind_s hK
  obtain ⟨y, hy, hK⟩ := hK
  refine AWPL_callK [1, 8] (W_kinds_CheckGraph hy) rfl rfl pcT rfl Tryd.call18 (.cons (.agg _ _ rfl (ArgsOk.get (.cons (.atom _ rfl) (.cons (.atom _ rfl) .nil))).2) .nil) (hscG trivial) (of_decide_eq_true rfl) (by first | rfl | simp [nI, nI1, nI0]) (by first | rfl | simp [nIB, nI0]) fun st' hr => ?_
  simp only [go_sem] at hr
  subst hr
  clear hy
  refine AWPL_rn tab_ok 1 [1, 4] fun c st' hr => ?_
  simp only [go_sem] at hr
  obtain ⟨rfl, rfl⟩ := hr
  refine ⟨vc, ?_⟩
  refine AWPL_nil ?_
  with_reducible refine thenC_normal ?_
  refine AWP_seq ?_
  refine AWP_rg tab_ok [1, 4, 10] fun c st' hr => ?_
  simp only [go_sem] at hr
  obtain ⟨rfl, rfl⟩ := hr
  refine ⟨vc, ?_⟩
  with_reducible refine thenC_normal ?_
  refine AWP_condP (y ≠ 0) rfl bd (fun hb => ?_) (fun hb => ?_)
  ·replace hK := ite_t hK hb
   refine AWP_seq ?_
   refine AWP_rg tab_ok [2, 3] fun c st' hr => ?_
   simp only [go_sem] at hr
   obtain ⟨rfl, rfl⟩ := hr
   refine ⟨vc, ?_⟩
   with_reducible refine thenC_normal ?_
   refine AWP_own 2 (.ints 2 .i64 []) rfl rfl fun st' hr => ?_
   simp only [go_sem] at hr
   subst hr
   refine AWP_ret ?_
   with_reducible refine thenC_ret ?_
   cases hK
   refine EndsRW [1] (.inl rfl) (of_decide_eq_true rfl) (by simp) rfl (fun c x hr => ?_) endH
   simp only [go_sem] at hr
   obtain ⟨rfl, rfl⟩ := hr
   exact ⟨rfl, endR⟩
  ·replace hK := ite_f hK hb
   refine AWP_skip ?_
   with_reducible refine thenC_normal ?_
   refine AWP_seq ?_
   replace hK := chk_some hK
   obtain ⟨h, hK⟩ := hK
   refine AWP_rg tab_ok [1, 5] fun c st' hr => ?_
   simp only [go_sem] at hr
   obtain ⟨rfl, rfl⟩ := hr
   refine ⟨vc, ?_⟩
   with_reducible refine thenC_normal ?_
   refine AWP_seq ?_
   refine AWP_seq ?_
   replace hK := chk_some hK
   obtain ⟨h1, hK⟩ := hK
   refine AWP_rg tab_ok [1, 5, 19, 20] fun c st' hr => ?_
   simp only [go_sem] at hr
   obtain ⟨rfl, rfl⟩ := hr
   refine ⟨vc, ?_⟩
   with_reducible refine thenC_normal ?_
   refine AWP_block ?_
   refine AWP_loopX 0 (fun ((out0, v) : List Int × Int) => ⟨38, [(1, .ptr 0 0 0), (5, .own 1 out0.length), (19, .int .i64 (2 ^ (g_1.length : Int).toNat : Int)), (20, .int .i64 v)], [some (.gen 24 2 [[.int .i64 g_0, .fn 2 g_1.length (fun i => [.int .i64 ((g_1.getD i (0, 0)).1), .int .i64 ((g_1.getD i (0, 0)).2)])]]), some (.ints 2 .i64 out0)]⟩) (fun (out01 : List Int) => ⟨38, [(5, .own 0 out01.length)], [some (.ints 2 .i64 out01)]⟩) (fun v => v) (List.replicate (g_0 + 1).toNat 0, 0) [0, 1] hK mkWk ?_ ?_
   ·clear hK; rintro ⟨out0, v⟩ b hK hpost1
    try dsimp only at hK
    change AWP _ _ _ _ ⟨38, [(1, .ptr 0 0 0), (5, .own 1 out0.length), (19, .int .i64 (2 ^ (g_1.length : Int).toNat : Int)), (20, .int .i64 v)], [some (.gen 24 2 [[.int .i64 g_0, .fn 2 g_1.length (fun i => [.int .i64 ((g_1.getD i (0, 0)).1), .int .i64 ((g_1.getD i (0, 0)).2)])]]), some (.ints 2 .i64 out0)]⟩
    refine AWP_seq ?_
    refine AWP_rg tab_ok [1, 5, 19, 20, 21] fun c st' hr => ?_
    simp only [go_sem] at hr
    obtain ⟨rfl, rfl⟩ := hr
    refine ⟨vc, ?_⟩
    with_reducible refine thenC_normal ?_
    refine AWP_seq ?_
    refine AWP_condP (v < (2 ^ (g_1.length : Int).toNat : Int)) rfl bd (fun hb1 => ?_) (fun hb1 => ?_)
    ·replace hK := ite_t hK hb1
     refine AWP_skip ?_
     with_reducible refine thenC_normal ?_
     refine AWP_seq ?_
     refine AWP_block ?_
     refine AWP_seq ?_
     refine AWP_rg tab_ok [1, 5, 6, 19, 20] fun c st' hr => ?_
     simp only [go_sem] at hr
     obtain ⟨rfl, rfl⟩ := hr
     refine ⟨vc, ?_⟩
     with_reducible refine thenC_normal ?_
     refine AWP_drawQT 13 mixed (by kernel_rfl) ?_
     refine AWQL_rn tab_ok 3 [1, 5, 6, 19, 20, 23, 24, 25] fun c st' hr => ?_
     simp only [go_sem] at hr
     obtain ⟨rfl, rfl⟩ := hr
     refine ⟨vc, ?_⟩
     replace hK := bind_s hK
     obtain ⟨y1, hy, hK⟩ := hK
     refine AWQL_callK [1, 5, 6, 19, 20, 23, 26] (W_tutte_parted hy) rfl rfl pcT rfl Tryd.call19 (.cons (.agg _ _ rfl (ArgsOk.get (.cons (.atom _ rfl) (.cons (.atom _ rfl) .nil))).2) (.cons (.atom _ rfl) .nil)) (hscG trivial) (of_decide_eq_true rfl) rfl fun st' hr => ?_
     simp only [go_sem] at hr
     subst hr
     clear hy
     replace hK := chk_some hK
     obtain ⟨h2, hK⟩ := hK
     refine AWQL_rn tab_ok 3 [1, 5, 19, 20, 23, 26, 28, 29] fun c st' hr => ?_
     simp only [go_sem] at hr
     obtain ⟨rfl, rfl⟩ := hr
     refine ⟨vc, ?_⟩
     replace hK := bind_s hK
     obtain ⟨y2, hy, hK⟩ := hK
     refine AWQL_callK [1, 5, 19, 20, 23, 26, 28, 30] (W_tutte_size hy) rfl rfl pcT rfl Tryd.call20 (.cons (.atom _ rfl) .nil) (hscG trivial) (of_decide_eq_true rfl) rfl fun st' hr => ?_
     simp only [go_sem] at hr
     subst hr
     clear hy
     replace hK := chk_some hK
     obtain ⟨h3, hK⟩ := hK
     refine AWQL_rn tab_ok 5 [1, 5, 19, 20, 34, 35] fun c st' hr => ?_
     simp only [go_sem] at hr
     obtain ⟨rfl, rfl⟩ := hr
     refine ⟨vc, ?_⟩
     refine AWQL_done ?_
     refine AWPL_rn tab_ok 1 [1, 5, 19, 20] fun c st' hr => ?_
     simp only [go_sem] at hr
     obtain ⟨rfl, rfl⟩ := hr
     refine ⟨vc, ?_⟩
     refine AWPL_nil ?_
     with_reducible refine inBlockA_normal (thenC_normal ?_)
     refine AWP_facts (by simp) fun hfx => ?_
     simp only [factS, factV, fact1, fact0, factL0, lo, hi, maxLen, and_true, true_and] at hfx
     refine AWP_rg tab_ok [1, 5, 19, 20] fun c st' hr => ?_
     simp only [go_sem] at hr
     obtain ⟨rfl, rfl⟩ := hr
     refine ⟨vc, ?_⟩
     clear hfx
     refine again_n (out0.set y1.toNat ((out0.getD y1.toNat 0) + (1 - (2 * (Int.tmod y2 2)))), v + 1) [0, 1] hK mkWk
    ·replace hK := ite_f hK hb1
     refine AWP_exit ?_
     with_reducible refine thenC_exit (again_x ?_)
     refine cutX_here out0 [1] (by have hq := hpost1 _ hK; exact hq) mkWk
   ·clear hK; rintro out01 hK
    try dsimp only at hK
    refine exS ⟨38, [(5, .own 0 out01.length)], [some (.ints 2 .i64 out01)]⟩ rfl ?_
    with_reducible refine inBlockA_exit (thenC_normal ?_)
    refine AWP_seq ?_
    refine AWP_rg tab_ok [2, 3] fun c st' hr => ?_
    simp only [go_sem] at hr
    obtain ⟨rfl, rfl⟩ := hr
    refine ⟨vc, ?_⟩
    with_reducible refine thenC_normal ?_
    refine AWP_ret ?_
    cases hK
    refine EndsRW [0] (.inl rfl) (of_decide_eq_true rfl) (by simp) rfl (fun c x hr => ?_) endH
    simp only [go_sem] at hr
    obtain ⟨rfl, rfl⟩ := hr
    exact ⟨rfl, endR⟩

end Go.SH
