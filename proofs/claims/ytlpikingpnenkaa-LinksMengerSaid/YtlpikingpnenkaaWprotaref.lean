/-
  That the code computes these functions: rotaref_In, rotaref_Elements, rotaref_Size, rotaref_Paths. By a program of mine (shal.py). Conditions: none.
-/
import Derived.Test.YtlpikingpnenkaaAxT
import Derived.Test.YtlpikingpnenkaaAxR
import Derived.Test.YtlpikingpnenkaaSprotaref
set_option linter.unusedVariables false
set_option linter.unusedSimpArgs false
set_option maxRecDepth 8000
set_option maxHeartbeats 4000000
namespace Go.SH
open Go Go.AX Go.AX.Try Go.Proofs


theorem W_rotaref_In {s : Int} {i : Int} {r : Bool} (hK : rotaref_In s i = some r) : Pure Try.prog 26 [.int .i64 s, .int .i64 i] (.bool r) [] := by
  refine Pure_introF tab_ok (n := 10) (l := [.tmp 4]) Try.func26 rfl rfl rfl (by simp) fun hfact w0 => ?_
  simp only [factL1, fact1, fact0, factL0, lo, hi, maxLen, and_true] at hfact
  unfold rotaref_In at hK
  refine AWP_seq ?_
  refine AWP_rg tab_ok [0, 1] fun c st' hr => ?_
  simp only [go_sem] at hr
  obtain ⟨rfl, rfl⟩ := hr
  refine ⟨vc, ?_⟩
  with_reducible refine thenC_normal ?_
  refine AWP_seq ?_
  replace hK := chk_some hK
  obtain ⟨h, hK⟩ := hK
  refine AWP_rg tab_ok [4] fun c st' hr => ?_
  simp only [go_sem] at hr
  obtain ⟨rfl, rfl⟩ := hr
  refine ⟨vc, ?_⟩
  with_reducible refine thenC_normal ?_
  refine AWP_ret ?_
  cases hK
  refine EndsRW [] (.inl rfl) (of_decide_eq_true rfl) (by simp) rfl (fun c x hr => ?_) trivial
  simp only [go_sem] at hr
  obtain ⟨rfl, rfl⟩ := hr
  exact ⟨rfl, endR⟩


theorem W_rotaref_Elements {s : Int} {r : List Int} (hK : rotaref_Elements s = some r) : Pure Try.prog 25 [.int .i64 s] (.own 0 r.length) [(.ints 3 .i64 r)] := by
  refine Pure_introF tab_ok (n := 17) (l := [.tmp 2]) Try.func25 rfl rfl rfl (by simp) fun hfact w0 => ?_
  simp only [factL1, fact1, fact0, factL0, lo, hi, maxLen, and_true] at hfact
  unfold rotaref_Elements at hK
  refine AWP_seq ?_
  refine AWP_rg tab_ok [0] fun c st' hr => ?_
  simp only [go_sem] at hr
  obtain ⟨rfl, rfl⟩ := hr
  refine ⟨vc, ?_⟩
  with_reducible refine thenC_normal ?_
  refine AWP_seq ?_
  refine AWP_rg tab_ok [0, 3] fun c st' hr => ?_
  simp only [go_sem] at hr
  obtain ⟨rfl, rfl⟩ := hr
  refine ⟨vc, ?_⟩
  with_reducible refine thenC_normal ?_
  refine AWP_own 3 (.ints 3 .i64 []) rfl rfl fun st' hr => ?_
  simp only [go_sem] at hr
  subst hr
  refine AWP_seq ?_
  refine AWP_seq ?_
  refine AWP_rg tab_ok [0, 3, 4] fun c st' hr => ?_
  simp only [go_sem] at hr
  obtain ⟨rfl, rfl⟩ := hr
  refine ⟨vc, ?_⟩
  with_reducible refine thenC_normal ?_
  refine AWP_block ?_
  refine AWP_loopX 0 (fun ((out0, i) : List Int × Int) => ⟨17, [(0, .int .i64 s), (3, .own 0 out0.length), (4, .int .i64 i)], [some (.ints 3 .i64 out0)]⟩) (fun (out01 : List Int) => ⟨17, [(3, .own 0 out01.length)], [some (.ints 3 .i64 out01)]⟩) (fun v => v) ([], 0) [0] hK mkWk ?_ ?_
  ·clear hK; rintro ⟨out0, i⟩ b hK hpost1
   try dsimp only at hK
   change AWP _ _ _ _ ⟨17, [(0, .int .i64 s), (3, .own 0 out0.length), (4, .int .i64 i)], [some (.ints 3 .i64 out0)]⟩
   refine AWP_seq ?_
   refine AWP_seq ?_
   refine AWP_rg tab_ok [0, 3, 4, 6] fun c st' hr => ?_
   simp only [go_sem] at hr
   obtain ⟨rfl, rfl⟩ := hr
   refine ⟨vc, ?_⟩
   with_reducible refine thenC_normal ?_
   refine AWP_condP (i < 8) rfl bd (fun hb => ?_) (fun hb => ?_)
   ·replace hK := ite_t hK hb
    refine AWP_skip ?_
    with_reducible refine thenC_normal ?_
    refine AWP_seq ?_
    refine AWP_block ?_
    refine AWP_seq ?_
    refine AWP_rl ?_
    refine AWPL_rn tab_ok 2 [0, 3, 4, 9, 10] fun c st' hr => ?_
    simp only [go_sem] at hr
    obtain ⟨rfl, rfl⟩ := hr
    refine ⟨vc, ?_⟩
    replace hK := bind_s hK
    obtain ⟨y, hy, hK⟩ := hK
    refine AWPL_callK [0, 3, 4, 11] (W_rotaref_In hy) rfl rfl pcT rfl Try.call26 (.cons (.atom _ rfl) (.cons (.atom _ rfl) .nil)) (hscG trivial) (of_decide_eq_true rfl) (by first | rfl | simp [nI, nI1, nI0]) (by first | rfl | simp [nIB, nI0]) fun st' hr => ?_
    simp only [go_sem] at hr
    subst hr
    clear hy
    refine AWPL_nil ?_
    with_reducible refine thenC_normal ?_
    refine AWP_condP (y = true) rfl bd (fun hb1 => ?_) (fun hb1 => ?_)
    ·replace hK := ite_t hK hb1
     replace hK := chk_some hK
     obtain ⟨h, hK⟩ := hK
     refine AWP_rg tab_ok [0, 3, 4] fun c st' hr => ?_
     simp only [go_sem] at hr
     obtain ⟨rfl, rfl⟩ := hr
     refine ⟨vc, ?_⟩
     with_reducible refine inBlockA_normal (thenC_normal ?_)
     refine AWP_facts (by simp) fun hfx => ?_
     simp only [factS, factV, fact1, fact0, factL0, lo, hi, maxLen, and_true, true_and] at hfx
     refine AWP_rg tab_ok [0, 3, 4] fun c st' hr => ?_
     simp only [go_sem] at hr
     obtain ⟨rfl, rfl⟩ := hr
     refine ⟨vc, ?_⟩
     clear hfx
     refine again_n (out0 ++ [i], i + 1) [2] hK mkWk
    ·replace hK := ite_f hK hb1
     refine AWP_skip ?_
     with_reducible refine inBlockA_normal (thenC_normal ?_)
     refine AWP_facts (by simp) fun hfx => ?_
     simp only [factS, factV, fact1, fact0, factL0, lo, hi, maxLen, and_true, true_and] at hfx
     refine AWP_rg tab_ok [0, 3, 4] fun c st' hr => ?_
     simp only [go_sem] at hr
     obtain ⟨rfl, rfl⟩ := hr
     refine ⟨vc, ?_⟩
     clear hfx
     refine again_n (out0, i + 1) [0] hK mkWk
   ·replace hK := ite_f hK hb
    refine AWP_exit ?_
    with_reducible refine thenC_exit (again_x ?_)
    refine cutX_here out0 [0] (by have hq := hpost1 _ hK; exact hq) mkWk
  ·clear hK; rintro out01 hK
   try dsimp only at hK
   refine exS ⟨17, [(3, .own 0 out01.length)], [some (.ints 3 .i64 out01)]⟩ rfl ?_
   with_reducible refine inBlockA_exit (thenC_normal ?_)
   refine AWP_seq ?_
   refine AWP_rg tab_ok [2] fun c st' hr => ?_
   simp only [go_sem] at hr
   obtain ⟨rfl, rfl⟩ := hr
   refine ⟨vc, ?_⟩
   with_reducible refine thenC_normal ?_
   refine AWP_ret ?_
   cases hK
   refine EndsRW [0] (.inl rfl) (of_decide_eq_true rfl) (by simp) rfl (fun c x hr => ?_) endH
   simp only [go_sem] at hr
   obtain ⟨rfl, rfl⟩ := hr
   exact ⟨rfl, endR⟩


theorem W_rotaref_Size {s : Int} {r : Int} (hK : rotaref_Size s = some r) : Pure Try.prog 19 [.int .i64 s] (.int .i64 r) [] := by
  refine Pure_introF tab_ok (n := 6) (l := [.tmp 2]) Try.func19 rfl rfl rfl (by simp) fun hfact w0 => ?_
  simp only [factL1, fact1, fact0, factL0, lo, hi, maxLen, and_true] at hfact
  unfold rotaref_Size at hK
  refine AWP_seq ?_
  refine AWP_rg tab_ok [0] fun c st' hr => ?_
  simp only [go_sem] at hr
  obtain ⟨rfl, rfl⟩ := hr
  refine ⟨vc, ?_⟩
  with_reducible refine thenC_normal ?_
  refine AWP_seq ?_
  refine AWP_rl ?_
  refine AWPL_rn tab_ok 1 [3] fun c st' hr => ?_
  simp only [go_sem] at hr
  obtain ⟨rfl, rfl⟩ := hr
  refine ⟨vc, ?_⟩
  replace hK := bind_s hK
  obtain ⟨y, hy, hK⟩ := hK
  refine AWPL_callK [4] (W_rotaref_Elements hy) rfl rfl pcT rfl Try.call25 (.cons (.atom _ rfl) .nil) (hscG trivial) (of_decide_eq_true rfl) (by first | rfl | simp [nI, nI1, nI0]) (by first | rfl | simp [nIB, nI0]) fun st' hr => ?_
  simp only [go_sem] at hr
  subst hr
  clear hy
  refine AWPL_rn tab_ok 2 [2] fun c st' hr => ?_
  simp only [go_sem] at hr
  obtain ⟨rfl, rfl⟩ := hr
  refine ⟨vc, ?_⟩
  refine AWPL_nil ?_
  with_reducible refine thenC_normal ?_
  refine AWP_ret ?_
  cases hK
  refine EndsRW [] (.inl rfl) (of_decide_eq_true rfl) (by simp) rfl (fun c x hr => ?_) trivial
  simp only [go_sem] at hr
  obtain ⟨rfl, rfl⟩ := hr
  exact ⟨rfl, endR⟩


theorem W_rotaref_Paths {g_0 : Int} {g_1 : List (Int × Int)} {from0 : Int} {gone : Int} {r : Int} (hK : rotaref_Paths g_0 g_1 from0 gone = some r) : Pure Try.prog 24 [.agg [.int .i64 g_0, .fn 2 g_1.length (fun i => [.int .i64 ((g_1.getD i (0, 0)).1), .int .i64 ((g_1.getD i (0, 0)).2)])], .int .i64 from0, .int .i64 gone] (.int .i64 r) [] := by
  refine Pure_introF tab_ok (n := 48) (l := [.tmp 6]) Try.func24 rfl rfl rfl (by simp) fun hfact w0 => ?_
  simp only [factL1, fact1, fact0, factL0, lo, hi, maxLen, and_true] at hfact
  unfold rotaref_Paths at hK
  refine AWP_seq ?_
  refine AWP_rg tab_ok [1, 2, 3] fun c st' hr => ?_
  simp only [go_sem] at hr
  obtain ⟨rfl, rfl⟩ := hr
  refine ⟨vc, ?_⟩
  with_reducible refine thenC_normal ?_
  refine AWP_seq ?_
  refine AWP_rg tab_ok [2, 3, 7] fun c st' hr => ?_
  simp only [go_sem] at hr
  obtain ⟨rfl, rfl⟩ := hr
  refine ⟨vc, ?_⟩
  with_reducible refine thenC_normal ?_
  refine AWP_block ?_
  refine AWP_loopM (fun (s : Int) => ⟨48, [(2, .int .i64 gone), (3, .ptr 0 0 0), (7, .int .i64 s)], [some (.gen 42 2 [[.int .i64 g_0, .fn 2 g_1.length (fun i => [.int .i64 ((g_1.getD i (0, 0)).1), .int .i64 ((g_1.getD i (0, 0)).2)])]])]⟩) _ _ (iandnot from0 gone) [0] hK mkWk ?_
  ·clear hK; rintro s b hK hpost1
   try dsimp only at hK
   change AWP _ _ _ _ ⟨48, [(2, .int .i64 gone), (3, .ptr 0 0 0), (7, .int .i64 s)], [some (.gen 42 2 [[.int .i64 g_0, .fn 2 g_1.length (fun i => [.int .i64 ((g_1.getD i (0, 0)).1), .int .i64 ((g_1.getD i (0, 0)).2)])]])]⟩
   refine AWP_block ?_
   refine AWP_seq ?_
   refine AWP_rg tab_ok [2, 3, 7, 8] fun c st' hr => ?_
   simp only [go_sem] at hr
   obtain ⟨rfl, rfl⟩ := hr
   refine ⟨vc, ?_⟩
   with_reducible refine thenC_normal ?_
   refine AWP_seq ?_
   refine AWP_seq ?_
   refine AWP_rg tab_ok [2, 3, 7, 8, 9] fun c st' hr => ?_
   simp only [go_sem] at hr
   obtain ⟨rfl, rfl⟩ := hr
   refine ⟨vc, ?_⟩
   with_reducible refine thenC_normal ?_
   refine AWP_block ?_
   refine AWP_loopX 2 (fun ((t, i) : Int × Int) => ⟨48, [(2, .int .i64 gone), (3, .ptr 0 0 0), (7, .int .i64 s), (8, .int .i64 t), (9, .int .i64 i)], [some (.gen 42 2 [[.int .i64 g_0, .fn 2 g_1.length (fun i => [.int .i64 ((g_1.getD i (0, 0)).1), .int .i64 ((g_1.getD i (0, 0)).2)])]])]⟩) (fun (t1 : Int) => ⟨48, [(2, .int .i64 gone), (3, .ptr 0 0 0), (7, .int .i64 s), (8, .int .i64 t1)], [some (.gen 42 2 [[.int .i64 g_0, .fn 2 g_1.length (fun i => [.int .i64 ((g_1.getD i (0, 0)).1), .int .i64 ((g_1.getD i (0, 0)).2)])]])]⟩) (fun v => v) (s, 0) [0] hK mkWk ?_ ?_
   ·clear hK; rintro ⟨t, i⟩ b1 hK hpost2
    try dsimp only at hK
    change AWP _ _ _ _ ⟨48, [(2, .int .i64 gone), (3, .ptr 0 0 0), (7, .int .i64 s), (8, .int .i64 t), (9, .int .i64 i)], [some (.gen 42 2 [[.int .i64 g_0, .fn 2 g_1.length (fun i => [.int .i64 ((g_1.getD i (0, 0)).1), .int .i64 ((g_1.getD i (0, 0)).2)])]])]⟩
    refine AWP_seq ?_
    refine AWP_seq ?_
    refine AWP_rg tab_ok [2, 3, 7, 8, 9, 19] fun c st' hr => ?_
    simp only [go_sem] at hr
    obtain ⟨rfl, rfl⟩ := hr
    refine ⟨vc, ?_⟩
    with_reducible refine thenC_normal ?_
    refine AWP_condP (i < (g_1.length : Int)) rfl bd (fun hb => ?_) (fun hb => ?_)
    ·replace hK := ite_t hK hb
     refine AWP_skip ?_
     with_reducible refine thenC_normal ?_
     refine AWP_seq ?_
     refine AWP_block ?_
     refine AWP_seq ?_
     replace hK := chk_some hK
     obtain ⟨h, hK⟩ := hK
     refine AWP_rg tab_ok [2, 3, 7, 8, 9, 10] fun c st' hr => ?_
     simp only [go_sem] at hr
     obtain ⟨rfl, rfl⟩ := hr
     refine ⟨vc, ?_⟩
     with_reducible refine thenC_normal ?_
     refine AWP_seq ?_
     refine AWP_rl ?_
     refine AWPL_rn tab_ok 3 [2, 3, 7, 8, 9, 10, 27, 29] fun c st' hr => ?_
     simp only [go_sem] at hr
     obtain ⟨rfl, rfl⟩ := hr
     refine ⟨vc, ?_⟩
     replace hK := bind_s hK
     obtain ⟨y, hy, hK⟩ := hK
     refine AWPL_callK [2, 3, 7, 8, 9, 10, 30] (W_rotaref_In hy) rfl rfl pcT rfl Try.call26 (.cons (.atom _ rfl) (.cons (.atom _ rfl) .nil)) (hscG trivial) (of_decide_eq_true rfl) (by first | rfl | simp [nI, nI1, nI0]) (by first | rfl | simp [nIB, nI0]) fun st' hr => ?_
     simp only [go_sem] at hr
     subst hr
     clear hy
     refine AWPL_rn tab_ok 4 [2, 3, 7, 8, 9, 10, 31, 32, 34] fun c st' hr => ?_
     simp only [go_sem] at hr
     obtain ⟨rfl, rfl⟩ := hr
     refine ⟨vc, ?_⟩
     replace hK := bind_s hK
     obtain ⟨y1, hy, hK⟩ := hK
     refine AWPL_callGP [2, 3, 7, 8, 9, 10, 31, 35] (y = true) (fun hg => (W_rotaref_In (ite_t hy hg))) rfl rfl pcG rfl Try.call26 (.cons (.atom _ rfl) (.cons (.atom _ rfl) .nil)) (fun hg => hscG hg) (of_decide_eq_true rfl) (by first | rfl | simp [nI, nI1, nI0]) (by first | rfl | simp [sh, sh1, sh0]) fun st' hr => ?_
     simp only [go_sem] at hr
     subst hr
     clear hy
     refine AWPL_rn tab_ok 2 [2, 3, 7, 8, 9, 10, 37] fun c st' hr => ?_
     simp only [go_sem] at hr
     obtain ⟨rfl, rfl⟩ := hr
     refine ⟨vc, ?_⟩
     refine AWPL_nil ?_
     with_reducible refine thenC_normal ?_
     refine AWP_condP ((y = true ∧ ¬ (y1 = true))) rfl bd (fun hb1 => ?_) (fun hb1 => ?_)
     ·replace hK := ite_t hK hb1
      replace hK := chk_some hK
      obtain ⟨h1, hK⟩ := hK
      refine AWP_rg tab_ok [2, 3, 7, 8, 9] fun c st' hr => ?_
      simp only [go_sem] at hr
      obtain ⟨rfl, rfl⟩ := hr
      refine ⟨vc, ?_⟩
      with_reducible refine inBlockA_normal (thenC_normal ?_)
      replace hK := chk_some hK
      obtain ⟨h2, hK⟩ := hK
      refine AWP_rg tab_ok [2, 3, 7, 8, 9] fun c st' hr => ?_
      simp only [go_sem] at hr
      obtain ⟨rfl, rfl⟩ := hr
      refine ⟨vc, ?_⟩
      refine again_n (ior t (2 ^ ((g_1.getD i.toNat (0, 0)).2).toNat : Int), i + 1) [0] hK mkWk
     ·replace hK := ite_f hK hb1
      refine AWP_skip ?_
      with_reducible refine inBlockA_normal (thenC_normal ?_)
      replace hK := chk_some hK
      obtain ⟨h3, hK⟩ := hK
      refine AWP_rg tab_ok [2, 3, 7, 8, 9] fun c st' hr => ?_
      simp only [go_sem] at hr
      obtain ⟨rfl, rfl⟩ := hr
      refine ⟨vc, ?_⟩
      refine again_n (t, i + 1) [0] hK mkWk
    ·replace hK := ite_f hK hb
     refine AWP_exit ?_
     with_reducible refine thenC_exit (again_x ?_)
     refine cutX_here t [0] (by have hq := hpost2 _ hK; exact hq) mkWk
   ·clear hK; rintro t1 hK
    try dsimp only at hK
    refine exS ⟨48, [(2, .int .i64 gone), (3, .ptr 0 0 0), (7, .int .i64 s), (8, .int .i64 t1)], [some (.gen 42 2 [[.int .i64 g_0, .fn 2 g_1.length (fun i => [.int .i64 ((g_1.getD i (0, 0)).1), .int .i64 ((g_1.getD i (0, 0)).2)])]])]⟩ rfl ?_
    with_reducible refine inBlockA_exit (thenC_normal ?_)
    refine AWP_seq ?_
    refine AWP_seq ?_
    refine AWP_rg tab_ok [2, 3, 7, 8, 45] fun c st' hr => ?_
    simp only [go_sem] at hr
    obtain ⟨rfl, rfl⟩ := hr
    refine ⟨vc, ?_⟩
    with_reducible refine thenC_normal ?_
    refine AWP_condP (t1 = s) rfl bd (fun hb2 => ?_) (fun hb2 => ?_)
    ·replace hK := ite_t hK hb2
     refine AWP_seq ?_
     refine AWP_rg tab_ok [6] fun c st' hr => ?_
     simp only [go_sem] at hr
     obtain ⟨rfl, rfl⟩ := hr
     refine ⟨vc, ?_⟩
     with_reducible refine thenC_normal ?_
     refine AWP_ret ?_
     with_reducible refine thenC_ret (inBlockA_ret (again_r (inBlockA_ret ?_)))
     replace hK := hpost1 _ hK
     try dsimp only at hK
     cases hK
     refine EndsRW [] (.inl rfl) (of_decide_eq_true rfl) (by simp) rfl (fun c x hr => ?_) trivial
     simp only [go_sem] at hr
     obtain ⟨rfl, rfl⟩ := hr
     exact ⟨rfl, endR⟩
    ·replace hK := ite_f hK hb2
     refine AWP_skip ?_
     with_reducible refine thenC_normal ?_
     refine AWP_rg tab_ok [2, 3, 7] fun c st' hr => ?_
     simp only [go_sem] at hr
     obtain ⟨rfl, rfl⟩ := hr
     refine ⟨vc, ?_⟩
     with_reducible refine inBlockA_normal ?_
     refine again_n t1 [0] hK mkWk

end Go.SH
