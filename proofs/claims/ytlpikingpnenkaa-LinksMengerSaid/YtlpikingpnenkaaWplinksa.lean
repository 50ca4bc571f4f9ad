/-
  That the code computes these functions: links_right, links_laid, links_pipes_more, links_ways, links_Most, links_size, links_reached, links_Cut, links_Ways_2, links_Ways_1, links_Ways. By a program of mine (shal.py). Conditions: none.
-/
import Derived.Test.YtlpikingpnenkaaAxT
import Derived.Test.YtlpikingpnenkaaAxR
import Derived.Test.YtlpikingpnenkaaAxC2
import Derived.Test.YtlpikingpnenkaaAxKF
import Derived.Test.YtlpikingpnenkaaAxMp
import Derived.Test.YtlpikingpnenkaaAxTx
import Derived.Test.YtlpikingpnenkaaAxTk
import Derived.Test.YtlpikingpnenkaaAxRx
import Derived.Test.YtlpikingpnenkaaAxGc
import Derived.Test.YtlpikingpnenkaaAxN
import Derived.Test.YtlpikingpnenkaaAxOp
import Derived.Test.YtlpikingpnenkaaAxJm
import Derived.Test.YtlpikingpnenkaaAxZ
import Derived.Test.YtlpikingpnenkaaAxW
import Derived.Test.YtlpikingpnenkaaAxP
import Derived.Test.YtlpikingpnenkaaShelf
import Derived.Test.YtlpikingpnenkaaSp
import Derived.Test.YtlpikingpnenkaaWpbits
import Derived.Test.YtlpikingpnenkaaWpkindsg
import Derived.Test.YtlpikingpnenkaaWpslices
set_option linter.unusedVariables false
set_option linter.unusedSimpArgs false
set_option maxRecDepth 8000
set_option maxHeartbeats 4000000
namespace Go.SH
open Go Go.AX Go.AX.Try Go.Proofs


theorem W_links_right {g_0 : Int} {g_1 : List (Int × Int)} {l : List Int} {r : Int} (hK : links_right g_0 g_1 l = some r) : Pure Try.prog 70 [.agg [.int .i64 g_0, .fn 2 g_1.length (fun i => [.int .i64 ((g_1.getD i (0, 0)).1), .int .i64 ((g_1.getD i (0, 0)).2)])], .ints .i64 l] (.int .i64 r) [] := by
  refine Pure_introF tab_ok (n := 29) (l := [.tmp 4]) Try.func70 rfl rfl rfl (by simp) fun hfact w0 => ?_
  simp only [factL1, fact1, fact0, factL0, lo, hi, maxLen, and_true] at hfact
  unfold links_right at hK
  refine AWP_seq ?_
  refine AWP_rg tab_ok [1, 2] fun c st' hr => ?_
  simp only [go_sem] at hr
  obtain ⟨rfl, rfl⟩ := hr
  refine ⟨vc, ?_⟩
  with_reducible refine thenC_normal ?_
  refine AWP_seq ?_
  refine AWP_seq ?_
  refine AWP_rl ?_
  refine AWPL_rn tab_ok 1 [1, 2, 8] fun c st' hr => ?_
  simp only [go_sem] at hr
  obtain ⟨rfl, rfl⟩ := hr
  refine ⟨vc, ?_⟩
  replace hK := bind_s hK
  obtain ⟨y, hy, hK⟩ := hK
  refine AWPL_callK [1, 2, 9] (W_kinds_CheckGraph hy) rfl rfl pcT rfl Try.call132 (.cons (.agg _ _ rfl (ArgsOk.get (.cons (.atom _ rfl) (.cons (.atom _ rfl) .nil))).2) .nil) (hscG trivial) (of_decide_eq_true rfl) (by first | rfl | simp [nI, nI1, nI0]) (by first | rfl | simp [nIB, nI0]) fun st' hr => ?_
  simp only [go_sem] at hr
  subst hr
  clear hy
  refine AWPL_rn tab_ok 1 [1, 2, 5] fun c st' hr => ?_
  simp only [go_sem] at hr
  obtain ⟨rfl, rfl⟩ := hr
  refine ⟨vc, ?_⟩
  refine AWPL_nil ?_
  with_reducible refine thenC_normal ?_
  refine AWP_seq ?_
  refine AWP_rg tab_ok [1, 2, 5, 11] fun c st' hr => ?_
  simp only [go_sem] at hr
  obtain ⟨rfl, rfl⟩ := hr
  refine ⟨vc, ?_⟩
  with_reducible refine thenC_normal ?_
  refine AWP_condP (y ≠ 0) rfl bd (fun hb => ?_) (fun hb => ?_)
  ·replace hK := ite_t hK hb
   refine AWP_seq ?_
   refine AWP_rg tab_ok [4] fun c st' hr => ?_
   simp only [go_sem] at hr
   obtain ⟨rfl, rfl⟩ := hr
   refine ⟨vc, ?_⟩
   with_reducible refine thenC_normal ?_
   refine AWP_ret ?_
   with_reducible refine thenC_ret ?_
   cases hK
   refine EndsRW [] (.inl rfl) (of_decide_eq_true rfl) (by simp) rfl (fun c x hr => ?_) trivial
   simp only [go_sem] at hr
   obtain ⟨rfl, rfl⟩ := hr
   exact ⟨rfl, endR⟩
  ·replace hK := ite_f hK hb
   refine AWP_skip ?_
   with_reducible refine thenC_normal ?_
   refine AWP_seq ?_
   refine AWP_seq ?_
   refine AWP_rg tab_ok [2, 13, 14, 15] fun c st' hr => ?_
   simp only [go_sem] at hr
   obtain ⟨rfl, rfl⟩ := hr
   refine ⟨vc, ?_⟩
   with_reducible refine thenC_normal ?_
   refine AWP_block ?_
   refine AWP_loopX 0 (fun (v : Int) => ⟨29, [(2, .ptr 0 0 0), (13, .ints .i64 l), (14, .int .i64 (l.length : Int)), (15, .int .i64 v)], [some (.gen 42 2 [[.int .i64 g_0, .fn 2 g_1.length (fun i => [.int .i64 ((g_1.getD i (0, 0)).1), .int .i64 ((g_1.getD i (0, 0)).2)])]])]⟩) (fun (_ : Unit) => ⟨29, [], []⟩) Sum.inl 0 [0] hK mkWk ?_ ?_
   ·clear hK; rintro v b hK hpost1
    try dsimp only at hK
    change AWP _ _ _ _ ⟨29, [(2, .ptr 0 0 0), (13, .ints .i64 l), (14, .int .i64 (l.length : Int)), (15, .int .i64 v)], [some (.gen 42 2 [[.int .i64 g_0, .fn 2 g_1.length (fun i => [.int .i64 ((g_1.getD i (0, 0)).1), .int .i64 ((g_1.getD i (0, 0)).2)])]])]⟩
    refine AWP_seq ?_
    refine AWP_rg tab_ok [2, 13, 14, 15, 16] fun c st' hr => ?_
    simp only [go_sem] at hr
    obtain ⟨rfl, rfl⟩ := hr
    refine ⟨vc, ?_⟩
    with_reducible refine thenC_normal ?_
    refine AWP_seq ?_
    refine AWP_condP (v < (l.length : Int)) rfl bd (fun hb1 => ?_) (fun hb1 => ?_)
    ·replace hK := ite_t hK hb1
     refine AWP_skip ?_
     with_reducible refine thenC_normal ?_
     refine AWP_seq ?_
     refine AWP_block ?_
     refine AWP_seq ?_
     replace hK := chk_some hK
     obtain ⟨h, hK⟩ := hK
     refine AWP_rg tab_ok [2, 7, 13, 14, 15] fun c st' hr => ?_
     simp only [go_sem] at hr
     obtain ⟨rfl, rfl⟩ := hr
     refine ⟨vc, ?_⟩
     with_reducible refine thenC_normal ?_
     refine AWP_seq ?_
     replace hK := chk_some hK
     obtain ⟨h1, hK⟩ := hK
     refine AWP_rg tab_ok [2, 13, 14, 15, 27] fun c st' hr => ?_
     simp only [go_sem] at hr
     obtain ⟨rfl, rfl⟩ := hr
     refine ⟨vc, ?_⟩
     with_reducible refine thenC_normal ?_
     refine AWP_condP ((l.getD v.toNat 0 < 0 ∨ (2 ^ g_0.toNat : Int) ≤ l.getD v.toNat 0)) rfl bd (fun hb2 => ?_) (fun hb2 => ?_)
     ·replace hK := ite_t hK hb2
      refine AWP_seq ?_
      refine AWP_rg tab_ok [4] fun c st' hr => ?_
      simp only [go_sem] at hr
      obtain ⟨rfl, rfl⟩ := hr
      refine ⟨vc, ?_⟩
      with_reducible refine thenC_normal ?_
      refine AWP_ret ?_
      with_reducible refine inBlockA_ret (thenC_ret (again_r (cutX_r (inBlockA_ret (thenC_ret ?_)))))
      replace hK := hpost1 _ hK
      try dsimp only at hK
      cases hK
      refine EndsRW [] (.inl rfl) (of_decide_eq_true rfl) (by simp) rfl (fun c x hr => ?_) trivial
      simp only [go_sem] at hr
      obtain ⟨rfl, rfl⟩ := hr
      exact ⟨rfl, endR⟩
     ·replace hK := ite_f hK hb2
      refine AWP_skip ?_
      with_reducible refine inBlockA_normal (thenC_normal ?_)
      refine AWP_facts (by simp) fun hfx => ?_
      simp only [factS, factV, fact1, fact0, factL0, lo, hi, maxLen, and_true, true_and] at hfx
      refine AWP_rg tab_ok [2, 13, 14, 15] fun c st' hr => ?_
      simp only [go_sem] at hr
      obtain ⟨rfl, rfl⟩ := hr
      refine ⟨vc, ?_⟩
      clear hfx
      refine again_n (v + 1) [0] hK mkWk
    ·replace hK := ite_f hK hb1
     refine AWP_exit ?_
     with_reducible refine thenC_exit (again_x ?_)
     refine cutX_here () [] (by have hq := hpost1 _ hK; exact hq) mkWk
   ·clear hK; rintro _ hK
    try dsimp only at hK
    refine exS ⟨29, [], []⟩ rfl ?_
    with_reducible refine inBlockA_exit (thenC_normal ?_)
    refine AWP_seq ?_
    refine AWP_rg tab_ok [4] fun c st' hr => ?_
    simp only [go_sem] at hr
    obtain ⟨rfl, rfl⟩ := hr
    refine ⟨vc, ?_⟩
    with_reducible refine thenC_normal ?_
    refine AWP_ret ?_
    cases hK
    refine EndsRW [] (.inl rfl) (of_decide_eq_true rfl) (by simp) rfl (fun c x hr => ?_) trivial
    simp only [go_sem] at hr
    obtain ⟨rfl, rfl⟩ := hr
    exact ⟨rfl, endR⟩


theorem W_links_laid {g_0 : Int} {g_1 : List (Int × Int)} {a1 : Int} {a2 : Int} {r : List (List Int)} (hK : links_laid g_0 g_1 a1 a2 = some r) : Pure Try.prog 133 [.agg [.int .i64 g_0, .fn 2 g_1.length (fun i => [.int .i64 ((g_1.getD i (0, 0)).1), .int .i64 ((g_1.getD i (0, 0)).2)])], .int .i64 a1, .int .i64 a2] (.own 0 r.length) [(.outs 22 1 r.length idO (lenO r)), (.rows 3 .i64 r)] := by
  refine Pure_introF tab_ok (n := 88) (l := [.tmp 6]) Try.func133 rfl rfl rfl (by simp) fun hfact w0 => ?_
  simp only [factL1, fact1, fact0, factL0, lo, hi, maxLen, and_true] at hfact
  unfold links_laid at hK
  refine AWP_seq ?_
  refine AWP_rg tab_ok [1, 2, 3] fun c st' hr => ?_
  simp only [go_sem, lenO_app, lenO_eta] at hr
  obtain ⟨rfl, rfl⟩ := hr
  refine ⟨vc, ?_⟩
  with_reducible refine thenC_normal ?_
  refine AWP_seq ?_
  replace hK := chk_some hK
  obtain ⟨h, hK⟩ := hK
  refine AWP_rg tab_ok [1, 2, 3, 7] fun c st' hr => ?_
  simp only [go_sem, lenO_app, lenO_eta] at hr
  obtain ⟨rfl, rfl⟩ := hr
  refine ⟨vc, ?_⟩
  with_reducible refine thenC_normal ?_
  refine AWP_gs' (gs_outs0 1 .i64 3 rfl) fun st' hr => ?_
  simp only [go_sem, lenO_app, lenO_eta, List.cons_append, List.nil_append, List.set_cons_zero, List.set_cons_succ] at hr
  subst hr
  refine AWP_seq ?_
  refine AWP_seq ?_
  refine AWP_rg tab_ok [1, 2, 3, 7, 18, 19] fun c st' hr => ?_
  simp only [go_sem, lenO_app, lenO_eta] at hr
  obtain ⟨rfl, rfl⟩ := hr
  refine ⟨vc, ?_⟩
  with_reducible refine thenC_normal ?_
  refine AWP_block ?_
  refine AWP_loopX 0 (fun ((v, v1) : List (List Int) × Int) => ⟨88, [(1, .int .i64 a1), (2, .int .i64 a2), (3, .ptr 0 0 0), (7, .own 1 ((2 + (2 * g_0)).toNat)), (18, .int .i64 ((2 + (2 * g_0)).toNat : Int)), (19, .int .i64 v1)], [some (.gen 42 2 [[.int .i64 g_0, .fn 2 g_1.length (fun i => [.int .i64 ((g_1.getD i (0, 0)).1), .int .i64 ((g_1.getD i (0, 0)).2)])]]), some (.outs 22 2 ((2 + (2 * g_0)).toNat) (fP v.length) (lenO v)), some (.rows 3 .i64 v)]⟩) (fun (v2 : List (List Int)) => ⟨88, [(1, .int .i64 a1), (2, .int .i64 a2), (3, .ptr 0 0 0), (7, .own 1 ((2 + (2 * g_0)).toNat))], [some (.gen 42 2 [[.int .i64 g_0, .fn 2 g_1.length (fun i => [.int .i64 ((g_1.getD i (0, 0)).1), .int .i64 ((g_1.getD i (0, 0)).2)])]]), some (.outs 22 2 ((2 + (2 * g_0)).toNat) (fP v2.length) (lenO v2)), some (.rows 3 .i64 v2)]⟩) (fun v => v) (([] : List (List Int)), 0) [0, 1, 2] hK mkWkR ?_ ?_
  ·clear hK; rintro ⟨v, v1⟩ b hK hpost1
   try dsimp only at hK
   change AWP _ _ _ _ ⟨88, [(1, .int .i64 a1), (2, .int .i64 a2), (3, .ptr 0 0 0), (7, .own 1 ((2 + (2 * g_0)).toNat)), (18, .int .i64 ((2 + (2 * g_0)).toNat : Int)), (19, .int .i64 v1)], [some (.gen 42 2 [[.int .i64 g_0, .fn 2 g_1.length (fun i => [.int .i64 ((g_1.getD i (0, 0)).1), .int .i64 ((g_1.getD i (0, 0)).2)])]]), some (.outs 22 2 ((2 + (2 * g_0)).toNat) (fP v.length) (lenO v)), some (.rows 3 .i64 v)]⟩
   refine AWP_seq ?_
   refine AWP_rg tab_ok [1, 2, 3, 7, 18, 19, 20] fun c st' hr => ?_
   simp only [go_sem, lenO_app, lenO_eta] at hr
   obtain ⟨rfl, rfl⟩ := hr
   refine ⟨vc, ?_⟩
   with_reducible refine thenC_normal ?_
   refine AWP_seq ?_
   refine AWP_condP (v1 < ((2 + (2 * g_0)).toNat : Int)) rfl bd (fun hb => ?_) (fun hb => ?_)
   ·replace hK := ite_t hK hb
    refine AWP_skip ?_
    with_reducible refine thenC_normal ?_
    refine AWP_seq ?_
    refine AWP_block ?_
    refine AWP_seq ?_
    refine AWP_rg tab_ok [1, 2, 3, 7, 8, 18, 19] fun c st' hr => ?_
    simp only [go_sem, lenO_app, lenO_eta] at hr
    obtain ⟨rfl, rfl⟩ := hr
    refine ⟨vc, ?_⟩
    with_reducible refine thenC_normal ?_
    refine AWP_rl ?_
    replace hK := chk_some hK
    obtain ⟨h1, hK⟩ := hK
    refine AWPL_rn tab_ok 6 [1, 2, 3, 7, 18, 19, 26, 27] fun c st' hr => ?_
    simp only [go_sem, lenO_app, lenO_eta] at hr
    obtain ⟨rfl, rfl⟩ := hr
    refine ⟨vc, ?_⟩
    refine AWPL_gs' (gs_adopt 26 2 rfl (by first | rfl | (simp; done)) rfl rfl (by first | rfl | (simp [noPin]; done))) fun st' hr => ?_
    simp only [go_sem, lenO_app, lenO_eta, List.set_cons_zero, List.set_cons_succ] at hr
    subst hr
    replace hK := chk_some hK
    obtain ⟨h2, hK⟩ := hK
    refine AWPL_rn tab_ok 1 [1, 2, 3, 7, 18, 19] fun c st' hr => ?_
    simp only [go_sem, lenO_app, lenO_eta] at hr
    obtain ⟨rfl, rfl⟩ := hr
    refine ⟨vc, ?_⟩
    refine AWPL_gs' (gs_fill 1 (X := v) (xs := List.replicate ((2 + (2 * g_0)).toNat : Int).toNat 0) rfl (by first | omega | grind) (by first | rfl | (simp; done))) fun st' hr => ?_
    simp only [go_sem, lenO_app, lenO_eta, List.cons_append, List.nil_append, List.set_cons_zero, List.set_cons_succ] at hr
    subst hr
    refine AWPL_nil ?_
    with_reducible refine inBlockA_normal (thenC_normal ?_)
    replace hK := chk_some hK
    obtain ⟨h3, hK⟩ := hK
    refine AWP_rg tab_ok [1, 2, 3, 7, 18, 19] fun c st' hr => ?_
    simp only [go_sem, lenO_app, lenO_eta] at hr
    obtain ⟨rfl, rfl⟩ := hr
    refine ⟨vc, ?_⟩
    refine again_n (v ++ [List.replicate ((2 + (2 * g_0)).toNat : Int).toNat 0], v1 + 1) [0, 1, 2] hK mkWkR
   ·replace hK := ite_f hK hb
    refine AWP_exit ?_
    with_reducible refine thenC_exit (again_x ?_)
    refine cutX_here v [0, 1, 2] (by have hq := hpost1 _ hK; exact hq) mkWkR
  ·clear hK; rintro v2 hK
   try dsimp only at hK
   refine exS ⟨88, [(1, .int .i64 a1), (2, .int .i64 a2), (3, .ptr 0 0 0), (7, .own 1 ((2 + (2 * g_0)).toNat))], [some (.gen 42 2 [[.int .i64 g_0, .fn 2 g_1.length (fun i => [.int .i64 ((g_1.getD i (0, 0)).1), .int .i64 ((g_1.getD i (0, 0)).2)])]]), some (.outs 22 2 ((2 + (2 * g_0)).toNat) (fP v2.length) (lenO v2)), some (.rows 3 .i64 v2)]⟩ rfl ?_
   with_reducible refine inBlockA_exit (thenC_normal ?_)
   refine AWP_seq ?_
   refine AWP_seq ?_
   replace hK := chk_some hK
   obtain ⟨h4, hK⟩ := hK
   refine AWP_gs' (gs_full 1 (X := v2) rfl (by first | assumption | omega)) fun st' hr => ?_
   simp only [go_sem, lenO_app, lenO_eta, List.set_cons_zero, List.set_cons_succ] at hr
   subst hr
   refine AWP_rg tab_ok [1, 2, 3, 7, 30, 31] fun c st' hr => ?_
   simp only [go_sem, lenO_app, lenO_eta] at hr
   obtain ⟨rfl, rfl⟩ := hr
   refine ⟨vc, ?_⟩
   with_reducible refine thenC_normal ?_
   refine AWP_block ?_
   refine AWP_loopX 2 (fun ((v3, v4) : List (List Int) × Int) => ⟨88, [(1, .int .i64 a1), (2, .int .i64 a2), (3, .ptr 0 0 0), (7, .own 1 v3.length), (30, .int .i64 g_0), (31, .int .i64 v4)], [some (.gen 42 2 [[.int .i64 g_0, .fn 2 g_1.length (fun i => [.int .i64 ((g_1.getD i (0, 0)).1), .int .i64 ((g_1.getD i (0, 0)).2)])]]), some (.outs 22 2 v3.length idO (lenO v3)), some (.rows 3 .i64 v3)]⟩) (fun (v5 : List (List Int)) => ⟨88, [(3, .ptr 0 0 0), (7, .own 1 v5.length)], [some (.gen 42 2 [[.int .i64 g_0, .fn 2 g_1.length (fun i => [.int .i64 ((g_1.getD i (0, 0)).1), .int .i64 ((g_1.getD i (0, 0)).2)])]]), some (.outs 22 2 v5.length idO (lenO v5)), some (.rows 3 .i64 v5)]⟩) (fun v => v) (v2, 0) [0, 1, 2] hK mkWkR ?_ ?_
   ·clear hK; rintro ⟨v3, v4⟩ b1 hK hpost2
    try dsimp only at hK
    change AWP _ _ _ _ ⟨88, [(1, .int .i64 a1), (2, .int .i64 a2), (3, .ptr 0 0 0), (7, .own 1 v3.length), (30, .int .i64 g_0), (31, .int .i64 v4)], [some (.gen 42 2 [[.int .i64 g_0, .fn 2 g_1.length (fun i => [.int .i64 ((g_1.getD i (0, 0)).1), .int .i64 ((g_1.getD i (0, 0)).2)])]]), some (.outs 22 2 v3.length idO (lenO v3)), some (.rows 3 .i64 v3)]⟩
    refine AWP_seq ?_
    refine AWP_rg tab_ok [1, 2, 3, 7, 30, 31, 32] fun c st' hr => ?_
    simp only [go_sem, lenO_app, lenO_eta] at hr
    obtain ⟨rfl, rfl⟩ := hr
    refine ⟨vc, ?_⟩
    with_reducible refine thenC_normal ?_
    refine AWP_seq ?_
    refine AWP_condP (v4 < g_0) rfl bd (fun hb1 => ?_) (fun hb1 => ?_)
    ·replace hK := ite_t hK hb1
     refine AWP_skip ?_
     with_reducible refine thenC_normal ?_
     refine AWP_seq ?_
     refine AWP_block ?_
     refine AWP_seq ?_
     refine AWP_rg tab_ok [1, 2, 3, 7, 9, 30, 31] fun c st' hr => ?_
     simp only [go_sem, lenO_app, lenO_eta] at hr
     obtain ⟨rfl, rfl⟩ := hr
     refine ⟨vc, ?_⟩
     with_reducible refine thenC_normal ?_
     refine AWP_seq ?_
     replace hK := chk_some hK
     obtain ⟨h5, hK⟩ := hK
     refine AWP_rg tab_ok [1, 2, 3, 7, 9, 30, 31] fun c st' hr => ?_
     simp only [go_sem, lenO_app, lenO_eta] at hr
     obtain ⟨rfl, rfl⟩ := hr
     refine ⟨vc, ?_⟩
     with_reducible refine thenC_normal ?_
     refine AWP_seq ?_
     replace hK := chk_some hK
     obtain ⟨h6, hK⟩ := hK
     refine AWP_dt tab_ok 11 [1, 2, 3, 7, 9, 30, 31] mixed (by kernel_rfl) fun c st' hr => ?_
     simp only [go_sem, lenO_app, lenO_eta] at hr
     obtain ⟨rfl, rfl⟩ := hr
     refine ⟨vc, ?_⟩
     with_reducible refine thenC_normal ?_
     replace hK := chk_some hK
     obtain ⟨h7, hK⟩ := hK
     refine AWP_dt tab_ok 11 [1, 2, 3, 7, 30, 31] mixed (by kernel_rfl) fun c st' hr => ?_
     simp only [go_sem, lenO_app, lenO_eta] at hr
     obtain ⟨rfl, rfl⟩ := hr
     refine ⟨vc, ?_⟩
     with_reducible refine inBlockA_normal (thenC_normal ?_)
     replace hK := chk_some hK
     obtain ⟨h8, hK⟩ := hK
     refine AWP_rg tab_ok [1, 2, 3, 7, 30, 31] fun c st' hr => ?_
     simp only [go_sem, lenO_app, lenO_eta] at hr
     obtain ⟨rfl, rfl⟩ := hr
     refine ⟨vc, ?_⟩
     refine again_n (((v3.set ((2 + (2 * v4)).toNat) ((v3.getD ((2 + (2 * v4)).toNat) []).set ((3 + (2 * v4)).toNat) 1)).set 0 (((v3.set ((2 + (2 * v4)).toNat) ((v3.getD ((2 + (2 * v4)).toNat) []).set ((3 + (2 * v4)).toNat) 1)).getD 0 []).set ((2 + (2 * v4)).toNat) (iand (a1 / 2 ^ v4.toNat) 1))).set ((3 + (2 * v4)).toNat) ((((v3.set ((2 + (2 * v4)).toNat) ((v3.getD ((2 + (2 * v4)).toNat) []).set ((3 + (2 * v4)).toNat) 1)).set 0 (((v3.set ((2 + (2 * v4)).toNat) ((v3.getD ((2 + (2 * v4)).toNat) []).set ((3 + (2 * v4)).toNat) 1)).getD 0 []).set ((2 + (2 * v4)).toNat) (iand (a1 / 2 ^ v4.toNat) 1))).getD ((3 + (2 * v4)).toNat) []).set 1 (iand (a2 / 2 ^ v4.toNat) 1)), v4 + 1) [0, 1, 2] hK mkWkR
    ·replace hK := ite_f hK hb1
     refine AWP_exit ?_
     with_reducible refine thenC_exit (again_x ?_)
     refine cutX_here v3 [0, 1, 2] (by have hq := hpost2 _ hK; exact hq) mkWkR
   ·clear hK; rintro v5 hK
    try dsimp only at hK
    refine exS ⟨88, [(3, .ptr 0 0 0), (7, .own 1 v5.length)], [some (.gen 42 2 [[.int .i64 g_0, .fn 2 g_1.length (fun i => [.int .i64 ((g_1.getD i (0, 0)).1), .int .i64 ((g_1.getD i (0, 0)).2)])]]), some (.outs 22 2 v5.length idO (lenO v5)), some (.rows 3 .i64 v5)]⟩ rfl ?_
    with_reducible refine inBlockA_exit (thenC_normal ?_)
    refine AWP_seq ?_
    refine AWP_seq ?_
    refine AWP_rg tab_ok [7, 68, 69, 70] fun c st' hr => ?_
    simp only [go_sem, lenO_app, lenO_eta] at hr
    obtain ⟨rfl, rfl⟩ := hr
    refine ⟨vc, ?_⟩
    with_reducible refine thenC_normal ?_
    refine AWP_block ?_
    refine AWP_loopX 4 (fun ((v6, v7) : List (List Int) × Int) => ⟨88, [(7, .own 0 v6.length), (68, .fn 2 g_1.length (fun i => [.int .i64 ((g_1.getD i (0, 0)).1), .int .i64 ((g_1.getD i (0, 0)).2)])), (69, .int .i64 (g_1.length : Int)), (70, .int .i64 v7)], [some (.outs 22 1 v6.length idO (lenO v6)), some (.rows 3 .i64 v6)]⟩) (fun (v8 : List (List Int)) => ⟨88, [(7, .own 0 v8.length)], [some (.outs 22 1 v8.length idO (lenO v8)), some (.rows 3 .i64 v8)]⟩) (fun v => v) (v5, 0) [1, 2] hK mkWkR ?_ ?_
    ·clear hK; rintro ⟨v6, v7⟩ b2 hK hpost3
     try dsimp only at hK
     change AWP _ _ _ _ ⟨88, [(7, .own 0 v6.length), (68, .fn 2 g_1.length (fun i => [.int .i64 ((g_1.getD i (0, 0)).1), .int .i64 ((g_1.getD i (0, 0)).2)])), (69, .int .i64 (g_1.length : Int)), (70, .int .i64 v7)], [some (.outs 22 1 v6.length idO (lenO v6)), some (.rows 3 .i64 v6)]⟩
     refine AWP_seq ?_
     refine AWP_rg tab_ok [7, 68, 69, 70, 71] fun c st' hr => ?_
     simp only [go_sem, lenO_app, lenO_eta] at hr
     obtain ⟨rfl, rfl⟩ := hr
     refine ⟨vc, ?_⟩
     with_reducible refine thenC_normal ?_
     refine AWP_seq ?_
     refine AWP_condP (v7 < (g_1.length : Int)) rfl bd (fun hb2 => ?_) (fun hb2 => ?_)
     ·replace hK := ite_t hK hb2
      refine AWP_skip ?_
      with_reducible refine thenC_normal ?_
      refine AWP_seq ?_
      refine AWP_block ?_
      refine AWP_seq ?_
      replace hK := chk_some hK
      obtain ⟨h9, hK⟩ := hK
      refine AWP_rg tab_ok [7, 11, 68, 69, 70] fun c st' hr => ?_
      simp only [go_sem, lenO_app, lenO_eta] at hr
      obtain ⟨rfl, rfl⟩ := hr
      refine ⟨vc, ?_⟩
      with_reducible refine thenC_normal ?_
      replace hK := chk_some hK
      obtain ⟨h10, hK⟩ := hK
      refine AWP_dt tab_ok 12 [7, 68, 69, 70] mixed (by kernel_rfl) fun c st' hr => ?_
      simp only [go_sem, lenO_app, lenO_eta] at hr
      obtain ⟨rfl, rfl⟩ := hr
      refine ⟨vc, ?_⟩
      with_reducible refine inBlockA_normal (thenC_normal ?_)
      refine AWP_facts (by simp) fun hfx => ?_
      simp only [factS, factV, fact1, fact0, factL0, lo, hi, maxLen, and_true, true_and] at hfx
      refine AWP_rg tab_ok [7, 68, 69, 70] fun c st' hr => ?_
      simp only [go_sem, lenO_app, lenO_eta] at hr
      obtain ⟨rfl, rfl⟩ := hr
      refine ⟨vc, ?_⟩
      clear hfx
      refine again_n (v6.set ((3 + (2 * ((g_1.getD v7.toNat (0, 0)).1))).toNat) ((v6.getD ((3 + (2 * ((g_1.getD v7.toNat (0, 0)).1))).toNat) []).set ((2 + (2 * ((g_1.getD v7.toNat (0, 0)).2))).toNat) 1), v7 + 1) [0, 1] hK mkWkR
     ·replace hK := ite_f hK hb2
      refine AWP_exit ?_
      with_reducible refine thenC_exit (again_x ?_)
      refine cutX_here v6 [0, 1] (by have hq := hpost3 _ hK; exact hq) mkWkR
    ·clear hK; rintro v8 hK
     try dsimp only at hK
     refine exS ⟨88, [(7, .own 0 v8.length)], [some (.outs 22 1 v8.length idO (lenO v8)), some (.rows 3 .i64 v8)]⟩ rfl ?_
     with_reducible refine inBlockA_exit (thenC_normal ?_)
     refine AWP_seq ?_
     refine AWP_rg tab_ok [6] fun c st' hr => ?_
     simp only [go_sem, lenO_app, lenO_eta] at hr
     obtain ⟨rfl, rfl⟩ := hr
     refine ⟨vc, ?_⟩
     with_reducible refine thenC_normal ?_
     refine AWP_ret ?_
     cases hK
     refine EndsRW [0, 1] (.inl rfl) (of_decide_eq_true rfl) (by simp) rfl (fun c x hr => ?_) endHR
     simp only [go_sem, lenO_app, lenO_eta] at hr
     obtain ⟨rfl, rfl⟩ := hr
     exact ⟨rfl, endR⟩


theorem W_links_pipes_more {q0 : List (List Int)} {r : Bool × List (List Int)} (hK : links_pipes_more q0 = some r) : InG Try.prog 134 [(.outs 22 1 q0.length idO (lenO q0)), (.rows 3 .i64 q0)] 1 (fun _ => [.own 0 q0.length]) (.bool r.1) [(.outs 22 1 r.2.length idO (lenO r.2)), (.rows 3 .i64 r.2)] := by
  refine InG_intro tab_ok (n := 105) (l := [.tmp 2]) Try.func134 rfl rfl rfl (fun ls => by first | (split <;> simp) | simp) (of_decide_eq_true rfl) (of_decide_eq_true rfl) rfl rfl rfl (by simp [renB, ren0, renI, List.range, List.range.loop]) (of_decide_eq_true rfl) (of_decide_eq_true rfl) fun w0 ls hls => ?_
  obtain ⟨pl0, rfl⟩ : ∃ pl0, ls = [pl0] := by
    match ls, hls with
    | [a], _ => exact ⟨a, rfl⟩
  simp only [pinL, List.map_cons, List.map_nil, List.cons_append, List.nil_append, Nat.zero_add, Nat.reduceAdd]
  unfold links_pipes_more at hK
  refine AWP_seq ?_
  refine AWP_rg tab_ok [0] fun c st' hr => ?_
  simp only [go_sem, lenO_app, lenO_eta] at hr
  obtain ⟨rfl, rfl⟩ := hr
  refine ⟨vc, ?_⟩
  with_reducible refine thenC_normal ?_
  refine AWP_seq ?_
  replace hK := chk_some hK
  obtain ⟨h, hK⟩ := hK
  refine AWP_rg tab_ok [0, 3] fun c st' hr => ?_
  simp only [go_sem, lenO_app, lenO_eta] at hr
  obtain ⟨rfl, rfl⟩ := hr
  refine ⟨vc, ?_⟩
  with_reducible refine thenC_normal ?_
  refine AWP_seq ?_
  refine AWP_seq ?_
  refine AWP_rg tab_ok [0, 3, 14, 15] fun c st' hr => ?_
  simp only [go_sem, lenO_app, lenO_eta] at hr
  obtain ⟨rfl, rfl⟩ := hr
  refine ⟨vc, ?_⟩
  with_reducible refine thenC_normal ?_
  refine AWP_block ?_
  refine AWP_loopX 0 (fun ((v, v1) : List Int × Int) => ⟨105, [(0, .own 0 q0.length), (3, .own 3 v.length), (14, .int .i64 ((List.replicate (q0.length : Int).toNat 0).length : Int)), (15, .int .i64 v1)], [some (.outs 22 1 q0.length idO (lenO q0)), some (.rows 3 .i64 q0), some (.pin 0 pl0), some (.ints 3 .i64 v)]⟩) (fun (v2 : List Int) => ⟨105, [(0, .own 0 q0.length), (3, .own 3 v2.length)], [some (.outs 22 1 q0.length idO (lenO q0)), some (.rows 3 .i64 q0), some (.pin 0 pl0), some (.ints 3 .i64 v2)]⟩) (fun v => v) (List.replicate (q0.length : Int).toNat 0, 0) [0, 1, 2, 3] hK mkWkR ?_ ?_
  ·clear hK; rintro ⟨v, v1⟩ b hK hpost1
   try dsimp only at hK
   change AWP _ _ _ _ ⟨105, [(0, .own 0 q0.length), (3, .own 3 v.length), (14, .int .i64 ((List.replicate (q0.length : Int).toNat 0).length : Int)), (15, .int .i64 v1)], [some (.outs 22 1 q0.length idO (lenO q0)), some (.rows 3 .i64 q0), some (.pin 0 pl0), some (.ints 3 .i64 v)]⟩
   refine AWP_seq ?_
   refine AWP_rg tab_ok [0, 3, 14, 15, 16] fun c st' hr => ?_
   simp only [go_sem, lenO_app, lenO_eta] at hr
   obtain ⟨rfl, rfl⟩ := hr
   refine ⟨vc, ?_⟩
   with_reducible refine thenC_normal ?_
   refine AWP_seq ?_
   refine AWP_condP (v1 < ((List.replicate (q0.length : Int).toNat 0).length : Int)) rfl bd (fun hb => ?_) (fun hb => ?_)
   ·replace hK := ite_t hK hb
    refine AWP_skip ?_
    with_reducible refine thenC_normal ?_
    refine AWP_seq ?_
    refine AWP_block ?_
    refine AWP_seq ?_
    refine AWP_rg tab_ok [0, 3, 4, 14, 15] fun c st' hr => ?_
    simp only [go_sem, lenO_app, lenO_eta] at hr
    obtain ⟨rfl, rfl⟩ := hr
    refine ⟨vc, ?_⟩
    with_reducible refine thenC_normal ?_
    replace hK := chk_some hK
    obtain ⟨h1, hK⟩ := hK
    refine AWP_rg tab_ok [0, 3, 14, 15] fun c st' hr => ?_
    simp only [go_sem, lenO_app, lenO_eta] at hr
    obtain ⟨rfl, rfl⟩ := hr
    refine ⟨vc, ?_⟩
    with_reducible refine inBlockA_normal (thenC_normal ?_)
    refine AWP_facts (by simp) fun hfx => ?_
    simp only [factS, factV, fact1, fact0, factL0, lo, hi, maxLen, and_true, true_and] at hfx
    refine AWP_rg tab_ok [0, 3, 14, 15] fun c st' hr => ?_
    simp only [go_sem, lenO_app, lenO_eta] at hr
    obtain ⟨rfl, rfl⟩ := hr
    refine ⟨vc, ?_⟩
    clear hfx
    refine again_n (v.set v1.toNat (-1), v1 + 1) [0, 1, 2, 3] hK mkWkR
   ·replace hK := ite_f hK hb
    refine AWP_exit ?_
    with_reducible refine thenC_exit (again_x ?_)
    refine cutX_here v [0, 1, 2, 3] (by have hq := hpost1 _ hK; exact hq) mkWkR
  ·clear hK; rintro v2 hK
   try dsimp only at hK
   refine exS ⟨105, [(0, .own 0 q0.length), (3, .own 3 v2.length)], [some (.outs 22 1 q0.length idO (lenO q0)), some (.rows 3 .i64 q0), some (.pin 0 pl0), some (.ints 3 .i64 v2)]⟩ rfl ?_
   with_reducible refine inBlockA_exit (thenC_normal ?_)
   refine AWP_seq ?_
   replace hK := chk_some hK
   obtain ⟨h2, hK⟩ := hK
   refine AWP_rg tab_ok [0, 3] fun c st' hr => ?_
   simp only [go_sem, lenO_app, lenO_eta] at hr
   obtain ⟨rfl, rfl⟩ := hr
   refine ⟨vc, ?_⟩
   with_reducible refine thenC_normal ?_
   refine AWP_seq ?_
   refine AWP_rg tab_ok [0, 3, 5] fun c st' hr => ?_
   simp only [go_sem, lenO_app, lenO_eta] at hr
   obtain ⟨rfl, rfl⟩ := hr
   refine ⟨vc, ?_⟩
   with_reducible refine thenC_normal ?_
   refine AWP_seq ?_
   refine AWP_seq ?_
   refine AWP_rg tab_ok [0, 3, 5, 6] fun c st' hr => ?_
   simp only [go_sem, lenO_app, lenO_eta] at hr
   obtain ⟨rfl, rfl⟩ := hr
   refine ⟨vc, ?_⟩
   with_reducible refine thenC_normal ?_
   refine AWP_block ?_
   refine AWP_loopX 2 (fun ((v3, v4, v5) : List Int × List Int × Int) => ⟨105, [(0, .own 0 q0.length), (3, .own 3 v3.length), (5, .own 4 v4.length), (6, .int .i64 v5)], [some (.outs 22 1 q0.length idO (lenO q0)), some (.rows 3 .i64 q0), some (.pin 0 pl0), some (.ints 3 .i64 v3), some (.ints 3 .i64 v4)]⟩) (fun (v6 : List Int) => ⟨105, [(0, .own 0 q0.length), (3, .own 3 v6.length)], [some (.outs 22 1 q0.length idO (lenO q0)), some (.rows 3 .i64 q0), some (.pin 0 pl0), some (.ints 3 .i64 v6)]⟩) (fun v => v) (v2.set 0 0, [0], 0) [0, 1, 2, 3, 4] hK mkWkR ?_ ?_
   ·clear hK; rintro ⟨v3, v4, v5⟩ b1 hK hpost2
    try dsimp only at hK
    change AWP _ _ _ _ ⟨105, [(0, .own 0 q0.length), (3, .own 3 v3.length), (5, .own 4 v4.length), (6, .int .i64 v5)], [some (.outs 22 1 q0.length idO (lenO q0)), some (.rows 3 .i64 q0), some (.pin 0 pl0), some (.ints 3 .i64 v3), some (.ints 3 .i64 v4)]⟩
    refine AWP_seq ?_
    refine AWP_seq ?_
    replace hK := chk_some hK
    obtain ⟨h3, hK⟩ := hK
    refine AWP_rg tab_ok [0, 3, 5, 6, 34] fun c st' hr => ?_
    simp only [go_sem, lenO_app, lenO_eta] at hr
    obtain ⟨rfl, rfl⟩ := hr
    refine ⟨vc, ?_⟩
    with_reducible refine thenC_normal ?_
    refine AWP_condP ((v5 < (v4.length : Int) ∧ v3.getD 1 0 < 0)) rfl bd (fun hb1 => ?_) (fun hb1 => ?_)
    ·replace hK := ite_t hK hb1
     refine AWP_skip ?_
     with_reducible refine thenC_normal ?_
     refine AWP_seq ?_
     refine AWP_block ?_
     refine AWP_seq ?_
     replace hK := chk_some hK
     obtain ⟨h4, hK⟩ := hK
     refine AWP_rg tab_ok [0, 3, 5, 6, 43, 44, 45] fun c st' hr => ?_
     simp only [go_sem, lenO_app, lenO_eta] at hr
     obtain ⟨rfl, rfl⟩ := hr
     refine ⟨vc, ?_⟩
     with_reducible refine thenC_normal ?_
     refine AWP_block ?_
     refine AWP_loopX 4 (fun ((v7, v8, v9) : List Int × List Int × Int) => ⟨105, [(0, .own 0 q0.length), (3, .own 3 v7.length), (5, .own 4 v8.length), (6, .int .i64 v5), (43, .row 1 ((v4.getD v5.toNat 0).toNat) ((q0.getD ((v4.getD v5.toNat 0).toNat) []).length)), (44, .int .i64 ((q0.getD ((v4.getD v5.toNat 0).toNat) []).length : Int)), (45, .int .i64 v9)], [some (.outs 22 1 q0.length idO (lenO q0)), some (.rows 3 .i64 q0), some (.pin 0 pl0), some (.ints 3 .i64 v7), some (.ints 3 .i64 v8)]⟩) (fun ((v10, v11) : List Int × List Int) => ⟨105, [(0, .own 0 q0.length), (3, .own 3 v10.length), (5, .own 4 v11.length), (6, .int .i64 v5)], [some (.outs 22 1 q0.length idO (lenO q0)), some (.rows 3 .i64 q0), some (.pin 0 pl0), some (.ints 3 .i64 v10), some (.ints 3 .i64 v11)]⟩) (fun v => v) (v3, v4, 0) [0, 1, 2, 3, 4] hK mkWkR ?_ ?_
     ·clear hK; rintro ⟨v7, v8, v9⟩ b2 hK hpost3
      try dsimp only at hK
      change AWP _ _ _ _ ⟨105, [(0, .own 0 q0.length), (3, .own 3 v7.length), (5, .own 4 v8.length), (6, .int .i64 v5), (43, .row 1 ((v4.getD v5.toNat 0).toNat) ((q0.getD ((v4.getD v5.toNat 0).toNat) []).length)), (44, .int .i64 ((q0.getD ((v4.getD v5.toNat 0).toNat) []).length : Int)), (45, .int .i64 v9)], [some (.outs 22 1 q0.length idO (lenO q0)), some (.rows 3 .i64 q0), some (.pin 0 pl0), some (.ints 3 .i64 v7), some (.ints 3 .i64 v8)]⟩
      refine AWP_seq ?_
      refine AWP_rg tab_ok [0, 3, 5, 6, 43, 44, 45, 46] fun c st' hr => ?_
      simp only [go_sem, lenO_app, lenO_eta] at hr
      obtain ⟨rfl, rfl⟩ := hr
      refine ⟨vc, ?_⟩
      with_reducible refine thenC_normal ?_
      refine AWP_seq ?_
      refine AWP_condP (v9 < ((q0.getD ((v4.getD v5.toNat 0).toNat) []).length : Int)) rfl bd (fun hb2 => ?_) (fun hb2 => ?_)
      ·replace hK := ite_t hK hb2
       refine AWP_skip ?_
       with_reducible refine thenC_normal ?_
       refine AWP_seq ?_
       refine AWP_block ?_
       refine AWP_seq ?_
       replace hK := chk_some hK
       obtain ⟨h5, hK⟩ := hK
       refine AWP_rg tab_ok [0, 3, 5, 6, 7, 8, 43, 44, 45] fun c st' hr => ?_
       simp only [go_sem, lenO_app, lenO_eta] at hr
       obtain ⟨rfl, rfl⟩ := hr
       refine ⟨vc, ?_⟩
       with_reducible refine thenC_normal ?_
       refine AWP_seq ?_
       replace hK := chk_some hK
       obtain ⟨h6, hK⟩ := hK
       refine AWP_rg tab_ok [0, 3, 5, 6, 7, 43, 44, 45, 58] fun c st' hr => ?_
       simp only [go_sem, lenO_app, lenO_eta] at hr
       obtain ⟨rfl, rfl⟩ := hr
       refine ⟨vc, ?_⟩
       with_reducible refine thenC_normal ?_
       refine AWP_condP ((0 < (q0.getD ((v4.getD v5.toNat 0).toNat) []).getD v9.toNat 0 ∧ v7.getD v9.toNat 0 < 0)) rfl bd (fun hb3 => ?_) (fun hb3 => ?_)
       ·replace hK := ite_t hK hb3
        refine AWP_seq ?_
        replace hK := chk_some hK
        obtain ⟨h7, hK⟩ := hK
        refine AWP_rg tab_ok [0, 3, 5, 6, 7, 43, 44, 45] fun c st' hr => ?_
        simp only [go_sem, lenO_app, lenO_eta] at hr
        obtain ⟨rfl, rfl⟩ := hr
        refine ⟨vc, ?_⟩
        with_reducible refine thenC_normal ?_
        replace hK := chk_some hK
        obtain ⟨h8, hK⟩ := hK
        refine AWP_rg tab_ok [0, 3, 5, 6, 43, 44, 45] fun c st' hr => ?_
        simp only [go_sem, lenO_app, lenO_eta] at hr
        obtain ⟨rfl, rfl⟩ := hr
        refine ⟨vc, ?_⟩
        with_reducible refine inBlockA_normal (thenC_normal ?_)
        replace hK := chk_some hK
        obtain ⟨h9, hK⟩ := hK
        refine AWP_rg tab_ok [0, 3, 5, 6, 43, 44, 45] fun c st' hr => ?_
        simp only [go_sem, lenO_app, lenO_eta] at hr
        obtain ⟨rfl, rfl⟩ := hr
        refine ⟨vc, ?_⟩
        refine again_n (v7.set v9.toNat (v8.getD v5.toNat 0), v8 ++ [v9], v9 + 1) [0, 1, 2, 3, 6] hK mkWkR
       ·replace hK := ite_f hK hb3
        refine AWP_skip ?_
        with_reducible refine inBlockA_normal (thenC_normal ?_)
        replace hK := chk_some hK
        obtain ⟨h10, hK⟩ := hK
        refine AWP_rg tab_ok [0, 3, 5, 6, 43, 44, 45] fun c st' hr => ?_
        simp only [go_sem, lenO_app, lenO_eta] at hr
        obtain ⟨rfl, rfl⟩ := hr
        refine ⟨vc, ?_⟩
        refine again_n (v7, v8, v9 + 1) [0, 1, 2, 3, 4] hK mkWkR
      ·replace hK := ite_f hK hb2
       refine AWP_exit ?_
       with_reducible refine thenC_exit (again_x ?_)
       refine cutX_here (v7, v8) [0, 1, 2, 3, 4] (by have hq := hpost3 _ hK; exact hq) mkWkR
     ·clear hK; rintro ⟨v10, v11⟩ hK
      try dsimp only at hK
      refine exS ⟨105, [(0, .own 0 q0.length), (3, .own 3 v10.length), (5, .own 4 v11.length), (6, .int .i64 v5)], [some (.outs 22 1 q0.length idO (lenO q0)), some (.rows 3 .i64 q0), some (.pin 0 pl0), some (.ints 3 .i64 v10), some (.ints 3 .i64 v11)]⟩ rfl ?_
      with_reducible refine inBlockA_exit (inBlockA_normal (thenC_normal ?_))
      replace hK := chk_some hK
      obtain ⟨h11, hK⟩ := hK
      refine AWP_rg tab_ok [0, 3, 5, 6] fun c st' hr => ?_
      simp only [go_sem, lenO_app, lenO_eta] at hr
      obtain ⟨rfl, rfl⟩ := hr
      refine ⟨vc, ?_⟩
      refine again_n (v10, v11, v5 + 1) [0, 1, 2, 3, 4] hK mkWkR
    ·replace hK := ite_f hK hb1
     refine AWP_exit ?_
     with_reducible refine thenC_exit (again_x ?_)
     refine cutX_here v3 [0, 1, 2, 3] (by have hq := hpost2 _ hK; exact hq) mkWkR
   ·clear hK; rintro v6 hK
    try dsimp only at hK
    refine exS ⟨105, [(0, .own 0 q0.length), (3, .own 3 v6.length)], [some (.outs 22 1 q0.length idO (lenO q0)), some (.rows 3 .i64 q0), some (.pin 0 pl0), some (.ints 3 .i64 v6)]⟩ rfl ?_
    with_reducible refine inBlockA_exit (thenC_normal ?_)
    refine AWP_seq ?_
    refine AWP_seq ?_
    replace hK := chk_some hK
    obtain ⟨h12, hK⟩ := hK
    refine AWP_rg tab_ok [0, 3, 74] fun c st' hr => ?_
    simp only [go_sem, lenO_app, lenO_eta] at hr
    obtain ⟨rfl, rfl⟩ := hr
    refine ⟨vc, ?_⟩
    with_reducible refine thenC_normal ?_
    refine AWP_condP (v6.getD 1 0 < 0) rfl bd (fun hb4 => ?_) (fun hb4 => ?_)
    ·replace hK := ite_t hK hb4
     refine AWP_seq ?_
     refine AWP_rg tab_ok [2] fun c st' hr => ?_
     simp only [go_sem, lenO_app, lenO_eta] at hr
     obtain ⟨rfl, rfl⟩ := hr
     refine ⟨vc, ?_⟩
     with_reducible refine thenC_normal ?_
     refine AWP_ret ?_
     with_reducible refine thenC_ret ?_
     cases hK
     refine EndsRW [0, 1, 2] (.inl rfl) (of_decide_eq_true rfl) (by simp) rfl (fun c x hr => ?_) endHR
     simp only [go_sem, lenO_app, lenO_eta] at hr
     obtain ⟨rfl, rfl⟩ := hr
     exact ⟨rfl, endR⟩
    ·replace hK := ite_f hK hb4
     refine AWP_skip ?_
     with_reducible refine thenC_normal ?_
     refine AWP_seq ?_
     refine AWP_seq ?_
     refine AWP_rg tab_ok [0, 3, 9] fun c st' hr => ?_
     simp only [go_sem, lenO_app, lenO_eta] at hr
     obtain ⟨rfl, rfl⟩ := hr
     refine ⟨vc, ?_⟩
     with_reducible refine thenC_normal ?_
     refine AWP_block ?_
     refine AWP_loopX 6 (fun ((q01, v12) : List (List Int) × Int) => ⟨105, [(0, .own 0 q01.length), (3, .own 3 v6.length), (9, .int .i64 v12)], [some (.outs 22 1 q01.length idO (lenO q01)), some (.rows 3 .i64 q01), some (.pin 0 pl0), some (.ints 3 .i64 v6)]⟩) (fun (q02 : List (List Int)) => ⟨105, [], [some (.outs 22 1 q02.length idO (lenO q02)), some (.rows 3 .i64 q02), some (.pin 0 pl0)]⟩) (fun v => v) (q0, 1) [0, 1, 2, 3] hK mkWkR ?_ ?_
     ·clear hK; rintro ⟨q01, v12⟩ b3 hK hpost3
      try dsimp only at hK
      change AWP _ _ _ _ ⟨105, [(0, .own 0 q01.length), (3, .own 3 v6.length), (9, .int .i64 v12)], [some (.outs 22 1 q01.length idO (lenO q01)), some (.rows 3 .i64 q01), some (.pin 0 pl0), some (.ints 3 .i64 v6)]⟩
      refine AWP_seq ?_
      refine AWP_seq ?_
      refine AWP_rg tab_ok [0, 3, 9, 76] fun c st' hr => ?_
      simp only [go_sem, lenO_app, lenO_eta] at hr
      obtain ⟨rfl, rfl⟩ := hr
      refine ⟨vc, ?_⟩
      with_reducible refine thenC_normal ?_
      refine AWP_condP (v12 ≠ 0) rfl bd (fun hb5 => ?_) (fun hb5 => ?_)
      ·replace hK := ite_t hK hb5
       refine AWP_skip ?_
       with_reducible refine thenC_normal ?_
       refine AWP_seq ?_
       refine AWP_block ?_
       refine AWP_seq ?_
       replace hK := chk_some hK
       obtain ⟨h13, hK⟩ := hK
       refine AWP_rg tab_ok [0, 3, 9] fun c st' hr => ?_
       simp only [go_sem, lenO_app, lenO_eta] at hr
       obtain ⟨rfl, rfl⟩ := hr
       refine ⟨vc, ?_⟩
       with_reducible refine thenC_normal ?_
       replace hK := chk_some hK
       obtain ⟨h14, hK⟩ := hK
       refine AWP_dt tab_ok 12 [0, 3, 9] mixed (by kernel_rfl) fun c st' hr => ?_
       simp only [go_sem, lenO_app, lenO_eta] at hr
       obtain ⟨rfl, rfl⟩ := hr
       refine ⟨vc, ?_⟩
       with_reducible refine inBlockA_normal (thenC_normal ?_)
       replace hK := chk_some hK
       obtain ⟨h15, hK⟩ := hK
       refine AWP_rg tab_ok [0, 3, 9] fun c st' hr => ?_
       simp only [go_sem, lenO_app, lenO_eta] at hr
       obtain ⟨rfl, rfl⟩ := hr
       refine ⟨vc, ?_⟩
       refine again_n ((q01.set ((v6.getD v12.toNat 0).toNat) ((q01.getD ((v6.getD v12.toNat 0).toNat) []).set v12.toNat (((q01.getD ((v6.getD v12.toNat 0).toNat) []).getD v12.toNat 0) - 1))).set v12.toNat (((q01.set ((v6.getD v12.toNat 0).toNat) ((q01.getD ((v6.getD v12.toNat 0).toNat) []).set v12.toNat (((q01.getD ((v6.getD v12.toNat 0).toNat) []).getD v12.toNat 0) - 1))).getD v12.toNat []).set ((v6.getD v12.toNat 0).toNat) ((((q01.set ((v6.getD v12.toNat 0).toNat) ((q01.getD ((v6.getD v12.toNat 0).toNat) []).set v12.toNat (((q01.getD ((v6.getD v12.toNat 0).toNat) []).getD v12.toNat 0) - 1))).getD v12.toNat []).getD ((v6.getD v12.toNat 0).toNat) 0) + 1)), v6.getD v12.toNat 0) [0, 1, 2, 3] hK mkWkR
      ·replace hK := ite_f hK hb5
       refine AWP_exit ?_
       with_reducible refine thenC_exit (again_x ?_)
       refine cutX_here q01 [0, 1, 2] (by have hq := hpost3 _ hK; exact hq) mkWkR
     ·clear hK; rintro q02 hK
      try dsimp only at hK
      refine exS ⟨105, [], [some (.outs 22 1 q02.length idO (lenO q02)), some (.rows 3 .i64 q02), some (.pin 0 pl0)]⟩ rfl ?_
      with_reducible refine inBlockA_exit (thenC_normal ?_)
      refine AWP_seq ?_
      refine AWP_rg tab_ok [2] fun c st' hr => ?_
      simp only [go_sem, lenO_app, lenO_eta] at hr
      obtain ⟨rfl, rfl⟩ := hr
      refine ⟨vc, ?_⟩
      with_reducible refine thenC_normal ?_
      refine AWP_ret ?_
      cases hK
      refine EndsRW [0, 1, 2] (.inl rfl) (of_decide_eq_true rfl) (by simp) rfl (fun c x hr => ?_) endHR
      simp only [go_sem, lenO_app, lenO_eta] at hr
      obtain ⟨rfl, rfl⟩ := hr
      exact ⟨rfl, endR⟩


theorem W_links_ways {g_0 : Int} {g_1 : List (Int × Int)} {from0 : Int} {to : Int} {r : Int} (hK : links_ways g_0 g_1 from0 to = some r) : Pure Try.prog 71 [.agg [.int .i64 g_0, .fn 2 g_1.length (fun i => [.int .i64 ((g_1.getD i (0, 0)).1), .int .i64 ((g_1.getD i (0, 0)).2)])], .int .i64 from0, .int .i64 to] (.int .i64 r) [] := by
  refine Pure_introF tab_ok (n := 18) (l := [.tmp 6]) Try.func71 rfl rfl rfl (by simp) fun hfact w0 => ?_
  simp only [factL1, fact1, fact0, factL0, lo, hi, maxLen, and_true] at hfact
  unfold links_ways at hK
  refine AWP_seq ?_
  refine AWP_rg tab_ok [1, 2, 3] fun c st' hr => ?_
  simp only [go_sem, lenO_app, lenO_eta] at hr
  obtain ⟨rfl, rfl⟩ := hr
  refine ⟨vc, ?_⟩
  with_reducible refine thenC_normal ?_
  refine AWP_seq ?_
  refine AWP_rl ?_
  refine AWPL_rn tab_ok 3 [9, 10, 11] fun c st' hr => ?_
  simp only [go_sem, lenO_app, lenO_eta] at hr
  obtain ⟨rfl, rfl⟩ := hr
  refine ⟨vc, ?_⟩
  replace hK := bind_s hK
  obtain ⟨y, hy, hK⟩ := hK
  refine AWPL_callK [12] (W_links_laid hy) rfl rfl pcT rfl Try.call133 (.cons (.agg _ _ rfl (ArgsOk.get (.cons (.atom _ rfl) (.cons (.atom _ rfl) .nil))).2) (.cons (.atom _ rfl) (.cons (.atom _ rfl) .nil))) (hscG trivial) (of_decide_eq_true rfl) (by first | rfl | simp [nI, nI1, nI0]) (by first | rfl | simp [nIB, nI0]) fun st' hr => ?_
  simp only [go_sem, lenO_app, lenO_eta] at hr
  subst hr
  clear hy
  refine AWPL_rn tab_ok 1 [7] fun c st' hr => ?_
  simp only [go_sem, lenO_app, lenO_eta] at hr
  obtain ⟨rfl, rfl⟩ := hr
  refine ⟨vc, ?_⟩
  refine AWPL_nil ?_
  with_reducible refine thenC_normal ?_
  refine AWP_seq ?_
  refine AWP_rg tab_ok [7, 8] fun c st' hr => ?_
  simp only [go_sem, lenO_app, lenO_eta] at hr
  obtain ⟨rfl, rfl⟩ := hr
  refine ⟨vc, ?_⟩
  with_reducible refine thenC_normal ?_
  refine AWP_seq ?_
  refine AWP_block ?_
  refine AWP_loopX 0 (fun ((p, n) : List (List Int) × Int) => ⟨18, [(7, .own 0 p.length), (8, .int .i64 n)], [some (.outs 22 1 p.length idO (lenO p)), some (.rows 3 .i64 p)]⟩) (fun (n1 : Int) => ⟨18, [(8, .int .i64 n1)], []⟩) (fun v => v) (y, 0) [1, 2] hK mkWkR ?_ ?_
  ·clear hK; rintro ⟨p, n⟩ b hK hpost1
   try dsimp only at hK
   change AWP _ _ _ _ ⟨18, [(7, .own 0 p.length), (8, .int .i64 n)], [some (.outs 22 1 p.length idO (lenO p)), some (.rows 3 .i64 p)]⟩
   refine AWP_seq ?_
   refine AWP_seq ?_
   refine AWP_rl ?_
   refine AWPL_rn tab_ok 1 [7, 8, 13] fun c st' hr => ?_
   simp only [go_sem, lenO_app, lenO_eta] at hr
   obtain ⟨rfl, rfl⟩ := hr
   refine ⟨vc, ?_⟩
   replace hK := bind_s hK
   obtain ⟨y1, hy, hK⟩ := hK
   replace hK := chk_some hK
   obtain ⟨h, hK⟩ := hK
   refine AWPL_gM [7, 8, 14] [0, 1] [.own 0 p.length] [some (.outs 22 2 y1.2.length idO (lenO y1.2)), none, some (.rows 3 .i64 y1.2)] (W_links_pipes_more hy) rfl rfl pcT rfl Try.call134 (of_decide_eq_true rfl) ⟨rfl, rfl, trivial⟩ rfl (hscG trivial) (of_decide_eq_true rfl) rfl rfl (of_decide_eq_true rfl) rfl fun st' hr => ?_
   simp only [go_sem, lenO_app, lenO_eta] at hr
   subst hr
   clear hy
   refine AWPL_stP [(7, .own 0 y1.2.length), (8, .int .i64 n), (14, .bool y1.1)] (by simp [SameS, AX.look, h]) ?_
   refine AWPL_nil ?_
   with_reducible refine thenC_normal ?_
   refine AWP_condP (y1.1 = true) rfl bd (fun hb => ?_) (fun hb => ?_)
   ·replace hK := ite_t hK hb
    refine AWP_skip ?_
    with_reducible refine thenC_normal ?_
    refine AWP_block ?_
    replace hK := chk_some hK
    obtain ⟨h1, hK⟩ := hK
    refine AWP_rg tab_ok [7, 8] fun c st' hr => ?_
    simp only [go_sem, lenO_app, lenO_eta] at hr
    obtain ⟨rfl, rfl⟩ := hr
    refine ⟨vc, ?_⟩
    with_reducible refine inBlockA_normal ?_
    refine again_n (y1.2, n + 1) [0, 2] hK mkWkR
   ·replace hK := ite_f hK hb
    refine AWP_exit ?_
    with_reducible refine thenC_exit (again_x ?_)
    refine cutX_here n [] (by have hq := hpost1 _ hK; exact hq) mkWkR
  ·clear hK; rintro n1 hK
   try dsimp only at hK
   refine exS ⟨18, [(8, .int .i64 n1)], []⟩ rfl ?_
   with_reducible refine inBlockA_exit (thenC_normal ?_)
   refine AWP_seq ?_
   refine AWP_rg tab_ok [6] fun c st' hr => ?_
   simp only [go_sem, lenO_app, lenO_eta] at hr
   obtain ⟨rfl, rfl⟩ := hr
   refine ⟨vc, ?_⟩
   with_reducible refine thenC_normal ?_
   refine AWP_ret ?_
   cases hK
   refine EndsRW [] (.inl rfl) (of_decide_eq_true rfl) (by simp) rfl (fun c x hr => ?_) trivial
   simp only [go_sem, lenO_app, lenO_eta] at hr
   obtain ⟨rfl, rfl⟩ := hr
   exact ⟨rfl, endR⟩


theorem W_links_Most {g_0 : Int} {g_1 : List (Int × Int)} {from0 : Int} {to : Int} {r : Int × Int} (hK : links_Most g_0 g_1 from0 to = some r) : Pure Try.prog 21 [.agg [.int .i64 g_0, .fn 2 g_1.length (fun i => [.int .i64 ((g_1.getD i (0, 0)).1), .int .i64 ((g_1.getD i (0, 0)).2)])], .int .i64 from0, .int .i64 to] (.tup [.int .i64 r.1, .int .i64 r.2]) [] := by
  refine Pure_introF tab_ok (n := 21) (l := [.tmp 6, .tmp 7]) Try.func21 rfl rfl rfl (by simp) fun hfact w0 => ?_
  simp only [factL1, fact1, fact0, factL0, lo, hi, maxLen, and_true] at hfact
  unfold links_Most at hK
  refine AWP_seq ?_
  refine AWP_rg tab_ok [1, 2, 3] fun c st' hr => ?_
  simp only [go_sem] at hr
  obtain ⟨rfl, rfl⟩ := hr
  refine ⟨vc, ?_⟩
  with_reducible refine thenC_normal ?_
  refine AWP_seq ?_
  refine AWP_seq ?_
  refine AWP_rl ?_
  refine AWPL_rn tab_ok 4 [1, 2, 3, 9, 12] fun c st' hr => ?_
  simp only [go_sem] at hr
  obtain ⟨rfl, rfl⟩ := hr
  refine ⟨vc, ?_⟩
  replace hK := bind_s hK
  obtain ⟨y, hy, hK⟩ := hK
  refine AWPL_callK [1, 2, 3, 13] (W_links_right hy) rfl rfl pcT rfl Try.call70 (.cons (.agg _ _ rfl (ArgsOk.get (.cons (.atom _ rfl) (.cons (.atom _ rfl) .nil))).2) (.cons (.ownI _ _ _ _ _ [from0, to] rfl (by simp) (by first | (simp; done) | exact List.take_of_length_le (by simp))) .nil)) (hscG trivial) (of_decide_eq_true rfl) (by first | rfl | simp [nI, nI1, nI0]) (by first | rfl | simp [nIB, nI0]) fun st' hr => ?_
  simp only [go_sem] at hr
  subst hr
  clear hy
  refine AWPL_rn tab_ok 1 [1, 2, 3, 8] fun c st' hr => ?_
  simp only [go_sem] at hr
  obtain ⟨rfl, rfl⟩ := hr
  refine ⟨vc, ?_⟩
  refine AWPL_nil ?_
  with_reducible refine thenC_normal ?_
  refine AWP_seq ?_
  refine AWP_rg tab_ok [1, 2, 3, 8, 15] fun c st' hr => ?_
  simp only [go_sem] at hr
  obtain ⟨rfl, rfl⟩ := hr
  refine ⟨vc, ?_⟩
  with_reducible refine thenC_normal ?_
  refine AWP_condP (y ≠ 0) rfl bd (fun hb => ?_) (fun hb => ?_)
  ·replace hK := ite_t hK hb
   refine AWP_seq ?_
   refine AWP_rg tab_ok [6, 7] fun c st' hr => ?_
   simp only [go_sem] at hr
   obtain ⟨rfl, rfl⟩ := hr
   refine ⟨vc, ?_⟩
   with_reducible refine thenC_normal ?_
   refine AWP_ret ?_
   with_reducible refine thenC_ret ?_
   cases hK
   refine EndsRW [] (.inl rfl) (of_decide_eq_true rfl) (by simp) rfl (fun c x hr => ?_) trivial
   simp only [go_sem] at hr
   obtain ⟨rfl, rfl⟩ := hr
   exact ⟨rfl, endR⟩
  ·replace hK := ite_f hK hb
   refine AWP_skip ?_
   with_reducible refine thenC_normal ?_
   refine AWP_seq ?_
   refine AWP_rl ?_
   refine AWPL_rn tab_ok 3 [17, 18, 19] fun c st' hr => ?_
   simp only [go_sem] at hr
   obtain ⟨rfl, rfl⟩ := hr
   refine ⟨vc, ?_⟩
   replace hK := bind_s hK
   obtain ⟨y1, hy, hK⟩ := hK
   refine AWPL_callK [20] (W_links_ways hy) rfl rfl pcT rfl Try.call71 (.cons (.agg _ _ rfl (ArgsOk.get (.cons (.atom _ rfl) (.cons (.atom _ rfl) .nil))).2) (.cons (.atom _ rfl) (.cons (.atom _ rfl) .nil))) (hscG trivial) (of_decide_eq_true rfl) (by first | rfl | simp [nI, nI1, nI0]) (by first | rfl | simp [nIB, nI0]) fun st' hr => ?_
   simp only [go_sem] at hr
   subst hr
   clear hy
   refine AWPL_rn tab_ok 2 [6, 7] fun c st' hr => ?_
   simp only [go_sem] at hr
   obtain ⟨rfl, rfl⟩ := hr
   refine ⟨vc, ?_⟩
   refine AWPL_nil ?_
   with_reducible refine thenC_normal ?_
   refine AWP_ret ?_
   cases hK
   refine EndsRW [] (.inl rfl) (of_decide_eq_true rfl) (by simp) rfl (fun c x hr => ?_) trivial
   simp only [go_sem] at hr
   obtain ⟨rfl, rfl⟩ := hr
   exact ⟨rfl, endR⟩


theorem W_links_size {s : Int} {r : Int} (hK : links_size s = some r) : Pure Try.prog 72 [.int .i64 s] (.int .i64 r) [] := by
  refine Pure_introF tab_ok (n := 6) (l := [.tmp 2]) Try.func72 rfl rfl rfl (by simp) fun hfact w0 => ?_
  simp only [factL1, fact1, fact0, factL0, lo, hi, maxLen, and_true] at hfact
  unfold links_size at hK
  refine AWP_seq ?_
  refine AWP_rg tab_ok [0] fun c st' hr => ?_
  simp only [go_sem] at hr
  obtain ⟨rfl, rfl⟩ := hr
  refine ⟨vc, ?_⟩
  with_reducible refine thenC_normal ?_
  refine AWP_seq ?_
  refine AWP_rl ?_
  replace hK := chk_some hK
  obtain ⟨h, hK⟩ := hK
  refine AWPL_rn tab_ok 2 [4] fun c st' hr => ?_
  simp only [go_sem] at hr
  obtain ⟨rfl, rfl⟩ := hr
  refine ⟨vc, ?_⟩
  replace hK := bind_s hK
  obtain ⟨y, hy, hK⟩ := hK
  refine AWPL_callK [5] (W_bits_OnesCount hy) rfl rfl pcT rfl Try.call135 (.cons (.atom _ rfl) .nil) (hscG trivial) (of_decide_eq_true rfl) (by first | rfl | simp [nI, nI1, nI0]) (by first | rfl | simp [nIB, nI0]) fun st' hr => ?_
  simp only [go_sem] at hr
  subst hr
  clear hy
  refine AWPL_rn tab_ok 1 [2] fun c st' hr => ?_
  simp only [go_sem] at hr
  obtain ⟨rfl, rfl⟩ := hr
  refine ⟨vc, ?_⟩
  refine AWPL_nil ?_
  with_reducible refine thenC_normal ?_
  refine AWP_ret ?_
  cases hK
  refine EndsRW [] (.inl rfl) (of_decide_eq_true rfl) (by simp) rfl (fun c x hr => ?_) trivial
  simp only [go_sem] at hr
  obtain ⟨rfl, rfl⟩ := hr
  exact ⟨rfl, endR⟩


theorem W_links_reached {g_0 : Int} {g_1 : List (Int × Int)} {from0 : Int} {gone : Int} {r : Int} (hK : links_reached g_0 g_1 from0 gone = some r) : Pure Try.prog 73 [.agg [.int .i64 g_0, .fn 2 g_1.length (fun i => [.int .i64 ((g_1.getD i (0, 0)).1), .int .i64 ((g_1.getD i (0, 0)).2)])], .int .i64 from0, .int .i64 gone] (.int .i64 r) [] := by
  refine Pure_introF tab_ok (n := 40) (l := [.tmp 6]) Try.func73 rfl rfl rfl (by simp) fun hfact w0 => ?_
  simp only [factL1, fact1, fact0, factL0, lo, hi, maxLen, and_true] at hfact
  unfold links_reached at hK
  refine AWP_seq ?_
  refine AWP_rg tab_ok [1, 2, 3] fun c st' hr => ?_
  simp only [go_sem] at hr
  obtain ⟨rfl, rfl⟩ := hr
  refine ⟨vc, ?_⟩
  with_reducible refine thenC_normal ?_
  refine AWP_seq ?_
  refine AWP_rg tab_ok [2, 3, 7] fun c st' hr => ?_
  simp only [go_sem] at hr
  obtain ⟨rfl, rfl⟩ := hr
  refine ⟨vc, ?_⟩
  with_reducible refine thenC_normal ?_
  refine AWP_seq ?_
  refine AWP_seq ?_
  refine AWP_rg tab_ok [2, 3, 7, 14, 15] fun c st' hr => ?_
  simp only [go_sem] at hr
  obtain ⟨rfl, rfl⟩ := hr
  refine ⟨vc, ?_⟩
  with_reducible refine thenC_normal ?_
  refine AWP_block ?_
  refine AWP_loopX 0 (fun ((s, v) : Int × Int) => ⟨40, [(2, .int .i64 gone), (3, .ptr 0 0 0), (7, .int .i64 s), (14, .int .i64 g_0), (15, .int .i64 v)], [some (.gen 42 2 [[.int .i64 g_0, .fn 2 g_1.length (fun i => [.int .i64 ((g_1.getD i (0, 0)).1), .int .i64 ((g_1.getD i (0, 0)).2)])]])]⟩) (fun (s1 : Int) => ⟨40, [(7, .int .i64 s1)], []⟩) (fun v => v) (iandnot from0 gone, 0) [0] hK mkWk ?_ ?_
  ·clear hK; rintro ⟨s, v⟩ b hK hpost1
   try dsimp only at hK
   change AWP _ _ _ _ ⟨40, [(2, .int .i64 gone), (3, .ptr 0 0 0), (7, .int .i64 s), (14, .int .i64 g_0), (15, .int .i64 v)], [some (.gen 42 2 [[.int .i64 g_0, .fn 2 g_1.length (fun i => [.int .i64 ((g_1.getD i (0, 0)).1), .int .i64 ((g_1.getD i (0, 0)).2)])]])]⟩
   refine AWP_seq ?_
   refine AWP_rg tab_ok [2, 3, 7, 14, 15, 16] fun c st' hr => ?_
   simp only [go_sem] at hr
   obtain ⟨rfl, rfl⟩ := hr
   refine ⟨vc, ?_⟩
   with_reducible refine thenC_normal ?_
   refine AWP_seq ?_
   refine AWP_condP (v < g_0) rfl bd (fun hb => ?_) (fun hb => ?_)
   ·replace hK := ite_t hK hb
    refine AWP_skip ?_
    with_reducible refine thenC_normal ?_
    refine AWP_seq ?_
    refine AWP_block ?_
    refine AWP_seq ?_
    refine AWP_rg tab_ok [2, 3, 7, 14, 15, 18, 19, 20] fun c st' hr => ?_
    simp only [go_sem] at hr
    obtain ⟨rfl, rfl⟩ := hr
    refine ⟨vc, ?_⟩
    with_reducible refine thenC_normal ?_
    refine AWP_block ?_
    refine AWP_loopX 2 (fun ((s2, v1) : Int × Int) => ⟨40, [(2, .int .i64 gone), (3, .ptr 0 0 0), (7, .int .i64 s2), (14, .int .i64 g_0), (15, .int .i64 v), (18, .fn 2 g_1.length (fun i => [.int .i64 ((g_1.getD i (0, 0)).1), .int .i64 ((g_1.getD i (0, 0)).2)])), (19, .int .i64 (g_1.length : Int)), (20, .int .i64 v1)], [some (.gen 42 2 [[.int .i64 g_0, .fn 2 g_1.length (fun i => [.int .i64 ((g_1.getD i (0, 0)).1), .int .i64 ((g_1.getD i (0, 0)).2)])]])]⟩) (fun (s3 : Int) => ⟨40, [(2, .int .i64 gone), (3, .ptr 0 0 0), (7, .int .i64 s3), (14, .int .i64 g_0), (15, .int .i64 v)], [some (.gen 42 2 [[.int .i64 g_0, .fn 2 g_1.length (fun i => [.int .i64 ((g_1.getD i (0, 0)).1), .int .i64 ((g_1.getD i (0, 0)).2)])]])]⟩) (fun v => v) (s, 0) [0] hK mkWk ?_ ?_
    ·clear hK; rintro ⟨s2, v1⟩ b1 hK hpost2
     try dsimp only at hK
     change AWP _ _ _ _ ⟨40, [(2, .int .i64 gone), (3, .ptr 0 0 0), (7, .int .i64 s2), (14, .int .i64 g_0), (15, .int .i64 v), (18, .fn 2 g_1.length (fun i => [.int .i64 ((g_1.getD i (0, 0)).1), .int .i64 ((g_1.getD i (0, 0)).2)])), (19, .int .i64 (g_1.length : Int)), (20, .int .i64 v1)], [some (.gen 42 2 [[.int .i64 g_0, .fn 2 g_1.length (fun i => [.int .i64 ((g_1.getD i (0, 0)).1), .int .i64 ((g_1.getD i (0, 0)).2)])]])]⟩
     refine AWP_seq ?_
     refine AWP_rg tab_ok [2, 3, 7, 14, 15, 18, 19, 20, 21] fun c st' hr => ?_
     simp only [go_sem] at hr
     obtain ⟨rfl, rfl⟩ := hr
     refine ⟨vc, ?_⟩
     with_reducible refine thenC_normal ?_
     refine AWP_seq ?_
     refine AWP_condP (v1 < (g_1.length : Int)) rfl bd (fun hb1 => ?_) (fun hb1 => ?_)
     ·replace hK := ite_t hK hb1
      refine AWP_skip ?_
      with_reducible refine thenC_normal ?_
      refine AWP_seq ?_
      refine AWP_block ?_
      refine AWP_seq ?_
      replace hK := chk_some hK
      obtain ⟨h, hK⟩ := hK
      refine AWP_rg tab_ok [2, 3, 7, 9, 14, 15, 18, 19, 20] fun c st' hr => ?_
      simp only [go_sem] at hr
      obtain ⟨rfl, rfl⟩ := hr
      refine ⟨vc, ?_⟩
      with_reducible refine thenC_normal ?_
      refine AWP_seq ?_
      replace hK := chk_some hK
      obtain ⟨h1, hK⟩ := hK
      refine AWP_rg tab_ok [2, 3, 7, 9, 14, 15, 18, 19, 20, 29] fun c st' hr => ?_
      simp only [go_sem] at hr
      obtain ⟨rfl, rfl⟩ := hr
      refine ⟨vc, ?_⟩
      with_reducible refine thenC_normal ?_
      refine AWP_condP (iand (s2 / 2 ^ ((g_1.getD v1.toNat (0, 0)).1).toNat) 1 = 1) rfl bd (fun hb2 => ?_) (fun hb2 => ?_)
      ·replace hK := ite_t hK hb2
       replace hK := chk_some hK
       obtain ⟨h2, hK⟩ := hK
       refine AWP_rg tab_ok [2, 3, 7, 14, 15, 18, 19, 20] fun c st' hr => ?_
       simp only [go_sem] at hr
       obtain ⟨rfl, rfl⟩ := hr
       refine ⟨vc, ?_⟩
       with_reducible refine inBlockA_normal (thenC_normal ?_)
       refine AWP_facts (by simp) fun hfx => ?_
       simp only [factS, factV, fact1, fact0, factL0, lo, hi, maxLen, and_true, true_and] at hfx
       refine AWP_rg tab_ok [2, 3, 7, 14, 15, 18, 19, 20] fun c st' hr => ?_
       simp only [go_sem] at hr
       obtain ⟨rfl, rfl⟩ := hr
       refine ⟨vc, ?_⟩
       clear hfx
       refine again_n (ior s2 (iandnot (2 ^ ((g_1.getD v1.toNat (0, 0)).2).toNat : Int) gone), v1 + 1) [0] hK mkWk
      ·replace hK := ite_f hK hb2
       refine AWP_skip ?_
       with_reducible refine inBlockA_normal (thenC_normal ?_)
       refine AWP_facts (by simp) fun hfx => ?_
       simp only [factS, factV, fact1, fact0, factL0, lo, hi, maxLen, and_true, true_and] at hfx
       refine AWP_rg tab_ok [2, 3, 7, 14, 15, 18, 19, 20] fun c st' hr => ?_
       simp only [go_sem] at hr
       obtain ⟨rfl, rfl⟩ := hr
       refine ⟨vc, ?_⟩
       clear hfx
       refine again_n (s2, v1 + 1) [0] hK mkWk
     ·replace hK := ite_f hK hb1
      refine AWP_exit ?_
      with_reducible refine thenC_exit (again_x ?_)
      refine cutX_here s2 [0] (by have hq := hpost2 _ hK; exact hq) mkWk
    ·clear hK; rintro s3 hK
     try dsimp only at hK
     refine exS ⟨40, [(2, .int .i64 gone), (3, .ptr 0 0 0), (7, .int .i64 s3), (14, .int .i64 g_0), (15, .int .i64 v)], [some (.gen 42 2 [[.int .i64 g_0, .fn 2 g_1.length (fun i => [.int .i64 ((g_1.getD i (0, 0)).1), .int .i64 ((g_1.getD i (0, 0)).2)])]])]⟩ rfl ?_
     with_reducible refine inBlockA_exit (inBlockA_normal (thenC_normal ?_))
     refine AWP_facts (by simp) fun hfx => ?_
     simp only [factS, factV, fact1, fact0, factL0, lo, hi, maxLen, and_true, true_and] at hfx
     refine AWP_rg tab_ok [2, 3, 7, 14, 15] fun c st' hr => ?_
     simp only [go_sem] at hr
     obtain ⟨rfl, rfl⟩ := hr
     refine ⟨vc, ?_⟩
     clear hfx
     refine again_n (s3, v + 1) [0] hK mkWk
   ·replace hK := ite_f hK hb
    refine AWP_exit ?_
    with_reducible refine thenC_exit (again_x ?_)
    refine cutX_here s [] (by have hq := hpost1 _ hK; exact hq) mkWk
  ·clear hK; rintro s1 hK
   try dsimp only at hK
   refine exS ⟨40, [(7, .int .i64 s1)], []⟩ rfl ?_
   with_reducible refine inBlockA_exit (thenC_normal ?_)
   refine AWP_seq ?_
   refine AWP_rg tab_ok [6] fun c st' hr => ?_
   simp only [go_sem] at hr
   obtain ⟨rfl, rfl⟩ := hr
   refine ⟨vc, ?_⟩
   with_reducible refine thenC_normal ?_
   refine AWP_ret ?_
   cases hK
   refine EndsRW [] (.inl rfl) (of_decide_eq_true rfl) (by simp) rfl (fun c x hr => ?_) trivial
   simp only [go_sem] at hr
   obtain ⟨rfl, rfl⟩ := hr
   exact ⟨rfl, endR⟩


theorem W_links_Cut {g_0 : Int} {g_1 : List (Int × Int)} {from0 : Int} {to : Int} {r : Int × Int} (hK : links_Cut g_0 g_1 from0 to = some r) : Pure Try.prog 22 [.agg [.int .i64 g_0, .fn 2 g_1.length (fun i => [.int .i64 ((g_1.getD i (0, 0)).1), .int .i64 ((g_1.getD i (0, 0)).2)])], .int .i64 from0, .int .i64 to] (.tup [.int .i64 r.1, .int .i64 r.2]) [] := by
  refine Pure_introF tab_ok (n := 47) (l := [.tmp 6, .tmp 7]) Try.func22 rfl rfl rfl (by simp) fun hfact w0 => ?_
  simp only [factL1, fact1, fact0, factL0, lo, hi, maxLen, and_true] at hfact
  unfold links_Cut at hK
  refine AWP_seq ?_
  refine AWP_rg tab_ok [1, 2, 3] fun c st' hr => ?_
  simp only [go_sem] at hr
  obtain ⟨rfl, rfl⟩ := hr
  refine ⟨vc, ?_⟩
  with_reducible refine thenC_normal ?_
  refine AWP_seq ?_
  refine AWP_seq ?_
  refine AWP_rl ?_
  refine AWPL_rn tab_ok 4 [1, 2, 3, 12, 15] fun c st' hr => ?_
  simp only [go_sem] at hr
  obtain ⟨rfl, rfl⟩ := hr
  refine ⟨vc, ?_⟩
  replace hK := bind_s hK
  obtain ⟨y, hy, hK⟩ := hK
  refine AWPL_callK [1, 2, 3, 16] (W_links_right hy) rfl rfl pcT rfl Try.call70 (.cons (.agg _ _ rfl (ArgsOk.get (.cons (.atom _ rfl) (.cons (.atom _ rfl) .nil))).2) (.cons (.ownI _ _ _ _ _ [from0, to] rfl (by simp) (by first | (simp; done) | exact List.take_of_length_le (by simp))) .nil)) (hscG trivial) (of_decide_eq_true rfl) (by first | rfl | simp [nI, nI1, nI0]) (by first | rfl | simp [nIB, nI0]) fun st' hr => ?_
  simp only [go_sem] at hr
  subst hr
  clear hy
  refine AWPL_rn tab_ok 1 [1, 2, 3, 8] fun c st' hr => ?_
  simp only [go_sem] at hr
  obtain ⟨rfl, rfl⟩ := hr
  refine ⟨vc, ?_⟩
  refine AWPL_nil ?_
  with_reducible refine thenC_normal ?_
  refine AWP_seq ?_
  refine AWP_rg tab_ok [1, 2, 3, 8, 18] fun c st' hr => ?_
  simp only [go_sem] at hr
  obtain ⟨rfl, rfl⟩ := hr
  refine ⟨vc, ?_⟩
  with_reducible refine thenC_normal ?_
  refine AWP_condP (y ≠ 0) rfl bd (fun hb => ?_) (fun hb => ?_)
  ·replace hK := ite_t hK hb
   refine AWP_seq ?_
   refine AWP_rg tab_ok [6, 7] fun c st' hr => ?_
   simp only [go_sem] at hr
   obtain ⟨rfl, rfl⟩ := hr
   refine ⟨vc, ?_⟩
   with_reducible refine thenC_normal ?_
   refine AWP_ret ?_
   with_reducible refine thenC_ret ?_
   cases hK
   refine EndsRW [] (.inl rfl) (of_decide_eq_true rfl) (by simp) rfl (fun c x hr => ?_) trivial
   simp only [go_sem] at hr
   obtain ⟨rfl, rfl⟩ := hr
   exact ⟨rfl, endR⟩
  ·replace hK := ite_f hK hb
   refine AWP_skip ?_
   with_reducible refine thenC_normal ?_
   refine AWP_seq ?_
   replace hK := chk_some hK
   obtain ⟨h, hK⟩ := hK
   refine AWP_dr tab_ok [1, 2, 3, 9, 10] mixed (by kernel_rfl) fun c st' hr => ?_
   simp only [go_sem] at hr
   obtain ⟨rfl, rfl⟩ := hr
   refine ⟨vc, ?_⟩
   with_reducible refine thenC_normal ?_
   refine AWP_seq ?_
   refine AWP_seq ?_
   replace hK := chk_some hK
   obtain ⟨h1, hK⟩ := hK
   refine AWP_rg tab_ok [1, 2, 3, 9, 10, 25, 26] fun c st' hr => ?_
   simp only [go_sem] at hr
   obtain ⟨rfl, rfl⟩ := hr
   refine ⟨vc, ?_⟩
   with_reducible refine thenC_normal ?_
   refine AWP_block ?_
   refine AWP_loopX 0 (fun ((best, most1, v1) : Int × Int × Int) => ⟨47, [(1, .int .i64 from0), (2, .int .i64 to), (3, .ptr 0 0 0), (9, .int .i64 best), (10, .int .i64 most1), (25, .int .i64 (2 ^ g_0.toNat : Int)), (26, .int .i64 v1)], [some (.gen 42 2 [[.int .i64 g_0, .fn 2 g_1.length (fun i => [.int .i64 ((g_1.getD i (0, 0)).1), .int .i64 ((g_1.getD i (0, 0)).2)])]])]⟩) (fun (best1 : Int) => ⟨47, [(9, .int .i64 best1)], []⟩) (fun v => v) (0, g_0 + 1, 0) [0] hK mkWk ?_ ?_
   ·clear hK; rintro ⟨best, most1, v1⟩ b hK hpost1
    try dsimp only at hK
    change AWP _ _ _ _ ⟨47, [(1, .int .i64 from0), (2, .int .i64 to), (3, .ptr 0 0 0), (9, .int .i64 best), (10, .int .i64 most1), (25, .int .i64 (2 ^ g_0.toNat : Int)), (26, .int .i64 v1)], [some (.gen 42 2 [[.int .i64 g_0, .fn 2 g_1.length (fun i => [.int .i64 ((g_1.getD i (0, 0)).1), .int .i64 ((g_1.getD i (0, 0)).2)])]])]⟩
    refine AWP_seq ?_
    refine AWP_rg tab_ok [1, 2, 3, 9, 10, 25, 26, 27] fun c st' hr => ?_
    simp only [go_sem] at hr
    obtain ⟨rfl, rfl⟩ := hr
    refine ⟨vc, ?_⟩
    with_reducible refine thenC_normal ?_
    refine AWP_seq ?_
    refine AWP_condP (v1 < (2 ^ g_0.toNat : Int)) rfl bd (fun hb1 => ?_) (fun hb1 => ?_)
    ·replace hK := ite_t hK hb1
     refine AWP_skip ?_
     with_reducible refine thenC_normal ?_
     refine AWP_seq ?_
     refine AWP_block ?_
     refine AWP_seq ?_
     refine AWP_rg tab_ok [1, 2, 3, 9, 10, 11, 25, 26] fun c st' hr => ?_
     simp only [go_sem] at hr
     obtain ⟨rfl, rfl⟩ := hr
     refine ⟨vc, ?_⟩
     with_reducible refine thenC_normal ?_
     refine AWP_seq ?_
     refine AWP_rl ?_
     refine AWPL_rn tab_ok 1 [1, 2, 3, 9, 10, 11, 25, 26, 29] fun c st' hr => ?_
     simp only [go_sem] at hr
     obtain ⟨rfl, rfl⟩ := hr
     refine ⟨vc, ?_⟩
     replace hK := bind_s hK
     obtain ⟨y1, hy, hK⟩ := hK
     refine AWPL_callK [1, 2, 3, 9, 10, 11, 25, 26, 30] (W_links_size hy) rfl rfl pcT rfl Try.call72 (.cons (.atom _ rfl) .nil) (hscG trivial) (of_decide_eq_true rfl) (by first | rfl | simp [nI, nI1, nI0]) (by first | rfl | simp [nIB, nI0]) fun st' hr => ?_
     simp only [go_sem] at hr
     subst hr
     clear hy
     refine AWPL_rn tab_ok 6 [1, 2, 3, 9, 10, 11, 25, 26, 33, 34, 35, 36] fun c st' hr => ?_
     simp only [go_sem] at hr
     obtain ⟨rfl, rfl⟩ := hr
     refine ⟨vc, ?_⟩
     replace hK := bind_s hK
     obtain ⟨y2, hy, hK⟩ := hK
     refine AWPL_callGP [1, 2, 3, 9, 10, 11, 25, 26, 33, 37] (y1 < most1) (fun hg => (W_links_reached (ite_t hy hg))) rfl rfl pcG rfl Try.call73 (.cons (.agg _ _ rfl (ArgsOk.get (.cons (.atom _ rfl) (.cons (.atom _ rfl) .nil))).2) (.cons (.atom _ rfl) (.cons (.atom _ rfl) .nil))) (fun hg => hscG hg) (of_decide_eq_true rfl) (by first | rfl | simp [nI, nI1, nI0]) (by first | rfl | simp [sh, sh1, sh0]) fun st' hr => ?_
     simp only [go_sem] at hr
     subst hr
     clear hy
     refine AWPL_rn tab_ok 4 [1, 2, 3, 9, 10, 11, 25, 26, 41] fun c st' hr => ?_
     simp only [go_sem] at hr
     obtain ⟨rfl, rfl⟩ := hr
     refine ⟨vc, ?_⟩
     refine AWPL_nil ?_
     with_reducible refine thenC_normal ?_
     refine AWP_condP ((y1 < most1 ∧ iand y2 to = 0)) rfl bd (fun hb2 => ?_) (fun hb2 => ?_)
     ·replace hK := ite_t hK hb2
      refine AWP_rl ?_
      refine AWPL_rn tab_ok 2 [1, 2, 3, 25, 26, 42, 43] fun c st' hr => ?_
      simp only [go_sem] at hr
      obtain ⟨rfl, rfl⟩ := hr
      refine ⟨vc, ?_⟩
      replace hK := bind_s hK
      obtain ⟨y3, hy, hK⟩ := hK
      refine AWPL_callK [1, 2, 3, 25, 26, 42, 44] (W_links_size hy) rfl rfl pcT rfl Try.call72 (.cons (.atom _ rfl) .nil) (hscG trivial) (of_decide_eq_true rfl) (by first | rfl | simp [nI, nI1, nI0]) (by first | rfl | simp [nIB, nI0]) fun st' hr => ?_
      simp only [go_sem] at hr
      subst hr
      clear hy
      refine AWPL_rn tab_ok 2 [1, 2, 3, 9, 10, 25, 26] fun c st' hr => ?_
      simp only [go_sem] at hr
      obtain ⟨rfl, rfl⟩ := hr
      refine ⟨vc, ?_⟩
      refine AWPL_nil ?_
      with_reducible refine inBlockA_normal (thenC_normal ?_)
      refine AWP_facts (by simp) fun hfx => ?_
      simp only [factS, factV, fact1, fact0, factL0, lo, hi, maxLen, and_true, true_and] at hfx
      refine AWP_rg tab_ok [1, 2, 3, 9, 10, 25, 26] fun c st' hr => ?_
      simp only [go_sem] at hr
      obtain ⟨rfl, rfl⟩ := hr
      refine ⟨vc, ?_⟩
      clear hfx
      refine again_n (v1, y3, v1 + 1) [0] hK mkWk
     ·replace hK := ite_f hK hb2
      refine AWP_skip ?_
      with_reducible refine inBlockA_normal (thenC_normal ?_)
      refine AWP_facts (by simp) fun hfx => ?_
      simp only [factS, factV, fact1, fact0, factL0, lo, hi, maxLen, and_true, true_and] at hfx
      refine AWP_rg tab_ok [1, 2, 3, 9, 10, 25, 26] fun c st' hr => ?_
      simp only [go_sem] at hr
      obtain ⟨rfl, rfl⟩ := hr
      refine ⟨vc, ?_⟩
      clear hfx
      refine again_n (best, most1, v1 + 1) [0] hK mkWk
    ·replace hK := ite_f hK hb1
     refine AWP_exit ?_
     with_reducible refine thenC_exit (again_x ?_)
     refine cutX_here best [] (by have hq := hpost1 _ hK; exact hq) mkWk
   ·clear hK; rintro best1 hK
    try dsimp only at hK
    refine exS ⟨47, [(9, .int .i64 best1)], []⟩ rfl ?_
    with_reducible refine inBlockA_exit (thenC_normal ?_)
    refine AWP_seq ?_
    refine AWP_rg tab_ok [6, 7] fun c st' hr => ?_
    simp only [go_sem] at hr
    obtain ⟨rfl, rfl⟩ := hr
    refine ⟨vc, ?_⟩
    with_reducible refine thenC_normal ?_
    refine AWP_ret ?_
    cases hK
    refine EndsRW [] (.inl rfl) (of_decide_eq_true rfl) (by simp) rfl (fun c x hr => ?_) trivial
    simp only [go_sem] at hr
    obtain ⟨rfl, rfl⟩ := hr
    exact ⟨rfl, endR⟩

/-- The operations of a drawn region. -/
def reg_links_Ways_2_5 : List Oper := (⟨_, rfl⟩ : { l : List Oper // (Try.f76.body.bind (regIn 5)) = some l }).1

theorem dreg_links_Ways_2_5_5 : (reg_links_Ways_2_5[5]?.bind fun x => x.dst) = some 30 := rfl

theorem ceg_links_Ways_2_5_2 : firstOk reg_links_Ways_2_5.toArray #[false, false, false, false, false, false, false, false, false, false, false, false, false, false, false, false, false] 0 [2,3,4,5,6,7,8,9,10,11,12,13,14,15,16] = true := by kernel_rfl

theorem ceg_links_Ways_2_5_3 : firstOk reg_links_Ways_2_5.toArray #[true, false, false, false, false, false, false, false, false, false, false, false, false, false, false, false, false] 1 [2,3,4,5,6,7,8,9,10,11,12,13,14,15,16] = true := by kernel_rfl

theorem ceg_links_Ways_2_5_4 : firstOk reg_links_Ways_2_5.toArray #[true, true, false, false, false, false, false, false, false, false, false, false, false, false, false, false, false] 2 [3,4,5,6,7,8,9,10,11,12,13,14,15,16] = true := by kernel_rfl

theorem ceg_links_Ways_2_5_5 : firstOk reg_links_Ways_2_5.toArray #[true, true, true, false, false, false, false, false, false, false, false, false, false, false, false, false, false] 3 [4,5,6,7,8,9,10,11,12,13,14,15,16] = true := by kernel_rfl

theorem ceg_links_Ways_2_5_6 : firstOk reg_links_Ways_2_5.toArray #[true, true, true, true, false, false, false, false, false, false, false, false, false, false, false, false, false] 4 [5,6,7,8,9,10,11,12,13,14,15,16] = true := by kernel_rfl

theorem ceg_links_Ways_2_5_7 : firstOk reg_links_Ways_2_5.toArray #[true, true, true, true, true, false, false, false, false, false, false, false, false, false, false, false, false] 5 [6,7,8,9,10,11,12,13,14,15,16] = true := by kernel_rfl

theorem ceg_links_Ways_2_5_8 : firstOk reg_links_Ways_2_5.toArray #[true, true, true, true, true, true, false, false, false, false, false, false, false, false, false, false, false] 10 [11,12,14,15,16] = true := by kernel_rfl

theorem ceg_links_Ways_2_5_9 : firstOk reg_links_Ways_2_5.toArray #[true, true, true, true, true, true, false, false, false, false, true, false, false, false, false, false, false] 11 [12,14,15,16] = true := by kernel_rfl

theorem ceg_links_Ways_2_5_10 : firstOk reg_links_Ways_2_5.toArray #[true, true, true, true, true, true, false, false, false, false, true, true, false, false, false, false, false] 9 [12,14,15,16] = true := by kernel_rfl

theorem ceg_links_Ways_2_5_11 : firstOk reg_links_Ways_2_5.toArray #[true, true, true, true, true, true, false, false, false, true, true, true, false, false, false, false, false] 12 [14,15,16] = true := by kernel_rfl

theorem ceg_links_Ways_2_5_12 : firstOk reg_links_Ways_2_5.toArray #[true, true, true, true, true, true, false, false, false, true, true, true, true, false, false, false, false] 6 [14,15,16] = true := by kernel_rfl

theorem ceg_links_Ways_2_5_13 : firstOk reg_links_Ways_2_5.toArray #[true, true, true, true, true, true, true, false, false, true, true, true, true, false, false, false, false] 7 [8,14,15,16] = true := by kernel_rfl

theorem ceg_links_Ways_2_5_14 : firstOk reg_links_Ways_2_5.toArray #[true, true, true, true, true, true, true, true, false, true, true, true, true, false, false, false, false] 13 [14,15,16] = true := by kernel_rfl

theorem ceg_links_Ways_2_5_15 : (Region.ready .any reg_links_Ways_2_5.toArray #[true, true, true, true, true, true, true, true, false, true, true, true, true, true, false, false, false] == [8]) = true := by kernel_rfl

theorem ceg_links_Ways_2_5_16 : (Region.ready .any reg_links_Ways_2_5.toArray #[true, true, true, true, true, true, true, true, true, true, true, true, true, true, false, false, false] == [14]) = true := by kernel_rfl

theorem ceg_links_Ways_2_5_17 : firstOk reg_links_Ways_2_5.toArray #[true, true, true, true, true, true, true, true, true, true, true, true, true, true, true, false, false] 15 [16] = true := by kernel_rfl

theorem ceg_links_Ways_2_5_18 : firstOk reg_links_Ways_2_5.toArray #[true, true, true, true, true, true, true, true, true, true, true, true, true, true, true, true, false] 16 [] = true := by kernel_rfl

theorem ceg_links_Ways_2_5_19 : (Region.ready .any reg_links_Ways_2_5.toArray #[true, true, true, true, true, true, true, true, true, true, true, true, true, true, true, true, true] == []) = true := by kernel_rfl


theorem W_links_Ways_2 {onf : (List Int) → Int → Int → Int → Int → (List (Int × Int)) → Int → Int → (List (Int × Int)) → (List (List Int)) → Option (Bool × List (List Int))} {fuel : Nat} (ih : ∀ {way : List Int} {a1 : Int} {a2 : Int} {c0 : Int} {d0_0 : Int} {d0_1 : List (Int × Int)} {d1 : Int} {c3_0 : Int} {c3_1 : List (Int × Int)} {q0 : List (List Int)} {r : Bool × List (List Int)}, onf way a1 a2 c0 d0_0 d0_1 d1 c3_0 c3_1 q0 = some r → InG Try.prog 74 [(.gen 47 1 [[.own 1 q0.length]]), (.gen 22 1 (List.map (fun e => [.ints .i64 e]) q0))] 1 (fun ls => match ls with | [pl0] => [.ints .i64 way, .int .i64 a1, .int .i64 a2, .intp .i64 c0, .ptr 0 0 0, .immp [.func 76 [.immp [.int .i64 d0_0, .fn 2 d0_1.length (fun i => [.int .i64 ((d0_1.getD i (0, 0)).1), .int .i64 ((d0_1.getD i (0, 0)).2)])], .intp .i64 d1, cyc2 74 [.intp .i64 c0, .abs pl0 0 0] [.immp [.int .i64 c3_0, .fn 2 c3_1.length (fun i => [.int .i64 ((c3_1.getD i (0, 0)).1), .int .i64 ((c3_1.getD i (0, 0)).2)])]] 76 [.immp [.int .i64 d0_0, .fn 2 d0_1.length (fun i => [.int .i64 ((d0_1.getD i (0, 0)).1), .int .i64 ((d0_1.getD i (0, 0)).2)])], .intp .i64 d1] fuel]], .immp [.int .i64 c3_0, .fn 2 c3_1.length (fun i => [.int .i64 ((c3_1.getD i (0, 0)).1), .int .i64 ((c3_1.getD i (0, 0)).2)])], cyc2 74 [.intp .i64 c0, .abs pl0 0 0] [.immp [.int .i64 c3_0, .fn 2 c3_1.length (fun i => [.int .i64 ((c3_1.getD i (0, 0)).1), .int .i64 ((c3_1.getD i (0, 0)).2)])]] 76 [.immp [.int .i64 d0_0, .fn 2 d0_1.length (fun i => [.int .i64 ((d0_1.getD i (0, 0)).1), .int .i64 ((d0_1.getD i (0, 0)).2)])], .intp .i64 d1] fuel] | _ => []) (.bool r.1) [(.gen 47 1 [[.own 1 r.2.length]]), (.gen 22 1 (List.map (fun e => [.ints .i64 e]) r.2))]) {v : Int} {gone : Int} {c0_0 : Int} {c0_1 : List (Int × Int)} {c1 : Int} {e0 : Int} {d0_0 : Int} {d0_1 : List (Int × Int)} {d1 : Int} {e3_0 : Int} {e3_1 : List (Int × Int)} {q0 : List (List Int)} {r : Bool × List (List Int)} (hK : links_Ways_2 onf v gone c0_0 c0_1 c1 e0 d0_0 d0_1 d1 e3_0 e3_1 q0 = some r) : InG Try.prog 76 [(.gen 47 1 [[.own 1 q0.length]]), (.gen 22 1 (List.map (fun e => [.ints .i64 e]) q0))] 1 (fun ls => match ls with | [pl0] => [.int .i64 v, .int .i64 gone, .immp [.int .i64 c0_0, .fn 2 c0_1.length (fun i => [.int .i64 ((c0_1.getD i (0, 0)).1), .int .i64 ((c0_1.getD i (0, 0)).2)])], .intp .i64 c1, .immp [.func 74 [.intp .i64 e0, .abs pl0 0 0, .immp [.func 76 [.immp [.int .i64 d0_0, .fn 2 d0_1.length (fun i => [.int .i64 ((d0_1.getD i (0, 0)).1), .int .i64 ((d0_1.getD i (0, 0)).2)])], .intp .i64 d1, cyc2 74 [.intp .i64 e0, .abs pl0 0 0] [.immp [.int .i64 e3_0, .fn 2 e3_1.length (fun i => [.int .i64 ((e3_1.getD i (0, 0)).1), .int .i64 ((e3_1.getD i (0, 0)).2)])]] 76 [.immp [.int .i64 d0_0, .fn 2 d0_1.length (fun i => [.int .i64 ((d0_1.getD i (0, 0)).1), .int .i64 ((d0_1.getD i (0, 0)).2)])], .intp .i64 d1] fuel]], .immp [.int .i64 e3_0, .fn 2 e3_1.length (fun i => [.int .i64 ((e3_1.getD i (0, 0)).1), .int .i64 ((e3_1.getD i (0, 0)).2)])], cyc2 74 [.intp .i64 e0, .abs pl0 0 0] [.immp [.int .i64 e3_0, .fn 2 e3_1.length (fun i => [.int .i64 ((e3_1.getD i (0, 0)).1), .int .i64 ((e3_1.getD i (0, 0)).2)])]] 76 [.immp [.int .i64 d0_0, .fn 2 d0_1.length (fun i => [.int .i64 ((d0_1.getD i (0, 0)).1), .int .i64 ((d0_1.getD i (0, 0)).2)])], .intp .i64 d1] fuel]]] | _ => []) (.bool r.1) [(.gen 47 1 [[.own 1 r.2.length]]), (.gen 22 1 (List.map (fun e => [.ints .i64 e]) r.2))] := by
  refine InG_intro tab_ok (n := 41) (l := [.tmp 7]) Try.func76 rfl rfl rfl (fun ls => by first | (split <;> simp) | simp) (of_decide_eq_true rfl) (of_decide_eq_true rfl) rfl rfl rfl (by simp [renB, ren0, renI, List.range, List.range.loop]) (of_decide_eq_true rfl) (of_decide_eq_true rfl) fun w0 ls hls => ?_
  obtain ⟨pl0, rfl⟩ : ∃ pl0, ls = [pl0] := by
    match ls, hls with
    | [a], _ => exact ⟨a, rfl⟩
  simp only [pinL, List.map_cons, List.map_nil, List.cons_append, List.nil_append, Nat.zero_add, Nat.reduceAdd]
  unfold links_Ways_2 at hK
  refine AWP_seq ?_
  refine AWP_rg tab_ok [0, 1, 2, 3, 4] fun c st' hr => ?_
  simp only [go_sem] at hr
  obtain ⟨rfl, rfl⟩ := hr
  refine ⟨vc, ?_⟩
  with_reducible refine thenC_normal ?_
  refine AWP_seq ?_
  refine AWP_block ?_
  refine AWP_loopX 0 (fun (v1 : Int) => ⟨41, [(0, .int .i64 v1), (1, .int .i64 gone), (2, .immp [.int .i64 c0_0, .fn 2 c0_1.length (fun i => [.int .i64 ((c0_1.getD i (0, 0)).1), .int .i64 ((c0_1.getD i (0, 0)).2)])]), (3, .intp .i64 c1), (4, .immp [.func 74 [.intp .i64 e0, .abs pl0 0 0, .immp [.func 76 [.immp [.int .i64 d0_0, .fn 2 d0_1.length (fun i => [.int .i64 ((d0_1.getD i (0, 0)).1), .int .i64 ((d0_1.getD i (0, 0)).2)])], .intp .i64 d1, cyc2 74 [.intp .i64 e0, .abs pl0 0 0] [.immp [.int .i64 e3_0, .fn 2 e3_1.length (fun i => [.int .i64 ((e3_1.getD i (0, 0)).1), .int .i64 ((e3_1.getD i (0, 0)).2)])]] 76 [.immp [.int .i64 d0_0, .fn 2 d0_1.length (fun i => [.int .i64 ((d0_1.getD i (0, 0)).1), .int .i64 ((d0_1.getD i (0, 0)).2)])], .intp .i64 d1] fuel]], .immp [.int .i64 e3_0, .fn 2 e3_1.length (fun i => [.int .i64 ((e3_1.getD i (0, 0)).1), .int .i64 ((e3_1.getD i (0, 0)).2)])], cyc2 74 [.intp .i64 e0, .abs pl0 0 0] [.immp [.int .i64 e3_0, .fn 2 e3_1.length (fun i => [.int .i64 ((e3_1.getD i (0, 0)).1), .int .i64 ((e3_1.getD i (0, 0)).2)])]] 76 [.immp [.int .i64 d0_0, .fn 2 d0_1.length (fun i => [.int .i64 ((d0_1.getD i (0, 0)).1), .int .i64 ((d0_1.getD i (0, 0)).2)])], .intp .i64 d1] fuel]])], [some (.gen 47 1 [[.own 1 q0.length]]), some (.gen 22 1 (List.map (fun e => [.ints .i64 e]) q0)), some (.pin 0 pl0)]⟩) (fun (v2 : Int) => ⟨41, [(0, .int .i64 v2), (1, .int .i64 gone), (2, .immp [.int .i64 c0_0, .fn 2 c0_1.length (fun i => [.int .i64 ((c0_1.getD i (0, 0)).1), .int .i64 ((c0_1.getD i (0, 0)).2)])]), (4, .immp [.func 74 [.intp .i64 e0, .abs pl0 0 0, .immp [.func 76 [.immp [.int .i64 d0_0, .fn 2 d0_1.length (fun i => [.int .i64 ((d0_1.getD i (0, 0)).1), .int .i64 ((d0_1.getD i (0, 0)).2)])], .intp .i64 d1, cyc2 74 [.intp .i64 e0, .abs pl0 0 0] [.immp [.int .i64 e3_0, .fn 2 e3_1.length (fun i => [.int .i64 ((e3_1.getD i (0, 0)).1), .int .i64 ((e3_1.getD i (0, 0)).2)])]] 76 [.immp [.int .i64 d0_0, .fn 2 d0_1.length (fun i => [.int .i64 ((d0_1.getD i (0, 0)).1), .int .i64 ((d0_1.getD i (0, 0)).2)])], .intp .i64 d1] fuel]], .immp [.int .i64 e3_0, .fn 2 e3_1.length (fun i => [.int .i64 ((e3_1.getD i (0, 0)).1), .int .i64 ((e3_1.getD i (0, 0)).2)])], cyc2 74 [.intp .i64 e0, .abs pl0 0 0] [.immp [.int .i64 e3_0, .fn 2 e3_1.length (fun i => [.int .i64 ((e3_1.getD i (0, 0)).1), .int .i64 ((e3_1.getD i (0, 0)).2)])]] 76 [.immp [.int .i64 d0_0, .fn 2 d0_1.length (fun i => [.int .i64 ((d0_1.getD i (0, 0)).1), .int .i64 ((d0_1.getD i (0, 0)).2)])], .intp .i64 d1] fuel]])], [some (.gen 47 1 [[.own 1 q0.length]]), some (.gen 22 1 (List.map (fun e => [.ints .i64 e]) q0)), some (.pin 0 pl0)]⟩) (fun v => v) v [0, 1, 2] hK mkWk ?_ ?_
  ·clear hK; rintro v1 b hK hpost1
   try dsimp only at hK
   change AWP _ _ _ _ ⟨41, [(0, .int .i64 v1), (1, .int .i64 gone), (2, .immp [.int .i64 c0_0, .fn 2 c0_1.length (fun i => [.int .i64 ((c0_1.getD i (0, 0)).1), .int .i64 ((c0_1.getD i (0, 0)).2)])]), (3, .intp .i64 c1), (4, .immp [.func 74 [.intp .i64 e0, .abs pl0 0 0, .immp [.func 76 [.immp [.int .i64 d0_0, .fn 2 d0_1.length (fun i => [.int .i64 ((d0_1.getD i (0, 0)).1), .int .i64 ((d0_1.getD i (0, 0)).2)])], .intp .i64 d1, cyc2 74 [.intp .i64 e0, .abs pl0 0 0] [.immp [.int .i64 e3_0, .fn 2 e3_1.length (fun i => [.int .i64 ((e3_1.getD i (0, 0)).1), .int .i64 ((e3_1.getD i (0, 0)).2)])]] 76 [.immp [.int .i64 d0_0, .fn 2 d0_1.length (fun i => [.int .i64 ((d0_1.getD i (0, 0)).1), .int .i64 ((d0_1.getD i (0, 0)).2)])], .intp .i64 d1] fuel]], .immp [.int .i64 e3_0, .fn 2 e3_1.length (fun i => [.int .i64 ((e3_1.getD i (0, 0)).1), .int .i64 ((e3_1.getD i (0, 0)).2)])], cyc2 74 [.intp .i64 e0, .abs pl0 0 0] [.immp [.int .i64 e3_0, .fn 2 e3_1.length (fun i => [.int .i64 ((e3_1.getD i (0, 0)).1), .int .i64 ((e3_1.getD i (0, 0)).2)])]] 76 [.immp [.int .i64 d0_0, .fn 2 d0_1.length (fun i => [.int .i64 ((d0_1.getD i (0, 0)).1), .int .i64 ((d0_1.getD i (0, 0)).2)])], .intp .i64 d1] fuel]])], [some (.gen 47 1 [[.own 1 q0.length]]), some (.gen 22 1 (List.map (fun e => [.ints .i64 e]) q0)), some (.pin 0 pl0)]⟩
   refine AWP_seq ?_
   refine AWP_seq ?_
   replace hK := chk_some hK
   obtain ⟨h, hK⟩ := hK
   refine AWP_rg tab_ok [0, 1, 2, 3, 4, 18] fun c st' hr => ?_
   simp only [go_sem] at hr
   obtain ⟨rfl, rfl⟩ := hr
   refine ⟨vc, ?_⟩
   with_reducible refine thenC_normal ?_
   refine AWP_condP ((v1 < c0_0 ∧ iand (c1 / 2 ^ v1.toNat) 1 = 0)) rfl bd (fun hb => ?_) (fun hb => ?_)
   ·replace hK := ite_t hK hb
    refine AWP_skip ?_
    with_reducible refine thenC_normal ?_
    refine AWP_block ?_
    replace hK := chk_some hK
    obtain ⟨h1, hK⟩ := hK
    refine AWP_rg tab_ok [0, 1, 2, 3, 4] fun c st' hr => ?_
    simp only [go_sem] at hr
    obtain ⟨rfl, rfl⟩ := hr
    refine ⟨vc, ?_⟩
    with_reducible refine inBlockA_normal ?_
    refine again_n (v1 + 1) [0, 1, 2] hK mkWk
   ·replace hK := ite_f hK hb
    refine AWP_exit ?_
    with_reducible refine thenC_exit (again_x ?_)
    refine cutX_here v1 [0, 1, 2] (by have hq := hpost1 _ hK; exact hq) mkWk
  ·clear hK; rintro v2 hK
   try dsimp only at hK
   refine exS ⟨41, [(0, .int .i64 v2), (1, .int .i64 gone), (2, .immp [.int .i64 c0_0, .fn 2 c0_1.length (fun i => [.int .i64 ((c0_1.getD i (0, 0)).1), .int .i64 ((c0_1.getD i (0, 0)).2)])]), (4, .immp [.func 74 [.intp .i64 e0, .abs pl0 0 0, .immp [.func 76 [.immp [.int .i64 d0_0, .fn 2 d0_1.length (fun i => [.int .i64 ((d0_1.getD i (0, 0)).1), .int .i64 ((d0_1.getD i (0, 0)).2)])], .intp .i64 d1, cyc2 74 [.intp .i64 e0, .abs pl0 0 0] [.immp [.int .i64 e3_0, .fn 2 e3_1.length (fun i => [.int .i64 ((e3_1.getD i (0, 0)).1), .int .i64 ((e3_1.getD i (0, 0)).2)])]] 76 [.immp [.int .i64 d0_0, .fn 2 d0_1.length (fun i => [.int .i64 ((d0_1.getD i (0, 0)).1), .int .i64 ((d0_1.getD i (0, 0)).2)])], .intp .i64 d1] fuel]], .immp [.int .i64 e3_0, .fn 2 e3_1.length (fun i => [.int .i64 ((e3_1.getD i (0, 0)).1), .int .i64 ((e3_1.getD i (0, 0)).2)])], cyc2 74 [.intp .i64 e0, .abs pl0 0 0] [.immp [.int .i64 e3_0, .fn 2 e3_1.length (fun i => [.int .i64 ((e3_1.getD i (0, 0)).1), .int .i64 ((e3_1.getD i (0, 0)).2)])]] 76 [.immp [.int .i64 d0_0, .fn 2 d0_1.length (fun i => [.int .i64 ((d0_1.getD i (0, 0)).1), .int .i64 ((d0_1.getD i (0, 0)).2)])], .intp .i64 d1] fuel]])], [some (.gen 47 1 [[.own 1 q0.length]]), some (.gen 22 1 (List.map (fun e => [.ints .i64 e]) q0)), some (.pin 0 pl0)]⟩ rfl ?_
   with_reducible refine inBlockA_exit (thenC_normal ?_)
   refine AWP_seq ?_
   refine AWP_seq ?_
   refine AWP_rg tab_ok [0, 1, 4, 24] fun c st' hr => ?_
   simp only [go_sem] at hr
   obtain ⟨rfl, rfl⟩ := hr
   refine ⟨vc, ?_⟩
   with_reducible refine thenC_normal ?_
   refine AWP_condP (v2 = c0_0) rfl bd (fun hb1 => ?_) (fun hb1 => ?_)
   ·replace hK := ite_t hK hb1
    refine AWP_seq ?_
    refine AWP_rg tab_ok [7] fun c st' hr => ?_
    simp only [go_sem] at hr
    obtain ⟨rfl, rfl⟩ := hr
    refine ⟨vc, ?_⟩
    with_reducible refine thenC_normal ?_
    refine AWP_ret ?_
    with_reducible refine thenC_ret ?_
    cases hK
    refine EndsRW [0, 1, 2] (.inl rfl) (of_decide_eq_true rfl) (by simp) rfl (fun c x hr => ?_) endH
    simp only [go_sem] at hr
    obtain ⟨rfl, rfl⟩ := hr
    exact ⟨rfl, endR⟩
   ·replace hK := ite_f hK hb1
    refine AWP_skip ?_
    with_reducible refine thenC_normal ?_
    refine AWP_seq ?_
    replace hK := chk_some hK
    obtain ⟨h2, hK⟩ := hK
    by_cases hg : iand (gone / 2 ^ v2.toNat) 1 = 0
    ·replace hK := ite_t hK hg
     refine AWP_drawB mixed ?_
     change AWPB _ _ reg_links_Ways_2_5.toArray _ _ _ _
     refine AWPB_takeB tab_ok [0, 1, 4, 7, 25, 26, 27, 28, 29, 30, 31, 32, 33, 34, 35, 36, 37, 38, 39, 40] 0 [2, 3, 4, 5, 6, 7, 8, 9, 10, 11, 12, 13, 14, 15, 16] _ rfl ceg_links_Ways_2_5_2 fun c st' hr => ?_
     simp only [go_sem, dreg_links_Ways_2_5_5] at hr
     obtain ⟨rfl, rfl⟩ := hr
     refine ⟨vc, ?_⟩
     refine AWPB_takeB tab_ok [0, 1, 4, 7, 25, 26, 27, 28, 29, 30, 31, 32, 33, 34, 35, 36, 37, 38, 39, 40] 1 [2, 3, 4, 5, 6, 7, 8, 9, 10, 11, 12, 13, 14, 15, 16] _ rfl ceg_links_Ways_2_5_3 fun c st' hr => ?_
     simp only [go_sem, dreg_links_Ways_2_5_5] at hr
     obtain ⟨rfl, rfl⟩ := hr
     refine ⟨vc, ?_⟩
     refine AWPB_takeB tab_ok [0, 1, 4, 7, 27, 28, 29, 30, 31, 32, 33, 34, 35, 36, 37, 38, 39, 40] 2 [3, 4, 5, 6, 7, 8, 9, 10, 11, 12, 13, 14, 15, 16] _ rfl ceg_links_Ways_2_5_4 fun c st' hr => ?_
     simp only [go_sem, dreg_links_Ways_2_5_5] at hr
     obtain ⟨rfl, rfl⟩ := hr
     refine ⟨vc, ?_⟩
     refine AWPB_takeB tab_ok [0, 1, 4, 7, 28, 29, 30, 31, 32, 33, 34, 35, 36, 37, 38, 39, 40] 3 [4, 5, 6, 7, 8, 9, 10, 11, 12, 13, 14, 15, 16] _ rfl ceg_links_Ways_2_5_5 fun c st' hr => ?_
     simp only [go_sem, dreg_links_Ways_2_5_5] at hr
     obtain ⟨rfl, rfl⟩ := hr
     refine ⟨vc, ?_⟩
     refine AWPB_takeB tab_ok [0, 1, 4, 7, 29, 30, 31, 32, 33, 34, 35, 36, 37, 38, 39, 40] 4 [5, 6, 7, 8, 9, 10, 11, 12, 13, 14, 15, 16] _ rfl ceg_links_Ways_2_5_6 fun c st' hr => ?_
     simp only [go_sem, dreg_links_Ways_2_5_5] at hr
     obtain ⟨rfl, rfl⟩ := hr
     refine ⟨vc, ?_⟩
     refine AWPB_takeB tab_ok [0, 1, 4, 7, 30, 31, 32, 33, 34, 35, 36, 37, 38, 39, 40] 5 [6, 7, 8, 9, 10, 11, 12, 13, 14, 15, 16] _ rfl ceg_links_Ways_2_5_7 fun c st' hr => ?_
     simp only [go_sem, dreg_links_Ways_2_5_5] at hr
     obtain ⟨rfl, rfl⟩ := hr
     refine ⟨vc, ?_⟩
     rw [show decide (iand (gone / 2 ^ v2.toNat) 1 = 0) = true from decide_eq_true hg]
     refine AWPB_takeB tab_ok [0, 1, 4, 7, 30, 31, 32, 33, 34, 35, 36, 37, 38, 39, 40] 10 [11, 12, 14, 15, 16] _ rfl ceg_links_Ways_2_5_8 fun c st' hr => ?_
     simp only [go_sem, dreg_links_Ways_2_5_5] at hr
     obtain ⟨rfl, rfl⟩ := hr
     refine ⟨vc, ?_⟩
     replace hK := chk_some hK
     obtain ⟨h3, hK⟩ := hK
     refine AWPB_takeB tab_ok [0, 1, 4, 7, 30, 31, 32, 33, 34, 36, 37, 38, 39, 40] 11 [12, 14, 15, 16] _ rfl ceg_links_Ways_2_5_9 fun c st' hr => ?_
     simp only [go_sem, dreg_links_Ways_2_5_5] at hr
     obtain ⟨rfl, rfl⟩ := hr
     refine ⟨vc, ?_⟩
     refine AWPB_takeB tab_ok [0, 4, 7, 30, 31, 32, 33, 34, 36, 37, 38, 39, 40] 9 [12, 14, 15, 16] _ rfl ceg_links_Ways_2_5_10 fun c st' hr => ?_
     simp only [go_sem, dreg_links_Ways_2_5_5] at hr
     obtain ⟨rfl, rfl⟩ := hr
     refine ⟨vc, ?_⟩
     refine AWPB_takeB tab_ok [0, 4, 7, 30, 31, 32, 33, 37, 38, 39, 40] 12 [14, 15, 16] _ rfl ceg_links_Ways_2_5_11 fun c st' hr => ?_
     simp only [go_sem, dreg_links_Ways_2_5_5] at hr
     obtain ⟨rfl, rfl⟩ := hr
     refine ⟨vc, ?_⟩
     refine AWPB_takeB tab_ok [0, 7, 30, 31, 32, 33, 37, 38, 39, 40] 6 [14, 15, 16] _ rfl ceg_links_Ways_2_5_12 fun c st' hr => ?_
     simp only [go_sem, dreg_links_Ways_2_5_5] at hr
     obtain ⟨rfl, rfl⟩ := hr
     refine ⟨vc, ?_⟩
     refine AWPB_takeB tab_ok [0, 7, 30, 31, 32, 33, 37, 38, 39, 40] 7 [8, 14, 15, 16] _ rfl ceg_links_Ways_2_5_13 fun c st' hr => ?_
     simp only [go_sem, dreg_links_Ways_2_5_5] at hr
     obtain ⟨rfl, rfl⟩ := hr
     refine ⟨vc, ?_⟩
     refine AWPB_takeB tab_ok [7, 30, 31, 32, 33, 37, 38, 39, 40] 13 [14, 15, 16] _ rfl ceg_links_Ways_2_5_14 fun c st' hr => ?_
     simp only [go_sem, dreg_links_Ways_2_5_5] at hr
     obtain ⟨rfl, rfl⟩ := hr
     refine ⟨vc, ?_⟩
     refine AWPB_one 8 _ ceg_links_Ways_2_5_15 rfl ?_
     refine AWPL_effT tab_ok [7, 30, 31, 33, 37, 38, 39, 40] pcT fun c st' hr => ?_
     simp only [go_sem, dreg_links_Ways_2_5_5] at hr
     obtain ⟨rfl, rfl⟩ := hr
     refine ⟨vc, ?_⟩
     refine AWPL_nil ?_
     refine QB_normal ?_
     refine AWPB_one 14 _ ceg_links_Ways_2_5_16 rfl ?_
     refine AWPL_unopt 31 (.func 74 [.intp .i64 e0, .abs pl0 0 0, .immp [.func 76 [.immp [.int .i64 d0_0, .fn 2 d0_1.length (fun i => [.int .i64 ((d0_1.getD i (0, 0)).1), .int .i64 ((d0_1.getD i (0, 0)).2)])], .intp .i64 d1, cyc2 74 [.intp .i64 e0, .abs pl0 0 0] [.immp [.int .i64 e3_0, .fn 2 e3_1.length (fun i => [.int .i64 ((e3_1.getD i (0, 0)).1), .int .i64 ((e3_1.getD i (0, 0)).2)])]] 76 [.immp [.int .i64 d0_0, .fn 2 d0_1.length (fun i => [.int .i64 ((d0_1.getD i (0, 0)).1), .int .i64 ((d0_1.getD i (0, 0)).2)])], .intp .i64 d1] fuel]], .immp [.int .i64 e3_0, .fn 2 e3_1.length (fun i => [.int .i64 ((e3_1.getD i (0, 0)).1), .int .i64 ((e3_1.getD i (0, 0)).2)])], cyc2 74 [.intp .i64 e0, .abs pl0 0 0] [.immp [.int .i64 e3_0, .fn 2 e3_1.length (fun i => [.int .i64 ((e3_1.getD i (0, 0)).1), .int .i64 ((e3_1.getD i (0, 0)).2)])]] 76 [.immp [.int .i64 d0_0, .fn 2 d0_1.length (fun i => [.int .i64 ((d0_1.getD i (0, 0)).1), .int .i64 ((d0_1.getD i (0, 0)).2)])], .intp .i64 d1] fuel]) rfl fun st' hr => ?_
     simp only [go_sem, dreg_links_Ways_2_5_5] at hr
     subst hr
     replace hK := bind_s hK
     obtain ⟨y, hy, hK⟩ := hK
     refine AWPL_gKF [7, 30, 39, 40] [0, 1] [pl0] [some (.gen 47 1 [[.own 4 ((y.2).length)]]), none, none, none, some (.gen 22 1 (List.map (fun e => [.ints .i64 e]) y.2)), some (.pin 0 pl0)] (ih hy) rfl rfl pcT rfl Try.call74 (of_decide_eq_true rfl) ⟨(by first | rfl | simp [renB, ren0, renI]), (by first | rfl | simp [renB, ren0, renI]), trivial⟩ ⟨⟨2, rfl⟩, trivial⟩ rfl (.cons (.ownI _ _ _ _ _ [v2] rfl (by simp) (by first | (simp; done) | exact List.take_of_length_le (by simp))) (.cons (.atom _ rfl) (.cons (.atom _ rfl) (.cons (.atom _ rfl) (.abs 0 2 rfl rfl (.cons (.atom _ rfl) (.cons (.atom _ rfl) (.cons (ArgOk.cyc2Refl _ _ _ _ _ _) .nil)))))))) (hscG trivial) (of_decide_eq_true rfl) rfl (by simp [nFB, nF0, nIB, nI0]) (of_decide_eq_true rfl) (by simp [plG, pinG, killL, setB, sgm, renB, ren0, renI, List.range, List.range.loop]) fun st' hr => ?_
     simp only [go_sem, dreg_links_Ways_2_5_5] at hr
     subst hr
     clear hy
     refine AWPL_nil ?_
     refine QB_normal ?_
     refine AWPB_takeB tab_ok [7, 40] 15 [16] _ rfl ceg_links_Ways_2_5_17 fun c st' hr => ?_
     simp only [go_sem, dreg_links_Ways_2_5_5] at hr
     obtain ⟨rfl, rfl⟩ := hr
     refine ⟨vc, ?_⟩
     refine AWPB_takeB tab_ok [7] 16 [] _ rfl ceg_links_Ways_2_5_18 fun c st' hr => ?_
     simp only [go_sem, dreg_links_Ways_2_5_5] at hr
     obtain ⟨rfl, rfl⟩ := hr
     refine ⟨vc, ?_⟩
     refine AWPB_fin ceg_links_Ways_2_5_19 ?_
     with_reducible refine thenC_normal ?_
     refine AWP_ret ?_
     cases hK
     refine EndsRW [0, 4, 5] (.inl rfl) (of_decide_eq_true rfl) (by simp) rfl (fun c x hr => ?_) endH
     simp only [go_sem] at hr
     obtain ⟨rfl, rfl⟩ := hr
     exact ⟨rfl, endR⟩
    ·replace hK := ite_f hK hg
     refine AWP_drawB mixed ?_
     change AWPB _ _ reg_links_Ways_2_5.toArray _ _ _ _
     refine AWPB_takeB tab_ok [0, 1, 4, 7, 25, 26, 27, 28, 29, 30, 31, 32, 33, 34, 35, 36, 37, 38, 39, 40] 0 [2, 3, 4, 5, 6, 7, 8, 9, 10, 11, 12, 13, 14, 15, 16] _ rfl ceg_links_Ways_2_5_2 fun c st' hr => ?_
     simp only [go_sem, dreg_links_Ways_2_5_5] at hr
     obtain ⟨rfl, rfl⟩ := hr
     refine ⟨vc, ?_⟩
     refine AWPB_takeB tab_ok [0, 1, 4, 7, 25, 26, 27, 28, 29, 30, 31, 32, 33, 34, 35, 36, 37, 38, 39, 40] 1 [2, 3, 4, 5, 6, 7, 8, 9, 10, 11, 12, 13, 14, 15, 16] _ rfl ceg_links_Ways_2_5_3 fun c st' hr => ?_
     simp only [go_sem, dreg_links_Ways_2_5_5] at hr
     obtain ⟨rfl, rfl⟩ := hr
     refine ⟨vc, ?_⟩
     refine AWPB_takeB tab_ok [0, 1, 4, 7, 27, 28, 29, 30, 31, 32, 33, 34, 35, 36, 37, 38, 39, 40] 2 [3, 4, 5, 6, 7, 8, 9, 10, 11, 12, 13, 14, 15, 16] _ rfl ceg_links_Ways_2_5_4 fun c st' hr => ?_
     simp only [go_sem, dreg_links_Ways_2_5_5] at hr
     obtain ⟨rfl, rfl⟩ := hr
     refine ⟨vc, ?_⟩
     refine AWPB_takeB tab_ok [0, 1, 4, 7, 28, 29, 30, 31, 32, 33, 34, 35, 36, 37, 38, 39, 40] 3 [4, 5, 6, 7, 8, 9, 10, 11, 12, 13, 14, 15, 16] _ rfl ceg_links_Ways_2_5_5 fun c st' hr => ?_
     simp only [go_sem, dreg_links_Ways_2_5_5] at hr
     obtain ⟨rfl, rfl⟩ := hr
     refine ⟨vc, ?_⟩
     refine AWPB_takeB tab_ok [0, 1, 4, 7, 29, 30, 31, 32, 33, 34, 35, 36, 37, 38, 39, 40] 4 [5, 6, 7, 8, 9, 10, 11, 12, 13, 14, 15, 16] _ rfl ceg_links_Ways_2_5_6 fun c st' hr => ?_
     simp only [go_sem, dreg_links_Ways_2_5_5] at hr
     obtain ⟨rfl, rfl⟩ := hr
     refine ⟨vc, ?_⟩
     refine AWPB_takeB tab_ok [0, 1, 4, 7, 30, 31, 32, 33, 34, 35, 36, 37, 38, 39, 40] 5 [6, 7, 8, 9, 10, 11, 12, 13, 14, 15, 16] _ rfl ceg_links_Ways_2_5_7 fun c st' hr => ?_
     simp only [go_sem, dreg_links_Ways_2_5_5] at hr
     obtain ⟨rfl, rfl⟩ := hr
     refine ⟨vc, ?_⟩
     rw [show decide (iand (gone / 2 ^ v2.toNat) 1 = 0) = false from decide_eq_false hg]
     refine AWPB_takeB tab_ok [0, 1, 4, 7, 30, 31, 32, 33, 34, 35, 36, 37, 38, 39, 40] 10 [11, 12, 14, 15, 16] _ rfl ceg_links_Ways_2_5_8 fun c st' hr => ?_
     simp only [go_sem, dreg_links_Ways_2_5_5] at hr
     obtain ⟨rfl, rfl⟩ := hr
     refine ⟨vc, ?_⟩
     refine AWPB_takeB tab_ok [0, 1, 4, 7, 30, 31, 32, 33, 34, 36, 37, 38, 39, 40] 11 [12, 14, 15, 16] _ rfl ceg_links_Ways_2_5_9 fun c st' hr => ?_
     simp only [go_sem, dreg_links_Ways_2_5_5] at hr
     obtain ⟨rfl, rfl⟩ := hr
     refine ⟨vc, ?_⟩
     refine AWPB_takeB tab_ok [0, 4, 7, 30, 31, 32, 33, 34, 36, 37, 38, 39, 40] 9 [12, 14, 15, 16] _ rfl ceg_links_Ways_2_5_10 fun c st' hr => ?_
     simp only [go_sem, dreg_links_Ways_2_5_5] at hr
     obtain ⟨rfl, rfl⟩ := hr
     refine ⟨vc, ?_⟩
     refine AWPB_takeB tab_ok [0, 4, 7, 30, 31, 32, 33, 37, 38, 39, 40] 12 [14, 15, 16] _ rfl ceg_links_Ways_2_5_11 fun c st' hr => ?_
     simp only [go_sem, dreg_links_Ways_2_5_5] at hr
     obtain ⟨rfl, rfl⟩ := hr
     refine ⟨vc, ?_⟩
     refine AWPB_takeB tab_ok [0, 7, 30, 31, 32, 33, 37, 38, 39, 40] 6 [14, 15, 16] _ rfl ceg_links_Ways_2_5_12 fun c st' hr => ?_
     simp only [go_sem, dreg_links_Ways_2_5_5] at hr
     obtain ⟨rfl, rfl⟩ := hr
     refine ⟨vc, ?_⟩
     refine AWPB_takeB tab_ok [0, 7, 30, 31, 32, 33, 37, 38, 39, 40] 7 [8, 14, 15, 16] _ rfl ceg_links_Ways_2_5_13 fun c st' hr => ?_
     simp only [go_sem, dreg_links_Ways_2_5_5] at hr
     obtain ⟨rfl, rfl⟩ := hr
     refine ⟨vc, ?_⟩
     refine AWPB_takeB tab_ok [7, 30, 31, 32, 33, 37, 38, 39, 40] 13 [14, 15, 16] _ rfl ceg_links_Ways_2_5_14 fun c st' hr => ?_
     simp only [go_sem, dreg_links_Ways_2_5_5] at hr
     obtain ⟨rfl, rfl⟩ := hr
     refine ⟨vc, ?_⟩
     refine AWPB_one 8 _ ceg_links_Ways_2_5_15 rfl ?_
     refine AWPL_skipV [7, 30, 31, 33, 37, 38, 39, 40] (.junk) rfl pcF (of_decide_eq_true rfl) fun st' hr => ?_
     simp only [go_sem, dreg_links_Ways_2_5_5] at hr
     subst hr
     refine AWPL_nil ?_
     refine QB_normal ?_
     refine AWPB_one 14 _ ceg_links_Ways_2_5_16 rfl ?_
     refine AWPL_skipV [7, 30, 39, 40] (.bool false) rfl pcF (of_decide_eq_true rfl) fun st' hr => ?_
     simp only [go_sem, dreg_links_Ways_2_5_5] at hr
     subst hr
     refine AWPL_nil ?_
     refine QB_normal ?_
     refine AWPB_takeB tab_ok [7, 40] 15 [16] _ rfl ceg_links_Ways_2_5_17 fun c st' hr => ?_
     simp only [go_sem, dreg_links_Ways_2_5_5] at hr
     obtain ⟨rfl, rfl⟩ := hr
     refine ⟨vc, ?_⟩
     refine AWPB_takeB tab_ok [7] 16 [] _ rfl ceg_links_Ways_2_5_18 fun c st' hr => ?_
     simp only [go_sem, dreg_links_Ways_2_5_5] at hr
     obtain ⟨rfl, rfl⟩ := hr
     refine ⟨vc, ?_⟩
     refine AWPB_fin ceg_links_Ways_2_5_19 ?_
     with_reducible refine thenC_normal ?_
     refine AWP_ret ?_
     cases hK
     refine EndsRW [0, 1, 2] (.inl rfl) (of_decide_eq_true rfl) (by simp) rfl (fun c x hr => ?_) endH
     simp only [go_sem] at hr
     obtain ⟨rfl, rfl⟩ := hr
     exact ⟨rfl, endR⟩

/-- The operations of a drawn region. -/
def reg_links_Ways_1_3 : List Oper := (⟨_, rfl⟩ : { l : List Oper // (Try.f74.body.bind (regIn 3)) = some l }).1

theorem ceg_links_Ways_1_3_1 : firstOk reg_links_Ways_1_3.toArray #[false, false, false, false, false, false] 1 [2, 3, 4, 5] = true := by kernel_rfl

theorem ceg_links_Ways_1_3_2 : (Region.ready .any reg_links_Ways_1_3.toArray #[true, true, true, true, true, true] == []) = true := by kernel_rfl

theorem ceg_links_Ways_1_3_3 : (Region.ready .any reg_links_Ways_1_3.toArray #[true, true, true, true, true, false] == [5]) = true := by kernel_rfl

theorem J_links_Ways_1_3_hn1 {way : List Int} {a1 : Int} {a2 : Int} {c0 : Int} {d0_0 : Int} {d0_1 : List (Int × Int)} {d1 : Int} {c3_0 : Int} {c3_1 : List (Int × Int)} {q0 : List (List Int)} {fuel : Nat} {pl0 : AX.Loc} (h2 : (way.length ≤ 17592186044416)) (h3 : ((q0 ++ [way]).length ≤ 1099511627776)) {w0 : World} {Q : Exit → St → Prop} {AA : Nat → Array Bool → St → Prop} (hAA : ∀ g L st, AA g L st ↔ AWPB Try.prog w0 reg_links_Ways_1_3.toArray Q g L st) (hn : AA 0 #[true, true, true, true, true, true] ⟨72, [(0, .ints .i64 way), (1, .int .i64 a1), (2, .int .i64 a2), (4, .ptr 0 0 0), (5, .immp [.func 76 [.immp [.int .i64 d0_0, .fn 2 d0_1.length (fun i => [.int .i64 ((d0_1.getD i (0, 0)).1), .int .i64 ((d0_1.getD i (0, 0)).2)])], .intp .i64 d1, .immp [.func 74 [.intp .i64 c0, .abs pl0 0 0, .immp [.func 76 [.immp [.int .i64 d0_0, .fn 2 d0_1.length (fun i => [.int .i64 ((d0_1.getD i (0, 0)).1), .int .i64 ((d0_1.getD i (0, 0)).2)])], .intp .i64 d1, cyc2 74 [.intp .i64 c0, .abs pl0 0 0] [.immp [.int .i64 c3_0, .fn 2 c3_1.length (fun i => [.int .i64 ((c3_1.getD i (0, 0)).1), .int .i64 ((c3_1.getD i (0, 0)).2)])]] 76 [.immp [.int .i64 d0_0, .fn 2 d0_1.length (fun i => [.int .i64 ((d0_1.getD i (0, 0)).1), .int .i64 ((d0_1.getD i (0, 0)).2)])], .intp .i64 d1] fuel]], .immp [.int .i64 c3_0, .fn 2 c3_1.length (fun i => [.int .i64 ((c3_1.getD i (0, 0)).1), .int .i64 ((c3_1.getD i (0, 0)).2)])], cyc2 74 [.intp .i64 c0, .abs pl0 0 0] [.immp [.int .i64 c3_0, .fn 2 c3_1.length (fun i => [.int .i64 ((c3_1.getD i (0, 0)).1), .int .i64 ((c3_1.getD i (0, 0)).2)])]] 76 [.immp [.int .i64 d0_0, .fn 2 d0_1.length (fun i => [.int .i64 ((d0_1.getD i (0, 0)).1), .int .i64 ((d0_1.getD i (0, 0)).2)])], .intp .i64 d1] fuel]]]]), (6, .immp [.int .i64 c3_0, .fn 2 c3_1.length (fun i => [.int .i64 ((c3_1.getD i (0, 0)).1), .int .i64 ((c3_1.getD i (0, 0)).2)])]), (7, .immp [.func 74 [.intp .i64 c0, .abs pl0 0 0, .immp [.func 76 [.immp [.int .i64 d0_0, .fn 2 d0_1.length (fun i => [.int .i64 ((d0_1.getD i (0, 0)).1), .int .i64 ((d0_1.getD i (0, 0)).2)])], .intp .i64 d1, cyc2 74 [.intp .i64 c0, .abs pl0 0 0] [.immp [.int .i64 c3_0, .fn 2 c3_1.length (fun i => [.int .i64 ((c3_1.getD i (0, 0)).1), .int .i64 ((c3_1.getD i (0, 0)).2)])]] 76 [.immp [.int .i64 d0_0, .fn 2 d0_1.length (fun i => [.int .i64 ((d0_1.getD i (0, 0)).1), .int .i64 ((d0_1.getD i (0, 0)).2)])], .intp .i64 d1] fuel]], .immp [.int .i64 c3_0, .fn 2 c3_1.length (fun i => [.int .i64 ((c3_1.getD i (0, 0)).1), .int .i64 ((c3_1.getD i (0, 0)).2)])], cyc2 74 [.intp .i64 c0, .abs pl0 0 0] [.immp [.int .i64 c3_0, .fn 2 c3_1.length (fun i => [.int .i64 ((c3_1.getD i (0, 0)).1), .int .i64 ((c3_1.getD i (0, 0)).2)])]] 76 [.immp [.int .i64 d0_0, .fn 2 d0_1.length (fun i => [.int .i64 ((d0_1.getD i (0, 0)).1), .int .i64 ((d0_1.getD i (0, 0)).2)])], .intp .i64 d1] fuel]]), (12, .int .i64 (way.getD ((way.length : Int) - 1).toNat 0))], [some (.gen 47 1 [[.own 5 ((q0 ++ [way]).length)]]), none, some (.pin 0 pl0), none, some (.gen 22 1 (List.map (fun e => [.ints .i64 e]) [way])), some (.gen 22 1 (List.map (fun e => [.ints .i64 e]) (q0 ++ [way])))]⟩) : AA 1 #[true, true, true, true, true, false] ⟨72, [(0, .ints .i64 way), (1, .int .i64 a1), (2, .int .i64 a2), (4, .ptr 0 0 0), (5, .immp [.func 76 [.immp [.int .i64 d0_0, .fn 2 d0_1.length (fun i => [.int .i64 ((d0_1.getD i (0, 0)).1), .int .i64 ((d0_1.getD i (0, 0)).2)])], .intp .i64 d1, .immp [.func 74 [.intp .i64 c0, .abs pl0 0 0, .immp [.func 76 [.immp [.int .i64 d0_0, .fn 2 d0_1.length (fun i => [.int .i64 ((d0_1.getD i (0, 0)).1), .int .i64 ((d0_1.getD i (0, 0)).2)])], .intp .i64 d1, cyc2 74 [.intp .i64 c0, .abs pl0 0 0] [.immp [.int .i64 c3_0, .fn 2 c3_1.length (fun i => [.int .i64 ((c3_1.getD i (0, 0)).1), .int .i64 ((c3_1.getD i (0, 0)).2)])]] 76 [.immp [.int .i64 d0_0, .fn 2 d0_1.length (fun i => [.int .i64 ((d0_1.getD i (0, 0)).1), .int .i64 ((d0_1.getD i (0, 0)).2)])], .intp .i64 d1] fuel]], .immp [.int .i64 c3_0, .fn 2 c3_1.length (fun i => [.int .i64 ((c3_1.getD i (0, 0)).1), .int .i64 ((c3_1.getD i (0, 0)).2)])], cyc2 74 [.intp .i64 c0, .abs pl0 0 0] [.immp [.int .i64 c3_0, .fn 2 c3_1.length (fun i => [.int .i64 ((c3_1.getD i (0, 0)).1), .int .i64 ((c3_1.getD i (0, 0)).2)])]] 76 [.immp [.int .i64 d0_0, .fn 2 d0_1.length (fun i => [.int .i64 ((d0_1.getD i (0, 0)).1), .int .i64 ((d0_1.getD i (0, 0)).2)])], .intp .i64 d1] fuel]]]]), (6, .immp [.int .i64 c3_0, .fn 2 c3_1.length (fun i => [.int .i64 ((c3_1.getD i (0, 0)).1), .int .i64 ((c3_1.getD i (0, 0)).2)])]), (7, .immp [.func 74 [.intp .i64 c0, .abs pl0 0 0, .immp [.func 76 [.immp [.int .i64 d0_0, .fn 2 d0_1.length (fun i => [.int .i64 ((d0_1.getD i (0, 0)).1), .int .i64 ((d0_1.getD i (0, 0)).2)])], .intp .i64 d1, cyc2 74 [.intp .i64 c0, .abs pl0 0 0] [.immp [.int .i64 c3_0, .fn 2 c3_1.length (fun i => [.int .i64 ((c3_1.getD i (0, 0)).1), .int .i64 ((c3_1.getD i (0, 0)).2)])]] 76 [.immp [.int .i64 d0_0, .fn 2 d0_1.length (fun i => [.int .i64 ((d0_1.getD i (0, 0)).1), .int .i64 ((d0_1.getD i (0, 0)).2)])], .intp .i64 d1] fuel]], .immp [.int .i64 c3_0, .fn 2 c3_1.length (fun i => [.int .i64 ((c3_1.getD i (0, 0)).1), .int .i64 ((c3_1.getD i (0, 0)).2)])], cyc2 74 [.intp .i64 c0, .abs pl0 0 0] [.immp [.int .i64 c3_0, .fn 2 c3_1.length (fun i => [.int .i64 ((c3_1.getD i (0, 0)).1), .int .i64 ((c3_1.getD i (0, 0)).2)])]] 76 [.immp [.int .i64 d0_0, .fn 2 d0_1.length (fun i => [.int .i64 ((d0_1.getD i (0, 0)).1), .int .i64 ((d0_1.getD i (0, 0)).2)])], .intp .i64 d1] fuel]]), (12, .int .i64 (way.getD ((way.length : Int) - 1).toNat 0)), (29, .own 5 ((q0 ++ [way]).length))], [some (.gen 47 1 [[.own 1 q0.length]]), none, some (.pin 0 pl0), none, some (.gen 22 1 (List.map (fun e => [.ints .i64 e]) [way])), some (.gen 22 1 (List.map (fun e => [.ints .i64 e]) (q0 ++ [way])))]⟩ := (hAA _ _ _).2 (by
  have h3x := h3; simp only [List.length_append, List.length_cons, List.length_nil] at h3x
  refine AWPB_one 5 _ ceg_links_Ways_1_3_3 rfl ?_
  refine AWPL_rn tab_ok 1 [0, 1, 2, 4, 5, 6, 7, 12] fun c st' hr => ?_
  simp only [go_sem] at hr
  obtain ⟨rfl, rfl⟩ := hr
  refine ⟨vc, ?_⟩
  refine AWPL_nil ?_
  refine QB_normal ?_
  exact AWPB_wk [0, 1, 2, 3, 4, 5] mkWk ((hAA _ _ _).1 hn))

theorem ceg_links_Ways_1_3_5 : (Region.ready .any reg_links_Ways_1_3.toArray #[true, true, true, true, false, false] == [4]) = true := by kernel_rfl

theorem J_links_Ways_1_3_hn2 {way : List Int} {a1 : Int} {a2 : Int} {c0 : Int} {d0_0 : Int} {d0_1 : List (Int × Int)} {d1 : Int} {c3_0 : Int} {c3_1 : List (Int × Int)} {q0 : List (List Int)} {fuel : Nat} {pl0 : AX.Loc} (h2 : (way.length ≤ 17592186044416)) (h3 : ((q0 ++ [way]).length ≤ 1099511627776)) {w0 : World} {Q : Exit → St → Prop} {AA : Nat → Array Bool → St → Prop} (hAA : ∀ g L st, AA g L st ↔ AWPB Try.prog w0 reg_links_Ways_1_3.toArray Q g L st) (hn1 : AA 1 #[true, true, true, true, true, false] ⟨72, [(0, .ints .i64 way), (1, .int .i64 a1), (2, .int .i64 a2), (4, .ptr 0 0 0), (5, .immp [.func 76 [.immp [.int .i64 d0_0, .fn 2 d0_1.length (fun i => [.int .i64 ((d0_1.getD i (0, 0)).1), .int .i64 ((d0_1.getD i (0, 0)).2)])], .intp .i64 d1, .immp [.func 74 [.intp .i64 c0, .abs pl0 0 0, .immp [.func 76 [.immp [.int .i64 d0_0, .fn 2 d0_1.length (fun i => [.int .i64 ((d0_1.getD i (0, 0)).1), .int .i64 ((d0_1.getD i (0, 0)).2)])], .intp .i64 d1, cyc2 74 [.intp .i64 c0, .abs pl0 0 0] [.immp [.int .i64 c3_0, .fn 2 c3_1.length (fun i => [.int .i64 ((c3_1.getD i (0, 0)).1), .int .i64 ((c3_1.getD i (0, 0)).2)])]] 76 [.immp [.int .i64 d0_0, .fn 2 d0_1.length (fun i => [.int .i64 ((d0_1.getD i (0, 0)).1), .int .i64 ((d0_1.getD i (0, 0)).2)])], .intp .i64 d1] fuel]], .immp [.int .i64 c3_0, .fn 2 c3_1.length (fun i => [.int .i64 ((c3_1.getD i (0, 0)).1), .int .i64 ((c3_1.getD i (0, 0)).2)])], cyc2 74 [.intp .i64 c0, .abs pl0 0 0] [.immp [.int .i64 c3_0, .fn 2 c3_1.length (fun i => [.int .i64 ((c3_1.getD i (0, 0)).1), .int .i64 ((c3_1.getD i (0, 0)).2)])]] 76 [.immp [.int .i64 d0_0, .fn 2 d0_1.length (fun i => [.int .i64 ((d0_1.getD i (0, 0)).1), .int .i64 ((d0_1.getD i (0, 0)).2)])], .intp .i64 d1] fuel]]]]), (6, .immp [.int .i64 c3_0, .fn 2 c3_1.length (fun i => [.int .i64 ((c3_1.getD i (0, 0)).1), .int .i64 ((c3_1.getD i (0, 0)).2)])]), (7, .immp [.func 74 [.intp .i64 c0, .abs pl0 0 0, .immp [.func 76 [.immp [.int .i64 d0_0, .fn 2 d0_1.length (fun i => [.int .i64 ((d0_1.getD i (0, 0)).1), .int .i64 ((d0_1.getD i (0, 0)).2)])], .intp .i64 d1, cyc2 74 [.intp .i64 c0, .abs pl0 0 0] [.immp [.int .i64 c3_0, .fn 2 c3_1.length (fun i => [.int .i64 ((c3_1.getD i (0, 0)).1), .int .i64 ((c3_1.getD i (0, 0)).2)])]] 76 [.immp [.int .i64 d0_0, .fn 2 d0_1.length (fun i => [.int .i64 ((d0_1.getD i (0, 0)).1), .int .i64 ((d0_1.getD i (0, 0)).2)])], .intp .i64 d1] fuel]], .immp [.int .i64 c3_0, .fn 2 c3_1.length (fun i => [.int .i64 ((c3_1.getD i (0, 0)).1), .int .i64 ((c3_1.getD i (0, 0)).2)])], cyc2 74 [.intp .i64 c0, .abs pl0 0 0] [.immp [.int .i64 c3_0, .fn 2 c3_1.length (fun i => [.int .i64 ((c3_1.getD i (0, 0)).1), .int .i64 ((c3_1.getD i (0, 0)).2)])]] 76 [.immp [.int .i64 d0_0, .fn 2 d0_1.length (fun i => [.int .i64 ((d0_1.getD i (0, 0)).1), .int .i64 ((d0_1.getD i (0, 0)).2)])], .intp .i64 d1] fuel]]), (12, .int .i64 (way.getD ((way.length : Int) - 1).toNat 0)), (29, .own 5 ((q0 ++ [way]).length))], [some (.gen 47 1 [[.own 1 q0.length]]), none, some (.pin 0 pl0), none, some (.gen 22 1 (List.map (fun e => [.ints .i64 e]) [way])), some (.gen 22 1 (List.map (fun e => [.ints .i64 e]) (q0 ++ [way])))]⟩) : AA 2 #[true, true, true, true, false, false] ⟨72, [(0, .ints .i64 way), (1, .int .i64 a1), (2, .int .i64 a2), (4, .ptr 0 0 0), (5, .immp [.func 76 [.immp [.int .i64 d0_0, .fn 2 d0_1.length (fun i => [.int .i64 ((d0_1.getD i (0, 0)).1), .int .i64 ((d0_1.getD i (0, 0)).2)])], .intp .i64 d1, .immp [.func 74 [.intp .i64 c0, .abs pl0 0 0, .immp [.func 76 [.immp [.int .i64 d0_0, .fn 2 d0_1.length (fun i => [.int .i64 ((d0_1.getD i (0, 0)).1), .int .i64 ((d0_1.getD i (0, 0)).2)])], .intp .i64 d1, cyc2 74 [.intp .i64 c0, .abs pl0 0 0] [.immp [.int .i64 c3_0, .fn 2 c3_1.length (fun i => [.int .i64 ((c3_1.getD i (0, 0)).1), .int .i64 ((c3_1.getD i (0, 0)).2)])]] 76 [.immp [.int .i64 d0_0, .fn 2 d0_1.length (fun i => [.int .i64 ((d0_1.getD i (0, 0)).1), .int .i64 ((d0_1.getD i (0, 0)).2)])], .intp .i64 d1] fuel]], .immp [.int .i64 c3_0, .fn 2 c3_1.length (fun i => [.int .i64 ((c3_1.getD i (0, 0)).1), .int .i64 ((c3_1.getD i (0, 0)).2)])], cyc2 74 [.intp .i64 c0, .abs pl0 0 0] [.immp [.int .i64 c3_0, .fn 2 c3_1.length (fun i => [.int .i64 ((c3_1.getD i (0, 0)).1), .int .i64 ((c3_1.getD i (0, 0)).2)])]] 76 [.immp [.int .i64 d0_0, .fn 2 d0_1.length (fun i => [.int .i64 ((d0_1.getD i (0, 0)).1), .int .i64 ((d0_1.getD i (0, 0)).2)])], .intp .i64 d1] fuel]]]]), (6, .immp [.int .i64 c3_0, .fn 2 c3_1.length (fun i => [.int .i64 ((c3_1.getD i (0, 0)).1), .int .i64 ((c3_1.getD i (0, 0)).2)])]), (7, .immp [.func 74 [.intp .i64 c0, .abs pl0 0 0, .immp [.func 76 [.immp [.int .i64 d0_0, .fn 2 d0_1.length (fun i => [.int .i64 ((d0_1.getD i (0, 0)).1), .int .i64 ((d0_1.getD i (0, 0)).2)])], .intp .i64 d1, cyc2 74 [.intp .i64 c0, .abs pl0 0 0] [.immp [.int .i64 c3_0, .fn 2 c3_1.length (fun i => [.int .i64 ((c3_1.getD i (0, 0)).1), .int .i64 ((c3_1.getD i (0, 0)).2)])]] 76 [.immp [.int .i64 d0_0, .fn 2 d0_1.length (fun i => [.int .i64 ((d0_1.getD i (0, 0)).1), .int .i64 ((d0_1.getD i (0, 0)).2)])], .intp .i64 d1] fuel]], .immp [.int .i64 c3_0, .fn 2 c3_1.length (fun i => [.int .i64 ((c3_1.getD i (0, 0)).1), .int .i64 ((c3_1.getD i (0, 0)).2)])], cyc2 74 [.intp .i64 c0, .abs pl0 0 0] [.immp [.int .i64 c3_0, .fn 2 c3_1.length (fun i => [.int .i64 ((c3_1.getD i (0, 0)).1), .int .i64 ((c3_1.getD i (0, 0)).2)])]] 76 [.immp [.int .i64 d0_0, .fn 2 d0_1.length (fun i => [.int .i64 ((d0_1.getD i (0, 0)).1), .int .i64 ((d0_1.getD i (0, 0)).2)])], .intp .i64 d1] fuel]]), (12, .int .i64 (way.getD ((way.length : Int) - 1).toNat 0)), (25, .own 1 q0.length), (28, .own 4 1)], [some (.gen 47 1 [[.own 1 q0.length]]), some (.gen 22 1 (List.map (fun e => [.ints .i64 e]) q0)), some (.pin 0 pl0), none, some (.gen 22 1 (List.map (fun e => [.ints .i64 e]) [way]))]⟩ := (hAA _ _ _).2 (by
  have h3x := h3; simp only [List.length_append, List.length_cons, List.length_nil] at h3x
  refine AWPB_one 4 _ ceg_links_Ways_1_3_5 rfl ?_
  refine AWPL_rn tab_ok 1 [0, 1, 2, 4, 5, 6, 7, 12, 29] fun c st' hr => ?_
  simp only [go_sem] at hr
  obtain ⟨rfl, rfl⟩ := hr
  refine ⟨vc, ?_⟩
  refine AWPL_nil ?_
  refine QB_normal ?_
  exact AWPB_wk [0, 1, 2, 3, 4, 5] mkWk ((hAA _ _ _).1 hn1))

theorem ceg_links_Ways_1_3_7 : (Region.ready .any reg_links_Ways_1_3.toArray #[true, true, true, false, false, false] == [3]) = true := by kernel_rfl

theorem J_links_Ways_1_3_hn3 {way : List Int} {a1 : Int} {a2 : Int} {c0 : Int} {d0_0 : Int} {d0_1 : List (Int × Int)} {d1 : Int} {c3_0 : Int} {c3_1 : List (Int × Int)} {q0 : List (List Int)} {fuel : Nat} {pl0 : AX.Loc} (h2 : (way.length ≤ 17592186044416)) (h3 : ((q0 ++ [way]).length ≤ 1099511627776)) {w0 : World} {Q : Exit → St → Prop} {AA : Nat → Array Bool → St → Prop} (hAA : ∀ g L st, AA g L st ↔ AWPB Try.prog w0 reg_links_Ways_1_3.toArray Q g L st) (hn2 : AA 2 #[true, true, true, true, false, false] ⟨72, [(0, .ints .i64 way), (1, .int .i64 a1), (2, .int .i64 a2), (4, .ptr 0 0 0), (5, .immp [.func 76 [.immp [.int .i64 d0_0, .fn 2 d0_1.length (fun i => [.int .i64 ((d0_1.getD i (0, 0)).1), .int .i64 ((d0_1.getD i (0, 0)).2)])], .intp .i64 d1, .immp [.func 74 [.intp .i64 c0, .abs pl0 0 0, .immp [.func 76 [.immp [.int .i64 d0_0, .fn 2 d0_1.length (fun i => [.int .i64 ((d0_1.getD i (0, 0)).1), .int .i64 ((d0_1.getD i (0, 0)).2)])], .intp .i64 d1, cyc2 74 [.intp .i64 c0, .abs pl0 0 0] [.immp [.int .i64 c3_0, .fn 2 c3_1.length (fun i => [.int .i64 ((c3_1.getD i (0, 0)).1), .int .i64 ((c3_1.getD i (0, 0)).2)])]] 76 [.immp [.int .i64 d0_0, .fn 2 d0_1.length (fun i => [.int .i64 ((d0_1.getD i (0, 0)).1), .int .i64 ((d0_1.getD i (0, 0)).2)])], .intp .i64 d1] fuel]], .immp [.int .i64 c3_0, .fn 2 c3_1.length (fun i => [.int .i64 ((c3_1.getD i (0, 0)).1), .int .i64 ((c3_1.getD i (0, 0)).2)])], cyc2 74 [.intp .i64 c0, .abs pl0 0 0] [.immp [.int .i64 c3_0, .fn 2 c3_1.length (fun i => [.int .i64 ((c3_1.getD i (0, 0)).1), .int .i64 ((c3_1.getD i (0, 0)).2)])]] 76 [.immp [.int .i64 d0_0, .fn 2 d0_1.length (fun i => [.int .i64 ((d0_1.getD i (0, 0)).1), .int .i64 ((d0_1.getD i (0, 0)).2)])], .intp .i64 d1] fuel]]]]), (6, .immp [.int .i64 c3_0, .fn 2 c3_1.length (fun i => [.int .i64 ((c3_1.getD i (0, 0)).1), .int .i64 ((c3_1.getD i (0, 0)).2)])]), (7, .immp [.func 74 [.intp .i64 c0, .abs pl0 0 0, .immp [.func 76 [.immp [.int .i64 d0_0, .fn 2 d0_1.length (fun i => [.int .i64 ((d0_1.getD i (0, 0)).1), .int .i64 ((d0_1.getD i (0, 0)).2)])], .intp .i64 d1, cyc2 74 [.intp .i64 c0, .abs pl0 0 0] [.immp [.int .i64 c3_0, .fn 2 c3_1.length (fun i => [.int .i64 ((c3_1.getD i (0, 0)).1), .int .i64 ((c3_1.getD i (0, 0)).2)])]] 76 [.immp [.int .i64 d0_0, .fn 2 d0_1.length (fun i => [.int .i64 ((d0_1.getD i (0, 0)).1), .int .i64 ((d0_1.getD i (0, 0)).2)])], .intp .i64 d1] fuel]], .immp [.int .i64 c3_0, .fn 2 c3_1.length (fun i => [.int .i64 ((c3_1.getD i (0, 0)).1), .int .i64 ((c3_1.getD i (0, 0)).2)])], cyc2 74 [.intp .i64 c0, .abs pl0 0 0] [.immp [.int .i64 c3_0, .fn 2 c3_1.length (fun i => [.int .i64 ((c3_1.getD i (0, 0)).1), .int .i64 ((c3_1.getD i (0, 0)).2)])]] 76 [.immp [.int .i64 d0_0, .fn 2 d0_1.length (fun i => [.int .i64 ((d0_1.getD i (0, 0)).1), .int .i64 ((d0_1.getD i (0, 0)).2)])], .intp .i64 d1] fuel]]), (12, .int .i64 (way.getD ((way.length : Int) - 1).toNat 0)), (25, .own 1 q0.length), (28, .own 4 1)], [some (.gen 47 1 [[.own 1 q0.length]]), some (.gen 22 1 (List.map (fun e => [.ints .i64 e]) q0)), some (.pin 0 pl0), none, some (.gen 22 1 (List.map (fun e => [.ints .i64 e]) [way]))]⟩) : AA 3 #[true, true, true, false, false, false] ⟨72, [(0, .ints .i64 way), (1, .int .i64 a1), (2, .int .i64 a2), (4, .ptr 0 0 0), (5, .immp [.func 76 [.immp [.int .i64 d0_0, .fn 2 d0_1.length (fun i => [.int .i64 ((d0_1.getD i (0, 0)).1), .int .i64 ((d0_1.getD i (0, 0)).2)])], .intp .i64 d1, .immp [.func 74 [.intp .i64 c0, .abs pl0 0 0, .immp [.func 76 [.immp [.int .i64 d0_0, .fn 2 d0_1.length (fun i => [.int .i64 ((d0_1.getD i (0, 0)).1), .int .i64 ((d0_1.getD i (0, 0)).2)])], .intp .i64 d1, cyc2 74 [.intp .i64 c0, .abs pl0 0 0] [.immp [.int .i64 c3_0, .fn 2 c3_1.length (fun i => [.int .i64 ((c3_1.getD i (0, 0)).1), .int .i64 ((c3_1.getD i (0, 0)).2)])]] 76 [.immp [.int .i64 d0_0, .fn 2 d0_1.length (fun i => [.int .i64 ((d0_1.getD i (0, 0)).1), .int .i64 ((d0_1.getD i (0, 0)).2)])], .intp .i64 d1] fuel]], .immp [.int .i64 c3_0, .fn 2 c3_1.length (fun i => [.int .i64 ((c3_1.getD i (0, 0)).1), .int .i64 ((c3_1.getD i (0, 0)).2)])], cyc2 74 [.intp .i64 c0, .abs pl0 0 0] [.immp [.int .i64 c3_0, .fn 2 c3_1.length (fun i => [.int .i64 ((c3_1.getD i (0, 0)).1), .int .i64 ((c3_1.getD i (0, 0)).2)])]] 76 [.immp [.int .i64 d0_0, .fn 2 d0_1.length (fun i => [.int .i64 ((d0_1.getD i (0, 0)).1), .int .i64 ((d0_1.getD i (0, 0)).2)])], .intp .i64 d1] fuel]]]]), (6, .immp [.int .i64 c3_0, .fn 2 c3_1.length (fun i => [.int .i64 ((c3_1.getD i (0, 0)).1), .int .i64 ((c3_1.getD i (0, 0)).2)])]), (7, .immp [.func 74 [.intp .i64 c0, .abs pl0 0 0, .immp [.func 76 [.immp [.int .i64 d0_0, .fn 2 d0_1.length (fun i => [.int .i64 ((d0_1.getD i (0, 0)).1), .int .i64 ((d0_1.getD i (0, 0)).2)])], .intp .i64 d1, cyc2 74 [.intp .i64 c0, .abs pl0 0 0] [.immp [.int .i64 c3_0, .fn 2 c3_1.length (fun i => [.int .i64 ((c3_1.getD i (0, 0)).1), .int .i64 ((c3_1.getD i (0, 0)).2)])]] 76 [.immp [.int .i64 d0_0, .fn 2 d0_1.length (fun i => [.int .i64 ((d0_1.getD i (0, 0)).1), .int .i64 ((d0_1.getD i (0, 0)).2)])], .intp .i64 d1] fuel]], .immp [.int .i64 c3_0, .fn 2 c3_1.length (fun i => [.int .i64 ((c3_1.getD i (0, 0)).1), .int .i64 ((c3_1.getD i (0, 0)).2)])], cyc2 74 [.intp .i64 c0, .abs pl0 0 0] [.immp [.int .i64 c3_0, .fn 2 c3_1.length (fun i => [.int .i64 ((c3_1.getD i (0, 0)).1), .int .i64 ((c3_1.getD i (0, 0)).2)])]] 76 [.immp [.int .i64 d0_0, .fn 2 d0_1.length (fun i => [.int .i64 ((d0_1.getD i (0, 0)).1), .int .i64 ((d0_1.getD i (0, 0)).2)])], .intp .i64 d1] fuel]]), (12, .int .i64 (way.getD ((way.length : Int) - 1).toNat 0)), (25, .own 1 q0.length), (27, .ints .i64 way)], [some (.gen 47 1 [[.own 1 q0.length]]), some (.gen 22 1 (List.map (fun e => [.ints .i64 e]) q0)), some (.pin 0 pl0), none]⟩ := (hAA _ _ _).2 (by
  have h3x := h3; simp only [List.length_append, List.length_cons, List.length_nil] at h3x
  refine AWPB_one 3 _ ceg_links_Ways_1_3_7 rfl ?_
  refine AWPL_rn tab_ok 1 [0, 1, 2, 4, 5, 6, 7, 12, 25, 28, 29] fun c st' hr => ?_
  simp only [go_sem] at hr
  obtain ⟨rfl, rfl⟩ := hr
  refine ⟨vc, ?_⟩
  refine AWPL_nil ?_
  refine QB_normal ?_
  exact AWPB_wk [0, 1, 2, 3, 4] mkWk ((hAA _ _ _).1 hn2))

theorem ceg_links_Ways_1_3_9 : (Region.ready .any reg_links_Ways_1_3.toArray #[true, true, false, false, false, false] == [2]) = true := by kernel_rfl

theorem J_links_Ways_1_3_hn4 {way : List Int} {a1 : Int} {a2 : Int} {c0 : Int} {d0_0 : Int} {d0_1 : List (Int × Int)} {d1 : Int} {c3_0 : Int} {c3_1 : List (Int × Int)} {q0 : List (List Int)} {fuel : Nat} {pl0 : AX.Loc} (h2 : (way.length ≤ 17592186044416)) (h3 : ((q0 ++ [way]).length ≤ 1099511627776)) {w0 : World} {Q : Exit → St → Prop} {AA : Nat → Array Bool → St → Prop} (hAA : ∀ g L st, AA g L st ↔ AWPB Try.prog w0 reg_links_Ways_1_3.toArray Q g L st) (hn3 : AA 3 #[true, true, true, false, false, false] ⟨72, [(0, .ints .i64 way), (1, .int .i64 a1), (2, .int .i64 a2), (4, .ptr 0 0 0), (5, .immp [.func 76 [.immp [.int .i64 d0_0, .fn 2 d0_1.length (fun i => [.int .i64 ((d0_1.getD i (0, 0)).1), .int .i64 ((d0_1.getD i (0, 0)).2)])], .intp .i64 d1, .immp [.func 74 [.intp .i64 c0, .abs pl0 0 0, .immp [.func 76 [.immp [.int .i64 d0_0, .fn 2 d0_1.length (fun i => [.int .i64 ((d0_1.getD i (0, 0)).1), .int .i64 ((d0_1.getD i (0, 0)).2)])], .intp .i64 d1, cyc2 74 [.intp .i64 c0, .abs pl0 0 0] [.immp [.int .i64 c3_0, .fn 2 c3_1.length (fun i => [.int .i64 ((c3_1.getD i (0, 0)).1), .int .i64 ((c3_1.getD i (0, 0)).2)])]] 76 [.immp [.int .i64 d0_0, .fn 2 d0_1.length (fun i => [.int .i64 ((d0_1.getD i (0, 0)).1), .int .i64 ((d0_1.getD i (0, 0)).2)])], .intp .i64 d1] fuel]], .immp [.int .i64 c3_0, .fn 2 c3_1.length (fun i => [.int .i64 ((c3_1.getD i (0, 0)).1), .int .i64 ((c3_1.getD i (0, 0)).2)])], cyc2 74 [.intp .i64 c0, .abs pl0 0 0] [.immp [.int .i64 c3_0, .fn 2 c3_1.length (fun i => [.int .i64 ((c3_1.getD i (0, 0)).1), .int .i64 ((c3_1.getD i (0, 0)).2)])]] 76 [.immp [.int .i64 d0_0, .fn 2 d0_1.length (fun i => [.int .i64 ((d0_1.getD i (0, 0)).1), .int .i64 ((d0_1.getD i (0, 0)).2)])], .intp .i64 d1] fuel]]]]), (6, .immp [.int .i64 c3_0, .fn 2 c3_1.length (fun i => [.int .i64 ((c3_1.getD i (0, 0)).1), .int .i64 ((c3_1.getD i (0, 0)).2)])]), (7, .immp [.func 74 [.intp .i64 c0, .abs pl0 0 0, .immp [.func 76 [.immp [.int .i64 d0_0, .fn 2 d0_1.length (fun i => [.int .i64 ((d0_1.getD i (0, 0)).1), .int .i64 ((d0_1.getD i (0, 0)).2)])], .intp .i64 d1, cyc2 74 [.intp .i64 c0, .abs pl0 0 0] [.immp [.int .i64 c3_0, .fn 2 c3_1.length (fun i => [.int .i64 ((c3_1.getD i (0, 0)).1), .int .i64 ((c3_1.getD i (0, 0)).2)])]] 76 [.immp [.int .i64 d0_0, .fn 2 d0_1.length (fun i => [.int .i64 ((d0_1.getD i (0, 0)).1), .int .i64 ((d0_1.getD i (0, 0)).2)])], .intp .i64 d1] fuel]], .immp [.int .i64 c3_0, .fn 2 c3_1.length (fun i => [.int .i64 ((c3_1.getD i (0, 0)).1), .int .i64 ((c3_1.getD i (0, 0)).2)])], cyc2 74 [.intp .i64 c0, .abs pl0 0 0] [.immp [.int .i64 c3_0, .fn 2 c3_1.length (fun i => [.int .i64 ((c3_1.getD i (0, 0)).1), .int .i64 ((c3_1.getD i (0, 0)).2)])]] 76 [.immp [.int .i64 d0_0, .fn 2 d0_1.length (fun i => [.int .i64 ((d0_1.getD i (0, 0)).1), .int .i64 ((d0_1.getD i (0, 0)).2)])], .intp .i64 d1] fuel]]), (12, .int .i64 (way.getD ((way.length : Int) - 1).toNat 0)), (25, .own 1 q0.length), (27, .ints .i64 way)], [some (.gen 47 1 [[.own 1 q0.length]]), some (.gen 22 1 (List.map (fun e => [.ints .i64 e]) q0)), some (.pin 0 pl0), none]⟩) : AA 4 #[true, true, false, false, false, false] ⟨72, [(0, .ints .i64 way), (1, .int .i64 a1), (2, .int .i64 a2), (4, .ptr 0 0 0), (5, .immp [.func 76 [.immp [.int .i64 d0_0, .fn 2 d0_1.length (fun i => [.int .i64 ((d0_1.getD i (0, 0)).1), .int .i64 ((d0_1.getD i (0, 0)).2)])], .intp .i64 d1, .immp [.func 74 [.intp .i64 c0, .abs pl0 0 0, .immp [.func 76 [.immp [.int .i64 d0_0, .fn 2 d0_1.length (fun i => [.int .i64 ((d0_1.getD i (0, 0)).1), .int .i64 ((d0_1.getD i (0, 0)).2)])], .intp .i64 d1, cyc2 74 [.intp .i64 c0, .abs pl0 0 0] [.immp [.int .i64 c3_0, .fn 2 c3_1.length (fun i => [.int .i64 ((c3_1.getD i (0, 0)).1), .int .i64 ((c3_1.getD i (0, 0)).2)])]] 76 [.immp [.int .i64 d0_0, .fn 2 d0_1.length (fun i => [.int .i64 ((d0_1.getD i (0, 0)).1), .int .i64 ((d0_1.getD i (0, 0)).2)])], .intp .i64 d1] fuel]], .immp [.int .i64 c3_0, .fn 2 c3_1.length (fun i => [.int .i64 ((c3_1.getD i (0, 0)).1), .int .i64 ((c3_1.getD i (0, 0)).2)])], cyc2 74 [.intp .i64 c0, .abs pl0 0 0] [.immp [.int .i64 c3_0, .fn 2 c3_1.length (fun i => [.int .i64 ((c3_1.getD i (0, 0)).1), .int .i64 ((c3_1.getD i (0, 0)).2)])]] 76 [.immp [.int .i64 d0_0, .fn 2 d0_1.length (fun i => [.int .i64 ((d0_1.getD i (0, 0)).1), .int .i64 ((d0_1.getD i (0, 0)).2)])], .intp .i64 d1] fuel]]]]), (6, .immp [.int .i64 c3_0, .fn 2 c3_1.length (fun i => [.int .i64 ((c3_1.getD i (0, 0)).1), .int .i64 ((c3_1.getD i (0, 0)).2)])]), (7, .immp [.func 74 [.intp .i64 c0, .abs pl0 0 0, .immp [.func 76 [.immp [.int .i64 d0_0, .fn 2 d0_1.length (fun i => [.int .i64 ((d0_1.getD i (0, 0)).1), .int .i64 ((d0_1.getD i (0, 0)).2)])], .intp .i64 d1, cyc2 74 [.intp .i64 c0, .abs pl0 0 0] [.immp [.int .i64 c3_0, .fn 2 c3_1.length (fun i => [.int .i64 ((c3_1.getD i (0, 0)).1), .int .i64 ((c3_1.getD i (0, 0)).2)])]] 76 [.immp [.int .i64 d0_0, .fn 2 d0_1.length (fun i => [.int .i64 ((d0_1.getD i (0, 0)).1), .int .i64 ((d0_1.getD i (0, 0)).2)])], .intp .i64 d1] fuel]], .immp [.int .i64 c3_0, .fn 2 c3_1.length (fun i => [.int .i64 ((c3_1.getD i (0, 0)).1), .int .i64 ((c3_1.getD i (0, 0)).2)])], cyc2 74 [.intp .i64 c0, .abs pl0 0 0] [.immp [.int .i64 c3_0, .fn 2 c3_1.length (fun i => [.int .i64 ((c3_1.getD i (0, 0)).1), .int .i64 ((c3_1.getD i (0, 0)).2)])]] 76 [.immp [.int .i64 d0_0, .fn 2 d0_1.length (fun i => [.int .i64 ((d0_1.getD i (0, 0)).1), .int .i64 ((d0_1.getD i (0, 0)).2)])], .intp .i64 d1] fuel]]), (12, .int .i64 (way.getD ((way.length : Int) - 1).toNat 0)), (25, .own 1 q0.length), (26, .ints .i64 way)], [some (.gen 47 1 [[.own 1 q0.length]]), some (.gen 22 1 (List.map (fun e => [.ints .i64 e]) q0)), some (.pin 0 pl0)]⟩ := (hAA _ _ _).2 (by
  have h3x := h3; simp only [List.length_append, List.length_cons, List.length_nil] at h3x
  refine AWPB_one 2 _ ceg_links_Ways_1_3_9 rfl ?_
  refine AWPL_cloneI [0, 1, 2, 4, 5, 6, 7, 12, 25, 27, 28, 29] 3 Try.laysNm215 rfl rfl pcT rfl Try.call75 (of_decide_eq_true rfl) rfl h2 rfl fun st' hr => ?_
  simp only [go_sem] at hr
  subst hr
  refine AWPL_freeze 27 3 (y := .ints .i64 way) rfl (.one (.ownI _ _ _ _ _ way rfl (by simp) (by first | (simp; done) | exact List.take_of_length_le (by simp)))) fun st' hr => ?_
  simp only [List.set_cons_zero, List.set_cons_succ] at hr
  simp only [go_sem] at hr
  subst hr
  refine AWPL_nil ?_
  refine QB_normal ?_
  exact AWPB_wk [0, 1, 2, 3] mkWk ((hAA _ _ _).1 hn3))

theorem ceg_links_Ways_1_3_11 : firstOk reg_links_Ways_1_3.toArray #[false, true, true, false, false, false] 0 [4, 5] = true := by kernel_rfl

theorem J_links_Ways_1_3_hn5 {way : List Int} {a1 : Int} {a2 : Int} {c0 : Int} {d0_0 : Int} {d0_1 : List (Int × Int)} {d1 : Int} {c3_0 : Int} {c3_1 : List (Int × Int)} {q0 : List (List Int)} {fuel : Nat} {pl0 : AX.Loc} (h2 : (way.length ≤ 17592186044416)) (h3 : ((q0 ++ [way]).length ≤ 1099511627776)) {w0 : World} {Q : Exit → St → Prop} {AA : Nat → Array Bool → St → Prop} (hAA : ∀ g L st, AA g L st ↔ AWPB Try.prog w0 reg_links_Ways_1_3.toArray Q g L st) (hn3 : AA 3 #[true, true, true, false, false, false] ⟨72, [(0, .ints .i64 way), (1, .int .i64 a1), (2, .int .i64 a2), (4, .ptr 0 0 0), (5, .immp [.func 76 [.immp [.int .i64 d0_0, .fn 2 d0_1.length (fun i => [.int .i64 ((d0_1.getD i (0, 0)).1), .int .i64 ((d0_1.getD i (0, 0)).2)])], .intp .i64 d1, .immp [.func 74 [.intp .i64 c0, .abs pl0 0 0, .immp [.func 76 [.immp [.int .i64 d0_0, .fn 2 d0_1.length (fun i => [.int .i64 ((d0_1.getD i (0, 0)).1), .int .i64 ((d0_1.getD i (0, 0)).2)])], .intp .i64 d1, cyc2 74 [.intp .i64 c0, .abs pl0 0 0] [.immp [.int .i64 c3_0, .fn 2 c3_1.length (fun i => [.int .i64 ((c3_1.getD i (0, 0)).1), .int .i64 ((c3_1.getD i (0, 0)).2)])]] 76 [.immp [.int .i64 d0_0, .fn 2 d0_1.length (fun i => [.int .i64 ((d0_1.getD i (0, 0)).1), .int .i64 ((d0_1.getD i (0, 0)).2)])], .intp .i64 d1] fuel]], .immp [.int .i64 c3_0, .fn 2 c3_1.length (fun i => [.int .i64 ((c3_1.getD i (0, 0)).1), .int .i64 ((c3_1.getD i (0, 0)).2)])], cyc2 74 [.intp .i64 c0, .abs pl0 0 0] [.immp [.int .i64 c3_0, .fn 2 c3_1.length (fun i => [.int .i64 ((c3_1.getD i (0, 0)).1), .int .i64 ((c3_1.getD i (0, 0)).2)])]] 76 [.immp [.int .i64 d0_0, .fn 2 d0_1.length (fun i => [.int .i64 ((d0_1.getD i (0, 0)).1), .int .i64 ((d0_1.getD i (0, 0)).2)])], .intp .i64 d1] fuel]]]]), (6, .immp [.int .i64 c3_0, .fn 2 c3_1.length (fun i => [.int .i64 ((c3_1.getD i (0, 0)).1), .int .i64 ((c3_1.getD i (0, 0)).2)])]), (7, .immp [.func 74 [.intp .i64 c0, .abs pl0 0 0, .immp [.func 76 [.immp [.int .i64 d0_0, .fn 2 d0_1.length (fun i => [.int .i64 ((d0_1.getD i (0, 0)).1), .int .i64 ((d0_1.getD i (0, 0)).2)])], .intp .i64 d1, cyc2 74 [.intp .i64 c0, .abs pl0 0 0] [.immp [.int .i64 c3_0, .fn 2 c3_1.length (fun i => [.int .i64 ((c3_1.getD i (0, 0)).1), .int .i64 ((c3_1.getD i (0, 0)).2)])]] 76 [.immp [.int .i64 d0_0, .fn 2 d0_1.length (fun i => [.int .i64 ((d0_1.getD i (0, 0)).1), .int .i64 ((d0_1.getD i (0, 0)).2)])], .intp .i64 d1] fuel]], .immp [.int .i64 c3_0, .fn 2 c3_1.length (fun i => [.int .i64 ((c3_1.getD i (0, 0)).1), .int .i64 ((c3_1.getD i (0, 0)).2)])], cyc2 74 [.intp .i64 c0, .abs pl0 0 0] [.immp [.int .i64 c3_0, .fn 2 c3_1.length (fun i => [.int .i64 ((c3_1.getD i (0, 0)).1), .int .i64 ((c3_1.getD i (0, 0)).2)])]] 76 [.immp [.int .i64 d0_0, .fn 2 d0_1.length (fun i => [.int .i64 ((d0_1.getD i (0, 0)).1), .int .i64 ((d0_1.getD i (0, 0)).2)])], .intp .i64 d1] fuel]]), (12, .int .i64 (way.getD ((way.length : Int) - 1).toNat 0)), (25, .own 1 q0.length), (27, .ints .i64 way)], [some (.gen 47 1 [[.own 1 q0.length]]), some (.gen 22 1 (List.map (fun e => [.ints .i64 e]) q0)), some (.pin 0 pl0), none]⟩) : AA 4 #[false, true, true, false, false, false] ⟨72, [(0, .ints .i64 way), (1, .int .i64 a1), (2, .int .i64 a2), (4, .ptr 0 0 0), (5, .immp [.func 76 [.immp [.int .i64 d0_0, .fn 2 d0_1.length (fun i => [.int .i64 ((d0_1.getD i (0, 0)).1), .int .i64 ((d0_1.getD i (0, 0)).2)])], .intp .i64 d1, .immp [.func 74 [.intp .i64 c0, .abs pl0 0 0, .immp [.func 76 [.immp [.int .i64 d0_0, .fn 2 d0_1.length (fun i => [.int .i64 ((d0_1.getD i (0, 0)).1), .int .i64 ((d0_1.getD i (0, 0)).2)])], .intp .i64 d1, cyc2 74 [.intp .i64 c0, .abs pl0 0 0] [.immp [.int .i64 c3_0, .fn 2 c3_1.length (fun i => [.int .i64 ((c3_1.getD i (0, 0)).1), .int .i64 ((c3_1.getD i (0, 0)).2)])]] 76 [.immp [.int .i64 d0_0, .fn 2 d0_1.length (fun i => [.int .i64 ((d0_1.getD i (0, 0)).1), .int .i64 ((d0_1.getD i (0, 0)).2)])], .intp .i64 d1] fuel]], .immp [.int .i64 c3_0, .fn 2 c3_1.length (fun i => [.int .i64 ((c3_1.getD i (0, 0)).1), .int .i64 ((c3_1.getD i (0, 0)).2)])], cyc2 74 [.intp .i64 c0, .abs pl0 0 0] [.immp [.int .i64 c3_0, .fn 2 c3_1.length (fun i => [.int .i64 ((c3_1.getD i (0, 0)).1), .int .i64 ((c3_1.getD i (0, 0)).2)])]] 76 [.immp [.int .i64 d0_0, .fn 2 d0_1.length (fun i => [.int .i64 ((d0_1.getD i (0, 0)).1), .int .i64 ((d0_1.getD i (0, 0)).2)])], .intp .i64 d1] fuel]]]]), (6, .immp [.int .i64 c3_0, .fn 2 c3_1.length (fun i => [.int .i64 ((c3_1.getD i (0, 0)).1), .int .i64 ((c3_1.getD i (0, 0)).2)])]), (7, .immp [.func 74 [.intp .i64 c0, .abs pl0 0 0, .immp [.func 76 [.immp [.int .i64 d0_0, .fn 2 d0_1.length (fun i => [.int .i64 ((d0_1.getD i (0, 0)).1), .int .i64 ((d0_1.getD i (0, 0)).2)])], .intp .i64 d1, cyc2 74 [.intp .i64 c0, .abs pl0 0 0] [.immp [.int .i64 c3_0, .fn 2 c3_1.length (fun i => [.int .i64 ((c3_1.getD i (0, 0)).1), .int .i64 ((c3_1.getD i (0, 0)).2)])]] 76 [.immp [.int .i64 d0_0, .fn 2 d0_1.length (fun i => [.int .i64 ((d0_1.getD i (0, 0)).1), .int .i64 ((d0_1.getD i (0, 0)).2)])], .intp .i64 d1] fuel]], .immp [.int .i64 c3_0, .fn 2 c3_1.length (fun i => [.int .i64 ((c3_1.getD i (0, 0)).1), .int .i64 ((c3_1.getD i (0, 0)).2)])], cyc2 74 [.intp .i64 c0, .abs pl0 0 0] [.immp [.int .i64 c3_0, .fn 2 c3_1.length (fun i => [.int .i64 ((c3_1.getD i (0, 0)).1), .int .i64 ((c3_1.getD i (0, 0)).2)])]] 76 [.immp [.int .i64 d0_0, .fn 2 d0_1.length (fun i => [.int .i64 ((d0_1.getD i (0, 0)).1), .int .i64 ((d0_1.getD i (0, 0)).2)])], .intp .i64 d1] fuel]]), (12, .int .i64 (way.getD ((way.length : Int) - 1).toNat 0)), (27, .ints .i64 way)], [some (.gen 47 1 [[.own 1 q0.length]]), some (.gen 22 1 (List.map (fun e => [.ints .i64 e]) q0)), some (.pin 0 pl0), none]⟩ := (hAA _ _ _).2 (by
  have h3x := h3; simp only [List.length_append, List.length_cons, List.length_nil] at h3x
  refine AWPB_takeB tab_ok [0, 1, 2, 4, 5, 6, 7, 12, 25, 27, 28, 29] 0 [4, 5] _ rfl ceg_links_Ways_1_3_11 fun c st' hr => ?_
  simp only [go_sem] at hr
  obtain ⟨rfl, rfl⟩ := hr
  refine ⟨vc, ?_⟩
  exact AWPB_wk [0, 1, 2, 3] mkWk ((hAA _ _ _).1 hn3))

theorem ceg_links_Ways_1_3_13 : (Region.ready .any reg_links_Ways_1_3.toArray #[false, true, false, false, false, false] == [0, 2]) = true := by kernel_rfl

theorem J_links_Ways_1_3_hn6 {way : List Int} {a1 : Int} {a2 : Int} {c0 : Int} {d0_0 : Int} {d0_1 : List (Int × Int)} {d1 : Int} {c3_0 : Int} {c3_1 : List (Int × Int)} {q0 : List (List Int)} {fuel : Nat} {pl0 : AX.Loc} (h2 : (way.length ≤ 17592186044416)) (h3 : ((q0 ++ [way]).length ≤ 1099511627776)) {w0 : World} {Q : Exit → St → Prop} {AA : Nat → Array Bool → St → Prop} (hAA : ∀ g L st, AA g L st ↔ AWPB Try.prog w0 reg_links_Ways_1_3.toArray Q g L st) (hn4 : AA 4 #[true, true, false, false, false, false] ⟨72, [(0, .ints .i64 way), (1, .int .i64 a1), (2, .int .i64 a2), (4, .ptr 0 0 0), (5, .immp [.func 76 [.immp [.int .i64 d0_0, .fn 2 d0_1.length (fun i => [.int .i64 ((d0_1.getD i (0, 0)).1), .int .i64 ((d0_1.getD i (0, 0)).2)])], .intp .i64 d1, .immp [.func 74 [.intp .i64 c0, .abs pl0 0 0, .immp [.func 76 [.immp [.int .i64 d0_0, .fn 2 d0_1.length (fun i => [.int .i64 ((d0_1.getD i (0, 0)).1), .int .i64 ((d0_1.getD i (0, 0)).2)])], .intp .i64 d1, cyc2 74 [.intp .i64 c0, .abs pl0 0 0] [.immp [.int .i64 c3_0, .fn 2 c3_1.length (fun i => [.int .i64 ((c3_1.getD i (0, 0)).1), .int .i64 ((c3_1.getD i (0, 0)).2)])]] 76 [.immp [.int .i64 d0_0, .fn 2 d0_1.length (fun i => [.int .i64 ((d0_1.getD i (0, 0)).1), .int .i64 ((d0_1.getD i (0, 0)).2)])], .intp .i64 d1] fuel]], .immp [.int .i64 c3_0, .fn 2 c3_1.length (fun i => [.int .i64 ((c3_1.getD i (0, 0)).1), .int .i64 ((c3_1.getD i (0, 0)).2)])], cyc2 74 [.intp .i64 c0, .abs pl0 0 0] [.immp [.int .i64 c3_0, .fn 2 c3_1.length (fun i => [.int .i64 ((c3_1.getD i (0, 0)).1), .int .i64 ((c3_1.getD i (0, 0)).2)])]] 76 [.immp [.int .i64 d0_0, .fn 2 d0_1.length (fun i => [.int .i64 ((d0_1.getD i (0, 0)).1), .int .i64 ((d0_1.getD i (0, 0)).2)])], .intp .i64 d1] fuel]]]]), (6, .immp [.int .i64 c3_0, .fn 2 c3_1.length (fun i => [.int .i64 ((c3_1.getD i (0, 0)).1), .int .i64 ((c3_1.getD i (0, 0)).2)])]), (7, .immp [.func 74 [.intp .i64 c0, .abs pl0 0 0, .immp [.func 76 [.immp [.int .i64 d0_0, .fn 2 d0_1.length (fun i => [.int .i64 ((d0_1.getD i (0, 0)).1), .int .i64 ((d0_1.getD i (0, 0)).2)])], .intp .i64 d1, cyc2 74 [.intp .i64 c0, .abs pl0 0 0] [.immp [.int .i64 c3_0, .fn 2 c3_1.length (fun i => [.int .i64 ((c3_1.getD i (0, 0)).1), .int .i64 ((c3_1.getD i (0, 0)).2)])]] 76 [.immp [.int .i64 d0_0, .fn 2 d0_1.length (fun i => [.int .i64 ((d0_1.getD i (0, 0)).1), .int .i64 ((d0_1.getD i (0, 0)).2)])], .intp .i64 d1] fuel]], .immp [.int .i64 c3_0, .fn 2 c3_1.length (fun i => [.int .i64 ((c3_1.getD i (0, 0)).1), .int .i64 ((c3_1.getD i (0, 0)).2)])], cyc2 74 [.intp .i64 c0, .abs pl0 0 0] [.immp [.int .i64 c3_0, .fn 2 c3_1.length (fun i => [.int .i64 ((c3_1.getD i (0, 0)).1), .int .i64 ((c3_1.getD i (0, 0)).2)])]] 76 [.immp [.int .i64 d0_0, .fn 2 d0_1.length (fun i => [.int .i64 ((d0_1.getD i (0, 0)).1), .int .i64 ((d0_1.getD i (0, 0)).2)])], .intp .i64 d1] fuel]]), (12, .int .i64 (way.getD ((way.length : Int) - 1).toNat 0)), (25, .own 1 q0.length), (26, .ints .i64 way)], [some (.gen 47 1 [[.own 1 q0.length]]), some (.gen 22 1 (List.map (fun e => [.ints .i64 e]) q0)), some (.pin 0 pl0)]⟩) (hn5 : AA 4 #[false, true, true, false, false, false] ⟨72, [(0, .ints .i64 way), (1, .int .i64 a1), (2, .int .i64 a2), (4, .ptr 0 0 0), (5, .immp [.func 76 [.immp [.int .i64 d0_0, .fn 2 d0_1.length (fun i => [.int .i64 ((d0_1.getD i (0, 0)).1), .int .i64 ((d0_1.getD i (0, 0)).2)])], .intp .i64 d1, .immp [.func 74 [.intp .i64 c0, .abs pl0 0 0, .immp [.func 76 [.immp [.int .i64 d0_0, .fn 2 d0_1.length (fun i => [.int .i64 ((d0_1.getD i (0, 0)).1), .int .i64 ((d0_1.getD i (0, 0)).2)])], .intp .i64 d1, cyc2 74 [.intp .i64 c0, .abs pl0 0 0] [.immp [.int .i64 c3_0, .fn 2 c3_1.length (fun i => [.int .i64 ((c3_1.getD i (0, 0)).1), .int .i64 ((c3_1.getD i (0, 0)).2)])]] 76 [.immp [.int .i64 d0_0, .fn 2 d0_1.length (fun i => [.int .i64 ((d0_1.getD i (0, 0)).1), .int .i64 ((d0_1.getD i (0, 0)).2)])], .intp .i64 d1] fuel]], .immp [.int .i64 c3_0, .fn 2 c3_1.length (fun i => [.int .i64 ((c3_1.getD i (0, 0)).1), .int .i64 ((c3_1.getD i (0, 0)).2)])], cyc2 74 [.intp .i64 c0, .abs pl0 0 0] [.immp [.int .i64 c3_0, .fn 2 c3_1.length (fun i => [.int .i64 ((c3_1.getD i (0, 0)).1), .int .i64 ((c3_1.getD i (0, 0)).2)])]] 76 [.immp [.int .i64 d0_0, .fn 2 d0_1.length (fun i => [.int .i64 ((d0_1.getD i (0, 0)).1), .int .i64 ((d0_1.getD i (0, 0)).2)])], .intp .i64 d1] fuel]]]]), (6, .immp [.int .i64 c3_0, .fn 2 c3_1.length (fun i => [.int .i64 ((c3_1.getD i (0, 0)).1), .int .i64 ((c3_1.getD i (0, 0)).2)])]), (7, .immp [.func 74 [.intp .i64 c0, .abs pl0 0 0, .immp [.func 76 [.immp [.int .i64 d0_0, .fn 2 d0_1.length (fun i => [.int .i64 ((d0_1.getD i (0, 0)).1), .int .i64 ((d0_1.getD i (0, 0)).2)])], .intp .i64 d1, cyc2 74 [.intp .i64 c0, .abs pl0 0 0] [.immp [.int .i64 c3_0, .fn 2 c3_1.length (fun i => [.int .i64 ((c3_1.getD i (0, 0)).1), .int .i64 ((c3_1.getD i (0, 0)).2)])]] 76 [.immp [.int .i64 d0_0, .fn 2 d0_1.length (fun i => [.int .i64 ((d0_1.getD i (0, 0)).1), .int .i64 ((d0_1.getD i (0, 0)).2)])], .intp .i64 d1] fuel]], .immp [.int .i64 c3_0, .fn 2 c3_1.length (fun i => [.int .i64 ((c3_1.getD i (0, 0)).1), .int .i64 ((c3_1.getD i (0, 0)).2)])], cyc2 74 [.intp .i64 c0, .abs pl0 0 0] [.immp [.int .i64 c3_0, .fn 2 c3_1.length (fun i => [.int .i64 ((c3_1.getD i (0, 0)).1), .int .i64 ((c3_1.getD i (0, 0)).2)])]] 76 [.immp [.int .i64 d0_0, .fn 2 d0_1.length (fun i => [.int .i64 ((d0_1.getD i (0, 0)).1), .int .i64 ((d0_1.getD i (0, 0)).2)])], .intp .i64 d1] fuel]]), (12, .int .i64 (way.getD ((way.length : Int) - 1).toNat 0)), (27, .ints .i64 way)], [some (.gen 47 1 [[.own 1 q0.length]]), some (.gen 22 1 (List.map (fun e => [.ints .i64 e]) q0)), some (.pin 0 pl0), none]⟩) : AA 5 #[false, true, false, false, false, false] ⟨72, [(0, .ints .i64 way), (1, .int .i64 a1), (2, .int .i64 a2), (4, .ptr 0 0 0), (5, .immp [.func 76 [.immp [.int .i64 d0_0, .fn 2 d0_1.length (fun i => [.int .i64 ((d0_1.getD i (0, 0)).1), .int .i64 ((d0_1.getD i (0, 0)).2)])], .intp .i64 d1, .immp [.func 74 [.intp .i64 c0, .abs pl0 0 0, .immp [.func 76 [.immp [.int .i64 d0_0, .fn 2 d0_1.length (fun i => [.int .i64 ((d0_1.getD i (0, 0)).1), .int .i64 ((d0_1.getD i (0, 0)).2)])], .intp .i64 d1, cyc2 74 [.intp .i64 c0, .abs pl0 0 0] [.immp [.int .i64 c3_0, .fn 2 c3_1.length (fun i => [.int .i64 ((c3_1.getD i (0, 0)).1), .int .i64 ((c3_1.getD i (0, 0)).2)])]] 76 [.immp [.int .i64 d0_0, .fn 2 d0_1.length (fun i => [.int .i64 ((d0_1.getD i (0, 0)).1), .int .i64 ((d0_1.getD i (0, 0)).2)])], .intp .i64 d1] fuel]], .immp [.int .i64 c3_0, .fn 2 c3_1.length (fun i => [.int .i64 ((c3_1.getD i (0, 0)).1), .int .i64 ((c3_1.getD i (0, 0)).2)])], cyc2 74 [.intp .i64 c0, .abs pl0 0 0] [.immp [.int .i64 c3_0, .fn 2 c3_1.length (fun i => [.int .i64 ((c3_1.getD i (0, 0)).1), .int .i64 ((c3_1.getD i (0, 0)).2)])]] 76 [.immp [.int .i64 d0_0, .fn 2 d0_1.length (fun i => [.int .i64 ((d0_1.getD i (0, 0)).1), .int .i64 ((d0_1.getD i (0, 0)).2)])], .intp .i64 d1] fuel]]]]), (6, .immp [.int .i64 c3_0, .fn 2 c3_1.length (fun i => [.int .i64 ((c3_1.getD i (0, 0)).1), .int .i64 ((c3_1.getD i (0, 0)).2)])]), (7, .immp [.func 74 [.intp .i64 c0, .abs pl0 0 0, .immp [.func 76 [.immp [.int .i64 d0_0, .fn 2 d0_1.length (fun i => [.int .i64 ((d0_1.getD i (0, 0)).1), .int .i64 ((d0_1.getD i (0, 0)).2)])], .intp .i64 d1, cyc2 74 [.intp .i64 c0, .abs pl0 0 0] [.immp [.int .i64 c3_0, .fn 2 c3_1.length (fun i => [.int .i64 ((c3_1.getD i (0, 0)).1), .int .i64 ((c3_1.getD i (0, 0)).2)])]] 76 [.immp [.int .i64 d0_0, .fn 2 d0_1.length (fun i => [.int .i64 ((d0_1.getD i (0, 0)).1), .int .i64 ((d0_1.getD i (0, 0)).2)])], .intp .i64 d1] fuel]], .immp [.int .i64 c3_0, .fn 2 c3_1.length (fun i => [.int .i64 ((c3_1.getD i (0, 0)).1), .int .i64 ((c3_1.getD i (0, 0)).2)])], cyc2 74 [.intp .i64 c0, .abs pl0 0 0] [.immp [.int .i64 c3_0, .fn 2 c3_1.length (fun i => [.int .i64 ((c3_1.getD i (0, 0)).1), .int .i64 ((c3_1.getD i (0, 0)).2)])]] 76 [.immp [.int .i64 d0_0, .fn 2 d0_1.length (fun i => [.int .i64 ((d0_1.getD i (0, 0)).1), .int .i64 ((d0_1.getD i (0, 0)).2)])], .intp .i64 d1] fuel]]), (12, .int .i64 (way.getD ((way.length : Int) - 1).toNat 0)), (26, .ints .i64 way)], [some (.gen 47 1 [[.own 1 q0.length]]), some (.gen 22 1 (List.map (fun e => [.ints .i64 e]) q0)), some (.pin 0 pl0)]⟩ := (hAA _ _ _).2 (by
  have h3x := h3; simp only [List.length_append, List.length_cons, List.length_nil] at h3x
  refine AWPB_two 0 2 _ _ ceg_links_Ways_1_3_13 rfl rfl ?_ ?_
  ·skip
   refine AWPL_rn tab_ok 1 [0, 1, 2, 4, 5, 6, 7, 12, 25, 26, 27, 28, 29] fun c st' hr => ?_
   simp only [go_sem] at hr
   obtain ⟨rfl, rfl⟩ := hr
   refine ⟨vc, ?_⟩
   refine AWPL_nil ?_
   refine QB_normal ?_
   exact AWPB_wk [0, 1, 2] mkWk ((hAA _ _ _).1 hn4)
  ·skip
   refine AWPL_cloneI [0, 1, 2, 4, 5, 6, 7, 12, 25, 27, 28, 29] 3 Try.laysNm215 rfl rfl pcT rfl Try.call75 (of_decide_eq_true rfl) rfl h2 rfl fun st' hr => ?_
   simp only [go_sem] at hr
   subst hr
   refine AWPL_freeze 27 3 (y := .ints .i64 way) rfl (.one (.ownI _ _ _ _ _ way rfl (by simp) (by first | (simp; done) | exact List.take_of_length_le (by simp)))) fun st' hr => ?_
   simp only [List.set_cons_zero, List.set_cons_succ] at hr
   simp only [go_sem] at hr
   subst hr
   refine AWPL_nil ?_
   refine QB_normal ?_
   exact AWPB_wk [0, 1, 2, 3] mkWk ((hAA _ _ _).1 hn5))

theorem J_links_Ways_1_3_hn7 {way : List Int} {a1 : Int} {a2 : Int} {c0 : Int} {d0_0 : Int} {d0_1 : List (Int × Int)} {d1 : Int} {c3_0 : Int} {c3_1 : List (Int × Int)} {q0 : List (List Int)} {fuel : Nat} {pl0 : AX.Loc} (h2 : (way.length ≤ 17592186044416)) (h3 : ((q0 ++ [way]).length ≤ 1099511627776)) {w0 : World} {Q : Exit → St → Prop} {AA : Nat → Array Bool → St → Prop} (hAA : ∀ g L st, AA g L st ↔ AWPB Try.prog w0 reg_links_Ways_1_3.toArray Q g L st) (hn6 : AA 5 #[false, true, false, false, false, false] ⟨72, [(0, .ints .i64 way), (1, .int .i64 a1), (2, .int .i64 a2), (4, .ptr 0 0 0), (5, .immp [.func 76 [.immp [.int .i64 d0_0, .fn 2 d0_1.length (fun i => [.int .i64 ((d0_1.getD i (0, 0)).1), .int .i64 ((d0_1.getD i (0, 0)).2)])], .intp .i64 d1, .immp [.func 74 [.intp .i64 c0, .abs pl0 0 0, .immp [.func 76 [.immp [.int .i64 d0_0, .fn 2 d0_1.length (fun i => [.int .i64 ((d0_1.getD i (0, 0)).1), .int .i64 ((d0_1.getD i (0, 0)).2)])], .intp .i64 d1, cyc2 74 [.intp .i64 c0, .abs pl0 0 0] [.immp [.int .i64 c3_0, .fn 2 c3_1.length (fun i => [.int .i64 ((c3_1.getD i (0, 0)).1), .int .i64 ((c3_1.getD i (0, 0)).2)])]] 76 [.immp [.int .i64 d0_0, .fn 2 d0_1.length (fun i => [.int .i64 ((d0_1.getD i (0, 0)).1), .int .i64 ((d0_1.getD i (0, 0)).2)])], .intp .i64 d1] fuel]], .immp [.int .i64 c3_0, .fn 2 c3_1.length (fun i => [.int .i64 ((c3_1.getD i (0, 0)).1), .int .i64 ((c3_1.getD i (0, 0)).2)])], cyc2 74 [.intp .i64 c0, .abs pl0 0 0] [.immp [.int .i64 c3_0, .fn 2 c3_1.length (fun i => [.int .i64 ((c3_1.getD i (0, 0)).1), .int .i64 ((c3_1.getD i (0, 0)).2)])]] 76 [.immp [.int .i64 d0_0, .fn 2 d0_1.length (fun i => [.int .i64 ((d0_1.getD i (0, 0)).1), .int .i64 ((d0_1.getD i (0, 0)).2)])], .intp .i64 d1] fuel]]]]), (6, .immp [.int .i64 c3_0, .fn 2 c3_1.length (fun i => [.int .i64 ((c3_1.getD i (0, 0)).1), .int .i64 ((c3_1.getD i (0, 0)).2)])]), (7, .immp [.func 74 [.intp .i64 c0, .abs pl0 0 0, .immp [.func 76 [.immp [.int .i64 d0_0, .fn 2 d0_1.length (fun i => [.int .i64 ((d0_1.getD i (0, 0)).1), .int .i64 ((d0_1.getD i (0, 0)).2)])], .intp .i64 d1, cyc2 74 [.intp .i64 c0, .abs pl0 0 0] [.immp [.int .i64 c3_0, .fn 2 c3_1.length (fun i => [.int .i64 ((c3_1.getD i (0, 0)).1), .int .i64 ((c3_1.getD i (0, 0)).2)])]] 76 [.immp [.int .i64 d0_0, .fn 2 d0_1.length (fun i => [.int .i64 ((d0_1.getD i (0, 0)).1), .int .i64 ((d0_1.getD i (0, 0)).2)])], .intp .i64 d1] fuel]], .immp [.int .i64 c3_0, .fn 2 c3_1.length (fun i => [.int .i64 ((c3_1.getD i (0, 0)).1), .int .i64 ((c3_1.getD i (0, 0)).2)])], cyc2 74 [.intp .i64 c0, .abs pl0 0 0] [.immp [.int .i64 c3_0, .fn 2 c3_1.length (fun i => [.int .i64 ((c3_1.getD i (0, 0)).1), .int .i64 ((c3_1.getD i (0, 0)).2)])]] 76 [.immp [.int .i64 d0_0, .fn 2 d0_1.length (fun i => [.int .i64 ((d0_1.getD i (0, 0)).1), .int .i64 ((d0_1.getD i (0, 0)).2)])], .intp .i64 d1] fuel]]), (12, .int .i64 (way.getD ((way.length : Int) - 1).toNat 0)), (26, .ints .i64 way)], [some (.gen 47 1 [[.own 1 q0.length]]), some (.gen 22 1 (List.map (fun e => [.ints .i64 e]) q0)), some (.pin 0 pl0)]⟩) : AA 6 #[false, false, false, false, false, false] ⟨72, [(0, .ints .i64 way), (1, .int .i64 a1), (2, .int .i64 a2), (4, .ptr 0 0 0), (5, .immp [.func 76 [.immp [.int .i64 d0_0, .fn 2 d0_1.length (fun i => [.int .i64 ((d0_1.getD i (0, 0)).1), .int .i64 ((d0_1.getD i (0, 0)).2)])], .intp .i64 d1, .immp [.func 74 [.intp .i64 c0, .abs pl0 0 0, .immp [.func 76 [.immp [.int .i64 d0_0, .fn 2 d0_1.length (fun i => [.int .i64 ((d0_1.getD i (0, 0)).1), .int .i64 ((d0_1.getD i (0, 0)).2)])], .intp .i64 d1, cyc2 74 [.intp .i64 c0, .abs pl0 0 0] [.immp [.int .i64 c3_0, .fn 2 c3_1.length (fun i => [.int .i64 ((c3_1.getD i (0, 0)).1), .int .i64 ((c3_1.getD i (0, 0)).2)])]] 76 [.immp [.int .i64 d0_0, .fn 2 d0_1.length (fun i => [.int .i64 ((d0_1.getD i (0, 0)).1), .int .i64 ((d0_1.getD i (0, 0)).2)])], .intp .i64 d1] fuel]], .immp [.int .i64 c3_0, .fn 2 c3_1.length (fun i => [.int .i64 ((c3_1.getD i (0, 0)).1), .int .i64 ((c3_1.getD i (0, 0)).2)])], cyc2 74 [.intp .i64 c0, .abs pl0 0 0] [.immp [.int .i64 c3_0, .fn 2 c3_1.length (fun i => [.int .i64 ((c3_1.getD i (0, 0)).1), .int .i64 ((c3_1.getD i (0, 0)).2)])]] 76 [.immp [.int .i64 d0_0, .fn 2 d0_1.length (fun i => [.int .i64 ((d0_1.getD i (0, 0)).1), .int .i64 ((d0_1.getD i (0, 0)).2)])], .intp .i64 d1] fuel]]]]), (6, .immp [.int .i64 c3_0, .fn 2 c3_1.length (fun i => [.int .i64 ((c3_1.getD i (0, 0)).1), .int .i64 ((c3_1.getD i (0, 0)).2)])]), (7, .immp [.func 74 [.intp .i64 c0, .abs pl0 0 0, .immp [.func 76 [.immp [.int .i64 d0_0, .fn 2 d0_1.length (fun i => [.int .i64 ((d0_1.getD i (0, 0)).1), .int .i64 ((d0_1.getD i (0, 0)).2)])], .intp .i64 d1, cyc2 74 [.intp .i64 c0, .abs pl0 0 0] [.immp [.int .i64 c3_0, .fn 2 c3_1.length (fun i => [.int .i64 ((c3_1.getD i (0, 0)).1), .int .i64 ((c3_1.getD i (0, 0)).2)])]] 76 [.immp [.int .i64 d0_0, .fn 2 d0_1.length (fun i => [.int .i64 ((d0_1.getD i (0, 0)).1), .int .i64 ((d0_1.getD i (0, 0)).2)])], .intp .i64 d1] fuel]], .immp [.int .i64 c3_0, .fn 2 c3_1.length (fun i => [.int .i64 ((c3_1.getD i (0, 0)).1), .int .i64 ((c3_1.getD i (0, 0)).2)])], cyc2 74 [.intp .i64 c0, .abs pl0 0 0] [.immp [.int .i64 c3_0, .fn 2 c3_1.length (fun i => [.int .i64 ((c3_1.getD i (0, 0)).1), .int .i64 ((c3_1.getD i (0, 0)).2)])]] 76 [.immp [.int .i64 d0_0, .fn 2 d0_1.length (fun i => [.int .i64 ((d0_1.getD i (0, 0)).1), .int .i64 ((d0_1.getD i (0, 0)).2)])], .intp .i64 d1] fuel]]), (12, .int .i64 (way.getD ((way.length : Int) - 1).toNat 0))], [some (.gen 47 1 [[.own 1 q0.length]]), some (.gen 22 1 (List.map (fun e => [.ints .i64 e]) q0)), some (.pin 0 pl0)]⟩ := (hAA _ _ _).2 (by
  have h3x := h3; simp only [List.length_append, List.length_cons, List.length_nil] at h3x
  refine AWPB_takeB tab_ok [0, 1, 2, 4, 5, 6, 7, 12, 25, 26, 27, 28, 29] 1 [2, 3, 4, 5] _ rfl ceg_links_Ways_1_3_1 fun c st' hr => ?_
  simp only [go_sem] at hr
  obtain ⟨rfl, rfl⟩ := hr
  refine ⟨vc, ?_⟩
  exact AWPB_wk [0, 1, 2] mkWk ((hAA _ _ _).1 hn6))

/-- The operations of a drawn region. -/
def reg_links_Ways_1_11 : List Oper := (⟨_, rfl⟩ : { l : List Oper // (Try.f74.body.bind (regIn 11)) = some l }).1

theorem ceg_links_Ways_1_11_17 : firstOk reg_links_Ways_1_11.toArray #[true, true, true, true, true, true, true, true, false, false, true, false] 8 [9, 11] = true := by kernel_rfl

theorem ceg_links_Ways_1_11_18 : firstOk reg_links_Ways_1_11.toArray #[true, true, true, true, true, true, true, true, true, false, true, false] 9 [11] = true := by kernel_rfl

theorem ceg_links_Ways_1_11_19 : (Region.ready .any reg_links_Ways_1_11.toArray #[true, true, true, true, true, true, true, true, true, true, true, true] == []) = true := by kernel_rfl

theorem ceg_links_Ways_1_11_20 : (Region.ready .any reg_links_Ways_1_11.toArray #[true, true, true, true, true, true, true, true, true, true, true, false] == [11]) = true := by kernel_rfl

theorem J_links_Ways_1_11_hn10 {way : List Int} {a1 : Int} {a2 : Int} {c0 : Int} {d0_0 : Int} {d0_1 : List (Int × Int)} {d1 : Int} {c3_0 : Int} {c3_1 : List (Int × Int)} {fuel : Nat} {pl0 : AX.Loc} {y2 : Bool × List (List Int)} {q02 : List (List Int)} {v : Int} (h7 : (way.length ≤ 17592186044416)) (h8 : ((way ++ [v]).length ≤ 8796093022208)) (h9 : (0 ≤ v ∧ v ≤ 62)) (hy : links_Ways_1 fuel (way ++ [v]) (ior a1 (2 ^ v.toNat : Int)) a2 c0 d0_0 d0_1 d1 c3_0 c3_1 q02 = some y2) {w0 : World} {Q : Exit → St → Prop} {AA : Nat → Array Bool → St → Prop} (hAA : ∀ g L st, AA g L st ↔ AWPB Try.prog w0 reg_links_Ways_1_11.toArray Q g L st) (hn9 : AA 1 #[true, true, true, true, true, true, true, true, true, true, true, false] ⟨72, [(0, .ints .i64 way), (1, .int .i64 a1), (2, .int .i64 a2), (6, .immp [.int .i64 c3_0, .fn 2 c3_1.length (fun i => [.int .i64 ((c3_1.getD i (0, 0)).1), .int .i64 ((c3_1.getD i (0, 0)).2)])]), (7, .immp [.func 74 [.intp .i64 c0, .abs pl0 0 0, .immp [.func 76 [.immp [.int .i64 d0_0, .fn 2 d0_1.length (fun i => [.int .i64 ((d0_1.getD i (0, 0)).1), .int .i64 ((d0_1.getD i (0, 0)).2)])], .intp .i64 d1, cyc2 74 [.intp .i64 c0, .abs pl0 0 0] [.immp [.int .i64 c3_0, .fn 2 c3_1.length (fun i => [.int .i64 ((c3_1.getD i (0, 0)).1), .int .i64 ((c3_1.getD i (0, 0)).2)])]] 76 [.immp [.int .i64 d0_0, .fn 2 d0_1.length (fun i => [.int .i64 ((d0_1.getD i (0, 0)).1), .int .i64 ((d0_1.getD i (0, 0)).2)])], .intp .i64 d1] fuel]], .immp [.int .i64 c3_0, .fn 2 c3_1.length (fun i => [.int .i64 ((c3_1.getD i (0, 0)).1), .int .i64 ((c3_1.getD i (0, 0)).2)])], cyc2 74 [.intp .i64 c0, .abs pl0 0 0] [.immp [.int .i64 c3_0, .fn 2 c3_1.length (fun i => [.int .i64 ((c3_1.getD i (0, 0)).1), .int .i64 ((c3_1.getD i (0, 0)).2)])]] 76 [.immp [.int .i64 d0_0, .fn 2 d0_1.length (fun i => [.int .i64 ((d0_1.getD i (0, 0)).1), .int .i64 ((d0_1.getD i (0, 0)).2)])], .intp .i64 d1] fuel]]), (12, .int .i64 (way.getD ((way.length : Int) - 1).toNat 0)), (41, .int .i64 c3_0), (42, .int .i64 v), (59, .func 74 [.intp .i64 c0, .abs pl0 0 0, .immp [.func 76 [.immp [.int .i64 d0_0, .fn 2 d0_1.length (fun i => [.int .i64 ((d0_1.getD i (0, 0)).1), .int .i64 ((d0_1.getD i (0, 0)).2)])], .intp .i64 d1, cyc2 74 [.intp .i64 c0, .abs pl0 0 0] [.immp [.int .i64 c3_0, .fn 2 c3_1.length (fun i => [.int .i64 ((c3_1.getD i (0, 0)).1), .int .i64 ((c3_1.getD i (0, 0)).2)])]] 76 [.immp [.int .i64 d0_0, .fn 2 d0_1.length (fun i => [.int .i64 ((d0_1.getD i (0, 0)).1), .int .i64 ((d0_1.getD i (0, 0)).2)])], .intp .i64 d1] fuel]], .immp [.int .i64 c3_0, .fn 2 c3_1.length (fun i => [.int .i64 ((c3_1.getD i (0, 0)).1), .int .i64 ((c3_1.getD i (0, 0)).2)])], cyc2 74 [.intp .i64 c0, .abs pl0 0 0] [.immp [.int .i64 c3_0, .fn 2 c3_1.length (fun i => [.int .i64 ((c3_1.getD i (0, 0)).1), .int .i64 ((c3_1.getD i (0, 0)).2)])]] 76 [.immp [.int .i64 d0_0, .fn 2 d0_1.length (fun i => [.int .i64 ((d0_1.getD i (0, 0)).1), .int .i64 ((d0_1.getD i (0, 0)).2)])], .intp .i64 d1] fuel]), (64, .own 5 ((way ++ [v]).length)), (68, .int .i64 (ior a1 (2 ^ v.toNat : Int))), (69, .int .i64 a2)], [some (.gen 47 1 [[.own 1 q02.length]]), some (.gen 22 1 (List.map (fun e => [.ints .i64 e]) q02)), some (.pin 0 pl0), none, some (.ints 3 .i64 [v]), some (.ints 3 .i64 (way ++ [v]))]⟩) : AA 3 #[true, true, true, true, true, true, true, true, false, false, true, false] ⟨72, [(0, .ints .i64 way), (1, .int .i64 a1), (2, .int .i64 a2), (6, .immp [.int .i64 c3_0, .fn 2 c3_1.length (fun i => [.int .i64 ((c3_1.getD i (0, 0)).1), .int .i64 ((c3_1.getD i (0, 0)).2)])]), (7, .immp [.func 74 [.intp .i64 c0, .abs pl0 0 0, .immp [.func 76 [.immp [.int .i64 d0_0, .fn 2 d0_1.length (fun i => [.int .i64 ((d0_1.getD i (0, 0)).1), .int .i64 ((d0_1.getD i (0, 0)).2)])], .intp .i64 d1, cyc2 74 [.intp .i64 c0, .abs pl0 0 0] [.immp [.int .i64 c3_0, .fn 2 c3_1.length (fun i => [.int .i64 ((c3_1.getD i (0, 0)).1), .int .i64 ((c3_1.getD i (0, 0)).2)])]] 76 [.immp [.int .i64 d0_0, .fn 2 d0_1.length (fun i => [.int .i64 ((d0_1.getD i (0, 0)).1), .int .i64 ((d0_1.getD i (0, 0)).2)])], .intp .i64 d1] fuel]], .immp [.int .i64 c3_0, .fn 2 c3_1.length (fun i => [.int .i64 ((c3_1.getD i (0, 0)).1), .int .i64 ((c3_1.getD i (0, 0)).2)])], cyc2 74 [.intp .i64 c0, .abs pl0 0 0] [.immp [.int .i64 c3_0, .fn 2 c3_1.length (fun i => [.int .i64 ((c3_1.getD i (0, 0)).1), .int .i64 ((c3_1.getD i (0, 0)).2)])]] 76 [.immp [.int .i64 d0_0, .fn 2 d0_1.length (fun i => [.int .i64 ((d0_1.getD i (0, 0)).1), .int .i64 ((d0_1.getD i (0, 0)).2)])], .intp .i64 d1] fuel]]), (12, .int .i64 (way.getD ((way.length : Int) - 1).toNat 0)), (41, .int .i64 c3_0), (42, .int .i64 v), (59, .func 74 [.intp .i64 c0, .abs pl0 0 0, .immp [.func 76 [.immp [.int .i64 d0_0, .fn 2 d0_1.length (fun i => [.int .i64 ((d0_1.getD i (0, 0)).1), .int .i64 ((d0_1.getD i (0, 0)).2)])], .intp .i64 d1, cyc2 74 [.intp .i64 c0, .abs pl0 0 0] [.immp [.int .i64 c3_0, .fn 2 c3_1.length (fun i => [.int .i64 ((c3_1.getD i (0, 0)).1), .int .i64 ((c3_1.getD i (0, 0)).2)])]] 76 [.immp [.int .i64 d0_0, .fn 2 d0_1.length (fun i => [.int .i64 ((d0_1.getD i (0, 0)).1), .int .i64 ((d0_1.getD i (0, 0)).2)])], .intp .i64 d1] fuel]], .immp [.int .i64 c3_0, .fn 2 c3_1.length (fun i => [.int .i64 ((c3_1.getD i (0, 0)).1), .int .i64 ((c3_1.getD i (0, 0)).2)])], cyc2 74 [.intp .i64 c0, .abs pl0 0 0] [.immp [.int .i64 c3_0, .fn 2 c3_1.length (fun i => [.int .i64 ((c3_1.getD i (0, 0)).1), .int .i64 ((c3_1.getD i (0, 0)).2)])]] 76 [.immp [.int .i64 d0_0, .fn 2 d0_1.length (fun i => [.int .i64 ((d0_1.getD i (0, 0)).1), .int .i64 ((d0_1.getD i (0, 0)).2)])], .intp .i64 d1] fuel]), (64, .own 5 ((way ++ [v]).length)), (65, .int .i64 a1), (66, .int .i64 v), (69, .int .i64 a2)], [some (.gen 47 1 [[.own 1 q02.length]]), some (.gen 22 1 (List.map (fun e => [.ints .i64 e]) q02)), some (.pin 0 pl0), none, some (.ints 3 .i64 [v]), some (.ints 3 .i64 (way ++ [v]))]⟩ := (hAA _ _ _).2 (by
  have h8x := h8; simp only [List.length_append, List.length_cons, List.length_nil] at h8x
  refine AWPB_takeB tab_ok [0, 1, 2, 6, 7, 12, 41, 42, 59, 64, 65, 67, 68, 69, 70] 8 [9, 11] _ rfl ceg_links_Ways_1_11_17 fun c st' hr => ?_
  simp only [go_sem] at hr
  obtain ⟨rfl, rfl⟩ := hr
  refine ⟨vc, ?_⟩
  refine AWPB_takeB tab_ok [0, 1, 2, 6, 7, 12, 41, 42, 59, 64, 68, 69, 70] 9 [11] _ rfl ceg_links_Ways_1_11_18 fun c st' hr => ?_
  simp only [go_sem] at hr
  obtain ⟨rfl, rfl⟩ := hr
  refine ⟨vc, ?_⟩
  exact AWPB_wk [0, 1, 2, 3, 4, 5] mkWk ((hAA _ _ _).1 hn9))

theorem J_links_Ways_1_11_hn11 {way : List Int} {a1 : Int} {a2 : Int} {c0 : Int} {d0_0 : Int} {d0_1 : List (Int × Int)} {d1 : Int} {c3_0 : Int} {c3_1 : List (Int × Int)} {fuel : Nat} {pl0 : AX.Loc} {y2 : Bool × List (List Int)} {q02 : List (List Int)} {v : Int} (h7 : (way.length ≤ 17592186044416)) (h8 : ((way ++ [v]).length ≤ 8796093022208)) (h9 : (0 ≤ v ∧ v ≤ 62)) (hy : links_Ways_1 fuel (way ++ [v]) (ior a1 (2 ^ v.toNat : Int)) a2 c0 d0_0 d0_1 d1 c3_0 c3_1 q02 = some y2) {w0 : World} {Q : Exit → St → Prop} {AA : Nat → Array Bool → St → Prop} (hAA : ∀ g L st, AA g L st ↔ AWPB Try.prog w0 reg_links_Ways_1_11.toArray Q g L st) (hn9 : AA 1 #[true, true, true, true, true, true, true, true, true, true, true, false] ⟨72, [(0, .ints .i64 way), (1, .int .i64 a1), (2, .int .i64 a2), (6, .immp [.int .i64 c3_0, .fn 2 c3_1.length (fun i => [.int .i64 ((c3_1.getD i (0, 0)).1), .int .i64 ((c3_1.getD i (0, 0)).2)])]), (7, .immp [.func 74 [.intp .i64 c0, .abs pl0 0 0, .immp [.func 76 [.immp [.int .i64 d0_0, .fn 2 d0_1.length (fun i => [.int .i64 ((d0_1.getD i (0, 0)).1), .int .i64 ((d0_1.getD i (0, 0)).2)])], .intp .i64 d1, cyc2 74 [.intp .i64 c0, .abs pl0 0 0] [.immp [.int .i64 c3_0, .fn 2 c3_1.length (fun i => [.int .i64 ((c3_1.getD i (0, 0)).1), .int .i64 ((c3_1.getD i (0, 0)).2)])]] 76 [.immp [.int .i64 d0_0, .fn 2 d0_1.length (fun i => [.int .i64 ((d0_1.getD i (0, 0)).1), .int .i64 ((d0_1.getD i (0, 0)).2)])], .intp .i64 d1] fuel]], .immp [.int .i64 c3_0, .fn 2 c3_1.length (fun i => [.int .i64 ((c3_1.getD i (0, 0)).1), .int .i64 ((c3_1.getD i (0, 0)).2)])], cyc2 74 [.intp .i64 c0, .abs pl0 0 0] [.immp [.int .i64 c3_0, .fn 2 c3_1.length (fun i => [.int .i64 ((c3_1.getD i (0, 0)).1), .int .i64 ((c3_1.getD i (0, 0)).2)])]] 76 [.immp [.int .i64 d0_0, .fn 2 d0_1.length (fun i => [.int .i64 ((d0_1.getD i (0, 0)).1), .int .i64 ((d0_1.getD i (0, 0)).2)])], .intp .i64 d1] fuel]]), (12, .int .i64 (way.getD ((way.length : Int) - 1).toNat 0)), (41, .int .i64 c3_0), (42, .int .i64 v), (59, .func 74 [.intp .i64 c0, .abs pl0 0 0, .immp [.func 76 [.immp [.int .i64 d0_0, .fn 2 d0_1.length (fun i => [.int .i64 ((d0_1.getD i (0, 0)).1), .int .i64 ((d0_1.getD i (0, 0)).2)])], .intp .i64 d1, cyc2 74 [.intp .i64 c0, .abs pl0 0 0] [.immp [.int .i64 c3_0, .fn 2 c3_1.length (fun i => [.int .i64 ((c3_1.getD i (0, 0)).1), .int .i64 ((c3_1.getD i (0, 0)).2)])]] 76 [.immp [.int .i64 d0_0, .fn 2 d0_1.length (fun i => [.int .i64 ((d0_1.getD i (0, 0)).1), .int .i64 ((d0_1.getD i (0, 0)).2)])], .intp .i64 d1] fuel]], .immp [.int .i64 c3_0, .fn 2 c3_1.length (fun i => [.int .i64 ((c3_1.getD i (0, 0)).1), .int .i64 ((c3_1.getD i (0, 0)).2)])], cyc2 74 [.intp .i64 c0, .abs pl0 0 0] [.immp [.int .i64 c3_0, .fn 2 c3_1.length (fun i => [.int .i64 ((c3_1.getD i (0, 0)).1), .int .i64 ((c3_1.getD i (0, 0)).2)])]] 76 [.immp [.int .i64 d0_0, .fn 2 d0_1.length (fun i => [.int .i64 ((d0_1.getD i (0, 0)).1), .int .i64 ((d0_1.getD i (0, 0)).2)])], .intp .i64 d1] fuel]), (64, .own 5 ((way ++ [v]).length)), (68, .int .i64 (ior a1 (2 ^ v.toNat : Int))), (69, .int .i64 a2)], [some (.gen 47 1 [[.own 1 q02.length]]), some (.gen 22 1 (List.map (fun e => [.ints .i64 e]) q02)), some (.pin 0 pl0), none, some (.ints 3 .i64 [v]), some (.ints 3 .i64 (way ++ [v]))]⟩) : AA 2 #[true, true, true, true, true, true, true, true, true, false, true, false] ⟨72, [(0, .ints .i64 way), (1, .int .i64 a1), (2, .int .i64 a2), (6, .immp [.int .i64 c3_0, .fn 2 c3_1.length (fun i => [.int .i64 ((c3_1.getD i (0, 0)).1), .int .i64 ((c3_1.getD i (0, 0)).2)])]), (7, .immp [.func 74 [.intp .i64 c0, .abs pl0 0 0, .immp [.func 76 [.immp [.int .i64 d0_0, .fn 2 d0_1.length (fun i => [.int .i64 ((d0_1.getD i (0, 0)).1), .int .i64 ((d0_1.getD i (0, 0)).2)])], .intp .i64 d1, cyc2 74 [.intp .i64 c0, .abs pl0 0 0] [.immp [.int .i64 c3_0, .fn 2 c3_1.length (fun i => [.int .i64 ((c3_1.getD i (0, 0)).1), .int .i64 ((c3_1.getD i (0, 0)).2)])]] 76 [.immp [.int .i64 d0_0, .fn 2 d0_1.length (fun i => [.int .i64 ((d0_1.getD i (0, 0)).1), .int .i64 ((d0_1.getD i (0, 0)).2)])], .intp .i64 d1] fuel]], .immp [.int .i64 c3_0, .fn 2 c3_1.length (fun i => [.int .i64 ((c3_1.getD i (0, 0)).1), .int .i64 ((c3_1.getD i (0, 0)).2)])], cyc2 74 [.intp .i64 c0, .abs pl0 0 0] [.immp [.int .i64 c3_0, .fn 2 c3_1.length (fun i => [.int .i64 ((c3_1.getD i (0, 0)).1), .int .i64 ((c3_1.getD i (0, 0)).2)])]] 76 [.immp [.int .i64 d0_0, .fn 2 d0_1.length (fun i => [.int .i64 ((d0_1.getD i (0, 0)).1), .int .i64 ((d0_1.getD i (0, 0)).2)])], .intp .i64 d1] fuel]]), (12, .int .i64 (way.getD ((way.length : Int) - 1).toNat 0)), (41, .int .i64 c3_0), (42, .int .i64 v), (59, .func 74 [.intp .i64 c0, .abs pl0 0 0, .immp [.func 76 [.immp [.int .i64 d0_0, .fn 2 d0_1.length (fun i => [.int .i64 ((d0_1.getD i (0, 0)).1), .int .i64 ((d0_1.getD i (0, 0)).2)])], .intp .i64 d1, cyc2 74 [.intp .i64 c0, .abs pl0 0 0] [.immp [.int .i64 c3_0, .fn 2 c3_1.length (fun i => [.int .i64 ((c3_1.getD i (0, 0)).1), .int .i64 ((c3_1.getD i (0, 0)).2)])]] 76 [.immp [.int .i64 d0_0, .fn 2 d0_1.length (fun i => [.int .i64 ((d0_1.getD i (0, 0)).1), .int .i64 ((d0_1.getD i (0, 0)).2)])], .intp .i64 d1] fuel]], .immp [.int .i64 c3_0, .fn 2 c3_1.length (fun i => [.int .i64 ((c3_1.getD i (0, 0)).1), .int .i64 ((c3_1.getD i (0, 0)).2)])], cyc2 74 [.intp .i64 c0, .abs pl0 0 0] [.immp [.int .i64 c3_0, .fn 2 c3_1.length (fun i => [.int .i64 ((c3_1.getD i (0, 0)).1), .int .i64 ((c3_1.getD i (0, 0)).2)])]] 76 [.immp [.int .i64 d0_0, .fn 2 d0_1.length (fun i => [.int .i64 ((d0_1.getD i (0, 0)).1), .int .i64 ((d0_1.getD i (0, 0)).2)])], .intp .i64 d1] fuel]), (64, .own 5 ((way ++ [v]).length)), (65, .int .i64 a1), (67, .int .i64 (2 ^ v.toNat : Int)), (69, .int .i64 a2)], [some (.gen 47 1 [[.own 1 q02.length]]), some (.gen 22 1 (List.map (fun e => [.ints .i64 e]) q02)), some (.pin 0 pl0), none, some (.ints 3 .i64 [v]), some (.ints 3 .i64 (way ++ [v]))]⟩ := (hAA _ _ _).2 (by
  have h8x := h8; simp only [List.length_append, List.length_cons, List.length_nil] at h8x
  refine AWPB_takeB tab_ok [0, 1, 2, 6, 7, 12, 41, 42, 59, 64, 68, 69, 70] 9 [11] _ rfl ceg_links_Ways_1_11_18 fun c st' hr => ?_
  simp only [go_sem] at hr
  obtain ⟨rfl, rfl⟩ := hr
  refine ⟨vc, ?_⟩
  exact AWPB_wk [0, 1, 2, 3, 4, 5] mkWk ((hAA _ _ _).1 hn9))

theorem ceg_links_Ways_1_11_23 : (Region.ready .any reg_links_Ways_1_11.toArray #[true, true, true, true, true, false, true, true, true, true, true, false] == [5]) = true := by kernel_rfl

theorem J_links_Ways_1_11_hn12 {way : List Int} {a1 : Int} {a2 : Int} {c0 : Int} {d0_0 : Int} {d0_1 : List (Int × Int)} {d1 : Int} {c3_0 : Int} {c3_1 : List (Int × Int)} {fuel : Nat} {pl0 : AX.Loc} {y2 : Bool × List (List Int)} {q02 : List (List Int)} {v : Int} (h7 : (way.length ≤ 17592186044416)) (h8 : ((way ++ [v]).length ≤ 8796093022208)) (h9 : (0 ≤ v ∧ v ≤ 62)) (hy : links_Ways_1 fuel (way ++ [v]) (ior a1 (2 ^ v.toNat : Int)) a2 c0 d0_0 d0_1 d1 c3_0 c3_1 q02 = some y2) {w0 : World} {Q : Exit → St → Prop} {AA : Nat → Array Bool → St → Prop} (hAA : ∀ g L st, AA g L st ↔ AWPB Try.prog w0 reg_links_Ways_1_11.toArray Q g L st) (hn9 : AA 1 #[true, true, true, true, true, true, true, true, true, true, true, false] ⟨72, [(0, .ints .i64 way), (1, .int .i64 a1), (2, .int .i64 a2), (6, .immp [.int .i64 c3_0, .fn 2 c3_1.length (fun i => [.int .i64 ((c3_1.getD i (0, 0)).1), .int .i64 ((c3_1.getD i (0, 0)).2)])]), (7, .immp [.func 74 [.intp .i64 c0, .abs pl0 0 0, .immp [.func 76 [.immp [.int .i64 d0_0, .fn 2 d0_1.length (fun i => [.int .i64 ((d0_1.getD i (0, 0)).1), .int .i64 ((d0_1.getD i (0, 0)).2)])], .intp .i64 d1, cyc2 74 [.intp .i64 c0, .abs pl0 0 0] [.immp [.int .i64 c3_0, .fn 2 c3_1.length (fun i => [.int .i64 ((c3_1.getD i (0, 0)).1), .int .i64 ((c3_1.getD i (0, 0)).2)])]] 76 [.immp [.int .i64 d0_0, .fn 2 d0_1.length (fun i => [.int .i64 ((d0_1.getD i (0, 0)).1), .int .i64 ((d0_1.getD i (0, 0)).2)])], .intp .i64 d1] fuel]], .immp [.int .i64 c3_0, .fn 2 c3_1.length (fun i => [.int .i64 ((c3_1.getD i (0, 0)).1), .int .i64 ((c3_1.getD i (0, 0)).2)])], cyc2 74 [.intp .i64 c0, .abs pl0 0 0] [.immp [.int .i64 c3_0, .fn 2 c3_1.length (fun i => [.int .i64 ((c3_1.getD i (0, 0)).1), .int .i64 ((c3_1.getD i (0, 0)).2)])]] 76 [.immp [.int .i64 d0_0, .fn 2 d0_1.length (fun i => [.int .i64 ((d0_1.getD i (0, 0)).1), .int .i64 ((d0_1.getD i (0, 0)).2)])], .intp .i64 d1] fuel]]), (12, .int .i64 (way.getD ((way.length : Int) - 1).toNat 0)), (41, .int .i64 c3_0), (42, .int .i64 v), (59, .func 74 [.intp .i64 c0, .abs pl0 0 0, .immp [.func 76 [.immp [.int .i64 d0_0, .fn 2 d0_1.length (fun i => [.int .i64 ((d0_1.getD i (0, 0)).1), .int .i64 ((d0_1.getD i (0, 0)).2)])], .intp .i64 d1, cyc2 74 [.intp .i64 c0, .abs pl0 0 0] [.immp [.int .i64 c3_0, .fn 2 c3_1.length (fun i => [.int .i64 ((c3_1.getD i (0, 0)).1), .int .i64 ((c3_1.getD i (0, 0)).2)])]] 76 [.immp [.int .i64 d0_0, .fn 2 d0_1.length (fun i => [.int .i64 ((d0_1.getD i (0, 0)).1), .int .i64 ((d0_1.getD i (0, 0)).2)])], .intp .i64 d1] fuel]], .immp [.int .i64 c3_0, .fn 2 c3_1.length (fun i => [.int .i64 ((c3_1.getD i (0, 0)).1), .int .i64 ((c3_1.getD i (0, 0)).2)])], cyc2 74 [.intp .i64 c0, .abs pl0 0 0] [.immp [.int .i64 c3_0, .fn 2 c3_1.length (fun i => [.int .i64 ((c3_1.getD i (0, 0)).1), .int .i64 ((c3_1.getD i (0, 0)).2)])]] 76 [.immp [.int .i64 d0_0, .fn 2 d0_1.length (fun i => [.int .i64 ((d0_1.getD i (0, 0)).1), .int .i64 ((d0_1.getD i (0, 0)).2)])], .intp .i64 d1] fuel]), (64, .own 5 ((way ++ [v]).length)), (68, .int .i64 (ior a1 (2 ^ v.toNat : Int))), (69, .int .i64 a2)], [some (.gen 47 1 [[.own 1 q02.length]]), some (.gen 22 1 (List.map (fun e => [.ints .i64 e]) q02)), some (.pin 0 pl0), none, some (.ints 3 .i64 [v]), some (.ints 3 .i64 (way ++ [v]))]⟩) : AA 2 #[true, true, true, true, true, false, true, true, true, true, true, false] ⟨72, [(0, .ints .i64 way), (1, .int .i64 a1), (2, .int .i64 a2), (6, .immp [.int .i64 c3_0, .fn 2 c3_1.length (fun i => [.int .i64 ((c3_1.getD i (0, 0)).1), .int .i64 ((c3_1.getD i (0, 0)).2)])]), (7, .immp [.func 74 [.intp .i64 c0, .abs pl0 0 0, .immp [.func 76 [.immp [.int .i64 d0_0, .fn 2 d0_1.length (fun i => [.int .i64 ((d0_1.getD i (0, 0)).1), .int .i64 ((d0_1.getD i (0, 0)).2)])], .intp .i64 d1, cyc2 74 [.intp .i64 c0, .abs pl0 0 0] [.immp [.int .i64 c3_0, .fn 2 c3_1.length (fun i => [.int .i64 ((c3_1.getD i (0, 0)).1), .int .i64 ((c3_1.getD i (0, 0)).2)])]] 76 [.immp [.int .i64 d0_0, .fn 2 d0_1.length (fun i => [.int .i64 ((d0_1.getD i (0, 0)).1), .int .i64 ((d0_1.getD i (0, 0)).2)])], .intp .i64 d1] fuel]], .immp [.int .i64 c3_0, .fn 2 c3_1.length (fun i => [.int .i64 ((c3_1.getD i (0, 0)).1), .int .i64 ((c3_1.getD i (0, 0)).2)])], cyc2 74 [.intp .i64 c0, .abs pl0 0 0] [.immp [.int .i64 c3_0, .fn 2 c3_1.length (fun i => [.int .i64 ((c3_1.getD i (0, 0)).1), .int .i64 ((c3_1.getD i (0, 0)).2)])]] 76 [.immp [.int .i64 d0_0, .fn 2 d0_1.length (fun i => [.int .i64 ((d0_1.getD i (0, 0)).1), .int .i64 ((d0_1.getD i (0, 0)).2)])], .intp .i64 d1] fuel]]), (12, .int .i64 (way.getD ((way.length : Int) - 1).toNat 0)), (41, .int .i64 c3_0), (42, .int .i64 v), (59, .func 74 [.intp .i64 c0, .abs pl0 0 0, .immp [.func 76 [.immp [.int .i64 d0_0, .fn 2 d0_1.length (fun i => [.int .i64 ((d0_1.getD i (0, 0)).1), .int .i64 ((d0_1.getD i (0, 0)).2)])], .intp .i64 d1, cyc2 74 [.intp .i64 c0, .abs pl0 0 0] [.immp [.int .i64 c3_0, .fn 2 c3_1.length (fun i => [.int .i64 ((c3_1.getD i (0, 0)).1), .int .i64 ((c3_1.getD i (0, 0)).2)])]] 76 [.immp [.int .i64 d0_0, .fn 2 d0_1.length (fun i => [.int .i64 ((d0_1.getD i (0, 0)).1), .int .i64 ((d0_1.getD i (0, 0)).2)])], .intp .i64 d1] fuel]], .immp [.int .i64 c3_0, .fn 2 c3_1.length (fun i => [.int .i64 ((c3_1.getD i (0, 0)).1), .int .i64 ((c3_1.getD i (0, 0)).2)])], cyc2 74 [.intp .i64 c0, .abs pl0 0 0] [.immp [.int .i64 c3_0, .fn 2 c3_1.length (fun i => [.int .i64 ((c3_1.getD i (0, 0)).1), .int .i64 ((c3_1.getD i (0, 0)).2)])]] 76 [.immp [.int .i64 d0_0, .fn 2 d0_1.length (fun i => [.int .i64 ((d0_1.getD i (0, 0)).1), .int .i64 ((d0_1.getD i (0, 0)).2)])], .intp .i64 d1] fuel]), (61, .own 3 way.length), (63, .own 4 1), (68, .int .i64 (ior a1 (2 ^ v.toNat : Int))), (69, .int .i64 a2)], [some (.gen 47 1 [[.own 1 q02.length]]), some (.gen 22 1 (List.map (fun e => [.ints .i64 e]) q02)), some (.pin 0 pl0), some (.ints 3 .i64 way), some (.ints 3 .i64 [v])]⟩ := (hAA _ _ _).2 (by
  have h8x := h8; simp only [List.length_append, List.length_cons, List.length_nil] at h8x
  refine AWPB_one 5 _ ceg_links_Ways_1_11_23 rfl ?_
  refine AWPL_rn tab_ok 1 [0, 1, 2, 6, 7, 12, 41, 42, 59, 64, 68, 69, 70] fun c st' hr => ?_
  simp only [go_sem] at hr
  obtain ⟨rfl, rfl⟩ := hr
  refine ⟨vc, ?_⟩
  refine AWPL_nil ?_
  refine QB_normal ?_
  exact AWPB_wk [0, 1, 2, 3, 4, 5] mkWk ((hAA _ _ _).1 hn9))

theorem ceg_links_Ways_1_11_25 : (Region.ready .any reg_links_Ways_1_11.toArray #[true, true, true, true, true, false, true, true, true, false, true, false] == [5, 9]) = true := by kernel_rfl

theorem J_links_Ways_1_11_hn13 {way : List Int} {a1 : Int} {a2 : Int} {c0 : Int} {d0_0 : Int} {d0_1 : List (Int × Int)} {d1 : Int} {c3_0 : Int} {c3_1 : List (Int × Int)} {fuel : Nat} {pl0 : AX.Loc} {y2 : Bool × List (List Int)} {q02 : List (List Int)} {v : Int} (h7 : (way.length ≤ 17592186044416)) (h8 : ((way ++ [v]).length ≤ 8796093022208)) (h9 : (0 ≤ v ∧ v ≤ 62)) (hy : links_Ways_1 fuel (way ++ [v]) (ior a1 (2 ^ v.toNat : Int)) a2 c0 d0_0 d0_1 d1 c3_0 c3_1 q02 = some y2) {w0 : World} {Q : Exit → St → Prop} {AA : Nat → Array Bool → St → Prop} (hAA : ∀ g L st, AA g L st ↔ AWPB Try.prog w0 reg_links_Ways_1_11.toArray Q g L st) (hn11 : AA 2 #[true, true, true, true, true, true, true, true, true, false, true, false] ⟨72, [(0, .ints .i64 way), (1, .int .i64 a1), (2, .int .i64 a2), (6, .immp [.int .i64 c3_0, .fn 2 c3_1.length (fun i => [.int .i64 ((c3_1.getD i (0, 0)).1), .int .i64 ((c3_1.getD i (0, 0)).2)])]), (7, .immp [.func 74 [.intp .i64 c0, .abs pl0 0 0, .immp [.func 76 [.immp [.int .i64 d0_0, .fn 2 d0_1.length (fun i => [.int .i64 ((d0_1.getD i (0, 0)).1), .int .i64 ((d0_1.getD i (0, 0)).2)])], .intp .i64 d1, cyc2 74 [.intp .i64 c0, .abs pl0 0 0] [.immp [.int .i64 c3_0, .fn 2 c3_1.length (fun i => [.int .i64 ((c3_1.getD i (0, 0)).1), .int .i64 ((c3_1.getD i (0, 0)).2)])]] 76 [.immp [.int .i64 d0_0, .fn 2 d0_1.length (fun i => [.int .i64 ((d0_1.getD i (0, 0)).1), .int .i64 ((d0_1.getD i (0, 0)).2)])], .intp .i64 d1] fuel]], .immp [.int .i64 c3_0, .fn 2 c3_1.length (fun i => [.int .i64 ((c3_1.getD i (0, 0)).1), .int .i64 ((c3_1.getD i (0, 0)).2)])], cyc2 74 [.intp .i64 c0, .abs pl0 0 0] [.immp [.int .i64 c3_0, .fn 2 c3_1.length (fun i => [.int .i64 ((c3_1.getD i (0, 0)).1), .int .i64 ((c3_1.getD i (0, 0)).2)])]] 76 [.immp [.int .i64 d0_0, .fn 2 d0_1.length (fun i => [.int .i64 ((d0_1.getD i (0, 0)).1), .int .i64 ((d0_1.getD i (0, 0)).2)])], .intp .i64 d1] fuel]]), (12, .int .i64 (way.getD ((way.length : Int) - 1).toNat 0)), (41, .int .i64 c3_0), (42, .int .i64 v), (59, .func 74 [.intp .i64 c0, .abs pl0 0 0, .immp [.func 76 [.immp [.int .i64 d0_0, .fn 2 d0_1.length (fun i => [.int .i64 ((d0_1.getD i (0, 0)).1), .int .i64 ((d0_1.getD i (0, 0)).2)])], .intp .i64 d1, cyc2 74 [.intp .i64 c0, .abs pl0 0 0] [.immp [.int .i64 c3_0, .fn 2 c3_1.length (fun i => [.int .i64 ((c3_1.getD i (0, 0)).1), .int .i64 ((c3_1.getD i (0, 0)).2)])]] 76 [.immp [.int .i64 d0_0, .fn 2 d0_1.length (fun i => [.int .i64 ((d0_1.getD i (0, 0)).1), .int .i64 ((d0_1.getD i (0, 0)).2)])], .intp .i64 d1] fuel]], .immp [.int .i64 c3_0, .fn 2 c3_1.length (fun i => [.int .i64 ((c3_1.getD i (0, 0)).1), .int .i64 ((c3_1.getD i (0, 0)).2)])], cyc2 74 [.intp .i64 c0, .abs pl0 0 0] [.immp [.int .i64 c3_0, .fn 2 c3_1.length (fun i => [.int .i64 ((c3_1.getD i (0, 0)).1), .int .i64 ((c3_1.getD i (0, 0)).2)])]] 76 [.immp [.int .i64 d0_0, .fn 2 d0_1.length (fun i => [.int .i64 ((d0_1.getD i (0, 0)).1), .int .i64 ((d0_1.getD i (0, 0)).2)])], .intp .i64 d1] fuel]), (64, .own 5 ((way ++ [v]).length)), (65, .int .i64 a1), (67, .int .i64 (2 ^ v.toNat : Int)), (69, .int .i64 a2)], [some (.gen 47 1 [[.own 1 q02.length]]), some (.gen 22 1 (List.map (fun e => [.ints .i64 e]) q02)), some (.pin 0 pl0), none, some (.ints 3 .i64 [v]), some (.ints 3 .i64 (way ++ [v]))]⟩) (hn12 : AA 2 #[true, true, true, true, true, false, true, true, true, true, true, false] ⟨72, [(0, .ints .i64 way), (1, .int .i64 a1), (2, .int .i64 a2), (6, .immp [.int .i64 c3_0, .fn 2 c3_1.length (fun i => [.int .i64 ((c3_1.getD i (0, 0)).1), .int .i64 ((c3_1.getD i (0, 0)).2)])]), (7, .immp [.func 74 [.intp .i64 c0, .abs pl0 0 0, .immp [.func 76 [.immp [.int .i64 d0_0, .fn 2 d0_1.length (fun i => [.int .i64 ((d0_1.getD i (0, 0)).1), .int .i64 ((d0_1.getD i (0, 0)).2)])], .intp .i64 d1, cyc2 74 [.intp .i64 c0, .abs pl0 0 0] [.immp [.int .i64 c3_0, .fn 2 c3_1.length (fun i => [.int .i64 ((c3_1.getD i (0, 0)).1), .int .i64 ((c3_1.getD i (0, 0)).2)])]] 76 [.immp [.int .i64 d0_0, .fn 2 d0_1.length (fun i => [.int .i64 ((d0_1.getD i (0, 0)).1), .int .i64 ((d0_1.getD i (0, 0)).2)])], .intp .i64 d1] fuel]], .immp [.int .i64 c3_0, .fn 2 c3_1.length (fun i => [.int .i64 ((c3_1.getD i (0, 0)).1), .int .i64 ((c3_1.getD i (0, 0)).2)])], cyc2 74 [.intp .i64 c0, .abs pl0 0 0] [.immp [.int .i64 c3_0, .fn 2 c3_1.length (fun i => [.int .i64 ((c3_1.getD i (0, 0)).1), .int .i64 ((c3_1.getD i (0, 0)).2)])]] 76 [.immp [.int .i64 d0_0, .fn 2 d0_1.length (fun i => [.int .i64 ((d0_1.getD i (0, 0)).1), .int .i64 ((d0_1.getD i (0, 0)).2)])], .intp .i64 d1] fuel]]), (12, .int .i64 (way.getD ((way.length : Int) - 1).toNat 0)), (41, .int .i64 c3_0), (42, .int .i64 v), (59, .func 74 [.intp .i64 c0, .abs pl0 0 0, .immp [.func 76 [.immp [.int .i64 d0_0, .fn 2 d0_1.length (fun i => [.int .i64 ((d0_1.getD i (0, 0)).1), .int .i64 ((d0_1.getD i (0, 0)).2)])], .intp .i64 d1, cyc2 74 [.intp .i64 c0, .abs pl0 0 0] [.immp [.int .i64 c3_0, .fn 2 c3_1.length (fun i => [.int .i64 ((c3_1.getD i (0, 0)).1), .int .i64 ((c3_1.getD i (0, 0)).2)])]] 76 [.immp [.int .i64 d0_0, .fn 2 d0_1.length (fun i => [.int .i64 ((d0_1.getD i (0, 0)).1), .int .i64 ((d0_1.getD i (0, 0)).2)])], .intp .i64 d1] fuel]], .immp [.int .i64 c3_0, .fn 2 c3_1.length (fun i => [.int .i64 ((c3_1.getD i (0, 0)).1), .int .i64 ((c3_1.getD i (0, 0)).2)])], cyc2 74 [.intp .i64 c0, .abs pl0 0 0] [.immp [.int .i64 c3_0, .fn 2 c3_1.length (fun i => [.int .i64 ((c3_1.getD i (0, 0)).1), .int .i64 ((c3_1.getD i (0, 0)).2)])]] 76 [.immp [.int .i64 d0_0, .fn 2 d0_1.length (fun i => [.int .i64 ((d0_1.getD i (0, 0)).1), .int .i64 ((d0_1.getD i (0, 0)).2)])], .intp .i64 d1] fuel]), (61, .own 3 way.length), (63, .own 4 1), (68, .int .i64 (ior a1 (2 ^ v.toNat : Int))), (69, .int .i64 a2)], [some (.gen 47 1 [[.own 1 q02.length]]), some (.gen 22 1 (List.map (fun e => [.ints .i64 e]) q02)), some (.pin 0 pl0), some (.ints 3 .i64 way), some (.ints 3 .i64 [v])]⟩) : AA 3 #[true, true, true, true, true, false, true, true, true, false, true, false] ⟨72, [(0, .ints .i64 way), (1, .int .i64 a1), (2, .int .i64 a2), (6, .immp [.int .i64 c3_0, .fn 2 c3_1.length (fun i => [.int .i64 ((c3_1.getD i (0, 0)).1), .int .i64 ((c3_1.getD i (0, 0)).2)])]), (7, .immp [.func 74 [.intp .i64 c0, .abs pl0 0 0, .immp [.func 76 [.immp [.int .i64 d0_0, .fn 2 d0_1.length (fun i => [.int .i64 ((d0_1.getD i (0, 0)).1), .int .i64 ((d0_1.getD i (0, 0)).2)])], .intp .i64 d1, cyc2 74 [.intp .i64 c0, .abs pl0 0 0] [.immp [.int .i64 c3_0, .fn 2 c3_1.length (fun i => [.int .i64 ((c3_1.getD i (0, 0)).1), .int .i64 ((c3_1.getD i (0, 0)).2)])]] 76 [.immp [.int .i64 d0_0, .fn 2 d0_1.length (fun i => [.int .i64 ((d0_1.getD i (0, 0)).1), .int .i64 ((d0_1.getD i (0, 0)).2)])], .intp .i64 d1] fuel]], .immp [.int .i64 c3_0, .fn 2 c3_1.length (fun i => [.int .i64 ((c3_1.getD i (0, 0)).1), .int .i64 ((c3_1.getD i (0, 0)).2)])], cyc2 74 [.intp .i64 c0, .abs pl0 0 0] [.immp [.int .i64 c3_0, .fn 2 c3_1.length (fun i => [.int .i64 ((c3_1.getD i (0, 0)).1), .int .i64 ((c3_1.getD i (0, 0)).2)])]] 76 [.immp [.int .i64 d0_0, .fn 2 d0_1.length (fun i => [.int .i64 ((d0_1.getD i (0, 0)).1), .int .i64 ((d0_1.getD i (0, 0)).2)])], .intp .i64 d1] fuel]]), (12, .int .i64 (way.getD ((way.length : Int) - 1).toNat 0)), (41, .int .i64 c3_0), (42, .int .i64 v), (59, .func 74 [.intp .i64 c0, .abs pl0 0 0, .immp [.func 76 [.immp [.int .i64 d0_0, .fn 2 d0_1.length (fun i => [.int .i64 ((d0_1.getD i (0, 0)).1), .int .i64 ((d0_1.getD i (0, 0)).2)])], .intp .i64 d1, cyc2 74 [.intp .i64 c0, .abs pl0 0 0] [.immp [.int .i64 c3_0, .fn 2 c3_1.length (fun i => [.int .i64 ((c3_1.getD i (0, 0)).1), .int .i64 ((c3_1.getD i (0, 0)).2)])]] 76 [.immp [.int .i64 d0_0, .fn 2 d0_1.length (fun i => [.int .i64 ((d0_1.getD i (0, 0)).1), .int .i64 ((d0_1.getD i (0, 0)).2)])], .intp .i64 d1] fuel]], .immp [.int .i64 c3_0, .fn 2 c3_1.length (fun i => [.int .i64 ((c3_1.getD i (0, 0)).1), .int .i64 ((c3_1.getD i (0, 0)).2)])], cyc2 74 [.intp .i64 c0, .abs pl0 0 0] [.immp [.int .i64 c3_0, .fn 2 c3_1.length (fun i => [.int .i64 ((c3_1.getD i (0, 0)).1), .int .i64 ((c3_1.getD i (0, 0)).2)])]] 76 [.immp [.int .i64 d0_0, .fn 2 d0_1.length (fun i => [.int .i64 ((d0_1.getD i (0, 0)).1), .int .i64 ((d0_1.getD i (0, 0)).2)])], .intp .i64 d1] fuel]), (61, .own 3 way.length), (63, .own 4 1), (65, .int .i64 a1), (67, .int .i64 (2 ^ v.toNat : Int)), (69, .int .i64 a2)], [some (.gen 47 1 [[.own 1 q02.length]]), some (.gen 22 1 (List.map (fun e => [.ints .i64 e]) q02)), some (.pin 0 pl0), some (.ints 3 .i64 way), some (.ints 3 .i64 [v])]⟩ := (hAA _ _ _).2 (by
  have h8x := h8; simp only [List.length_append, List.length_cons, List.length_nil] at h8x
  refine AWPB_two 5 9 _ _ ceg_links_Ways_1_11_25 rfl rfl ?_ ?_
  ·skip
   refine AWPL_rn tab_ok 1 [0, 1, 2, 6, 7, 12, 41, 42, 59, 64, 65, 67, 68, 69, 70] fun c st' hr => ?_
   simp only [go_sem] at hr
   obtain ⟨rfl, rfl⟩ := hr
   refine ⟨vc, ?_⟩
   refine AWPL_nil ?_
   refine QB_normal ?_
   exact AWPB_wk [0, 1, 2, 3, 4, 5] mkWk ((hAA _ _ _).1 hn11)
  ·skip
   refine AWPL_rn tab_ok 1 [0, 1, 2, 6, 7, 12, 41, 42, 59, 61, 63, 64, 68, 69, 70] fun c st' hr => ?_
   simp only [go_sem] at hr
   obtain ⟨rfl, rfl⟩ := hr
   refine ⟨vc, ?_⟩
   refine AWPL_nil ?_
   refine QB_normal ?_
   exact AWPB_wk [0, 1, 2, 3, 4] mkWk ((hAA _ _ _).1 hn12))

theorem ceg_links_Ways_1_11_27 : (Region.ready .any reg_links_Ways_1_11.toArray #[true, true, true, true, true, false, true, true, false, false, true, false] == [5, 8]) = true := by kernel_rfl

theorem J_links_Ways_1_11_hn14 {way : List Int} {a1 : Int} {a2 : Int} {c0 : Int} {d0_0 : Int} {d0_1 : List (Int × Int)} {d1 : Int} {c3_0 : Int} {c3_1 : List (Int × Int)} {fuel : Nat} {pl0 : AX.Loc} {y2 : Bool × List (List Int)} {q02 : List (List Int)} {v : Int} (h7 : (way.length ≤ 17592186044416)) (h8 : ((way ++ [v]).length ≤ 8796093022208)) (h9 : (0 ≤ v ∧ v ≤ 62)) (hy : links_Ways_1 fuel (way ++ [v]) (ior a1 (2 ^ v.toNat : Int)) a2 c0 d0_0 d0_1 d1 c3_0 c3_1 q02 = some y2) {w0 : World} {Q : Exit → St → Prop} {AA : Nat → Array Bool → St → Prop} (hAA : ∀ g L st, AA g L st ↔ AWPB Try.prog w0 reg_links_Ways_1_11.toArray Q g L st) (hn10 : AA 3 #[true, true, true, true, true, true, true, true, false, false, true, false] ⟨72, [(0, .ints .i64 way), (1, .int .i64 a1), (2, .int .i64 a2), (6, .immp [.int .i64 c3_0, .fn 2 c3_1.length (fun i => [.int .i64 ((c3_1.getD i (0, 0)).1), .int .i64 ((c3_1.getD i (0, 0)).2)])]), (7, .immp [.func 74 [.intp .i64 c0, .abs pl0 0 0, .immp [.func 76 [.immp [.int .i64 d0_0, .fn 2 d0_1.length (fun i => [.int .i64 ((d0_1.getD i (0, 0)).1), .int .i64 ((d0_1.getD i (0, 0)).2)])], .intp .i64 d1, cyc2 74 [.intp .i64 c0, .abs pl0 0 0] [.immp [.int .i64 c3_0, .fn 2 c3_1.length (fun i => [.int .i64 ((c3_1.getD i (0, 0)).1), .int .i64 ((c3_1.getD i (0, 0)).2)])]] 76 [.immp [.int .i64 d0_0, .fn 2 d0_1.length (fun i => [.int .i64 ((d0_1.getD i (0, 0)).1), .int .i64 ((d0_1.getD i (0, 0)).2)])], .intp .i64 d1] fuel]], .immp [.int .i64 c3_0, .fn 2 c3_1.length (fun i => [.int .i64 ((c3_1.getD i (0, 0)).1), .int .i64 ((c3_1.getD i (0, 0)).2)])], cyc2 74 [.intp .i64 c0, .abs pl0 0 0] [.immp [.int .i64 c3_0, .fn 2 c3_1.length (fun i => [.int .i64 ((c3_1.getD i (0, 0)).1), .int .i64 ((c3_1.getD i (0, 0)).2)])]] 76 [.immp [.int .i64 d0_0, .fn 2 d0_1.length (fun i => [.int .i64 ((d0_1.getD i (0, 0)).1), .int .i64 ((d0_1.getD i (0, 0)).2)])], .intp .i64 d1] fuel]]), (12, .int .i64 (way.getD ((way.length : Int) - 1).toNat 0)), (41, .int .i64 c3_0), (42, .int .i64 v), (59, .func 74 [.intp .i64 c0, .abs pl0 0 0, .immp [.func 76 [.immp [.int .i64 d0_0, .fn 2 d0_1.length (fun i => [.int .i64 ((d0_1.getD i (0, 0)).1), .int .i64 ((d0_1.getD i (0, 0)).2)])], .intp .i64 d1, cyc2 74 [.intp .i64 c0, .abs pl0 0 0] [.immp [.int .i64 c3_0, .fn 2 c3_1.length (fun i => [.int .i64 ((c3_1.getD i (0, 0)).1), .int .i64 ((c3_1.getD i (0, 0)).2)])]] 76 [.immp [.int .i64 d0_0, .fn 2 d0_1.length (fun i => [.int .i64 ((d0_1.getD i (0, 0)).1), .int .i64 ((d0_1.getD i (0, 0)).2)])], .intp .i64 d1] fuel]], .immp [.int .i64 c3_0, .fn 2 c3_1.length (fun i => [.int .i64 ((c3_1.getD i (0, 0)).1), .int .i64 ((c3_1.getD i (0, 0)).2)])], cyc2 74 [.intp .i64 c0, .abs pl0 0 0] [.immp [.int .i64 c3_0, .fn 2 c3_1.length (fun i => [.int .i64 ((c3_1.getD i (0, 0)).1), .int .i64 ((c3_1.getD i (0, 0)).2)])]] 76 [.immp [.int .i64 d0_0, .fn 2 d0_1.length (fun i => [.int .i64 ((d0_1.getD i (0, 0)).1), .int .i64 ((d0_1.getD i (0, 0)).2)])], .intp .i64 d1] fuel]), (64, .own 5 ((way ++ [v]).length)), (65, .int .i64 a1), (66, .int .i64 v), (69, .int .i64 a2)], [some (.gen 47 1 [[.own 1 q02.length]]), some (.gen 22 1 (List.map (fun e => [.ints .i64 e]) q02)), some (.pin 0 pl0), none, some (.ints 3 .i64 [v]), some (.ints 3 .i64 (way ++ [v]))]⟩) (hn13 : AA 3 #[true, true, true, true, true, false, true, true, true, false, true, false] ⟨72, [(0, .ints .i64 way), (1, .int .i64 a1), (2, .int .i64 a2), (6, .immp [.int .i64 c3_0, .fn 2 c3_1.length (fun i => [.int .i64 ((c3_1.getD i (0, 0)).1), .int .i64 ((c3_1.getD i (0, 0)).2)])]), (7, .immp [.func 74 [.intp .i64 c0, .abs pl0 0 0, .immp [.func 76 [.immp [.int .i64 d0_0, .fn 2 d0_1.length (fun i => [.int .i64 ((d0_1.getD i (0, 0)).1), .int .i64 ((d0_1.getD i (0, 0)).2)])], .intp .i64 d1, cyc2 74 [.intp .i64 c0, .abs pl0 0 0] [.immp [.int .i64 c3_0, .fn 2 c3_1.length (fun i => [.int .i64 ((c3_1.getD i (0, 0)).1), .int .i64 ((c3_1.getD i (0, 0)).2)])]] 76 [.immp [.int .i64 d0_0, .fn 2 d0_1.length (fun i => [.int .i64 ((d0_1.getD i (0, 0)).1), .int .i64 ((d0_1.getD i (0, 0)).2)])], .intp .i64 d1] fuel]], .immp [.int .i64 c3_0, .fn 2 c3_1.length (fun i => [.int .i64 ((c3_1.getD i (0, 0)).1), .int .i64 ((c3_1.getD i (0, 0)).2)])], cyc2 74 [.intp .i64 c0, .abs pl0 0 0] [.immp [.int .i64 c3_0, .fn 2 c3_1.length (fun i => [.int .i64 ((c3_1.getD i (0, 0)).1), .int .i64 ((c3_1.getD i (0, 0)).2)])]] 76 [.immp [.int .i64 d0_0, .fn 2 d0_1.length (fun i => [.int .i64 ((d0_1.getD i (0, 0)).1), .int .i64 ((d0_1.getD i (0, 0)).2)])], .intp .i64 d1] fuel]]), (12, .int .i64 (way.getD ((way.length : Int) - 1).toNat 0)), (41, .int .i64 c3_0), (42, .int .i64 v), (59, .func 74 [.intp .i64 c0, .abs pl0 0 0, .immp [.func 76 [.immp [.int .i64 d0_0, .fn 2 d0_1.length (fun i => [.int .i64 ((d0_1.getD i (0, 0)).1), .int .i64 ((d0_1.getD i (0, 0)).2)])], .intp .i64 d1, cyc2 74 [.intp .i64 c0, .abs pl0 0 0] [.immp [.int .i64 c3_0, .fn 2 c3_1.length (fun i => [.int .i64 ((c3_1.getD i (0, 0)).1), .int .i64 ((c3_1.getD i (0, 0)).2)])]] 76 [.immp [.int .i64 d0_0, .fn 2 d0_1.length (fun i => [.int .i64 ((d0_1.getD i (0, 0)).1), .int .i64 ((d0_1.getD i (0, 0)).2)])], .intp .i64 d1] fuel]], .immp [.int .i64 c3_0, .fn 2 c3_1.length (fun i => [.int .i64 ((c3_1.getD i (0, 0)).1), .int .i64 ((c3_1.getD i (0, 0)).2)])], cyc2 74 [.intp .i64 c0, .abs pl0 0 0] [.immp [.int .i64 c3_0, .fn 2 c3_1.length (fun i => [.int .i64 ((c3_1.getD i (0, 0)).1), .int .i64 ((c3_1.getD i (0, 0)).2)])]] 76 [.immp [.int .i64 d0_0, .fn 2 d0_1.length (fun i => [.int .i64 ((d0_1.getD i (0, 0)).1), .int .i64 ((d0_1.getD i (0, 0)).2)])], .intp .i64 d1] fuel]), (61, .own 3 way.length), (63, .own 4 1), (65, .int .i64 a1), (67, .int .i64 (2 ^ v.toNat : Int)), (69, .int .i64 a2)], [some (.gen 47 1 [[.own 1 q02.length]]), some (.gen 22 1 (List.map (fun e => [.ints .i64 e]) q02)), some (.pin 0 pl0), some (.ints 3 .i64 way), some (.ints 3 .i64 [v])]⟩) : AA 4 #[true, true, true, true, true, false, true, true, false, false, true, false] ⟨72, [(0, .ints .i64 way), (1, .int .i64 a1), (2, .int .i64 a2), (6, .immp [.int .i64 c3_0, .fn 2 c3_1.length (fun i => [.int .i64 ((c3_1.getD i (0, 0)).1), .int .i64 ((c3_1.getD i (0, 0)).2)])]), (7, .immp [.func 74 [.intp .i64 c0, .abs pl0 0 0, .immp [.func 76 [.immp [.int .i64 d0_0, .fn 2 d0_1.length (fun i => [.int .i64 ((d0_1.getD i (0, 0)).1), .int .i64 ((d0_1.getD i (0, 0)).2)])], .intp .i64 d1, cyc2 74 [.intp .i64 c0, .abs pl0 0 0] [.immp [.int .i64 c3_0, .fn 2 c3_1.length (fun i => [.int .i64 ((c3_1.getD i (0, 0)).1), .int .i64 ((c3_1.getD i (0, 0)).2)])]] 76 [.immp [.int .i64 d0_0, .fn 2 d0_1.length (fun i => [.int .i64 ((d0_1.getD i (0, 0)).1), .int .i64 ((d0_1.getD i (0, 0)).2)])], .intp .i64 d1] fuel]], .immp [.int .i64 c3_0, .fn 2 c3_1.length (fun i => [.int .i64 ((c3_1.getD i (0, 0)).1), .int .i64 ((c3_1.getD i (0, 0)).2)])], cyc2 74 [.intp .i64 c0, .abs pl0 0 0] [.immp [.int .i64 c3_0, .fn 2 c3_1.length (fun i => [.int .i64 ((c3_1.getD i (0, 0)).1), .int .i64 ((c3_1.getD i (0, 0)).2)])]] 76 [.immp [.int .i64 d0_0, .fn 2 d0_1.length (fun i => [.int .i64 ((d0_1.getD i (0, 0)).1), .int .i64 ((d0_1.getD i (0, 0)).2)])], .intp .i64 d1] fuel]]), (12, .int .i64 (way.getD ((way.length : Int) - 1).toNat 0)), (41, .int .i64 c3_0), (42, .int .i64 v), (59, .func 74 [.intp .i64 c0, .abs pl0 0 0, .immp [.func 76 [.immp [.int .i64 d0_0, .fn 2 d0_1.length (fun i => [.int .i64 ((d0_1.getD i (0, 0)).1), .int .i64 ((d0_1.getD i (0, 0)).2)])], .intp .i64 d1, cyc2 74 [.intp .i64 c0, .abs pl0 0 0] [.immp [.int .i64 c3_0, .fn 2 c3_1.length (fun i => [.int .i64 ((c3_1.getD i (0, 0)).1), .int .i64 ((c3_1.getD i (0, 0)).2)])]] 76 [.immp [.int .i64 d0_0, .fn 2 d0_1.length (fun i => [.int .i64 ((d0_1.getD i (0, 0)).1), .int .i64 ((d0_1.getD i (0, 0)).2)])], .intp .i64 d1] fuel]], .immp [.int .i64 c3_0, .fn 2 c3_1.length (fun i => [.int .i64 ((c3_1.getD i (0, 0)).1), .int .i64 ((c3_1.getD i (0, 0)).2)])], cyc2 74 [.intp .i64 c0, .abs pl0 0 0] [.immp [.int .i64 c3_0, .fn 2 c3_1.length (fun i => [.int .i64 ((c3_1.getD i (0, 0)).1), .int .i64 ((c3_1.getD i (0, 0)).2)])]] 76 [.immp [.int .i64 d0_0, .fn 2 d0_1.length (fun i => [.int .i64 ((d0_1.getD i (0, 0)).1), .int .i64 ((d0_1.getD i (0, 0)).2)])], .intp .i64 d1] fuel]), (61, .own 3 way.length), (63, .own 4 1), (65, .int .i64 a1), (66, .int .i64 v), (69, .int .i64 a2)], [some (.gen 47 1 [[.own 1 q02.length]]), some (.gen 22 1 (List.map (fun e => [.ints .i64 e]) q02)), some (.pin 0 pl0), some (.ints 3 .i64 way), some (.ints 3 .i64 [v])]⟩ := (hAA _ _ _).2 (by
  have h8x := h8; simp only [List.length_append, List.length_cons, List.length_nil] at h8x
  refine AWPB_two 5 8 _ _ ceg_links_Ways_1_11_27 rfl rfl ?_ ?_
  ·skip
   refine AWPL_rn tab_ok 1 [0, 1, 2, 6, 7, 12, 41, 42, 59, 64, 65, 66, 67, 68, 69, 70] fun c st' hr => ?_
   simp only [go_sem] at hr
   obtain ⟨rfl, rfl⟩ := hr
   refine ⟨vc, ?_⟩
   refine AWPL_nil ?_
   refine QB_normal ?_
   exact AWPB_wk [0, 1, 2, 3, 4, 5] mkWk ((hAA _ _ _).1 hn10)
  ·skip
   refine AWPL_rn tab_ok 1 [0, 1, 2, 6, 7, 12, 41, 42, 59, 61, 63, 64, 65, 67, 68, 69, 70] fun c st' hr => ?_
   simp only [go_sem] at hr
   obtain ⟨rfl, rfl⟩ := hr
   refine ⟨vc, ?_⟩
   refine AWPL_nil ?_
   refine QB_normal ?_
   exact AWPB_wk [0, 1, 2, 3, 4] mkWk ((hAA _ _ _).1 hn13))

theorem ceg_links_Ways_1_11_29 : (Region.ready .any reg_links_Ways_1_11.toArray #[true, true, true, true, false, false, true, true, true, true, true, false] == [4]) = true := by kernel_rfl

theorem J_links_Ways_1_11_hn15 {way : List Int} {a1 : Int} {a2 : Int} {c0 : Int} {d0_0 : Int} {d0_1 : List (Int × Int)} {d1 : Int} {c3_0 : Int} {c3_1 : List (Int × Int)} {fuel : Nat} {pl0 : AX.Loc} {y2 : Bool × List (List Int)} {q02 : List (List Int)} {v : Int} (h7 : (way.length ≤ 17592186044416)) (h8 : ((way ++ [v]).length ≤ 8796093022208)) (h9 : (0 ≤ v ∧ v ≤ 62)) (hy : links_Ways_1 fuel (way ++ [v]) (ior a1 (2 ^ v.toNat : Int)) a2 c0 d0_0 d0_1 d1 c3_0 c3_1 q02 = some y2) {w0 : World} {Q : Exit → St → Prop} {AA : Nat → Array Bool → St → Prop} (hAA : ∀ g L st, AA g L st ↔ AWPB Try.prog w0 reg_links_Ways_1_11.toArray Q g L st) (hn12 : AA 2 #[true, true, true, true, true, false, true, true, true, true, true, false] ⟨72, [(0, .ints .i64 way), (1, .int .i64 a1), (2, .int .i64 a2), (6, .immp [.int .i64 c3_0, .fn 2 c3_1.length (fun i => [.int .i64 ((c3_1.getD i (0, 0)).1), .int .i64 ((c3_1.getD i (0, 0)).2)])]), (7, .immp [.func 74 [.intp .i64 c0, .abs pl0 0 0, .immp [.func 76 [.immp [.int .i64 d0_0, .fn 2 d0_1.length (fun i => [.int .i64 ((d0_1.getD i (0, 0)).1), .int .i64 ((d0_1.getD i (0, 0)).2)])], .intp .i64 d1, cyc2 74 [.intp .i64 c0, .abs pl0 0 0] [.immp [.int .i64 c3_0, .fn 2 c3_1.length (fun i => [.int .i64 ((c3_1.getD i (0, 0)).1), .int .i64 ((c3_1.getD i (0, 0)).2)])]] 76 [.immp [.int .i64 d0_0, .fn 2 d0_1.length (fun i => [.int .i64 ((d0_1.getD i (0, 0)).1), .int .i64 ((d0_1.getD i (0, 0)).2)])], .intp .i64 d1] fuel]], .immp [.int .i64 c3_0, .fn 2 c3_1.length (fun i => [.int .i64 ((c3_1.getD i (0, 0)).1), .int .i64 ((c3_1.getD i (0, 0)).2)])], cyc2 74 [.intp .i64 c0, .abs pl0 0 0] [.immp [.int .i64 c3_0, .fn 2 c3_1.length (fun i => [.int .i64 ((c3_1.getD i (0, 0)).1), .int .i64 ((c3_1.getD i (0, 0)).2)])]] 76 [.immp [.int .i64 d0_0, .fn 2 d0_1.length (fun i => [.int .i64 ((d0_1.getD i (0, 0)).1), .int .i64 ((d0_1.getD i (0, 0)).2)])], .intp .i64 d1] fuel]]), (12, .int .i64 (way.getD ((way.length : Int) - 1).toNat 0)), (41, .int .i64 c3_0), (42, .int .i64 v), (59, .func 74 [.intp .i64 c0, .abs pl0 0 0, .immp [.func 76 [.immp [.int .i64 d0_0, .fn 2 d0_1.length (fun i => [.int .i64 ((d0_1.getD i (0, 0)).1), .int .i64 ((d0_1.getD i (0, 0)).2)])], .intp .i64 d1, cyc2 74 [.intp .i64 c0, .abs pl0 0 0] [.immp [.int .i64 c3_0, .fn 2 c3_1.length (fun i => [.int .i64 ((c3_1.getD i (0, 0)).1), .int .i64 ((c3_1.getD i (0, 0)).2)])]] 76 [.immp [.int .i64 d0_0, .fn 2 d0_1.length (fun i => [.int .i64 ((d0_1.getD i (0, 0)).1), .int .i64 ((d0_1.getD i (0, 0)).2)])], .intp .i64 d1] fuel]], .immp [.int .i64 c3_0, .fn 2 c3_1.length (fun i => [.int .i64 ((c3_1.getD i (0, 0)).1), .int .i64 ((c3_1.getD i (0, 0)).2)])], cyc2 74 [.intp .i64 c0, .abs pl0 0 0] [.immp [.int .i64 c3_0, .fn 2 c3_1.length (fun i => [.int .i64 ((c3_1.getD i (0, 0)).1), .int .i64 ((c3_1.getD i (0, 0)).2)])]] 76 [.immp [.int .i64 d0_0, .fn 2 d0_1.length (fun i => [.int .i64 ((d0_1.getD i (0, 0)).1), .int .i64 ((d0_1.getD i (0, 0)).2)])], .intp .i64 d1] fuel]), (61, .own 3 way.length), (63, .own 4 1), (68, .int .i64 (ior a1 (2 ^ v.toNat : Int))), (69, .int .i64 a2)], [some (.gen 47 1 [[.own 1 q02.length]]), some (.gen 22 1 (List.map (fun e => [.ints .i64 e]) q02)), some (.pin 0 pl0), some (.ints 3 .i64 way), some (.ints 3 .i64 [v])]⟩) : AA 3 #[true, true, true, true, false, false, true, true, true, true, true, false] ⟨72, [(0, .ints .i64 way), (1, .int .i64 a1), (2, .int .i64 a2), (6, .immp [.int .i64 c3_0, .fn 2 c3_1.length (fun i => [.int .i64 ((c3_1.getD i (0, 0)).1), .int .i64 ((c3_1.getD i (0, 0)).2)])]), (7, .immp [.func 74 [.intp .i64 c0, .abs pl0 0 0, .immp [.func 76 [.immp [.int .i64 d0_0, .fn 2 d0_1.length (fun i => [.int .i64 ((d0_1.getD i (0, 0)).1), .int .i64 ((d0_1.getD i (0, 0)).2)])], .intp .i64 d1, cyc2 74 [.intp .i64 c0, .abs pl0 0 0] [.immp [.int .i64 c3_0, .fn 2 c3_1.length (fun i => [.int .i64 ((c3_1.getD i (0, 0)).1), .int .i64 ((c3_1.getD i (0, 0)).2)])]] 76 [.immp [.int .i64 d0_0, .fn 2 d0_1.length (fun i => [.int .i64 ((d0_1.getD i (0, 0)).1), .int .i64 ((d0_1.getD i (0, 0)).2)])], .intp .i64 d1] fuel]], .immp [.int .i64 c3_0, .fn 2 c3_1.length (fun i => [.int .i64 ((c3_1.getD i (0, 0)).1), .int .i64 ((c3_1.getD i (0, 0)).2)])], cyc2 74 [.intp .i64 c0, .abs pl0 0 0] [.immp [.int .i64 c3_0, .fn 2 c3_1.length (fun i => [.int .i64 ((c3_1.getD i (0, 0)).1), .int .i64 ((c3_1.getD i (0, 0)).2)])]] 76 [.immp [.int .i64 d0_0, .fn 2 d0_1.length (fun i => [.int .i64 ((d0_1.getD i (0, 0)).1), .int .i64 ((d0_1.getD i (0, 0)).2)])], .intp .i64 d1] fuel]]), (12, .int .i64 (way.getD ((way.length : Int) - 1).toNat 0)), (41, .int .i64 c3_0), (42, .int .i64 v), (59, .func 74 [.intp .i64 c0, .abs pl0 0 0, .immp [.func 76 [.immp [.int .i64 d0_0, .fn 2 d0_1.length (fun i => [.int .i64 ((d0_1.getD i (0, 0)).1), .int .i64 ((d0_1.getD i (0, 0)).2)])], .intp .i64 d1, cyc2 74 [.intp .i64 c0, .abs pl0 0 0] [.immp [.int .i64 c3_0, .fn 2 c3_1.length (fun i => [.int .i64 ((c3_1.getD i (0, 0)).1), .int .i64 ((c3_1.getD i (0, 0)).2)])]] 76 [.immp [.int .i64 d0_0, .fn 2 d0_1.length (fun i => [.int .i64 ((d0_1.getD i (0, 0)).1), .int .i64 ((d0_1.getD i (0, 0)).2)])], .intp .i64 d1] fuel]], .immp [.int .i64 c3_0, .fn 2 c3_1.length (fun i => [.int .i64 ((c3_1.getD i (0, 0)).1), .int .i64 ((c3_1.getD i (0, 0)).2)])], cyc2 74 [.intp .i64 c0, .abs pl0 0 0] [.immp [.int .i64 c3_0, .fn 2 c3_1.length (fun i => [.int .i64 ((c3_1.getD i (0, 0)).1), .int .i64 ((c3_1.getD i (0, 0)).2)])]] 76 [.immp [.int .i64 d0_0, .fn 2 d0_1.length (fun i => [.int .i64 ((d0_1.getD i (0, 0)).1), .int .i64 ((d0_1.getD i (0, 0)).2)])], .intp .i64 d1] fuel]), (61, .own 3 way.length), (62, .int .i64 v), (68, .int .i64 (ior a1 (2 ^ v.toNat : Int))), (69, .int .i64 a2)], [some (.gen 47 1 [[.own 1 q02.length]]), some (.gen 22 1 (List.map (fun e => [.ints .i64 e]) q02)), some (.pin 0 pl0), some (.ints 3 .i64 way)]⟩ := (hAA _ _ _).2 (by
  have h8x := h8; simp only [List.length_append, List.length_cons, List.length_nil] at h8x
  refine AWPB_one 4 _ ceg_links_Ways_1_11_29 rfl ?_
  refine AWPL_rn tab_ok 1 [0, 1, 2, 6, 7, 12, 41, 42, 59, 61, 63, 64, 68, 69, 70] fun c st' hr => ?_
  simp only [go_sem] at hr
  obtain ⟨rfl, rfl⟩ := hr
  refine ⟨vc, ?_⟩
  refine AWPL_nil ?_
  refine QB_normal ?_
  exact AWPB_wk [0, 1, 2, 3, 4] mkWk ((hAA _ _ _).1 hn12))

theorem ceg_links_Ways_1_11_31 : (Region.ready .any reg_links_Ways_1_11.toArray #[true, true, true, true, false, false, true, true, true, false, true, false] == [4, 9]) = true := by kernel_rfl

theorem J_links_Ways_1_11_hn16 {way : List Int} {a1 : Int} {a2 : Int} {c0 : Int} {d0_0 : Int} {d0_1 : List (Int × Int)} {d1 : Int} {c3_0 : Int} {c3_1 : List (Int × Int)} {fuel : Nat} {pl0 : AX.Loc} {y2 : Bool × List (List Int)} {q02 : List (List Int)} {v : Int} (h7 : (way.length ≤ 17592186044416)) (h8 : ((way ++ [v]).length ≤ 8796093022208)) (h9 : (0 ≤ v ∧ v ≤ 62)) (hy : links_Ways_1 fuel (way ++ [v]) (ior a1 (2 ^ v.toNat : Int)) a2 c0 d0_0 d0_1 d1 c3_0 c3_1 q02 = some y2) {w0 : World} {Q : Exit → St → Prop} {AA : Nat → Array Bool → St → Prop} (hAA : ∀ g L st, AA g L st ↔ AWPB Try.prog w0 reg_links_Ways_1_11.toArray Q g L st) (hn13 : AA 3 #[true, true, true, true, true, false, true, true, true, false, true, false] ⟨72, [(0, .ints .i64 way), (1, .int .i64 a1), (2, .int .i64 a2), (6, .immp [.int .i64 c3_0, .fn 2 c3_1.length (fun i => [.int .i64 ((c3_1.getD i (0, 0)).1), .int .i64 ((c3_1.getD i (0, 0)).2)])]), (7, .immp [.func 74 [.intp .i64 c0, .abs pl0 0 0, .immp [.func 76 [.immp [.int .i64 d0_0, .fn 2 d0_1.length (fun i => [.int .i64 ((d0_1.getD i (0, 0)).1), .int .i64 ((d0_1.getD i (0, 0)).2)])], .intp .i64 d1, cyc2 74 [.intp .i64 c0, .abs pl0 0 0] [.immp [.int .i64 c3_0, .fn 2 c3_1.length (fun i => [.int .i64 ((c3_1.getD i (0, 0)).1), .int .i64 ((c3_1.getD i (0, 0)).2)])]] 76 [.immp [.int .i64 d0_0, .fn 2 d0_1.length (fun i => [.int .i64 ((d0_1.getD i (0, 0)).1), .int .i64 ((d0_1.getD i (0, 0)).2)])], .intp .i64 d1] fuel]], .immp [.int .i64 c3_0, .fn 2 c3_1.length (fun i => [.int .i64 ((c3_1.getD i (0, 0)).1), .int .i64 ((c3_1.getD i (0, 0)).2)])], cyc2 74 [.intp .i64 c0, .abs pl0 0 0] [.immp [.int .i64 c3_0, .fn 2 c3_1.length (fun i => [.int .i64 ((c3_1.getD i (0, 0)).1), .int .i64 ((c3_1.getD i (0, 0)).2)])]] 76 [.immp [.int .i64 d0_0, .fn 2 d0_1.length (fun i => [.int .i64 ((d0_1.getD i (0, 0)).1), .int .i64 ((d0_1.getD i (0, 0)).2)])], .intp .i64 d1] fuel]]), (12, .int .i64 (way.getD ((way.length : Int) - 1).toNat 0)), (41, .int .i64 c3_0), (42, .int .i64 v), (59, .func 74 [.intp .i64 c0, .abs pl0 0 0, .immp [.func 76 [.immp [.int .i64 d0_0, .fn 2 d0_1.length (fun i => [.int .i64 ((d0_1.getD i (0, 0)).1), .int .i64 ((d0_1.getD i (0, 0)).2)])], .intp .i64 d1, cyc2 74 [.intp .i64 c0, .abs pl0 0 0] [.immp [.int .i64 c3_0, .fn 2 c3_1.length (fun i => [.int .i64 ((c3_1.getD i (0, 0)).1), .int .i64 ((c3_1.getD i (0, 0)).2)])]] 76 [.immp [.int .i64 d0_0, .fn 2 d0_1.length (fun i => [.int .i64 ((d0_1.getD i (0, 0)).1), .int .i64 ((d0_1.getD i (0, 0)).2)])], .intp .i64 d1] fuel]], .immp [.int .i64 c3_0, .fn 2 c3_1.length (fun i => [.int .i64 ((c3_1.getD i (0, 0)).1), .int .i64 ((c3_1.getD i (0, 0)).2)])], cyc2 74 [.intp .i64 c0, .abs pl0 0 0] [.immp [.int .i64 c3_0, .fn 2 c3_1.length (fun i => [.int .i64 ((c3_1.getD i (0, 0)).1), .int .i64 ((c3_1.getD i (0, 0)).2)])]] 76 [.immp [.int .i64 d0_0, .fn 2 d0_1.length (fun i => [.int .i64 ((d0_1.getD i (0, 0)).1), .int .i64 ((d0_1.getD i (0, 0)).2)])], .intp .i64 d1] fuel]), (61, .own 3 way.length), (63, .own 4 1), (65, .int .i64 a1), (67, .int .i64 (2 ^ v.toNat : Int)), (69, .int .i64 a2)], [some (.gen 47 1 [[.own 1 q02.length]]), some (.gen 22 1 (List.map (fun e => [.ints .i64 e]) q02)), some (.pin 0 pl0), some (.ints 3 .i64 way), some (.ints 3 .i64 [v])]⟩) (hn15 : AA 3 #[true, true, true, true, false, false, true, true, true, true, true, false] ⟨72, [(0, .ints .i64 way), (1, .int .i64 a1), (2, .int .i64 a2), (6, .immp [.int .i64 c3_0, .fn 2 c3_1.length (fun i => [.int .i64 ((c3_1.getD i (0, 0)).1), .int .i64 ((c3_1.getD i (0, 0)).2)])]), (7, .immp [.func 74 [.intp .i64 c0, .abs pl0 0 0, .immp [.func 76 [.immp [.int .i64 d0_0, .fn 2 d0_1.length (fun i => [.int .i64 ((d0_1.getD i (0, 0)).1), .int .i64 ((d0_1.getD i (0, 0)).2)])], .intp .i64 d1, cyc2 74 [.intp .i64 c0, .abs pl0 0 0] [.immp [.int .i64 c3_0, .fn 2 c3_1.length (fun i => [.int .i64 ((c3_1.getD i (0, 0)).1), .int .i64 ((c3_1.getD i (0, 0)).2)])]] 76 [.immp [.int .i64 d0_0, .fn 2 d0_1.length (fun i => [.int .i64 ((d0_1.getD i (0, 0)).1), .int .i64 ((d0_1.getD i (0, 0)).2)])], .intp .i64 d1] fuel]], .immp [.int .i64 c3_0, .fn 2 c3_1.length (fun i => [.int .i64 ((c3_1.getD i (0, 0)).1), .int .i64 ((c3_1.getD i (0, 0)).2)])], cyc2 74 [.intp .i64 c0, .abs pl0 0 0] [.immp [.int .i64 c3_0, .fn 2 c3_1.length (fun i => [.int .i64 ((c3_1.getD i (0, 0)).1), .int .i64 ((c3_1.getD i (0, 0)).2)])]] 76 [.immp [.int .i64 d0_0, .fn 2 d0_1.length (fun i => [.int .i64 ((d0_1.getD i (0, 0)).1), .int .i64 ((d0_1.getD i (0, 0)).2)])], .intp .i64 d1] fuel]]), (12, .int .i64 (way.getD ((way.length : Int) - 1).toNat 0)), (41, .int .i64 c3_0), (42, .int .i64 v), (59, .func 74 [.intp .i64 c0, .abs pl0 0 0, .immp [.func 76 [.immp [.int .i64 d0_0, .fn 2 d0_1.length (fun i => [.int .i64 ((d0_1.getD i (0, 0)).1), .int .i64 ((d0_1.getD i (0, 0)).2)])], .intp .i64 d1, cyc2 74 [.intp .i64 c0, .abs pl0 0 0] [.immp [.int .i64 c3_0, .fn 2 c3_1.length (fun i => [.int .i64 ((c3_1.getD i (0, 0)).1), .int .i64 ((c3_1.getD i (0, 0)).2)])]] 76 [.immp [.int .i64 d0_0, .fn 2 d0_1.length (fun i => [.int .i64 ((d0_1.getD i (0, 0)).1), .int .i64 ((d0_1.getD i (0, 0)).2)])], .intp .i64 d1] fuel]], .immp [.int .i64 c3_0, .fn 2 c3_1.length (fun i => [.int .i64 ((c3_1.getD i (0, 0)).1), .int .i64 ((c3_1.getD i (0, 0)).2)])], cyc2 74 [.intp .i64 c0, .abs pl0 0 0] [.immp [.int .i64 c3_0, .fn 2 c3_1.length (fun i => [.int .i64 ((c3_1.getD i (0, 0)).1), .int .i64 ((c3_1.getD i (0, 0)).2)])]] 76 [.immp [.int .i64 d0_0, .fn 2 d0_1.length (fun i => [.int .i64 ((d0_1.getD i (0, 0)).1), .int .i64 ((d0_1.getD i (0, 0)).2)])], .intp .i64 d1] fuel]), (61, .own 3 way.length), (62, .int .i64 v), (68, .int .i64 (ior a1 (2 ^ v.toNat : Int))), (69, .int .i64 a2)], [some (.gen 47 1 [[.own 1 q02.length]]), some (.gen 22 1 (List.map (fun e => [.ints .i64 e]) q02)), some (.pin 0 pl0), some (.ints 3 .i64 way)]⟩) : AA 4 #[true, true, true, true, false, false, true, true, true, false, true, false] ⟨72, [(0, .ints .i64 way), (1, .int .i64 a1), (2, .int .i64 a2), (6, .immp [.int .i64 c3_0, .fn 2 c3_1.length (fun i => [.int .i64 ((c3_1.getD i (0, 0)).1), .int .i64 ((c3_1.getD i (0, 0)).2)])]), (7, .immp [.func 74 [.intp .i64 c0, .abs pl0 0 0, .immp [.func 76 [.immp [.int .i64 d0_0, .fn 2 d0_1.length (fun i => [.int .i64 ((d0_1.getD i (0, 0)).1), .int .i64 ((d0_1.getD i (0, 0)).2)])], .intp .i64 d1, cyc2 74 [.intp .i64 c0, .abs pl0 0 0] [.immp [.int .i64 c3_0, .fn 2 c3_1.length (fun i => [.int .i64 ((c3_1.getD i (0, 0)).1), .int .i64 ((c3_1.getD i (0, 0)).2)])]] 76 [.immp [.int .i64 d0_0, .fn 2 d0_1.length (fun i => [.int .i64 ((d0_1.getD i (0, 0)).1), .int .i64 ((d0_1.getD i (0, 0)).2)])], .intp .i64 d1] fuel]], .immp [.int .i64 c3_0, .fn 2 c3_1.length (fun i => [.int .i64 ((c3_1.getD i (0, 0)).1), .int .i64 ((c3_1.getD i (0, 0)).2)])], cyc2 74 [.intp .i64 c0, .abs pl0 0 0] [.immp [.int .i64 c3_0, .fn 2 c3_1.length (fun i => [.int .i64 ((c3_1.getD i (0, 0)).1), .int .i64 ((c3_1.getD i (0, 0)).2)])]] 76 [.immp [.int .i64 d0_0, .fn 2 d0_1.length (fun i => [.int .i64 ((d0_1.getD i (0, 0)).1), .int .i64 ((d0_1.getD i (0, 0)).2)])], .intp .i64 d1] fuel]]), (12, .int .i64 (way.getD ((way.length : Int) - 1).toNat 0)), (41, .int .i64 c3_0), (42, .int .i64 v), (59, .func 74 [.intp .i64 c0, .abs pl0 0 0, .immp [.func 76 [.immp [.int .i64 d0_0, .fn 2 d0_1.length (fun i => [.int .i64 ((d0_1.getD i (0, 0)).1), .int .i64 ((d0_1.getD i (0, 0)).2)])], .intp .i64 d1, cyc2 74 [.intp .i64 c0, .abs pl0 0 0] [.immp [.int .i64 c3_0, .fn 2 c3_1.length (fun i => [.int .i64 ((c3_1.getD i (0, 0)).1), .int .i64 ((c3_1.getD i (0, 0)).2)])]] 76 [.immp [.int .i64 d0_0, .fn 2 d0_1.length (fun i => [.int .i64 ((d0_1.getD i (0, 0)).1), .int .i64 ((d0_1.getD i (0, 0)).2)])], .intp .i64 d1] fuel]], .immp [.int .i64 c3_0, .fn 2 c3_1.length (fun i => [.int .i64 ((c3_1.getD i (0, 0)).1), .int .i64 ((c3_1.getD i (0, 0)).2)])], cyc2 74 [.intp .i64 c0, .abs pl0 0 0] [.immp [.int .i64 c3_0, .fn 2 c3_1.length (fun i => [.int .i64 ((c3_1.getD i (0, 0)).1), .int .i64 ((c3_1.getD i (0, 0)).2)])]] 76 [.immp [.int .i64 d0_0, .fn 2 d0_1.length (fun i => [.int .i64 ((d0_1.getD i (0, 0)).1), .int .i64 ((d0_1.getD i (0, 0)).2)])], .intp .i64 d1] fuel]), (61, .own 3 way.length), (62, .int .i64 v), (65, .int .i64 a1), (67, .int .i64 (2 ^ v.toNat : Int)), (69, .int .i64 a2)], [some (.gen 47 1 [[.own 1 q02.length]]), some (.gen 22 1 (List.map (fun e => [.ints .i64 e]) q02)), some (.pin 0 pl0), some (.ints 3 .i64 way)]⟩ := (hAA _ _ _).2 (by
  have h8x := h8; simp only [List.length_append, List.length_cons, List.length_nil] at h8x
  refine AWPB_two 4 9 _ _ ceg_links_Ways_1_11_31 rfl rfl ?_ ?_
  ·skip
   refine AWPL_rn tab_ok 1 [0, 1, 2, 6, 7, 12, 41, 42, 59, 61, 63, 64, 65, 67, 68, 69, 70] fun c st' hr => ?_
   simp only [go_sem] at hr
   obtain ⟨rfl, rfl⟩ := hr
   refine ⟨vc, ?_⟩
   refine AWPL_nil ?_
   refine QB_normal ?_
   exact AWPB_wk [0, 1, 2, 3, 4] mkWk ((hAA _ _ _).1 hn13)
  ·skip
   refine AWPL_rn tab_ok 1 [0, 1, 2, 6, 7, 12, 41, 42, 59, 61, 62, 63, 64, 68, 69, 70] fun c st' hr => ?_
   simp only [go_sem] at hr
   obtain ⟨rfl, rfl⟩ := hr
   refine ⟨vc, ?_⟩
   refine AWPL_nil ?_
   refine QB_normal ?_
   exact AWPB_wk [0, 1, 2, 3] mkWk ((hAA _ _ _).1 hn15))

theorem ceg_links_Ways_1_11_33 : (Region.ready .any reg_links_Ways_1_11.toArray #[true, true, true, true, false, false, true, true, false, false, true, false] == [4, 8]) = true := by kernel_rfl

theorem J_links_Ways_1_11_hn17 {way : List Int} {a1 : Int} {a2 : Int} {c0 : Int} {d0_0 : Int} {d0_1 : List (Int × Int)} {d1 : Int} {c3_0 : Int} {c3_1 : List (Int × Int)} {fuel : Nat} {pl0 : AX.Loc} {y2 : Bool × List (List Int)} {q02 : List (List Int)} {v : Int} (h7 : (way.length ≤ 17592186044416)) (h8 : ((way ++ [v]).length ≤ 8796093022208)) (h9 : (0 ≤ v ∧ v ≤ 62)) (hy : links_Ways_1 fuel (way ++ [v]) (ior a1 (2 ^ v.toNat : Int)) a2 c0 d0_0 d0_1 d1 c3_0 c3_1 q02 = some y2) {w0 : World} {Q : Exit → St → Prop} {AA : Nat → Array Bool → St → Prop} (hAA : ∀ g L st, AA g L st ↔ AWPB Try.prog w0 reg_links_Ways_1_11.toArray Q g L st) (hn14 : AA 4 #[true, true, true, true, true, false, true, true, false, false, true, false] ⟨72, [(0, .ints .i64 way), (1, .int .i64 a1), (2, .int .i64 a2), (6, .immp [.int .i64 c3_0, .fn 2 c3_1.length (fun i => [.int .i64 ((c3_1.getD i (0, 0)).1), .int .i64 ((c3_1.getD i (0, 0)).2)])]), (7, .immp [.func 74 [.intp .i64 c0, .abs pl0 0 0, .immp [.func 76 [.immp [.int .i64 d0_0, .fn 2 d0_1.length (fun i => [.int .i64 ((d0_1.getD i (0, 0)).1), .int .i64 ((d0_1.getD i (0, 0)).2)])], .intp .i64 d1, cyc2 74 [.intp .i64 c0, .abs pl0 0 0] [.immp [.int .i64 c3_0, .fn 2 c3_1.length (fun i => [.int .i64 ((c3_1.getD i (0, 0)).1), .int .i64 ((c3_1.getD i (0, 0)).2)])]] 76 [.immp [.int .i64 d0_0, .fn 2 d0_1.length (fun i => [.int .i64 ((d0_1.getD i (0, 0)).1), .int .i64 ((d0_1.getD i (0, 0)).2)])], .intp .i64 d1] fuel]], .immp [.int .i64 c3_0, .fn 2 c3_1.length (fun i => [.int .i64 ((c3_1.getD i (0, 0)).1), .int .i64 ((c3_1.getD i (0, 0)).2)])], cyc2 74 [.intp .i64 c0, .abs pl0 0 0] [.immp [.int .i64 c3_0, .fn 2 c3_1.length (fun i => [.int .i64 ((c3_1.getD i (0, 0)).1), .int .i64 ((c3_1.getD i (0, 0)).2)])]] 76 [.immp [.int .i64 d0_0, .fn 2 d0_1.length (fun i => [.int .i64 ((d0_1.getD i (0, 0)).1), .int .i64 ((d0_1.getD i (0, 0)).2)])], .intp .i64 d1] fuel]]), (12, .int .i64 (way.getD ((way.length : Int) - 1).toNat 0)), (41, .int .i64 c3_0), (42, .int .i64 v), (59, .func 74 [.intp .i64 c0, .abs pl0 0 0, .immp [.func 76 [.immp [.int .i64 d0_0, .fn 2 d0_1.length (fun i => [.int .i64 ((d0_1.getD i (0, 0)).1), .int .i64 ((d0_1.getD i (0, 0)).2)])], .intp .i64 d1, cyc2 74 [.intp .i64 c0, .abs pl0 0 0] [.immp [.int .i64 c3_0, .fn 2 c3_1.length (fun i => [.int .i64 ((c3_1.getD i (0, 0)).1), .int .i64 ((c3_1.getD i (0, 0)).2)])]] 76 [.immp [.int .i64 d0_0, .fn 2 d0_1.length (fun i => [.int .i64 ((d0_1.getD i (0, 0)).1), .int .i64 ((d0_1.getD i (0, 0)).2)])], .intp .i64 d1] fuel]], .immp [.int .i64 c3_0, .fn 2 c3_1.length (fun i => [.int .i64 ((c3_1.getD i (0, 0)).1), .int .i64 ((c3_1.getD i (0, 0)).2)])], cyc2 74 [.intp .i64 c0, .abs pl0 0 0] [.immp [.int .i64 c3_0, .fn 2 c3_1.length (fun i => [.int .i64 ((c3_1.getD i (0, 0)).1), .int .i64 ((c3_1.getD i (0, 0)).2)])]] 76 [.immp [.int .i64 d0_0, .fn 2 d0_1.length (fun i => [.int .i64 ((d0_1.getD i (0, 0)).1), .int .i64 ((d0_1.getD i (0, 0)).2)])], .intp .i64 d1] fuel]), (61, .own 3 way.length), (63, .own 4 1), (65, .int .i64 a1), (66, .int .i64 v), (69, .int .i64 a2)], [some (.gen 47 1 [[.own 1 q02.length]]), some (.gen 22 1 (List.map (fun e => [.ints .i64 e]) q02)), some (.pin 0 pl0), some (.ints 3 .i64 way), some (.ints 3 .i64 [v])]⟩) (hn16 : AA 4 #[true, true, true, true, false, false, true, true, true, false, true, false] ⟨72, [(0, .ints .i64 way), (1, .int .i64 a1), (2, .int .i64 a2), (6, .immp [.int .i64 c3_0, .fn 2 c3_1.length (fun i => [.int .i64 ((c3_1.getD i (0, 0)).1), .int .i64 ((c3_1.getD i (0, 0)).2)])]), (7, .immp [.func 74 [.intp .i64 c0, .abs pl0 0 0, .immp [.func 76 [.immp [.int .i64 d0_0, .fn 2 d0_1.length (fun i => [.int .i64 ((d0_1.getD i (0, 0)).1), .int .i64 ((d0_1.getD i (0, 0)).2)])], .intp .i64 d1, cyc2 74 [.intp .i64 c0, .abs pl0 0 0] [.immp [.int .i64 c3_0, .fn 2 c3_1.length (fun i => [.int .i64 ((c3_1.getD i (0, 0)).1), .int .i64 ((c3_1.getD i (0, 0)).2)])]] 76 [.immp [.int .i64 d0_0, .fn 2 d0_1.length (fun i => [.int .i64 ((d0_1.getD i (0, 0)).1), .int .i64 ((d0_1.getD i (0, 0)).2)])], .intp .i64 d1] fuel]], .immp [.int .i64 c3_0, .fn 2 c3_1.length (fun i => [.int .i64 ((c3_1.getD i (0, 0)).1), .int .i64 ((c3_1.getD i (0, 0)).2)])], cyc2 74 [.intp .i64 c0, .abs pl0 0 0] [.immp [.int .i64 c3_0, .fn 2 c3_1.length (fun i => [.int .i64 ((c3_1.getD i (0, 0)).1), .int .i64 ((c3_1.getD i (0, 0)).2)])]] 76 [.immp [.int .i64 d0_0, .fn 2 d0_1.length (fun i => [.int .i64 ((d0_1.getD i (0, 0)).1), .int .i64 ((d0_1.getD i (0, 0)).2)])], .intp .i64 d1] fuel]]), (12, .int .i64 (way.getD ((way.length : Int) - 1).toNat 0)), (41, .int .i64 c3_0), (42, .int .i64 v), (59, .func 74 [.intp .i64 c0, .abs pl0 0 0, .immp [.func 76 [.immp [.int .i64 d0_0, .fn 2 d0_1.length (fun i => [.int .i64 ((d0_1.getD i (0, 0)).1), .int .i64 ((d0_1.getD i (0, 0)).2)])], .intp .i64 d1, cyc2 74 [.intp .i64 c0, .abs pl0 0 0] [.immp [.int .i64 c3_0, .fn 2 c3_1.length (fun i => [.int .i64 ((c3_1.getD i (0, 0)).1), .int .i64 ((c3_1.getD i (0, 0)).2)])]] 76 [.immp [.int .i64 d0_0, .fn 2 d0_1.length (fun i => [.int .i64 ((d0_1.getD i (0, 0)).1), .int .i64 ((d0_1.getD i (0, 0)).2)])], .intp .i64 d1] fuel]], .immp [.int .i64 c3_0, .fn 2 c3_1.length (fun i => [.int .i64 ((c3_1.getD i (0, 0)).1), .int .i64 ((c3_1.getD i (0, 0)).2)])], cyc2 74 [.intp .i64 c0, .abs pl0 0 0] [.immp [.int .i64 c3_0, .fn 2 c3_1.length (fun i => [.int .i64 ((c3_1.getD i (0, 0)).1), .int .i64 ((c3_1.getD i (0, 0)).2)])]] 76 [.immp [.int .i64 d0_0, .fn 2 d0_1.length (fun i => [.int .i64 ((d0_1.getD i (0, 0)).1), .int .i64 ((d0_1.getD i (0, 0)).2)])], .intp .i64 d1] fuel]), (61, .own 3 way.length), (62, .int .i64 v), (65, .int .i64 a1), (67, .int .i64 (2 ^ v.toNat : Int)), (69, .int .i64 a2)], [some (.gen 47 1 [[.own 1 q02.length]]), some (.gen 22 1 (List.map (fun e => [.ints .i64 e]) q02)), some (.pin 0 pl0), some (.ints 3 .i64 way)]⟩) : AA 5 #[true, true, true, true, false, false, true, true, false, false, true, false] ⟨72, [(0, .ints .i64 way), (1, .int .i64 a1), (2, .int .i64 a2), (6, .immp [.int .i64 c3_0, .fn 2 c3_1.length (fun i => [.int .i64 ((c3_1.getD i (0, 0)).1), .int .i64 ((c3_1.getD i (0, 0)).2)])]), (7, .immp [.func 74 [.intp .i64 c0, .abs pl0 0 0, .immp [.func 76 [.immp [.int .i64 d0_0, .fn 2 d0_1.length (fun i => [.int .i64 ((d0_1.getD i (0, 0)).1), .int .i64 ((d0_1.getD i (0, 0)).2)])], .intp .i64 d1, cyc2 74 [.intp .i64 c0, .abs pl0 0 0] [.immp [.int .i64 c3_0, .fn 2 c3_1.length (fun i => [.int .i64 ((c3_1.getD i (0, 0)).1), .int .i64 ((c3_1.getD i (0, 0)).2)])]] 76 [.immp [.int .i64 d0_0, .fn 2 d0_1.length (fun i => [.int .i64 ((d0_1.getD i (0, 0)).1), .int .i64 ((d0_1.getD i (0, 0)).2)])], .intp .i64 d1] fuel]], .immp [.int .i64 c3_0, .fn 2 c3_1.length (fun i => [.int .i64 ((c3_1.getD i (0, 0)).1), .int .i64 ((c3_1.getD i (0, 0)).2)])], cyc2 74 [.intp .i64 c0, .abs pl0 0 0] [.immp [.int .i64 c3_0, .fn 2 c3_1.length (fun i => [.int .i64 ((c3_1.getD i (0, 0)).1), .int .i64 ((c3_1.getD i (0, 0)).2)])]] 76 [.immp [.int .i64 d0_0, .fn 2 d0_1.length (fun i => [.int .i64 ((d0_1.getD i (0, 0)).1), .int .i64 ((d0_1.getD i (0, 0)).2)])], .intp .i64 d1] fuel]]), (12, .int .i64 (way.getD ((way.length : Int) - 1).toNat 0)), (41, .int .i64 c3_0), (42, .int .i64 v), (59, .func 74 [.intp .i64 c0, .abs pl0 0 0, .immp [.func 76 [.immp [.int .i64 d0_0, .fn 2 d0_1.length (fun i => [.int .i64 ((d0_1.getD i (0, 0)).1), .int .i64 ((d0_1.getD i (0, 0)).2)])], .intp .i64 d1, cyc2 74 [.intp .i64 c0, .abs pl0 0 0] [.immp [.int .i64 c3_0, .fn 2 c3_1.length (fun i => [.int .i64 ((c3_1.getD i (0, 0)).1), .int .i64 ((c3_1.getD i (0, 0)).2)])]] 76 [.immp [.int .i64 d0_0, .fn 2 d0_1.length (fun i => [.int .i64 ((d0_1.getD i (0, 0)).1), .int .i64 ((d0_1.getD i (0, 0)).2)])], .intp .i64 d1] fuel]], .immp [.int .i64 c3_0, .fn 2 c3_1.length (fun i => [.int .i64 ((c3_1.getD i (0, 0)).1), .int .i64 ((c3_1.getD i (0, 0)).2)])], cyc2 74 [.intp .i64 c0, .abs pl0 0 0] [.immp [.int .i64 c3_0, .fn 2 c3_1.length (fun i => [.int .i64 ((c3_1.getD i (0, 0)).1), .int .i64 ((c3_1.getD i (0, 0)).2)])]] 76 [.immp [.int .i64 d0_0, .fn 2 d0_1.length (fun i => [.int .i64 ((d0_1.getD i (0, 0)).1), .int .i64 ((d0_1.getD i (0, 0)).2)])], .intp .i64 d1] fuel]), (61, .own 3 way.length), (62, .int .i64 v), (65, .int .i64 a1), (66, .int .i64 v), (69, .int .i64 a2)], [some (.gen 47 1 [[.own 1 q02.length]]), some (.gen 22 1 (List.map (fun e => [.ints .i64 e]) q02)), some (.pin 0 pl0), some (.ints 3 .i64 way)]⟩ := (hAA _ _ _).2 (by
  have h8x := h8; simp only [List.length_append, List.length_cons, List.length_nil] at h8x
  refine AWPB_two 4 8 _ _ ceg_links_Ways_1_11_33 rfl rfl ?_ ?_
  ·skip
   refine AWPL_rn tab_ok 1 [0, 1, 2, 6, 7, 12, 41, 42, 59, 61, 63, 64, 65, 66, 67, 68, 69, 70] fun c st' hr => ?_
   simp only [go_sem] at hr
   obtain ⟨rfl, rfl⟩ := hr
   refine ⟨vc, ?_⟩
   refine AWPL_nil ?_
   refine QB_normal ?_
   exact AWPB_wk [0, 1, 2, 3, 4] mkWk ((hAA _ _ _).1 hn14)
  ·skip
   refine AWPL_rn tab_ok 1 [0, 1, 2, 6, 7, 12, 41, 42, 59, 61, 62, 63, 64, 65, 67, 68, 69, 70] fun c st' hr => ?_
   simp only [go_sem] at hr
   obtain ⟨rfl, rfl⟩ := hr
   refine ⟨vc, ?_⟩
   refine AWPL_nil ?_
   refine QB_normal ?_
   exact AWPB_wk [0, 1, 2, 3] mkWk ((hAA _ _ _).1 hn16))

theorem ceg_links_Ways_1_11_35 : (Region.ready .any reg_links_Ways_1_11.toArray #[true, true, false, true, true, false, true, true, true, true, true, false] == [2]) = true := by kernel_rfl

theorem J_links_Ways_1_11_hn18 {way : List Int} {a1 : Int} {a2 : Int} {c0 : Int} {d0_0 : Int} {d0_1 : List (Int × Int)} {d1 : Int} {c3_0 : Int} {c3_1 : List (Int × Int)} {fuel : Nat} {pl0 : AX.Loc} {y2 : Bool × List (List Int)} {q02 : List (List Int)} {v : Int} (h7 : (way.length ≤ 17592186044416)) (h8 : ((way ++ [v]).length ≤ 8796093022208)) (h9 : (0 ≤ v ∧ v ≤ 62)) (hy : links_Ways_1 fuel (way ++ [v]) (ior a1 (2 ^ v.toNat : Int)) a2 c0 d0_0 d0_1 d1 c3_0 c3_1 q02 = some y2) {w0 : World} {Q : Exit → St → Prop} {AA : Nat → Array Bool → St → Prop} (hAA : ∀ g L st, AA g L st ↔ AWPB Try.prog w0 reg_links_Ways_1_11.toArray Q g L st) (hn12 : AA 2 #[true, true, true, true, true, false, true, true, true, true, true, false] ⟨72, [(0, .ints .i64 way), (1, .int .i64 a1), (2, .int .i64 a2), (6, .immp [.int .i64 c3_0, .fn 2 c3_1.length (fun i => [.int .i64 ((c3_1.getD i (0, 0)).1), .int .i64 ((c3_1.getD i (0, 0)).2)])]), (7, .immp [.func 74 [.intp .i64 c0, .abs pl0 0 0, .immp [.func 76 [.immp [.int .i64 d0_0, .fn 2 d0_1.length (fun i => [.int .i64 ((d0_1.getD i (0, 0)).1), .int .i64 ((d0_1.getD i (0, 0)).2)])], .intp .i64 d1, cyc2 74 [.intp .i64 c0, .abs pl0 0 0] [.immp [.int .i64 c3_0, .fn 2 c3_1.length (fun i => [.int .i64 ((c3_1.getD i (0, 0)).1), .int .i64 ((c3_1.getD i (0, 0)).2)])]] 76 [.immp [.int .i64 d0_0, .fn 2 d0_1.length (fun i => [.int .i64 ((d0_1.getD i (0, 0)).1), .int .i64 ((d0_1.getD i (0, 0)).2)])], .intp .i64 d1] fuel]], .immp [.int .i64 c3_0, .fn 2 c3_1.length (fun i => [.int .i64 ((c3_1.getD i (0, 0)).1), .int .i64 ((c3_1.getD i (0, 0)).2)])], cyc2 74 [.intp .i64 c0, .abs pl0 0 0] [.immp [.int .i64 c3_0, .fn 2 c3_1.length (fun i => [.int .i64 ((c3_1.getD i (0, 0)).1), .int .i64 ((c3_1.getD i (0, 0)).2)])]] 76 [.immp [.int .i64 d0_0, .fn 2 d0_1.length (fun i => [.int .i64 ((d0_1.getD i (0, 0)).1), .int .i64 ((d0_1.getD i (0, 0)).2)])], .intp .i64 d1] fuel]]), (12, .int .i64 (way.getD ((way.length : Int) - 1).toNat 0)), (41, .int .i64 c3_0), (42, .int .i64 v), (59, .func 74 [.intp .i64 c0, .abs pl0 0 0, .immp [.func 76 [.immp [.int .i64 d0_0, .fn 2 d0_1.length (fun i => [.int .i64 ((d0_1.getD i (0, 0)).1), .int .i64 ((d0_1.getD i (0, 0)).2)])], .intp .i64 d1, cyc2 74 [.intp .i64 c0, .abs pl0 0 0] [.immp [.int .i64 c3_0, .fn 2 c3_1.length (fun i => [.int .i64 ((c3_1.getD i (0, 0)).1), .int .i64 ((c3_1.getD i (0, 0)).2)])]] 76 [.immp [.int .i64 d0_0, .fn 2 d0_1.length (fun i => [.int .i64 ((d0_1.getD i (0, 0)).1), .int .i64 ((d0_1.getD i (0, 0)).2)])], .intp .i64 d1] fuel]], .immp [.int .i64 c3_0, .fn 2 c3_1.length (fun i => [.int .i64 ((c3_1.getD i (0, 0)).1), .int .i64 ((c3_1.getD i (0, 0)).2)])], cyc2 74 [.intp .i64 c0, .abs pl0 0 0] [.immp [.int .i64 c3_0, .fn 2 c3_1.length (fun i => [.int .i64 ((c3_1.getD i (0, 0)).1), .int .i64 ((c3_1.getD i (0, 0)).2)])]] 76 [.immp [.int .i64 d0_0, .fn 2 d0_1.length (fun i => [.int .i64 ((d0_1.getD i (0, 0)).1), .int .i64 ((d0_1.getD i (0, 0)).2)])], .intp .i64 d1] fuel]), (61, .own 3 way.length), (63, .own 4 1), (68, .int .i64 (ior a1 (2 ^ v.toNat : Int))), (69, .int .i64 a2)], [some (.gen 47 1 [[.own 1 q02.length]]), some (.gen 22 1 (List.map (fun e => [.ints .i64 e]) q02)), some (.pin 0 pl0), some (.ints 3 .i64 way), some (.ints 3 .i64 [v])]⟩) : AA 3 #[true, true, false, true, true, false, true, true, true, true, true, false] ⟨72, [(0, .ints .i64 way), (1, .int .i64 a1), (2, .int .i64 a2), (6, .immp [.int .i64 c3_0, .fn 2 c3_1.length (fun i => [.int .i64 ((c3_1.getD i (0, 0)).1), .int .i64 ((c3_1.getD i (0, 0)).2)])]), (7, .immp [.func 74 [.intp .i64 c0, .abs pl0 0 0, .immp [.func 76 [.immp [.int .i64 d0_0, .fn 2 d0_1.length (fun i => [.int .i64 ((d0_1.getD i (0, 0)).1), .int .i64 ((d0_1.getD i (0, 0)).2)])], .intp .i64 d1, cyc2 74 [.intp .i64 c0, .abs pl0 0 0] [.immp [.int .i64 c3_0, .fn 2 c3_1.length (fun i => [.int .i64 ((c3_1.getD i (0, 0)).1), .int .i64 ((c3_1.getD i (0, 0)).2)])]] 76 [.immp [.int .i64 d0_0, .fn 2 d0_1.length (fun i => [.int .i64 ((d0_1.getD i (0, 0)).1), .int .i64 ((d0_1.getD i (0, 0)).2)])], .intp .i64 d1] fuel]], .immp [.int .i64 c3_0, .fn 2 c3_1.length (fun i => [.int .i64 ((c3_1.getD i (0, 0)).1), .int .i64 ((c3_1.getD i (0, 0)).2)])], cyc2 74 [.intp .i64 c0, .abs pl0 0 0] [.immp [.int .i64 c3_0, .fn 2 c3_1.length (fun i => [.int .i64 ((c3_1.getD i (0, 0)).1), .int .i64 ((c3_1.getD i (0, 0)).2)])]] 76 [.immp [.int .i64 d0_0, .fn 2 d0_1.length (fun i => [.int .i64 ((d0_1.getD i (0, 0)).1), .int .i64 ((d0_1.getD i (0, 0)).2)])], .intp .i64 d1] fuel]]), (12, .int .i64 (way.getD ((way.length : Int) - 1).toNat 0)), (41, .int .i64 c3_0), (42, .int .i64 v), (59, .func 74 [.intp .i64 c0, .abs pl0 0 0, .immp [.func 76 [.immp [.int .i64 d0_0, .fn 2 d0_1.length (fun i => [.int .i64 ((d0_1.getD i (0, 0)).1), .int .i64 ((d0_1.getD i (0, 0)).2)])], .intp .i64 d1, cyc2 74 [.intp .i64 c0, .abs pl0 0 0] [.immp [.int .i64 c3_0, .fn 2 c3_1.length (fun i => [.int .i64 ((c3_1.getD i (0, 0)).1), .int .i64 ((c3_1.getD i (0, 0)).2)])]] 76 [.immp [.int .i64 d0_0, .fn 2 d0_1.length (fun i => [.int .i64 ((d0_1.getD i (0, 0)).1), .int .i64 ((d0_1.getD i (0, 0)).2)])], .intp .i64 d1] fuel]], .immp [.int .i64 c3_0, .fn 2 c3_1.length (fun i => [.int .i64 ((c3_1.getD i (0, 0)).1), .int .i64 ((c3_1.getD i (0, 0)).2)])], cyc2 74 [.intp .i64 c0, .abs pl0 0 0] [.immp [.int .i64 c3_0, .fn 2 c3_1.length (fun i => [.int .i64 ((c3_1.getD i (0, 0)).1), .int .i64 ((c3_1.getD i (0, 0)).2)])]] 76 [.immp [.int .i64 d0_0, .fn 2 d0_1.length (fun i => [.int .i64 ((d0_1.getD i (0, 0)).1), .int .i64 ((d0_1.getD i (0, 0)).2)])], .intp .i64 d1] fuel]), (60, .ints .i64 way), (63, .own 3 1), (68, .int .i64 (ior a1 (2 ^ v.toNat : Int))), (69, .int .i64 a2)], [some (.gen 47 1 [[.own 1 q02.length]]), some (.gen 22 1 (List.map (fun e => [.ints .i64 e]) q02)), some (.pin 0 pl0), some (.ints 3 .i64 [v])]⟩ := (hAA _ _ _).2 (by
  have h8x := h8; simp only [List.length_append, List.length_cons, List.length_nil] at h8x
  refine AWPB_one 2 _ ceg_links_Ways_1_11_35 rfl ?_
  refine AWPL_cloneI [0, 1, 2, 6, 7, 12, 41, 42, 59, 61, 63, 64, 68, 69, 70] 3 Try.laysNm215 rfl rfl pcT rfl Try.call75 (of_decide_eq_true rfl) rfl h7 rfl fun st' hr => ?_
  simp only [go_sem] at hr
  subst hr
  refine AWPL_nil ?_
  refine QB_normal ?_
  exact AWPB_wk [0, 1, 2, 4, 3] mkWk ((hAA _ _ _).1 hn12))

theorem ceg_links_Ways_1_11_37 : (Region.ready .any reg_links_Ways_1_11.toArray #[true, true, false, true, true, false, true, true, true, false, true, false] == [2, 9]) = true := by kernel_rfl

theorem J_links_Ways_1_11_hn19 {way : List Int} {a1 : Int} {a2 : Int} {c0 : Int} {d0_0 : Int} {d0_1 : List (Int × Int)} {d1 : Int} {c3_0 : Int} {c3_1 : List (Int × Int)} {fuel : Nat} {pl0 : AX.Loc} {y2 : Bool × List (List Int)} {q02 : List (List Int)} {v : Int} (h7 : (way.length ≤ 17592186044416)) (h8 : ((way ++ [v]).length ≤ 8796093022208)) (h9 : (0 ≤ v ∧ v ≤ 62)) (hy : links_Ways_1 fuel (way ++ [v]) (ior a1 (2 ^ v.toNat : Int)) a2 c0 d0_0 d0_1 d1 c3_0 c3_1 q02 = some y2) {w0 : World} {Q : Exit → St → Prop} {AA : Nat → Array Bool → St → Prop} (hAA : ∀ g L st, AA g L st ↔ AWPB Try.prog w0 reg_links_Ways_1_11.toArray Q g L st) (hn13 : AA 3 #[true, true, true, true, true, false, true, true, true, false, true, false] ⟨72, [(0, .ints .i64 way), (1, .int .i64 a1), (2, .int .i64 a2), (6, .immp [.int .i64 c3_0, .fn 2 c3_1.length (fun i => [.int .i64 ((c3_1.getD i (0, 0)).1), .int .i64 ((c3_1.getD i (0, 0)).2)])]), (7, .immp [.func 74 [.intp .i64 c0, .abs pl0 0 0, .immp [.func 76 [.immp [.int .i64 d0_0, .fn 2 d0_1.length (fun i => [.int .i64 ((d0_1.getD i (0, 0)).1), .int .i64 ((d0_1.getD i (0, 0)).2)])], .intp .i64 d1, cyc2 74 [.intp .i64 c0, .abs pl0 0 0] [.immp [.int .i64 c3_0, .fn 2 c3_1.length (fun i => [.int .i64 ((c3_1.getD i (0, 0)).1), .int .i64 ((c3_1.getD i (0, 0)).2)])]] 76 [.immp [.int .i64 d0_0, .fn 2 d0_1.length (fun i => [.int .i64 ((d0_1.getD i (0, 0)).1), .int .i64 ((d0_1.getD i (0, 0)).2)])], .intp .i64 d1] fuel]], .immp [.int .i64 c3_0, .fn 2 c3_1.length (fun i => [.int .i64 ((c3_1.getD i (0, 0)).1), .int .i64 ((c3_1.getD i (0, 0)).2)])], cyc2 74 [.intp .i64 c0, .abs pl0 0 0] [.immp [.int .i64 c3_0, .fn 2 c3_1.length (fun i => [.int .i64 ((c3_1.getD i (0, 0)).1), .int .i64 ((c3_1.getD i (0, 0)).2)])]] 76 [.immp [.int .i64 d0_0, .fn 2 d0_1.length (fun i => [.int .i64 ((d0_1.getD i (0, 0)).1), .int .i64 ((d0_1.getD i (0, 0)).2)])], .intp .i64 d1] fuel]]), (12, .int .i64 (way.getD ((way.length : Int) - 1).toNat 0)), (41, .int .i64 c3_0), (42, .int .i64 v), (59, .func 74 [.intp .i64 c0, .abs pl0 0 0, .immp [.func 76 [.immp [.int .i64 d0_0, .fn 2 d0_1.length (fun i => [.int .i64 ((d0_1.getD i (0, 0)).1), .int .i64 ((d0_1.getD i (0, 0)).2)])], .intp .i64 d1, cyc2 74 [.intp .i64 c0, .abs pl0 0 0] [.immp [.int .i64 c3_0, .fn 2 c3_1.length (fun i => [.int .i64 ((c3_1.getD i (0, 0)).1), .int .i64 ((c3_1.getD i (0, 0)).2)])]] 76 [.immp [.int .i64 d0_0, .fn 2 d0_1.length (fun i => [.int .i64 ((d0_1.getD i (0, 0)).1), .int .i64 ((d0_1.getD i (0, 0)).2)])], .intp .i64 d1] fuel]], .immp [.int .i64 c3_0, .fn 2 c3_1.length (fun i => [.int .i64 ((c3_1.getD i (0, 0)).1), .int .i64 ((c3_1.getD i (0, 0)).2)])], cyc2 74 [.intp .i64 c0, .abs pl0 0 0] [.immp [.int .i64 c3_0, .fn 2 c3_1.length (fun i => [.int .i64 ((c3_1.getD i (0, 0)).1), .int .i64 ((c3_1.getD i (0, 0)).2)])]] 76 [.immp [.int .i64 d0_0, .fn 2 d0_1.length (fun i => [.int .i64 ((d0_1.getD i (0, 0)).1), .int .i64 ((d0_1.getD i (0, 0)).2)])], .intp .i64 d1] fuel]), (61, .own 3 way.length), (63, .own 4 1), (65, .int .i64 a1), (67, .int .i64 (2 ^ v.toNat : Int)), (69, .int .i64 a2)], [some (.gen 47 1 [[.own 1 q02.length]]), some (.gen 22 1 (List.map (fun e => [.ints .i64 e]) q02)), some (.pin 0 pl0), some (.ints 3 .i64 way), some (.ints 3 .i64 [v])]⟩) (hn18 : AA 3 #[true, true, false, true, true, false, true, true, true, true, true, false] ⟨72, [(0, .ints .i64 way), (1, .int .i64 a1), (2, .int .i64 a2), (6, .immp [.int .i64 c3_0, .fn 2 c3_1.length (fun i => [.int .i64 ((c3_1.getD i (0, 0)).1), .int .i64 ((c3_1.getD i (0, 0)).2)])]), (7, .immp [.func 74 [.intp .i64 c0, .abs pl0 0 0, .immp [.func 76 [.immp [.int .i64 d0_0, .fn 2 d0_1.length (fun i => [.int .i64 ((d0_1.getD i (0, 0)).1), .int .i64 ((d0_1.getD i (0, 0)).2)])], .intp .i64 d1, cyc2 74 [.intp .i64 c0, .abs pl0 0 0] [.immp [.int .i64 c3_0, .fn 2 c3_1.length (fun i => [.int .i64 ((c3_1.getD i (0, 0)).1), .int .i64 ((c3_1.getD i (0, 0)).2)])]] 76 [.immp [.int .i64 d0_0, .fn 2 d0_1.length (fun i => [.int .i64 ((d0_1.getD i (0, 0)).1), .int .i64 ((d0_1.getD i (0, 0)).2)])], .intp .i64 d1] fuel]], .immp [.int .i64 c3_0, .fn 2 c3_1.length (fun i => [.int .i64 ((c3_1.getD i (0, 0)).1), .int .i64 ((c3_1.getD i (0, 0)).2)])], cyc2 74 [.intp .i64 c0, .abs pl0 0 0] [.immp [.int .i64 c3_0, .fn 2 c3_1.length (fun i => [.int .i64 ((c3_1.getD i (0, 0)).1), .int .i64 ((c3_1.getD i (0, 0)).2)])]] 76 [.immp [.int .i64 d0_0, .fn 2 d0_1.length (fun i => [.int .i64 ((d0_1.getD i (0, 0)).1), .int .i64 ((d0_1.getD i (0, 0)).2)])], .intp .i64 d1] fuel]]), (12, .int .i64 (way.getD ((way.length : Int) - 1).toNat 0)), (41, .int .i64 c3_0), (42, .int .i64 v), (59, .func 74 [.intp .i64 c0, .abs pl0 0 0, .immp [.func 76 [.immp [.int .i64 d0_0, .fn 2 d0_1.length (fun i => [.int .i64 ((d0_1.getD i (0, 0)).1), .int .i64 ((d0_1.getD i (0, 0)).2)])], .intp .i64 d1, cyc2 74 [.intp .i64 c0, .abs pl0 0 0] [.immp [.int .i64 c3_0, .fn 2 c3_1.length (fun i => [.int .i64 ((c3_1.getD i (0, 0)).1), .int .i64 ((c3_1.getD i (0, 0)).2)])]] 76 [.immp [.int .i64 d0_0, .fn 2 d0_1.length (fun i => [.int .i64 ((d0_1.getD i (0, 0)).1), .int .i64 ((d0_1.getD i (0, 0)).2)])], .intp .i64 d1] fuel]], .immp [.int .i64 c3_0, .fn 2 c3_1.length (fun i => [.int .i64 ((c3_1.getD i (0, 0)).1), .int .i64 ((c3_1.getD i (0, 0)).2)])], cyc2 74 [.intp .i64 c0, .abs pl0 0 0] [.immp [.int .i64 c3_0, .fn 2 c3_1.length (fun i => [.int .i64 ((c3_1.getD i (0, 0)).1), .int .i64 ((c3_1.getD i (0, 0)).2)])]] 76 [.immp [.int .i64 d0_0, .fn 2 d0_1.length (fun i => [.int .i64 ((d0_1.getD i (0, 0)).1), .int .i64 ((d0_1.getD i (0, 0)).2)])], .intp .i64 d1] fuel]), (60, .ints .i64 way), (63, .own 3 1), (68, .int .i64 (ior a1 (2 ^ v.toNat : Int))), (69, .int .i64 a2)], [some (.gen 47 1 [[.own 1 q02.length]]), some (.gen 22 1 (List.map (fun e => [.ints .i64 e]) q02)), some (.pin 0 pl0), some (.ints 3 .i64 [v])]⟩) : AA 4 #[true, true, false, true, true, false, true, true, true, false, true, false] ⟨72, [(0, .ints .i64 way), (1, .int .i64 a1), (2, .int .i64 a2), (6, .immp [.int .i64 c3_0, .fn 2 c3_1.length (fun i => [.int .i64 ((c3_1.getD i (0, 0)).1), .int .i64 ((c3_1.getD i (0, 0)).2)])]), (7, .immp [.func 74 [.intp .i64 c0, .abs pl0 0 0, .immp [.func 76 [.immp [.int .i64 d0_0, .fn 2 d0_1.length (fun i => [.int .i64 ((d0_1.getD i (0, 0)).1), .int .i64 ((d0_1.getD i (0, 0)).2)])], .intp .i64 d1, cyc2 74 [.intp .i64 c0, .abs pl0 0 0] [.immp [.int .i64 c3_0, .fn 2 c3_1.length (fun i => [.int .i64 ((c3_1.getD i (0, 0)).1), .int .i64 ((c3_1.getD i (0, 0)).2)])]] 76 [.immp [.int .i64 d0_0, .fn 2 d0_1.length (fun i => [.int .i64 ((d0_1.getD i (0, 0)).1), .int .i64 ((d0_1.getD i (0, 0)).2)])], .intp .i64 d1] fuel]], .immp [.int .i64 c3_0, .fn 2 c3_1.length (fun i => [.int .i64 ((c3_1.getD i (0, 0)).1), .int .i64 ((c3_1.getD i (0, 0)).2)])], cyc2 74 [.intp .i64 c0, .abs pl0 0 0] [.immp [.int .i64 c3_0, .fn 2 c3_1.length (fun i => [.int .i64 ((c3_1.getD i (0, 0)).1), .int .i64 ((c3_1.getD i (0, 0)).2)])]] 76 [.immp [.int .i64 d0_0, .fn 2 d0_1.length (fun i => [.int .i64 ((d0_1.getD i (0, 0)).1), .int .i64 ((d0_1.getD i (0, 0)).2)])], .intp .i64 d1] fuel]]), (12, .int .i64 (way.getD ((way.length : Int) - 1).toNat 0)), (41, .int .i64 c3_0), (42, .int .i64 v), (59, .func 74 [.intp .i64 c0, .abs pl0 0 0, .immp [.func 76 [.immp [.int .i64 d0_0, .fn 2 d0_1.length (fun i => [.int .i64 ((d0_1.getD i (0, 0)).1), .int .i64 ((d0_1.getD i (0, 0)).2)])], .intp .i64 d1, cyc2 74 [.intp .i64 c0, .abs pl0 0 0] [.immp [.int .i64 c3_0, .fn 2 c3_1.length (fun i => [.int .i64 ((c3_1.getD i (0, 0)).1), .int .i64 ((c3_1.getD i (0, 0)).2)])]] 76 [.immp [.int .i64 d0_0, .fn 2 d0_1.length (fun i => [.int .i64 ((d0_1.getD i (0, 0)).1), .int .i64 ((d0_1.getD i (0, 0)).2)])], .intp .i64 d1] fuel]], .immp [.int .i64 c3_0, .fn 2 c3_1.length (fun i => [.int .i64 ((c3_1.getD i (0, 0)).1), .int .i64 ((c3_1.getD i (0, 0)).2)])], cyc2 74 [.intp .i64 c0, .abs pl0 0 0] [.immp [.int .i64 c3_0, .fn 2 c3_1.length (fun i => [.int .i64 ((c3_1.getD i (0, 0)).1), .int .i64 ((c3_1.getD i (0, 0)).2)])]] 76 [.immp [.int .i64 d0_0, .fn 2 d0_1.length (fun i => [.int .i64 ((d0_1.getD i (0, 0)).1), .int .i64 ((d0_1.getD i (0, 0)).2)])], .intp .i64 d1] fuel]), (60, .ints .i64 way), (63, .own 3 1), (65, .int .i64 a1), (67, .int .i64 (2 ^ v.toNat : Int)), (69, .int .i64 a2)], [some (.gen 47 1 [[.own 1 q02.length]]), some (.gen 22 1 (List.map (fun e => [.ints .i64 e]) q02)), some (.pin 0 pl0), some (.ints 3 .i64 [v])]⟩ := (hAA _ _ _).2 (by
  have h8x := h8; simp only [List.length_append, List.length_cons, List.length_nil] at h8x
  refine AWPB_two 2 9 _ _ ceg_links_Ways_1_11_37 rfl rfl ?_ ?_
  ·skip
   refine AWPL_cloneI [0, 1, 2, 6, 7, 12, 41, 42, 59, 61, 63, 64, 65, 67, 68, 69, 70] 3 Try.laysNm215 rfl rfl pcT rfl Try.call75 (of_decide_eq_true rfl) rfl h7 rfl fun st' hr => ?_
   simp only [go_sem] at hr
   subst hr
   refine AWPL_nil ?_
   refine QB_normal ?_
   exact AWPB_wk [0, 1, 2, 4, 3] mkWk ((hAA _ _ _).1 hn13)
  ·skip
   refine AWPL_rn tab_ok 1 [0, 1, 2, 6, 7, 12, 41, 42, 59, 60, 61, 63, 64, 68, 69, 70] fun c st' hr => ?_
   simp only [go_sem] at hr
   obtain ⟨rfl, rfl⟩ := hr
   refine ⟨vc, ?_⟩
   refine AWPL_nil ?_
   refine QB_normal ?_
   exact AWPB_wk [0, 1, 2, 3] mkWk ((hAA _ _ _).1 hn18))

theorem ceg_links_Ways_1_11_39 : (Region.ready .any reg_links_Ways_1_11.toArray #[true, true, false, true, true, false, true, true, false, false, true, false] == [2, 8]) = true := by kernel_rfl

theorem J_links_Ways_1_11_hn20 {way : List Int} {a1 : Int} {a2 : Int} {c0 : Int} {d0_0 : Int} {d0_1 : List (Int × Int)} {d1 : Int} {c3_0 : Int} {c3_1 : List (Int × Int)} {fuel : Nat} {pl0 : AX.Loc} {y2 : Bool × List (List Int)} {q02 : List (List Int)} {v : Int} (h7 : (way.length ≤ 17592186044416)) (h8 : ((way ++ [v]).length ≤ 8796093022208)) (h9 : (0 ≤ v ∧ v ≤ 62)) (hy : links_Ways_1 fuel (way ++ [v]) (ior a1 (2 ^ v.toNat : Int)) a2 c0 d0_0 d0_1 d1 c3_0 c3_1 q02 = some y2) {w0 : World} {Q : Exit → St → Prop} {AA : Nat → Array Bool → St → Prop} (hAA : ∀ g L st, AA g L st ↔ AWPB Try.prog w0 reg_links_Ways_1_11.toArray Q g L st) (hn14 : AA 4 #[true, true, true, true, true, false, true, true, false, false, true, false] ⟨72, [(0, .ints .i64 way), (1, .int .i64 a1), (2, .int .i64 a2), (6, .immp [.int .i64 c3_0, .fn 2 c3_1.length (fun i => [.int .i64 ((c3_1.getD i (0, 0)).1), .int .i64 ((c3_1.getD i (0, 0)).2)])]), (7, .immp [.func 74 [.intp .i64 c0, .abs pl0 0 0, .immp [.func 76 [.immp [.int .i64 d0_0, .fn 2 d0_1.length (fun i => [.int .i64 ((d0_1.getD i (0, 0)).1), .int .i64 ((d0_1.getD i (0, 0)).2)])], .intp .i64 d1, cyc2 74 [.intp .i64 c0, .abs pl0 0 0] [.immp [.int .i64 c3_0, .fn 2 c3_1.length (fun i => [.int .i64 ((c3_1.getD i (0, 0)).1), .int .i64 ((c3_1.getD i (0, 0)).2)])]] 76 [.immp [.int .i64 d0_0, .fn 2 d0_1.length (fun i => [.int .i64 ((d0_1.getD i (0, 0)).1), .int .i64 ((d0_1.getD i (0, 0)).2)])], .intp .i64 d1] fuel]], .immp [.int .i64 c3_0, .fn 2 c3_1.length (fun i => [.int .i64 ((c3_1.getD i (0, 0)).1), .int .i64 ((c3_1.getD i (0, 0)).2)])], cyc2 74 [.intp .i64 c0, .abs pl0 0 0] [.immp [.int .i64 c3_0, .fn 2 c3_1.length (fun i => [.int .i64 ((c3_1.getD i (0, 0)).1), .int .i64 ((c3_1.getD i (0, 0)).2)])]] 76 [.immp [.int .i64 d0_0, .fn 2 d0_1.length (fun i => [.int .i64 ((d0_1.getD i (0, 0)).1), .int .i64 ((d0_1.getD i (0, 0)).2)])], .intp .i64 d1] fuel]]), (12, .int .i64 (way.getD ((way.length : Int) - 1).toNat 0)), (41, .int .i64 c3_0), (42, .int .i64 v), (59, .func 74 [.intp .i64 c0, .abs pl0 0 0, .immp [.func 76 [.immp [.int .i64 d0_0, .fn 2 d0_1.length (fun i => [.int .i64 ((d0_1.getD i (0, 0)).1), .int .i64 ((d0_1.getD i (0, 0)).2)])], .intp .i64 d1, cyc2 74 [.intp .i64 c0, .abs pl0 0 0] [.immp [.int .i64 c3_0, .fn 2 c3_1.length (fun i => [.int .i64 ((c3_1.getD i (0, 0)).1), .int .i64 ((c3_1.getD i (0, 0)).2)])]] 76 [.immp [.int .i64 d0_0, .fn 2 d0_1.length (fun i => [.int .i64 ((d0_1.getD i (0, 0)).1), .int .i64 ((d0_1.getD i (0, 0)).2)])], .intp .i64 d1] fuel]], .immp [.int .i64 c3_0, .fn 2 c3_1.length (fun i => [.int .i64 ((c3_1.getD i (0, 0)).1), .int .i64 ((c3_1.getD i (0, 0)).2)])], cyc2 74 [.intp .i64 c0, .abs pl0 0 0] [.immp [.int .i64 c3_0, .fn 2 c3_1.length (fun i => [.int .i64 ((c3_1.getD i (0, 0)).1), .int .i64 ((c3_1.getD i (0, 0)).2)])]] 76 [.immp [.int .i64 d0_0, .fn 2 d0_1.length (fun i => [.int .i64 ((d0_1.getD i (0, 0)).1), .int .i64 ((d0_1.getD i (0, 0)).2)])], .intp .i64 d1] fuel]), (61, .own 3 way.length), (63, .own 4 1), (65, .int .i64 a1), (66, .int .i64 v), (69, .int .i64 a2)], [some (.gen 47 1 [[.own 1 q02.length]]), some (.gen 22 1 (List.map (fun e => [.ints .i64 e]) q02)), some (.pin 0 pl0), some (.ints 3 .i64 way), some (.ints 3 .i64 [v])]⟩) (hn19 : AA 4 #[true, true, false, true, true, false, true, true, true, false, true, false] ⟨72, [(0, .ints .i64 way), (1, .int .i64 a1), (2, .int .i64 a2), (6, .immp [.int .i64 c3_0, .fn 2 c3_1.length (fun i => [.int .i64 ((c3_1.getD i (0, 0)).1), .int .i64 ((c3_1.getD i (0, 0)).2)])]), (7, .immp [.func 74 [.intp .i64 c0, .abs pl0 0 0, .immp [.func 76 [.immp [.int .i64 d0_0, .fn 2 d0_1.length (fun i => [.int .i64 ((d0_1.getD i (0, 0)).1), .int .i64 ((d0_1.getD i (0, 0)).2)])], .intp .i64 d1, cyc2 74 [.intp .i64 c0, .abs pl0 0 0] [.immp [.int .i64 c3_0, .fn 2 c3_1.length (fun i => [.int .i64 ((c3_1.getD i (0, 0)).1), .int .i64 ((c3_1.getD i (0, 0)).2)])]] 76 [.immp [.int .i64 d0_0, .fn 2 d0_1.length (fun i => [.int .i64 ((d0_1.getD i (0, 0)).1), .int .i64 ((d0_1.getD i (0, 0)).2)])], .intp .i64 d1] fuel]], .immp [.int .i64 c3_0, .fn 2 c3_1.length (fun i => [.int .i64 ((c3_1.getD i (0, 0)).1), .int .i64 ((c3_1.getD i (0, 0)).2)])], cyc2 74 [.intp .i64 c0, .abs pl0 0 0] [.immp [.int .i64 c3_0, .fn 2 c3_1.length (fun i => [.int .i64 ((c3_1.getD i (0, 0)).1), .int .i64 ((c3_1.getD i (0, 0)).2)])]] 76 [.immp [.int .i64 d0_0, .fn 2 d0_1.length (fun i => [.int .i64 ((d0_1.getD i (0, 0)).1), .int .i64 ((d0_1.getD i (0, 0)).2)])], .intp .i64 d1] fuel]]), (12, .int .i64 (way.getD ((way.length : Int) - 1).toNat 0)), (41, .int .i64 c3_0), (42, .int .i64 v), (59, .func 74 [.intp .i64 c0, .abs pl0 0 0, .immp [.func 76 [.immp [.int .i64 d0_0, .fn 2 d0_1.length (fun i => [.int .i64 ((d0_1.getD i (0, 0)).1), .int .i64 ((d0_1.getD i (0, 0)).2)])], .intp .i64 d1, cyc2 74 [.intp .i64 c0, .abs pl0 0 0] [.immp [.int .i64 c3_0, .fn 2 c3_1.length (fun i => [.int .i64 ((c3_1.getD i (0, 0)).1), .int .i64 ((c3_1.getD i (0, 0)).2)])]] 76 [.immp [.int .i64 d0_0, .fn 2 d0_1.length (fun i => [.int .i64 ((d0_1.getD i (0, 0)).1), .int .i64 ((d0_1.getD i (0, 0)).2)])], .intp .i64 d1] fuel]], .immp [.int .i64 c3_0, .fn 2 c3_1.length (fun i => [.int .i64 ((c3_1.getD i (0, 0)).1), .int .i64 ((c3_1.getD i (0, 0)).2)])], cyc2 74 [.intp .i64 c0, .abs pl0 0 0] [.immp [.int .i64 c3_0, .fn 2 c3_1.length (fun i => [.int .i64 ((c3_1.getD i (0, 0)).1), .int .i64 ((c3_1.getD i (0, 0)).2)])]] 76 [.immp [.int .i64 d0_0, .fn 2 d0_1.length (fun i => [.int .i64 ((d0_1.getD i (0, 0)).1), .int .i64 ((d0_1.getD i (0, 0)).2)])], .intp .i64 d1] fuel]), (60, .ints .i64 way), (63, .own 3 1), (65, .int .i64 a1), (67, .int .i64 (2 ^ v.toNat : Int)), (69, .int .i64 a2)], [some (.gen 47 1 [[.own 1 q02.length]]), some (.gen 22 1 (List.map (fun e => [.ints .i64 e]) q02)), some (.pin 0 pl0), some (.ints 3 .i64 [v])]⟩) : AA 5 #[true, true, false, true, true, false, true, true, false, false, true, false] ⟨72, [(0, .ints .i64 way), (1, .int .i64 a1), (2, .int .i64 a2), (6, .immp [.int .i64 c3_0, .fn 2 c3_1.length (fun i => [.int .i64 ((c3_1.getD i (0, 0)).1), .int .i64 ((c3_1.getD i (0, 0)).2)])]), (7, .immp [.func 74 [.intp .i64 c0, .abs pl0 0 0, .immp [.func 76 [.immp [.int .i64 d0_0, .fn 2 d0_1.length (fun i => [.int .i64 ((d0_1.getD i (0, 0)).1), .int .i64 ((d0_1.getD i (0, 0)).2)])], .intp .i64 d1, cyc2 74 [.intp .i64 c0, .abs pl0 0 0] [.immp [.int .i64 c3_0, .fn 2 c3_1.length (fun i => [.int .i64 ((c3_1.getD i (0, 0)).1), .int .i64 ((c3_1.getD i (0, 0)).2)])]] 76 [.immp [.int .i64 d0_0, .fn 2 d0_1.length (fun i => [.int .i64 ((d0_1.getD i (0, 0)).1), .int .i64 ((d0_1.getD i (0, 0)).2)])], .intp .i64 d1] fuel]], .immp [.int .i64 c3_0, .fn 2 c3_1.length (fun i => [.int .i64 ((c3_1.getD i (0, 0)).1), .int .i64 ((c3_1.getD i (0, 0)).2)])], cyc2 74 [.intp .i64 c0, .abs pl0 0 0] [.immp [.int .i64 c3_0, .fn 2 c3_1.length (fun i => [.int .i64 ((c3_1.getD i (0, 0)).1), .int .i64 ((c3_1.getD i (0, 0)).2)])]] 76 [.immp [.int .i64 d0_0, .fn 2 d0_1.length (fun i => [.int .i64 ((d0_1.getD i (0, 0)).1), .int .i64 ((d0_1.getD i (0, 0)).2)])], .intp .i64 d1] fuel]]), (12, .int .i64 (way.getD ((way.length : Int) - 1).toNat 0)), (41, .int .i64 c3_0), (42, .int .i64 v), (59, .func 74 [.intp .i64 c0, .abs pl0 0 0, .immp [.func 76 [.immp [.int .i64 d0_0, .fn 2 d0_1.length (fun i => [.int .i64 ((d0_1.getD i (0, 0)).1), .int .i64 ((d0_1.getD i (0, 0)).2)])], .intp .i64 d1, cyc2 74 [.intp .i64 c0, .abs pl0 0 0] [.immp [.int .i64 c3_0, .fn 2 c3_1.length (fun i => [.int .i64 ((c3_1.getD i (0, 0)).1), .int .i64 ((c3_1.getD i (0, 0)).2)])]] 76 [.immp [.int .i64 d0_0, .fn 2 d0_1.length (fun i => [.int .i64 ((d0_1.getD i (0, 0)).1), .int .i64 ((d0_1.getD i (0, 0)).2)])], .intp .i64 d1] fuel]], .immp [.int .i64 c3_0, .fn 2 c3_1.length (fun i => [.int .i64 ((c3_1.getD i (0, 0)).1), .int .i64 ((c3_1.getD i (0, 0)).2)])], cyc2 74 [.intp .i64 c0, .abs pl0 0 0] [.immp [.int .i64 c3_0, .fn 2 c3_1.length (fun i => [.int .i64 ((c3_1.getD i (0, 0)).1), .int .i64 ((c3_1.getD i (0, 0)).2)])]] 76 [.immp [.int .i64 d0_0, .fn 2 d0_1.length (fun i => [.int .i64 ((d0_1.getD i (0, 0)).1), .int .i64 ((d0_1.getD i (0, 0)).2)])], .intp .i64 d1] fuel]), (60, .ints .i64 way), (63, .own 3 1), (65, .int .i64 a1), (66, .int .i64 v), (69, .int .i64 a2)], [some (.gen 47 1 [[.own 1 q02.length]]), some (.gen 22 1 (List.map (fun e => [.ints .i64 e]) q02)), some (.pin 0 pl0), some (.ints 3 .i64 [v])]⟩ := (hAA _ _ _).2 (by
  have h8x := h8; simp only [List.length_append, List.length_cons, List.length_nil] at h8x
  refine AWPB_two 2 8 _ _ ceg_links_Ways_1_11_39 rfl rfl ?_ ?_
  ·skip
   refine AWPL_cloneI [0, 1, 2, 6, 7, 12, 41, 42, 59, 61, 63, 64, 65, 66, 67, 68, 69, 70] 3 Try.laysNm215 rfl rfl pcT rfl Try.call75 (of_decide_eq_true rfl) rfl h7 rfl fun st' hr => ?_
   simp only [go_sem] at hr
   subst hr
   refine AWPL_nil ?_
   refine QB_normal ?_
   exact AWPB_wk [0, 1, 2, 4, 3] mkWk ((hAA _ _ _).1 hn14)
  ·skip
   refine AWPL_rn tab_ok 1 [0, 1, 2, 6, 7, 12, 41, 42, 59, 60, 61, 63, 64, 65, 67, 68, 69, 70] fun c st' hr => ?_
   simp only [go_sem] at hr
   obtain ⟨rfl, rfl⟩ := hr
   refine ⟨vc, ?_⟩
   refine AWPL_nil ?_
   refine QB_normal ?_
   exact AWPB_wk [0, 1, 2, 3] mkWk ((hAA _ _ _).1 hn19))

theorem ceg_links_Ways_1_11_41 : (Region.ready .any reg_links_Ways_1_11.toArray #[true, true, false, true, false, false, true, true, true, true, true, false] == [2, 4]) = true := by kernel_rfl

theorem J_links_Ways_1_11_hn21 {way : List Int} {a1 : Int} {a2 : Int} {c0 : Int} {d0_0 : Int} {d0_1 : List (Int × Int)} {d1 : Int} {c3_0 : Int} {c3_1 : List (Int × Int)} {fuel : Nat} {pl0 : AX.Loc} {y2 : Bool × List (List Int)} {q02 : List (List Int)} {v : Int} (h7 : (way.length ≤ 17592186044416)) (h8 : ((way ++ [v]).length ≤ 8796093022208)) (h9 : (0 ≤ v ∧ v ≤ 62)) (hy : links_Ways_1 fuel (way ++ [v]) (ior a1 (2 ^ v.toNat : Int)) a2 c0 d0_0 d0_1 d1 c3_0 c3_1 q02 = some y2) {w0 : World} {Q : Exit → St → Prop} {AA : Nat → Array Bool → St → Prop} (hAA : ∀ g L st, AA g L st ↔ AWPB Try.prog w0 reg_links_Ways_1_11.toArray Q g L st) (hn15 : AA 3 #[true, true, true, true, false, false, true, true, true, true, true, false] ⟨72, [(0, .ints .i64 way), (1, .int .i64 a1), (2, .int .i64 a2), (6, .immp [.int .i64 c3_0, .fn 2 c3_1.length (fun i => [.int .i64 ((c3_1.getD i (0, 0)).1), .int .i64 ((c3_1.getD i (0, 0)).2)])]), (7, .immp [.func 74 [.intp .i64 c0, .abs pl0 0 0, .immp [.func 76 [.immp [.int .i64 d0_0, .fn 2 d0_1.length (fun i => [.int .i64 ((d0_1.getD i (0, 0)).1), .int .i64 ((d0_1.getD i (0, 0)).2)])], .intp .i64 d1, cyc2 74 [.intp .i64 c0, .abs pl0 0 0] [.immp [.int .i64 c3_0, .fn 2 c3_1.length (fun i => [.int .i64 ((c3_1.getD i (0, 0)).1), .int .i64 ((c3_1.getD i (0, 0)).2)])]] 76 [.immp [.int .i64 d0_0, .fn 2 d0_1.length (fun i => [.int .i64 ((d0_1.getD i (0, 0)).1), .int .i64 ((d0_1.getD i (0, 0)).2)])], .intp .i64 d1] fuel]], .immp [.int .i64 c3_0, .fn 2 c3_1.length (fun i => [.int .i64 ((c3_1.getD i (0, 0)).1), .int .i64 ((c3_1.getD i (0, 0)).2)])], cyc2 74 [.intp .i64 c0, .abs pl0 0 0] [.immp [.int .i64 c3_0, .fn 2 c3_1.length (fun i => [.int .i64 ((c3_1.getD i (0, 0)).1), .int .i64 ((c3_1.getD i (0, 0)).2)])]] 76 [.immp [.int .i64 d0_0, .fn 2 d0_1.length (fun i => [.int .i64 ((d0_1.getD i (0, 0)).1), .int .i64 ((d0_1.getD i (0, 0)).2)])], .intp .i64 d1] fuel]]), (12, .int .i64 (way.getD ((way.length : Int) - 1).toNat 0)), (41, .int .i64 c3_0), (42, .int .i64 v), (59, .func 74 [.intp .i64 c0, .abs pl0 0 0, .immp [.func 76 [.immp [.int .i64 d0_0, .fn 2 d0_1.length (fun i => [.int .i64 ((d0_1.getD i (0, 0)).1), .int .i64 ((d0_1.getD i (0, 0)).2)])], .intp .i64 d1, cyc2 74 [.intp .i64 c0, .abs pl0 0 0] [.immp [.int .i64 c3_0, .fn 2 c3_1.length (fun i => [.int .i64 ((c3_1.getD i (0, 0)).1), .int .i64 ((c3_1.getD i (0, 0)).2)])]] 76 [.immp [.int .i64 d0_0, .fn 2 d0_1.length (fun i => [.int .i64 ((d0_1.getD i (0, 0)).1), .int .i64 ((d0_1.getD i (0, 0)).2)])], .intp .i64 d1] fuel]], .immp [.int .i64 c3_0, .fn 2 c3_1.length (fun i => [.int .i64 ((c3_1.getD i (0, 0)).1), .int .i64 ((c3_1.getD i (0, 0)).2)])], cyc2 74 [.intp .i64 c0, .abs pl0 0 0] [.immp [.int .i64 c3_0, .fn 2 c3_1.length (fun i => [.int .i64 ((c3_1.getD i (0, 0)).1), .int .i64 ((c3_1.getD i (0, 0)).2)])]] 76 [.immp [.int .i64 d0_0, .fn 2 d0_1.length (fun i => [.int .i64 ((d0_1.getD i (0, 0)).1), .int .i64 ((d0_1.getD i (0, 0)).2)])], .intp .i64 d1] fuel]), (61, .own 3 way.length), (62, .int .i64 v), (68, .int .i64 (ior a1 (2 ^ v.toNat : Int))), (69, .int .i64 a2)], [some (.gen 47 1 [[.own 1 q02.length]]), some (.gen 22 1 (List.map (fun e => [.ints .i64 e]) q02)), some (.pin 0 pl0), some (.ints 3 .i64 way)]⟩) (hn18 : AA 3 #[true, true, false, true, true, false, true, true, true, true, true, false] ⟨72, [(0, .ints .i64 way), (1, .int .i64 a1), (2, .int .i64 a2), (6, .immp [.int .i64 c3_0, .fn 2 c3_1.length (fun i => [.int .i64 ((c3_1.getD i (0, 0)).1), .int .i64 ((c3_1.getD i (0, 0)).2)])]), (7, .immp [.func 74 [.intp .i64 c0, .abs pl0 0 0, .immp [.func 76 [.immp [.int .i64 d0_0, .fn 2 d0_1.length (fun i => [.int .i64 ((d0_1.getD i (0, 0)).1), .int .i64 ((d0_1.getD i (0, 0)).2)])], .intp .i64 d1, cyc2 74 [.intp .i64 c0, .abs pl0 0 0] [.immp [.int .i64 c3_0, .fn 2 c3_1.length (fun i => [.int .i64 ((c3_1.getD i (0, 0)).1), .int .i64 ((c3_1.getD i (0, 0)).2)])]] 76 [.immp [.int .i64 d0_0, .fn 2 d0_1.length (fun i => [.int .i64 ((d0_1.getD i (0, 0)).1), .int .i64 ((d0_1.getD i (0, 0)).2)])], .intp .i64 d1] fuel]], .immp [.int .i64 c3_0, .fn 2 c3_1.length (fun i => [.int .i64 ((c3_1.getD i (0, 0)).1), .int .i64 ((c3_1.getD i (0, 0)).2)])], cyc2 74 [.intp .i64 c0, .abs pl0 0 0] [.immp [.int .i64 c3_0, .fn 2 c3_1.length (fun i => [.int .i64 ((c3_1.getD i (0, 0)).1), .int .i64 ((c3_1.getD i (0, 0)).2)])]] 76 [.immp [.int .i64 d0_0, .fn 2 d0_1.length (fun i => [.int .i64 ((d0_1.getD i (0, 0)).1), .int .i64 ((d0_1.getD i (0, 0)).2)])], .intp .i64 d1] fuel]]), (12, .int .i64 (way.getD ((way.length : Int) - 1).toNat 0)), (41, .int .i64 c3_0), (42, .int .i64 v), (59, .func 74 [.intp .i64 c0, .abs pl0 0 0, .immp [.func 76 [.immp [.int .i64 d0_0, .fn 2 d0_1.length (fun i => [.int .i64 ((d0_1.getD i (0, 0)).1), .int .i64 ((d0_1.getD i (0, 0)).2)])], .intp .i64 d1, cyc2 74 [.intp .i64 c0, .abs pl0 0 0] [.immp [.int .i64 c3_0, .fn 2 c3_1.length (fun i => [.int .i64 ((c3_1.getD i (0, 0)).1), .int .i64 ((c3_1.getD i (0, 0)).2)])]] 76 [.immp [.int .i64 d0_0, .fn 2 d0_1.length (fun i => [.int .i64 ((d0_1.getD i (0, 0)).1), .int .i64 ((d0_1.getD i (0, 0)).2)])], .intp .i64 d1] fuel]], .immp [.int .i64 c3_0, .fn 2 c3_1.length (fun i => [.int .i64 ((c3_1.getD i (0, 0)).1), .int .i64 ((c3_1.getD i (0, 0)).2)])], cyc2 74 [.intp .i64 c0, .abs pl0 0 0] [.immp [.int .i64 c3_0, .fn 2 c3_1.length (fun i => [.int .i64 ((c3_1.getD i (0, 0)).1), .int .i64 ((c3_1.getD i (0, 0)).2)])]] 76 [.immp [.int .i64 d0_0, .fn 2 d0_1.length (fun i => [.int .i64 ((d0_1.getD i (0, 0)).1), .int .i64 ((d0_1.getD i (0, 0)).2)])], .intp .i64 d1] fuel]), (60, .ints .i64 way), (63, .own 3 1), (68, .int .i64 (ior a1 (2 ^ v.toNat : Int))), (69, .int .i64 a2)], [some (.gen 47 1 [[.own 1 q02.length]]), some (.gen 22 1 (List.map (fun e => [.ints .i64 e]) q02)), some (.pin 0 pl0), some (.ints 3 .i64 [v])]⟩) : AA 4 #[true, true, false, true, false, false, true, true, true, true, true, false] ⟨72, [(0, .ints .i64 way), (1, .int .i64 a1), (2, .int .i64 a2), (6, .immp [.int .i64 c3_0, .fn 2 c3_1.length (fun i => [.int .i64 ((c3_1.getD i (0, 0)).1), .int .i64 ((c3_1.getD i (0, 0)).2)])]), (7, .immp [.func 74 [.intp .i64 c0, .abs pl0 0 0, .immp [.func 76 [.immp [.int .i64 d0_0, .fn 2 d0_1.length (fun i => [.int .i64 ((d0_1.getD i (0, 0)).1), .int .i64 ((d0_1.getD i (0, 0)).2)])], .intp .i64 d1, cyc2 74 [.intp .i64 c0, .abs pl0 0 0] [.immp [.int .i64 c3_0, .fn 2 c3_1.length (fun i => [.int .i64 ((c3_1.getD i (0, 0)).1), .int .i64 ((c3_1.getD i (0, 0)).2)])]] 76 [.immp [.int .i64 d0_0, .fn 2 d0_1.length (fun i => [.int .i64 ((d0_1.getD i (0, 0)).1), .int .i64 ((d0_1.getD i (0, 0)).2)])], .intp .i64 d1] fuel]], .immp [.int .i64 c3_0, .fn 2 c3_1.length (fun i => [.int .i64 ((c3_1.getD i (0, 0)).1), .int .i64 ((c3_1.getD i (0, 0)).2)])], cyc2 74 [.intp .i64 c0, .abs pl0 0 0] [.immp [.int .i64 c3_0, .fn 2 c3_1.length (fun i => [.int .i64 ((c3_1.getD i (0, 0)).1), .int .i64 ((c3_1.getD i (0, 0)).2)])]] 76 [.immp [.int .i64 d0_0, .fn 2 d0_1.length (fun i => [.int .i64 ((d0_1.getD i (0, 0)).1), .int .i64 ((d0_1.getD i (0, 0)).2)])], .intp .i64 d1] fuel]]), (12, .int .i64 (way.getD ((way.length : Int) - 1).toNat 0)), (41, .int .i64 c3_0), (42, .int .i64 v), (59, .func 74 [.intp .i64 c0, .abs pl0 0 0, .immp [.func 76 [.immp [.int .i64 d0_0, .fn 2 d0_1.length (fun i => [.int .i64 ((d0_1.getD i (0, 0)).1), .int .i64 ((d0_1.getD i (0, 0)).2)])], .intp .i64 d1, cyc2 74 [.intp .i64 c0, .abs pl0 0 0] [.immp [.int .i64 c3_0, .fn 2 c3_1.length (fun i => [.int .i64 ((c3_1.getD i (0, 0)).1), .int .i64 ((c3_1.getD i (0, 0)).2)])]] 76 [.immp [.int .i64 d0_0, .fn 2 d0_1.length (fun i => [.int .i64 ((d0_1.getD i (0, 0)).1), .int .i64 ((d0_1.getD i (0, 0)).2)])], .intp .i64 d1] fuel]], .immp [.int .i64 c3_0, .fn 2 c3_1.length (fun i => [.int .i64 ((c3_1.getD i (0, 0)).1), .int .i64 ((c3_1.getD i (0, 0)).2)])], cyc2 74 [.intp .i64 c0, .abs pl0 0 0] [.immp [.int .i64 c3_0, .fn 2 c3_1.length (fun i => [.int .i64 ((c3_1.getD i (0, 0)).1), .int .i64 ((c3_1.getD i (0, 0)).2)])]] 76 [.immp [.int .i64 d0_0, .fn 2 d0_1.length (fun i => [.int .i64 ((d0_1.getD i (0, 0)).1), .int .i64 ((d0_1.getD i (0, 0)).2)])], .intp .i64 d1] fuel]), (60, .ints .i64 way), (62, .int .i64 v), (68, .int .i64 (ior a1 (2 ^ v.toNat : Int))), (69, .int .i64 a2)], [some (.gen 47 1 [[.own 1 q02.length]]), some (.gen 22 1 (List.map (fun e => [.ints .i64 e]) q02)), some (.pin 0 pl0)]⟩ := (hAA _ _ _).2 (by
  have h8x := h8; simp only [List.length_append, List.length_cons, List.length_nil] at h8x
  refine AWPB_two 2 4 _ _ ceg_links_Ways_1_11_41 rfl rfl ?_ ?_
  ·skip
   refine AWPL_cloneI [0, 1, 2, 6, 7, 12, 41, 42, 59, 61, 62, 63, 64, 68, 69, 70] 3 Try.laysNm215 rfl rfl pcT rfl Try.call75 (of_decide_eq_true rfl) rfl h7 rfl fun st' hr => ?_
   simp only [go_sem] at hr
   subst hr
   refine AWPL_nil ?_
   refine QB_normal ?_
   exact AWPB_wk [0, 1, 2, 3] mkWk ((hAA _ _ _).1 hn15)
  ·skip
   refine AWPL_rn tab_ok 1 [0, 1, 2, 6, 7, 12, 41, 42, 59, 60, 61, 63, 64, 68, 69, 70] fun c st' hr => ?_
   simp only [go_sem] at hr
   obtain ⟨rfl, rfl⟩ := hr
   refine ⟨vc, ?_⟩
   refine AWPL_nil ?_
   refine QB_normal ?_
   exact AWPB_wk [0, 1, 2, 3] mkWk ((hAA _ _ _).1 hn18))

theorem ceg_links_Ways_1_11_43 : (Region.ready .any reg_links_Ways_1_11.toArray #[true, true, false, true, false, false, true, true, true, false, true, false] == [2, 4, 9]) = true := by kernel_rfl

theorem J_links_Ways_1_11_hn22 {way : List Int} {a1 : Int} {a2 : Int} {c0 : Int} {d0_0 : Int} {d0_1 : List (Int × Int)} {d1 : Int} {c3_0 : Int} {c3_1 : List (Int × Int)} {fuel : Nat} {pl0 : AX.Loc} {y2 : Bool × List (List Int)} {q02 : List (List Int)} {v : Int} (h7 : (way.length ≤ 17592186044416)) (h8 : ((way ++ [v]).length ≤ 8796093022208)) (h9 : (0 ≤ v ∧ v ≤ 62)) (hy : links_Ways_1 fuel (way ++ [v]) (ior a1 (2 ^ v.toNat : Int)) a2 c0 d0_0 d0_1 d1 c3_0 c3_1 q02 = some y2) {w0 : World} {Q : Exit → St → Prop} {AA : Nat → Array Bool → St → Prop} (hAA : ∀ g L st, AA g L st ↔ AWPB Try.prog w0 reg_links_Ways_1_11.toArray Q g L st) (hn16 : AA 4 #[true, true, true, true, false, false, true, true, true, false, true, false] ⟨72, [(0, .ints .i64 way), (1, .int .i64 a1), (2, .int .i64 a2), (6, .immp [.int .i64 c3_0, .fn 2 c3_1.length (fun i => [.int .i64 ((c3_1.getD i (0, 0)).1), .int .i64 ((c3_1.getD i (0, 0)).2)])]), (7, .immp [.func 74 [.intp .i64 c0, .abs pl0 0 0, .immp [.func 76 [.immp [.int .i64 d0_0, .fn 2 d0_1.length (fun i => [.int .i64 ((d0_1.getD i (0, 0)).1), .int .i64 ((d0_1.getD i (0, 0)).2)])], .intp .i64 d1, cyc2 74 [.intp .i64 c0, .abs pl0 0 0] [.immp [.int .i64 c3_0, .fn 2 c3_1.length (fun i => [.int .i64 ((c3_1.getD i (0, 0)).1), .int .i64 ((c3_1.getD i (0, 0)).2)])]] 76 [.immp [.int .i64 d0_0, .fn 2 d0_1.length (fun i => [.int .i64 ((d0_1.getD i (0, 0)).1), .int .i64 ((d0_1.getD i (0, 0)).2)])], .intp .i64 d1] fuel]], .immp [.int .i64 c3_0, .fn 2 c3_1.length (fun i => [.int .i64 ((c3_1.getD i (0, 0)).1), .int .i64 ((c3_1.getD i (0, 0)).2)])], cyc2 74 [.intp .i64 c0, .abs pl0 0 0] [.immp [.int .i64 c3_0, .fn 2 c3_1.length (fun i => [.int .i64 ((c3_1.getD i (0, 0)).1), .int .i64 ((c3_1.getD i (0, 0)).2)])]] 76 [.immp [.int .i64 d0_0, .fn 2 d0_1.length (fun i => [.int .i64 ((d0_1.getD i (0, 0)).1), .int .i64 ((d0_1.getD i (0, 0)).2)])], .intp .i64 d1] fuel]]), (12, .int .i64 (way.getD ((way.length : Int) - 1).toNat 0)), (41, .int .i64 c3_0), (42, .int .i64 v), (59, .func 74 [.intp .i64 c0, .abs pl0 0 0, .immp [.func 76 [.immp [.int .i64 d0_0, .fn 2 d0_1.length (fun i => [.int .i64 ((d0_1.getD i (0, 0)).1), .int .i64 ((d0_1.getD i (0, 0)).2)])], .intp .i64 d1, cyc2 74 [.intp .i64 c0, .abs pl0 0 0] [.immp [.int .i64 c3_0, .fn 2 c3_1.length (fun i => [.int .i64 ((c3_1.getD i (0, 0)).1), .int .i64 ((c3_1.getD i (0, 0)).2)])]] 76 [.immp [.int .i64 d0_0, .fn 2 d0_1.length (fun i => [.int .i64 ((d0_1.getD i (0, 0)).1), .int .i64 ((d0_1.getD i (0, 0)).2)])], .intp .i64 d1] fuel]], .immp [.int .i64 c3_0, .fn 2 c3_1.length (fun i => [.int .i64 ((c3_1.getD i (0, 0)).1), .int .i64 ((c3_1.getD i (0, 0)).2)])], cyc2 74 [.intp .i64 c0, .abs pl0 0 0] [.immp [.int .i64 c3_0, .fn 2 c3_1.length (fun i => [.int .i64 ((c3_1.getD i (0, 0)).1), .int .i64 ((c3_1.getD i (0, 0)).2)])]] 76 [.immp [.int .i64 d0_0, .fn 2 d0_1.length (fun i => [.int .i64 ((d0_1.getD i (0, 0)).1), .int .i64 ((d0_1.getD i (0, 0)).2)])], .intp .i64 d1] fuel]), (61, .own 3 way.length), (62, .int .i64 v), (65, .int .i64 a1), (67, .int .i64 (2 ^ v.toNat : Int)), (69, .int .i64 a2)], [some (.gen 47 1 [[.own 1 q02.length]]), some (.gen 22 1 (List.map (fun e => [.ints .i64 e]) q02)), some (.pin 0 pl0), some (.ints 3 .i64 way)]⟩) (hn19 : AA 4 #[true, true, false, true, true, false, true, true, true, false, true, false] ⟨72, [(0, .ints .i64 way), (1, .int .i64 a1), (2, .int .i64 a2), (6, .immp [.int .i64 c3_0, .fn 2 c3_1.length (fun i => [.int .i64 ((c3_1.getD i (0, 0)).1), .int .i64 ((c3_1.getD i (0, 0)).2)])]), (7, .immp [.func 74 [.intp .i64 c0, .abs pl0 0 0, .immp [.func 76 [.immp [.int .i64 d0_0, .fn 2 d0_1.length (fun i => [.int .i64 ((d0_1.getD i (0, 0)).1), .int .i64 ((d0_1.getD i (0, 0)).2)])], .intp .i64 d1, cyc2 74 [.intp .i64 c0, .abs pl0 0 0] [.immp [.int .i64 c3_0, .fn 2 c3_1.length (fun i => [.int .i64 ((c3_1.getD i (0, 0)).1), .int .i64 ((c3_1.getD i (0, 0)).2)])]] 76 [.immp [.int .i64 d0_0, .fn 2 d0_1.length (fun i => [.int .i64 ((d0_1.getD i (0, 0)).1), .int .i64 ((d0_1.getD i (0, 0)).2)])], .intp .i64 d1] fuel]], .immp [.int .i64 c3_0, .fn 2 c3_1.length (fun i => [.int .i64 ((c3_1.getD i (0, 0)).1), .int .i64 ((c3_1.getD i (0, 0)).2)])], cyc2 74 [.intp .i64 c0, .abs pl0 0 0] [.immp [.int .i64 c3_0, .fn 2 c3_1.length (fun i => [.int .i64 ((c3_1.getD i (0, 0)).1), .int .i64 ((c3_1.getD i (0, 0)).2)])]] 76 [.immp [.int .i64 d0_0, .fn 2 d0_1.length (fun i => [.int .i64 ((d0_1.getD i (0, 0)).1), .int .i64 ((d0_1.getD i (0, 0)).2)])], .intp .i64 d1] fuel]]), (12, .int .i64 (way.getD ((way.length : Int) - 1).toNat 0)), (41, .int .i64 c3_0), (42, .int .i64 v), (59, .func 74 [.intp .i64 c0, .abs pl0 0 0, .immp [.func 76 [.immp [.int .i64 d0_0, .fn 2 d0_1.length (fun i => [.int .i64 ((d0_1.getD i (0, 0)).1), .int .i64 ((d0_1.getD i (0, 0)).2)])], .intp .i64 d1, cyc2 74 [.intp .i64 c0, .abs pl0 0 0] [.immp [.int .i64 c3_0, .fn 2 c3_1.length (fun i => [.int .i64 ((c3_1.getD i (0, 0)).1), .int .i64 ((c3_1.getD i (0, 0)).2)])]] 76 [.immp [.int .i64 d0_0, .fn 2 d0_1.length (fun i => [.int .i64 ((d0_1.getD i (0, 0)).1), .int .i64 ((d0_1.getD i (0, 0)).2)])], .intp .i64 d1] fuel]], .immp [.int .i64 c3_0, .fn 2 c3_1.length (fun i => [.int .i64 ((c3_1.getD i (0, 0)).1), .int .i64 ((c3_1.getD i (0, 0)).2)])], cyc2 74 [.intp .i64 c0, .abs pl0 0 0] [.immp [.int .i64 c3_0, .fn 2 c3_1.length (fun i => [.int .i64 ((c3_1.getD i (0, 0)).1), .int .i64 ((c3_1.getD i (0, 0)).2)])]] 76 [.immp [.int .i64 d0_0, .fn 2 d0_1.length (fun i => [.int .i64 ((d0_1.getD i (0, 0)).1), .int .i64 ((d0_1.getD i (0, 0)).2)])], .intp .i64 d1] fuel]), (60, .ints .i64 way), (63, .own 3 1), (65, .int .i64 a1), (67, .int .i64 (2 ^ v.toNat : Int)), (69, .int .i64 a2)], [some (.gen 47 1 [[.own 1 q02.length]]), some (.gen 22 1 (List.map (fun e => [.ints .i64 e]) q02)), some (.pin 0 pl0), some (.ints 3 .i64 [v])]⟩) (hn21 : AA 4 #[true, true, false, true, false, false, true, true, true, true, true, false] ⟨72, [(0, .ints .i64 way), (1, .int .i64 a1), (2, .int .i64 a2), (6, .immp [.int .i64 c3_0, .fn 2 c3_1.length (fun i => [.int .i64 ((c3_1.getD i (0, 0)).1), .int .i64 ((c3_1.getD i (0, 0)).2)])]), (7, .immp [.func 74 [.intp .i64 c0, .abs pl0 0 0, .immp [.func 76 [.immp [.int .i64 d0_0, .fn 2 d0_1.length (fun i => [.int .i64 ((d0_1.getD i (0, 0)).1), .int .i64 ((d0_1.getD i (0, 0)).2)])], .intp .i64 d1, cyc2 74 [.intp .i64 c0, .abs pl0 0 0] [.immp [.int .i64 c3_0, .fn 2 c3_1.length (fun i => [.int .i64 ((c3_1.getD i (0, 0)).1), .int .i64 ((c3_1.getD i (0, 0)).2)])]] 76 [.immp [.int .i64 d0_0, .fn 2 d0_1.length (fun i => [.int .i64 ((d0_1.getD i (0, 0)).1), .int .i64 ((d0_1.getD i (0, 0)).2)])], .intp .i64 d1] fuel]], .immp [.int .i64 c3_0, .fn 2 c3_1.length (fun i => [.int .i64 ((c3_1.getD i (0, 0)).1), .int .i64 ((c3_1.getD i (0, 0)).2)])], cyc2 74 [.intp .i64 c0, .abs pl0 0 0] [.immp [.int .i64 c3_0, .fn 2 c3_1.length (fun i => [.int .i64 ((c3_1.getD i (0, 0)).1), .int .i64 ((c3_1.getD i (0, 0)).2)])]] 76 [.immp [.int .i64 d0_0, .fn 2 d0_1.length (fun i => [.int .i64 ((d0_1.getD i (0, 0)).1), .int .i64 ((d0_1.getD i (0, 0)).2)])], .intp .i64 d1] fuel]]), (12, .int .i64 (way.getD ((way.length : Int) - 1).toNat 0)), (41, .int .i64 c3_0), (42, .int .i64 v), (59, .func 74 [.intp .i64 c0, .abs pl0 0 0, .immp [.func 76 [.immp [.int .i64 d0_0, .fn 2 d0_1.length (fun i => [.int .i64 ((d0_1.getD i (0, 0)).1), .int .i64 ((d0_1.getD i (0, 0)).2)])], .intp .i64 d1, cyc2 74 [.intp .i64 c0, .abs pl0 0 0] [.immp [.int .i64 c3_0, .fn 2 c3_1.length (fun i => [.int .i64 ((c3_1.getD i (0, 0)).1), .int .i64 ((c3_1.getD i (0, 0)).2)])]] 76 [.immp [.int .i64 d0_0, .fn 2 d0_1.length (fun i => [.int .i64 ((d0_1.getD i (0, 0)).1), .int .i64 ((d0_1.getD i (0, 0)).2)])], .intp .i64 d1] fuel]], .immp [.int .i64 c3_0, .fn 2 c3_1.length (fun i => [.int .i64 ((c3_1.getD i (0, 0)).1), .int .i64 ((c3_1.getD i (0, 0)).2)])], cyc2 74 [.intp .i64 c0, .abs pl0 0 0] [.immp [.int .i64 c3_0, .fn 2 c3_1.length (fun i => [.int .i64 ((c3_1.getD i (0, 0)).1), .int .i64 ((c3_1.getD i (0, 0)).2)])]] 76 [.immp [.int .i64 d0_0, .fn 2 d0_1.length (fun i => [.int .i64 ((d0_1.getD i (0, 0)).1), .int .i64 ((d0_1.getD i (0, 0)).2)])], .intp .i64 d1] fuel]), (60, .ints .i64 way), (62, .int .i64 v), (68, .int .i64 (ior a1 (2 ^ v.toNat : Int))), (69, .int .i64 a2)], [some (.gen 47 1 [[.own 1 q02.length]]), some (.gen 22 1 (List.map (fun e => [.ints .i64 e]) q02)), some (.pin 0 pl0)]⟩) : AA 5 #[true, true, false, true, false, false, true, true, true, false, true, false] ⟨72, [(0, .ints .i64 way), (1, .int .i64 a1), (2, .int .i64 a2), (6, .immp [.int .i64 c3_0, .fn 2 c3_1.length (fun i => [.int .i64 ((c3_1.getD i (0, 0)).1), .int .i64 ((c3_1.getD i (0, 0)).2)])]), (7, .immp [.func 74 [.intp .i64 c0, .abs pl0 0 0, .immp [.func 76 [.immp [.int .i64 d0_0, .fn 2 d0_1.length (fun i => [.int .i64 ((d0_1.getD i (0, 0)).1), .int .i64 ((d0_1.getD i (0, 0)).2)])], .intp .i64 d1, cyc2 74 [.intp .i64 c0, .abs pl0 0 0] [.immp [.int .i64 c3_0, .fn 2 c3_1.length (fun i => [.int .i64 ((c3_1.getD i (0, 0)).1), .int .i64 ((c3_1.getD i (0, 0)).2)])]] 76 [.immp [.int .i64 d0_0, .fn 2 d0_1.length (fun i => [.int .i64 ((d0_1.getD i (0, 0)).1), .int .i64 ((d0_1.getD i (0, 0)).2)])], .intp .i64 d1] fuel]], .immp [.int .i64 c3_0, .fn 2 c3_1.length (fun i => [.int .i64 ((c3_1.getD i (0, 0)).1), .int .i64 ((c3_1.getD i (0, 0)).2)])], cyc2 74 [.intp .i64 c0, .abs pl0 0 0] [.immp [.int .i64 c3_0, .fn 2 c3_1.length (fun i => [.int .i64 ((c3_1.getD i (0, 0)).1), .int .i64 ((c3_1.getD i (0, 0)).2)])]] 76 [.immp [.int .i64 d0_0, .fn 2 d0_1.length (fun i => [.int .i64 ((d0_1.getD i (0, 0)).1), .int .i64 ((d0_1.getD i (0, 0)).2)])], .intp .i64 d1] fuel]]), (12, .int .i64 (way.getD ((way.length : Int) - 1).toNat 0)), (41, .int .i64 c3_0), (42, .int .i64 v), (59, .func 74 [.intp .i64 c0, .abs pl0 0 0, .immp [.func 76 [.immp [.int .i64 d0_0, .fn 2 d0_1.length (fun i => [.int .i64 ((d0_1.getD i (0, 0)).1), .int .i64 ((d0_1.getD i (0, 0)).2)])], .intp .i64 d1, cyc2 74 [.intp .i64 c0, .abs pl0 0 0] [.immp [.int .i64 c3_0, .fn 2 c3_1.length (fun i => [.int .i64 ((c3_1.getD i (0, 0)).1), .int .i64 ((c3_1.getD i (0, 0)).2)])]] 76 [.immp [.int .i64 d0_0, .fn 2 d0_1.length (fun i => [.int .i64 ((d0_1.getD i (0, 0)).1), .int .i64 ((d0_1.getD i (0, 0)).2)])], .intp .i64 d1] fuel]], .immp [.int .i64 c3_0, .fn 2 c3_1.length (fun i => [.int .i64 ((c3_1.getD i (0, 0)).1), .int .i64 ((c3_1.getD i (0, 0)).2)])], cyc2 74 [.intp .i64 c0, .abs pl0 0 0] [.immp [.int .i64 c3_0, .fn 2 c3_1.length (fun i => [.int .i64 ((c3_1.getD i (0, 0)).1), .int .i64 ((c3_1.getD i (0, 0)).2)])]] 76 [.immp [.int .i64 d0_0, .fn 2 d0_1.length (fun i => [.int .i64 ((d0_1.getD i (0, 0)).1), .int .i64 ((d0_1.getD i (0, 0)).2)])], .intp .i64 d1] fuel]), (60, .ints .i64 way), (62, .int .i64 v), (65, .int .i64 a1), (67, .int .i64 (2 ^ v.toNat : Int)), (69, .int .i64 a2)], [some (.gen 47 1 [[.own 1 q02.length]]), some (.gen 22 1 (List.map (fun e => [.ints .i64 e]) q02)), some (.pin 0 pl0)]⟩ := (hAA _ _ _).2 (by
  have h8x := h8; simp only [List.length_append, List.length_cons, List.length_nil] at h8x
  refine AWPB_three 2 4 9 _ _ _ ceg_links_Ways_1_11_43 rfl rfl rfl ?_ ?_ ?_
  ·skip
   refine AWPL_cloneI [0, 1, 2, 6, 7, 12, 41, 42, 59, 61, 62, 63, 64, 65, 67, 68, 69, 70] 3 Try.laysNm215 rfl rfl pcT rfl Try.call75 (of_decide_eq_true rfl) rfl h7 rfl fun st' hr => ?_
   simp only [go_sem] at hr
   subst hr
   refine AWPL_nil ?_
   refine QB_normal ?_
   exact AWPB_wk [0, 1, 2, 3] mkWk ((hAA _ _ _).1 hn16)
  ·skip
   refine AWPL_rn tab_ok 1 [0, 1, 2, 6, 7, 12, 41, 42, 59, 60, 61, 63, 64, 65, 67, 68, 69, 70] fun c st' hr => ?_
   simp only [go_sem] at hr
   obtain ⟨rfl, rfl⟩ := hr
   refine ⟨vc, ?_⟩
   refine AWPL_nil ?_
   refine QB_normal ?_
   exact AWPB_wk [0, 1, 2, 3] mkWk ((hAA _ _ _).1 hn19)
  ·skip
   refine AWPL_rn tab_ok 1 [0, 1, 2, 6, 7, 12, 41, 42, 59, 60, 61, 62, 63, 64, 68, 69, 70] fun c st' hr => ?_
   simp only [go_sem] at hr
   obtain ⟨rfl, rfl⟩ := hr
   refine ⟨vc, ?_⟩
   refine AWPL_nil ?_
   refine QB_normal ?_
   exact AWPB_wk [0, 1, 2] mkWk ((hAA _ _ _).1 hn21))

theorem ceg_links_Ways_1_11_45 : (Region.ready .any reg_links_Ways_1_11.toArray #[true, true, false, true, false, false, true, true, false, false, true, false] == [2, 4, 8]) = true := by kernel_rfl

theorem J_links_Ways_1_11_hn23 {way : List Int} {a1 : Int} {a2 : Int} {c0 : Int} {d0_0 : Int} {d0_1 : List (Int × Int)} {d1 : Int} {c3_0 : Int} {c3_1 : List (Int × Int)} {fuel : Nat} {pl0 : AX.Loc} {y2 : Bool × List (List Int)} {q02 : List (List Int)} {v : Int} (h7 : (way.length ≤ 17592186044416)) (h8 : ((way ++ [v]).length ≤ 8796093022208)) (h9 : (0 ≤ v ∧ v ≤ 62)) (hy : links_Ways_1 fuel (way ++ [v]) (ior a1 (2 ^ v.toNat : Int)) a2 c0 d0_0 d0_1 d1 c3_0 c3_1 q02 = some y2) {w0 : World} {Q : Exit → St → Prop} {AA : Nat → Array Bool → St → Prop} (hAA : ∀ g L st, AA g L st ↔ AWPB Try.prog w0 reg_links_Ways_1_11.toArray Q g L st) (hn17 : AA 5 #[true, true, true, true, false, false, true, true, false, false, true, false] ⟨72, [(0, .ints .i64 way), (1, .int .i64 a1), (2, .int .i64 a2), (6, .immp [.int .i64 c3_0, .fn 2 c3_1.length (fun i => [.int .i64 ((c3_1.getD i (0, 0)).1), .int .i64 ((c3_1.getD i (0, 0)).2)])]), (7, .immp [.func 74 [.intp .i64 c0, .abs pl0 0 0, .immp [.func 76 [.immp [.int .i64 d0_0, .fn 2 d0_1.length (fun i => [.int .i64 ((d0_1.getD i (0, 0)).1), .int .i64 ((d0_1.getD i (0, 0)).2)])], .intp .i64 d1, cyc2 74 [.intp .i64 c0, .abs pl0 0 0] [.immp [.int .i64 c3_0, .fn 2 c3_1.length (fun i => [.int .i64 ((c3_1.getD i (0, 0)).1), .int .i64 ((c3_1.getD i (0, 0)).2)])]] 76 [.immp [.int .i64 d0_0, .fn 2 d0_1.length (fun i => [.int .i64 ((d0_1.getD i (0, 0)).1), .int .i64 ((d0_1.getD i (0, 0)).2)])], .intp .i64 d1] fuel]], .immp [.int .i64 c3_0, .fn 2 c3_1.length (fun i => [.int .i64 ((c3_1.getD i (0, 0)).1), .int .i64 ((c3_1.getD i (0, 0)).2)])], cyc2 74 [.intp .i64 c0, .abs pl0 0 0] [.immp [.int .i64 c3_0, .fn 2 c3_1.length (fun i => [.int .i64 ((c3_1.getD i (0, 0)).1), .int .i64 ((c3_1.getD i (0, 0)).2)])]] 76 [.immp [.int .i64 d0_0, .fn 2 d0_1.length (fun i => [.int .i64 ((d0_1.getD i (0, 0)).1), .int .i64 ((d0_1.getD i (0, 0)).2)])], .intp .i64 d1] fuel]]), (12, .int .i64 (way.getD ((way.length : Int) - 1).toNat 0)), (41, .int .i64 c3_0), (42, .int .i64 v), (59, .func 74 [.intp .i64 c0, .abs pl0 0 0, .immp [.func 76 [.immp [.int .i64 d0_0, .fn 2 d0_1.length (fun i => [.int .i64 ((d0_1.getD i (0, 0)).1), .int .i64 ((d0_1.getD i (0, 0)).2)])], .intp .i64 d1, cyc2 74 [.intp .i64 c0, .abs pl0 0 0] [.immp [.int .i64 c3_0, .fn 2 c3_1.length (fun i => [.int .i64 ((c3_1.getD i (0, 0)).1), .int .i64 ((c3_1.getD i (0, 0)).2)])]] 76 [.immp [.int .i64 d0_0, .fn 2 d0_1.length (fun i => [.int .i64 ((d0_1.getD i (0, 0)).1), .int .i64 ((d0_1.getD i (0, 0)).2)])], .intp .i64 d1] fuel]], .immp [.int .i64 c3_0, .fn 2 c3_1.length (fun i => [.int .i64 ((c3_1.getD i (0, 0)).1), .int .i64 ((c3_1.getD i (0, 0)).2)])], cyc2 74 [.intp .i64 c0, .abs pl0 0 0] [.immp [.int .i64 c3_0, .fn 2 c3_1.length (fun i => [.int .i64 ((c3_1.getD i (0, 0)).1), .int .i64 ((c3_1.getD i (0, 0)).2)])]] 76 [.immp [.int .i64 d0_0, .fn 2 d0_1.length (fun i => [.int .i64 ((d0_1.getD i (0, 0)).1), .int .i64 ((d0_1.getD i (0, 0)).2)])], .intp .i64 d1] fuel]), (61, .own 3 way.length), (62, .int .i64 v), (65, .int .i64 a1), (66, .int .i64 v), (69, .int .i64 a2)], [some (.gen 47 1 [[.own 1 q02.length]]), some (.gen 22 1 (List.map (fun e => [.ints .i64 e]) q02)), some (.pin 0 pl0), some (.ints 3 .i64 way)]⟩) (hn20 : AA 5 #[true, true, false, true, true, false, true, true, false, false, true, false] ⟨72, [(0, .ints .i64 way), (1, .int .i64 a1), (2, .int .i64 a2), (6, .immp [.int .i64 c3_0, .fn 2 c3_1.length (fun i => [.int .i64 ((c3_1.getD i (0, 0)).1), .int .i64 ((c3_1.getD i (0, 0)).2)])]), (7, .immp [.func 74 [.intp .i64 c0, .abs pl0 0 0, .immp [.func 76 [.immp [.int .i64 d0_0, .fn 2 d0_1.length (fun i => [.int .i64 ((d0_1.getD i (0, 0)).1), .int .i64 ((d0_1.getD i (0, 0)).2)])], .intp .i64 d1, cyc2 74 [.intp .i64 c0, .abs pl0 0 0] [.immp [.int .i64 c3_0, .fn 2 c3_1.length (fun i => [.int .i64 ((c3_1.getD i (0, 0)).1), .int .i64 ((c3_1.getD i (0, 0)).2)])]] 76 [.immp [.int .i64 d0_0, .fn 2 d0_1.length (fun i => [.int .i64 ((d0_1.getD i (0, 0)).1), .int .i64 ((d0_1.getD i (0, 0)).2)])], .intp .i64 d1] fuel]], .immp [.int .i64 c3_0, .fn 2 c3_1.length (fun i => [.int .i64 ((c3_1.getD i (0, 0)).1), .int .i64 ((c3_1.getD i (0, 0)).2)])], cyc2 74 [.intp .i64 c0, .abs pl0 0 0] [.immp [.int .i64 c3_0, .fn 2 c3_1.length (fun i => [.int .i64 ((c3_1.getD i (0, 0)).1), .int .i64 ((c3_1.getD i (0, 0)).2)])]] 76 [.immp [.int .i64 d0_0, .fn 2 d0_1.length (fun i => [.int .i64 ((d0_1.getD i (0, 0)).1), .int .i64 ((d0_1.getD i (0, 0)).2)])], .intp .i64 d1] fuel]]), (12, .int .i64 (way.getD ((way.length : Int) - 1).toNat 0)), (41, .int .i64 c3_0), (42, .int .i64 v), (59, .func 74 [.intp .i64 c0, .abs pl0 0 0, .immp [.func 76 [.immp [.int .i64 d0_0, .fn 2 d0_1.length (fun i => [.int .i64 ((d0_1.getD i (0, 0)).1), .int .i64 ((d0_1.getD i (0, 0)).2)])], .intp .i64 d1, cyc2 74 [.intp .i64 c0, .abs pl0 0 0] [.immp [.int .i64 c3_0, .fn 2 c3_1.length (fun i => [.int .i64 ((c3_1.getD i (0, 0)).1), .int .i64 ((c3_1.getD i (0, 0)).2)])]] 76 [.immp [.int .i64 d0_0, .fn 2 d0_1.length (fun i => [.int .i64 ((d0_1.getD i (0, 0)).1), .int .i64 ((d0_1.getD i (0, 0)).2)])], .intp .i64 d1] fuel]], .immp [.int .i64 c3_0, .fn 2 c3_1.length (fun i => [.int .i64 ((c3_1.getD i (0, 0)).1), .int .i64 ((c3_1.getD i (0, 0)).2)])], cyc2 74 [.intp .i64 c0, .abs pl0 0 0] [.immp [.int .i64 c3_0, .fn 2 c3_1.length (fun i => [.int .i64 ((c3_1.getD i (0, 0)).1), .int .i64 ((c3_1.getD i (0, 0)).2)])]] 76 [.immp [.int .i64 d0_0, .fn 2 d0_1.length (fun i => [.int .i64 ((d0_1.getD i (0, 0)).1), .int .i64 ((d0_1.getD i (0, 0)).2)])], .intp .i64 d1] fuel]), (60, .ints .i64 way), (63, .own 3 1), (65, .int .i64 a1), (66, .int .i64 v), (69, .int .i64 a2)], [some (.gen 47 1 [[.own 1 q02.length]]), some (.gen 22 1 (List.map (fun e => [.ints .i64 e]) q02)), some (.pin 0 pl0), some (.ints 3 .i64 [v])]⟩) (hn22 : AA 5 #[true, true, false, true, false, false, true, true, true, false, true, false] ⟨72, [(0, .ints .i64 way), (1, .int .i64 a1), (2, .int .i64 a2), (6, .immp [.int .i64 c3_0, .fn 2 c3_1.length (fun i => [.int .i64 ((c3_1.getD i (0, 0)).1), .int .i64 ((c3_1.getD i (0, 0)).2)])]), (7, .immp [.func 74 [.intp .i64 c0, .abs pl0 0 0, .immp [.func 76 [.immp [.int .i64 d0_0, .fn 2 d0_1.length (fun i => [.int .i64 ((d0_1.getD i (0, 0)).1), .int .i64 ((d0_1.getD i (0, 0)).2)])], .intp .i64 d1, cyc2 74 [.intp .i64 c0, .abs pl0 0 0] [.immp [.int .i64 c3_0, .fn 2 c3_1.length (fun i => [.int .i64 ((c3_1.getD i (0, 0)).1), .int .i64 ((c3_1.getD i (0, 0)).2)])]] 76 [.immp [.int .i64 d0_0, .fn 2 d0_1.length (fun i => [.int .i64 ((d0_1.getD i (0, 0)).1), .int .i64 ((d0_1.getD i (0, 0)).2)])], .intp .i64 d1] fuel]], .immp [.int .i64 c3_0, .fn 2 c3_1.length (fun i => [.int .i64 ((c3_1.getD i (0, 0)).1), .int .i64 ((c3_1.getD i (0, 0)).2)])], cyc2 74 [.intp .i64 c0, .abs pl0 0 0] [.immp [.int .i64 c3_0, .fn 2 c3_1.length (fun i => [.int .i64 ((c3_1.getD i (0, 0)).1), .int .i64 ((c3_1.getD i (0, 0)).2)])]] 76 [.immp [.int .i64 d0_0, .fn 2 d0_1.length (fun i => [.int .i64 ((d0_1.getD i (0, 0)).1), .int .i64 ((d0_1.getD i (0, 0)).2)])], .intp .i64 d1] fuel]]), (12, .int .i64 (way.getD ((way.length : Int) - 1).toNat 0)), (41, .int .i64 c3_0), (42, .int .i64 v), (59, .func 74 [.intp .i64 c0, .abs pl0 0 0, .immp [.func 76 [.immp [.int .i64 d0_0, .fn 2 d0_1.length (fun i => [.int .i64 ((d0_1.getD i (0, 0)).1), .int .i64 ((d0_1.getD i (0, 0)).2)])], .intp .i64 d1, cyc2 74 [.intp .i64 c0, .abs pl0 0 0] [.immp [.int .i64 c3_0, .fn 2 c3_1.length (fun i => [.int .i64 ((c3_1.getD i (0, 0)).1), .int .i64 ((c3_1.getD i (0, 0)).2)])]] 76 [.immp [.int .i64 d0_0, .fn 2 d0_1.length (fun i => [.int .i64 ((d0_1.getD i (0, 0)).1), .int .i64 ((d0_1.getD i (0, 0)).2)])], .intp .i64 d1] fuel]], .immp [.int .i64 c3_0, .fn 2 c3_1.length (fun i => [.int .i64 ((c3_1.getD i (0, 0)).1), .int .i64 ((c3_1.getD i (0, 0)).2)])], cyc2 74 [.intp .i64 c0, .abs pl0 0 0] [.immp [.int .i64 c3_0, .fn 2 c3_1.length (fun i => [.int .i64 ((c3_1.getD i (0, 0)).1), .int .i64 ((c3_1.getD i (0, 0)).2)])]] 76 [.immp [.int .i64 d0_0, .fn 2 d0_1.length (fun i => [.int .i64 ((d0_1.getD i (0, 0)).1), .int .i64 ((d0_1.getD i (0, 0)).2)])], .intp .i64 d1] fuel]), (60, .ints .i64 way), (62, .int .i64 v), (65, .int .i64 a1), (67, .int .i64 (2 ^ v.toNat : Int)), (69, .int .i64 a2)], [some (.gen 47 1 [[.own 1 q02.length]]), some (.gen 22 1 (List.map (fun e => [.ints .i64 e]) q02)), some (.pin 0 pl0)]⟩) : AA 6 #[true, true, false, true, false, false, true, true, false, false, true, false] ⟨72, [(0, .ints .i64 way), (1, .int .i64 a1), (2, .int .i64 a2), (6, .immp [.int .i64 c3_0, .fn 2 c3_1.length (fun i => [.int .i64 ((c3_1.getD i (0, 0)).1), .int .i64 ((c3_1.getD i (0, 0)).2)])]), (7, .immp [.func 74 [.intp .i64 c0, .abs pl0 0 0, .immp [.func 76 [.immp [.int .i64 d0_0, .fn 2 d0_1.length (fun i => [.int .i64 ((d0_1.getD i (0, 0)).1), .int .i64 ((d0_1.getD i (0, 0)).2)])], .intp .i64 d1, cyc2 74 [.intp .i64 c0, .abs pl0 0 0] [.immp [.int .i64 c3_0, .fn 2 c3_1.length (fun i => [.int .i64 ((c3_1.getD i (0, 0)).1), .int .i64 ((c3_1.getD i (0, 0)).2)])]] 76 [.immp [.int .i64 d0_0, .fn 2 d0_1.length (fun i => [.int .i64 ((d0_1.getD i (0, 0)).1), .int .i64 ((d0_1.getD i (0, 0)).2)])], .intp .i64 d1] fuel]], .immp [.int .i64 c3_0, .fn 2 c3_1.length (fun i => [.int .i64 ((c3_1.getD i (0, 0)).1), .int .i64 ((c3_1.getD i (0, 0)).2)])], cyc2 74 [.intp .i64 c0, .abs pl0 0 0] [.immp [.int .i64 c3_0, .fn 2 c3_1.length (fun i => [.int .i64 ((c3_1.getD i (0, 0)).1), .int .i64 ((c3_1.getD i (0, 0)).2)])]] 76 [.immp [.int .i64 d0_0, .fn 2 d0_1.length (fun i => [.int .i64 ((d0_1.getD i (0, 0)).1), .int .i64 ((d0_1.getD i (0, 0)).2)])], .intp .i64 d1] fuel]]), (12, .int .i64 (way.getD ((way.length : Int) - 1).toNat 0)), (41, .int .i64 c3_0), (42, .int .i64 v), (59, .func 74 [.intp .i64 c0, .abs pl0 0 0, .immp [.func 76 [.immp [.int .i64 d0_0, .fn 2 d0_1.length (fun i => [.int .i64 ((d0_1.getD i (0, 0)).1), .int .i64 ((d0_1.getD i (0, 0)).2)])], .intp .i64 d1, cyc2 74 [.intp .i64 c0, .abs pl0 0 0] [.immp [.int .i64 c3_0, .fn 2 c3_1.length (fun i => [.int .i64 ((c3_1.getD i (0, 0)).1), .int .i64 ((c3_1.getD i (0, 0)).2)])]] 76 [.immp [.int .i64 d0_0, .fn 2 d0_1.length (fun i => [.int .i64 ((d0_1.getD i (0, 0)).1), .int .i64 ((d0_1.getD i (0, 0)).2)])], .intp .i64 d1] fuel]], .immp [.int .i64 c3_0, .fn 2 c3_1.length (fun i => [.int .i64 ((c3_1.getD i (0, 0)).1), .int .i64 ((c3_1.getD i (0, 0)).2)])], cyc2 74 [.intp .i64 c0, .abs pl0 0 0] [.immp [.int .i64 c3_0, .fn 2 c3_1.length (fun i => [.int .i64 ((c3_1.getD i (0, 0)).1), .int .i64 ((c3_1.getD i (0, 0)).2)])]] 76 [.immp [.int .i64 d0_0, .fn 2 d0_1.length (fun i => [.int .i64 ((d0_1.getD i (0, 0)).1), .int .i64 ((d0_1.getD i (0, 0)).2)])], .intp .i64 d1] fuel]), (60, .ints .i64 way), (62, .int .i64 v), (65, .int .i64 a1), (66, .int .i64 v), (69, .int .i64 a2)], [some (.gen 47 1 [[.own 1 q02.length]]), some (.gen 22 1 (List.map (fun e => [.ints .i64 e]) q02)), some (.pin 0 pl0)]⟩ := (hAA _ _ _).2 (by
  have h8x := h8; simp only [List.length_append, List.length_cons, List.length_nil] at h8x
  refine AWPB_three 2 4 8 _ _ _ ceg_links_Ways_1_11_45 rfl rfl rfl ?_ ?_ ?_
  ·skip
   refine AWPL_cloneI [0, 1, 2, 6, 7, 12, 41, 42, 59, 61, 62, 63, 64, 65, 66, 67, 68, 69, 70] 3 Try.laysNm215 rfl rfl pcT rfl Try.call75 (of_decide_eq_true rfl) rfl h7 rfl fun st' hr => ?_
   simp only [go_sem] at hr
   subst hr
   refine AWPL_nil ?_
   refine QB_normal ?_
   exact AWPB_wk [0, 1, 2, 3] mkWk ((hAA _ _ _).1 hn17)
  ·skip
   refine AWPL_rn tab_ok 1 [0, 1, 2, 6, 7, 12, 41, 42, 59, 60, 61, 63, 64, 65, 66, 67, 68, 69, 70] fun c st' hr => ?_
   simp only [go_sem] at hr
   obtain ⟨rfl, rfl⟩ := hr
   refine ⟨vc, ?_⟩
   refine AWPL_nil ?_
   refine QB_normal ?_
   exact AWPB_wk [0, 1, 2, 3] mkWk ((hAA _ _ _).1 hn20)
  ·skip
   refine AWPL_rn tab_ok 1 [0, 1, 2, 6, 7, 12, 41, 42, 59, 60, 61, 62, 63, 64, 65, 67, 68, 69, 70] fun c st' hr => ?_
   simp only [go_sem] at hr
   obtain ⟨rfl, rfl⟩ := hr
   refine ⟨vc, ?_⟩
   refine AWPL_nil ?_
   refine QB_normal ?_
   exact AWPB_wk [0, 1, 2] mkWk ((hAA _ _ _).1 hn22))

theorem ceg_links_Ways_1_11_47 : firstOk reg_links_Ways_1_11.toArray #[false, true, true, true, true, true, true, true, false, false, true, false] 8 [9, 11] = true := by kernel_rfl

theorem ceg_links_Ways_1_11_48 : firstOk reg_links_Ways_1_11.toArray #[false, true, true, true, true, true, true, true, true, false, true, false] 9 [11] = true := by kernel_rfl

theorem ceg_links_Ways_1_11_49 : firstOk reg_links_Ways_1_11.toArray #[false, true, true, true, true, true, true, true, true, true, true, false] 0 [11] = true := by kernel_rfl

theorem J_links_Ways_1_11_hn24 {way : List Int} {a1 : Int} {a2 : Int} {c0 : Int} {d0_0 : Int} {d0_1 : List (Int × Int)} {d1 : Int} {c3_0 : Int} {c3_1 : List (Int × Int)} {fuel : Nat} {pl0 : AX.Loc} {y2 : Bool × List (List Int)} {q02 : List (List Int)} {v : Int} (h7 : (way.length ≤ 17592186044416)) (h8 : ((way ++ [v]).length ≤ 8796093022208)) (h9 : (0 ≤ v ∧ v ≤ 62)) (hy : links_Ways_1 fuel (way ++ [v]) (ior a1 (2 ^ v.toNat : Int)) a2 c0 d0_0 d0_1 d1 c3_0 c3_1 q02 = some y2) {w0 : World} {Q : Exit → St → Prop} {AA : Nat → Array Bool → St → Prop} (hAA : ∀ g L st, AA g L st ↔ AWPB Try.prog w0 reg_links_Ways_1_11.toArray Q g L st) (hn9 : AA 1 #[true, true, true, true, true, true, true, true, true, true, true, false] ⟨72, [(0, .ints .i64 way), (1, .int .i64 a1), (2, .int .i64 a2), (6, .immp [.int .i64 c3_0, .fn 2 c3_1.length (fun i => [.int .i64 ((c3_1.getD i (0, 0)).1), .int .i64 ((c3_1.getD i (0, 0)).2)])]), (7, .immp [.func 74 [.intp .i64 c0, .abs pl0 0 0, .immp [.func 76 [.immp [.int .i64 d0_0, .fn 2 d0_1.length (fun i => [.int .i64 ((d0_1.getD i (0, 0)).1), .int .i64 ((d0_1.getD i (0, 0)).2)])], .intp .i64 d1, cyc2 74 [.intp .i64 c0, .abs pl0 0 0] [.immp [.int .i64 c3_0, .fn 2 c3_1.length (fun i => [.int .i64 ((c3_1.getD i (0, 0)).1), .int .i64 ((c3_1.getD i (0, 0)).2)])]] 76 [.immp [.int .i64 d0_0, .fn 2 d0_1.length (fun i => [.int .i64 ((d0_1.getD i (0, 0)).1), .int .i64 ((d0_1.getD i (0, 0)).2)])], .intp .i64 d1] fuel]], .immp [.int .i64 c3_0, .fn 2 c3_1.length (fun i => [.int .i64 ((c3_1.getD i (0, 0)).1), .int .i64 ((c3_1.getD i (0, 0)).2)])], cyc2 74 [.intp .i64 c0, .abs pl0 0 0] [.immp [.int .i64 c3_0, .fn 2 c3_1.length (fun i => [.int .i64 ((c3_1.getD i (0, 0)).1), .int .i64 ((c3_1.getD i (0, 0)).2)])]] 76 [.immp [.int .i64 d0_0, .fn 2 d0_1.length (fun i => [.int .i64 ((d0_1.getD i (0, 0)).1), .int .i64 ((d0_1.getD i (0, 0)).2)])], .intp .i64 d1] fuel]]), (12, .int .i64 (way.getD ((way.length : Int) - 1).toNat 0)), (41, .int .i64 c3_0), (42, .int .i64 v), (59, .func 74 [.intp .i64 c0, .abs pl0 0 0, .immp [.func 76 [.immp [.int .i64 d0_0, .fn 2 d0_1.length (fun i => [.int .i64 ((d0_1.getD i (0, 0)).1), .int .i64 ((d0_1.getD i (0, 0)).2)])], .intp .i64 d1, cyc2 74 [.intp .i64 c0, .abs pl0 0 0] [.immp [.int .i64 c3_0, .fn 2 c3_1.length (fun i => [.int .i64 ((c3_1.getD i (0, 0)).1), .int .i64 ((c3_1.getD i (0, 0)).2)])]] 76 [.immp [.int .i64 d0_0, .fn 2 d0_1.length (fun i => [.int .i64 ((d0_1.getD i (0, 0)).1), .int .i64 ((d0_1.getD i (0, 0)).2)])], .intp .i64 d1] fuel]], .immp [.int .i64 c3_0, .fn 2 c3_1.length (fun i => [.int .i64 ((c3_1.getD i (0, 0)).1), .int .i64 ((c3_1.getD i (0, 0)).2)])], cyc2 74 [.intp .i64 c0, .abs pl0 0 0] [.immp [.int .i64 c3_0, .fn 2 c3_1.length (fun i => [.int .i64 ((c3_1.getD i (0, 0)).1), .int .i64 ((c3_1.getD i (0, 0)).2)])]] 76 [.immp [.int .i64 d0_0, .fn 2 d0_1.length (fun i => [.int .i64 ((d0_1.getD i (0, 0)).1), .int .i64 ((d0_1.getD i (0, 0)).2)])], .intp .i64 d1] fuel]), (64, .own 5 ((way ++ [v]).length)), (68, .int .i64 (ior a1 (2 ^ v.toNat : Int))), (69, .int .i64 a2)], [some (.gen 47 1 [[.own 1 q02.length]]), some (.gen 22 1 (List.map (fun e => [.ints .i64 e]) q02)), some (.pin 0 pl0), none, some (.ints 3 .i64 [v]), some (.ints 3 .i64 (way ++ [v]))]⟩) : AA 4 #[false, true, true, true, true, true, true, true, false, false, true, false] ⟨72, [(0, .ints .i64 way), (1, .int .i64 a1), (2, .int .i64 a2), (6, .immp [.int .i64 c3_0, .fn 2 c3_1.length (fun i => [.int .i64 ((c3_1.getD i (0, 0)).1), .int .i64 ((c3_1.getD i (0, 0)).2)])]), (7, .immp [.func 74 [.intp .i64 c0, .abs pl0 0 0, .immp [.func 76 [.immp [.int .i64 d0_0, .fn 2 d0_1.length (fun i => [.int .i64 ((d0_1.getD i (0, 0)).1), .int .i64 ((d0_1.getD i (0, 0)).2)])], .intp .i64 d1, cyc2 74 [.intp .i64 c0, .abs pl0 0 0] [.immp [.int .i64 c3_0, .fn 2 c3_1.length (fun i => [.int .i64 ((c3_1.getD i (0, 0)).1), .int .i64 ((c3_1.getD i (0, 0)).2)])]] 76 [.immp [.int .i64 d0_0, .fn 2 d0_1.length (fun i => [.int .i64 ((d0_1.getD i (0, 0)).1), .int .i64 ((d0_1.getD i (0, 0)).2)])], .intp .i64 d1] fuel]], .immp [.int .i64 c3_0, .fn 2 c3_1.length (fun i => [.int .i64 ((c3_1.getD i (0, 0)).1), .int .i64 ((c3_1.getD i (0, 0)).2)])], cyc2 74 [.intp .i64 c0, .abs pl0 0 0] [.immp [.int .i64 c3_0, .fn 2 c3_1.length (fun i => [.int .i64 ((c3_1.getD i (0, 0)).1), .int .i64 ((c3_1.getD i (0, 0)).2)])]] 76 [.immp [.int .i64 d0_0, .fn 2 d0_1.length (fun i => [.int .i64 ((d0_1.getD i (0, 0)).1), .int .i64 ((d0_1.getD i (0, 0)).2)])], .intp .i64 d1] fuel]]), (12, .int .i64 (way.getD ((way.length : Int) - 1).toNat 0)), (41, .int .i64 c3_0), (42, .int .i64 v), (64, .own 5 ((way ++ [v]).length)), (65, .int .i64 a1), (66, .int .i64 v), (69, .int .i64 a2)], [some (.gen 47 1 [[.own 1 q02.length]]), some (.gen 22 1 (List.map (fun e => [.ints .i64 e]) q02)), some (.pin 0 pl0), none, some (.ints 3 .i64 [v]), some (.ints 3 .i64 (way ++ [v]))]⟩ := (hAA _ _ _).2 (by
  have h8x := h8; simp only [List.length_append, List.length_cons, List.length_nil] at h8x
  refine AWPB_takeB tab_ok [0, 1, 2, 6, 7, 12, 41, 42, 59, 64, 65, 67, 68, 69, 70] 8 [9, 11] _ rfl ceg_links_Ways_1_11_47 fun c st' hr => ?_
  simp only [go_sem] at hr
  obtain ⟨rfl, rfl⟩ := hr
  refine ⟨vc, ?_⟩
  refine AWPB_takeB tab_ok [0, 1, 2, 6, 7, 12, 41, 42, 59, 64, 68, 69, 70] 9 [11] _ rfl ceg_links_Ways_1_11_48 fun c st' hr => ?_
  simp only [go_sem] at hr
  obtain ⟨rfl, rfl⟩ := hr
  refine ⟨vc, ?_⟩
  refine AWPB_takeB tab_ok [0, 1, 2, 6, 7, 12, 41, 42, 59, 64, 68, 69, 70] 0 [11] _ rfl ceg_links_Ways_1_11_49 fun c st' hr => ?_
  simp only [go_sem] at hr
  obtain ⟨rfl, rfl⟩ := hr
  refine ⟨vc, ?_⟩
  exact AWPB_wk [0, 1, 2, 3, 4, 5] mkWk ((hAA _ _ _).1 hn9))

theorem J_links_Ways_1_11_hn25 {way : List Int} {a1 : Int} {a2 : Int} {c0 : Int} {d0_0 : Int} {d0_1 : List (Int × Int)} {d1 : Int} {c3_0 : Int} {c3_1 : List (Int × Int)} {fuel : Nat} {pl0 : AX.Loc} {y2 : Bool × List (List Int)} {q02 : List (List Int)} {v : Int} (h7 : (way.length ≤ 17592186044416)) (h8 : ((way ++ [v]).length ≤ 8796093022208)) (h9 : (0 ≤ v ∧ v ≤ 62)) (hy : links_Ways_1 fuel (way ++ [v]) (ior a1 (2 ^ v.toNat : Int)) a2 c0 d0_0 d0_1 d1 c3_0 c3_1 q02 = some y2) {w0 : World} {Q : Exit → St → Prop} {AA : Nat → Array Bool → St → Prop} (hAA : ∀ g L st, AA g L st ↔ AWPB Try.prog w0 reg_links_Ways_1_11.toArray Q g L st) (hn9 : AA 1 #[true, true, true, true, true, true, true, true, true, true, true, false] ⟨72, [(0, .ints .i64 way), (1, .int .i64 a1), (2, .int .i64 a2), (6, .immp [.int .i64 c3_0, .fn 2 c3_1.length (fun i => [.int .i64 ((c3_1.getD i (0, 0)).1), .int .i64 ((c3_1.getD i (0, 0)).2)])]), (7, .immp [.func 74 [.intp .i64 c0, .abs pl0 0 0, .immp [.func 76 [.immp [.int .i64 d0_0, .fn 2 d0_1.length (fun i => [.int .i64 ((d0_1.getD i (0, 0)).1), .int .i64 ((d0_1.getD i (0, 0)).2)])], .intp .i64 d1, cyc2 74 [.intp .i64 c0, .abs pl0 0 0] [.immp [.int .i64 c3_0, .fn 2 c3_1.length (fun i => [.int .i64 ((c3_1.getD i (0, 0)).1), .int .i64 ((c3_1.getD i (0, 0)).2)])]] 76 [.immp [.int .i64 d0_0, .fn 2 d0_1.length (fun i => [.int .i64 ((d0_1.getD i (0, 0)).1), .int .i64 ((d0_1.getD i (0, 0)).2)])], .intp .i64 d1] fuel]], .immp [.int .i64 c3_0, .fn 2 c3_1.length (fun i => [.int .i64 ((c3_1.getD i (0, 0)).1), .int .i64 ((c3_1.getD i (0, 0)).2)])], cyc2 74 [.intp .i64 c0, .abs pl0 0 0] [.immp [.int .i64 c3_0, .fn 2 c3_1.length (fun i => [.int .i64 ((c3_1.getD i (0, 0)).1), .int .i64 ((c3_1.getD i (0, 0)).2)])]] 76 [.immp [.int .i64 d0_0, .fn 2 d0_1.length (fun i => [.int .i64 ((d0_1.getD i (0, 0)).1), .int .i64 ((d0_1.getD i (0, 0)).2)])], .intp .i64 d1] fuel]]), (12, .int .i64 (way.getD ((way.length : Int) - 1).toNat 0)), (41, .int .i64 c3_0), (42, .int .i64 v), (59, .func 74 [.intp .i64 c0, .abs pl0 0 0, .immp [.func 76 [.immp [.int .i64 d0_0, .fn 2 d0_1.length (fun i => [.int .i64 ((d0_1.getD i (0, 0)).1), .int .i64 ((d0_1.getD i (0, 0)).2)])], .intp .i64 d1, cyc2 74 [.intp .i64 c0, .abs pl0 0 0] [.immp [.int .i64 c3_0, .fn 2 c3_1.length (fun i => [.int .i64 ((c3_1.getD i (0, 0)).1), .int .i64 ((c3_1.getD i (0, 0)).2)])]] 76 [.immp [.int .i64 d0_0, .fn 2 d0_1.length (fun i => [.int .i64 ((d0_1.getD i (0, 0)).1), .int .i64 ((d0_1.getD i (0, 0)).2)])], .intp .i64 d1] fuel]], .immp [.int .i64 c3_0, .fn 2 c3_1.length (fun i => [.int .i64 ((c3_1.getD i (0, 0)).1), .int .i64 ((c3_1.getD i (0, 0)).2)])], cyc2 74 [.intp .i64 c0, .abs pl0 0 0] [.immp [.int .i64 c3_0, .fn 2 c3_1.length (fun i => [.int .i64 ((c3_1.getD i (0, 0)).1), .int .i64 ((c3_1.getD i (0, 0)).2)])]] 76 [.immp [.int .i64 d0_0, .fn 2 d0_1.length (fun i => [.int .i64 ((d0_1.getD i (0, 0)).1), .int .i64 ((d0_1.getD i (0, 0)).2)])], .intp .i64 d1] fuel]), (64, .own 5 ((way ++ [v]).length)), (68, .int .i64 (ior a1 (2 ^ v.toNat : Int))), (69, .int .i64 a2)], [some (.gen 47 1 [[.own 1 q02.length]]), some (.gen 22 1 (List.map (fun e => [.ints .i64 e]) q02)), some (.pin 0 pl0), none, some (.ints 3 .i64 [v]), some (.ints 3 .i64 (way ++ [v]))]⟩) : AA 3 #[false, true, true, true, true, true, true, true, true, false, true, false] ⟨72, [(0, .ints .i64 way), (1, .int .i64 a1), (2, .int .i64 a2), (6, .immp [.int .i64 c3_0, .fn 2 c3_1.length (fun i => [.int .i64 ((c3_1.getD i (0, 0)).1), .int .i64 ((c3_1.getD i (0, 0)).2)])]), (7, .immp [.func 74 [.intp .i64 c0, .abs pl0 0 0, .immp [.func 76 [.immp [.int .i64 d0_0, .fn 2 d0_1.length (fun i => [.int .i64 ((d0_1.getD i (0, 0)).1), .int .i64 ((d0_1.getD i (0, 0)).2)])], .intp .i64 d1, cyc2 74 [.intp .i64 c0, .abs pl0 0 0] [.immp [.int .i64 c3_0, .fn 2 c3_1.length (fun i => [.int .i64 ((c3_1.getD i (0, 0)).1), .int .i64 ((c3_1.getD i (0, 0)).2)])]] 76 [.immp [.int .i64 d0_0, .fn 2 d0_1.length (fun i => [.int .i64 ((d0_1.getD i (0, 0)).1), .int .i64 ((d0_1.getD i (0, 0)).2)])], .intp .i64 d1] fuel]], .immp [.int .i64 c3_0, .fn 2 c3_1.length (fun i => [.int .i64 ((c3_1.getD i (0, 0)).1), .int .i64 ((c3_1.getD i (0, 0)).2)])], cyc2 74 [.intp .i64 c0, .abs pl0 0 0] [.immp [.int .i64 c3_0, .fn 2 c3_1.length (fun i => [.int .i64 ((c3_1.getD i (0, 0)).1), .int .i64 ((c3_1.getD i (0, 0)).2)])]] 76 [.immp [.int .i64 d0_0, .fn 2 d0_1.length (fun i => [.int .i64 ((d0_1.getD i (0, 0)).1), .int .i64 ((d0_1.getD i (0, 0)).2)])], .intp .i64 d1] fuel]]), (12, .int .i64 (way.getD ((way.length : Int) - 1).toNat 0)), (41, .int .i64 c3_0), (42, .int .i64 v), (64, .own 5 ((way ++ [v]).length)), (65, .int .i64 a1), (67, .int .i64 (2 ^ v.toNat : Int)), (69, .int .i64 a2)], [some (.gen 47 1 [[.own 1 q02.length]]), some (.gen 22 1 (List.map (fun e => [.ints .i64 e]) q02)), some (.pin 0 pl0), none, some (.ints 3 .i64 [v]), some (.ints 3 .i64 (way ++ [v]))]⟩ := (hAA _ _ _).2 (by
  have h8x := h8; simp only [List.length_append, List.length_cons, List.length_nil] at h8x
  refine AWPB_takeB tab_ok [0, 1, 2, 6, 7, 12, 41, 42, 59, 64, 68, 69, 70] 9 [11] _ rfl ceg_links_Ways_1_11_48 fun c st' hr => ?_
  simp only [go_sem] at hr
  obtain ⟨rfl, rfl⟩ := hr
  refine ⟨vc, ?_⟩
  refine AWPB_takeB tab_ok [0, 1, 2, 6, 7, 12, 41, 42, 59, 64, 68, 69, 70] 0 [11] _ rfl ceg_links_Ways_1_11_49 fun c st' hr => ?_
  simp only [go_sem] at hr
  obtain ⟨rfl, rfl⟩ := hr
  refine ⟨vc, ?_⟩
  exact AWPB_wk [0, 1, 2, 3, 4, 5] mkWk ((hAA _ _ _).1 hn9))

theorem J_links_Ways_1_11_hn26 {way : List Int} {a1 : Int} {a2 : Int} {c0 : Int} {d0_0 : Int} {d0_1 : List (Int × Int)} {d1 : Int} {c3_0 : Int} {c3_1 : List (Int × Int)} {fuel : Nat} {pl0 : AX.Loc} {y2 : Bool × List (List Int)} {q02 : List (List Int)} {v : Int} (h7 : (way.length ≤ 17592186044416)) (h8 : ((way ++ [v]).length ≤ 8796093022208)) (h9 : (0 ≤ v ∧ v ≤ 62)) (hy : links_Ways_1 fuel (way ++ [v]) (ior a1 (2 ^ v.toNat : Int)) a2 c0 d0_0 d0_1 d1 c3_0 c3_1 q02 = some y2) {w0 : World} {Q : Exit → St → Prop} {AA : Nat → Array Bool → St → Prop} (hAA : ∀ g L st, AA g L st ↔ AWPB Try.prog w0 reg_links_Ways_1_11.toArray Q g L st) (hn9 : AA 1 #[true, true, true, true, true, true, true, true, true, true, true, false] ⟨72, [(0, .ints .i64 way), (1, .int .i64 a1), (2, .int .i64 a2), (6, .immp [.int .i64 c3_0, .fn 2 c3_1.length (fun i => [.int .i64 ((c3_1.getD i (0, 0)).1), .int .i64 ((c3_1.getD i (0, 0)).2)])]), (7, .immp [.func 74 [.intp .i64 c0, .abs pl0 0 0, .immp [.func 76 [.immp [.int .i64 d0_0, .fn 2 d0_1.length (fun i => [.int .i64 ((d0_1.getD i (0, 0)).1), .int .i64 ((d0_1.getD i (0, 0)).2)])], .intp .i64 d1, cyc2 74 [.intp .i64 c0, .abs pl0 0 0] [.immp [.int .i64 c3_0, .fn 2 c3_1.length (fun i => [.int .i64 ((c3_1.getD i (0, 0)).1), .int .i64 ((c3_1.getD i (0, 0)).2)])]] 76 [.immp [.int .i64 d0_0, .fn 2 d0_1.length (fun i => [.int .i64 ((d0_1.getD i (0, 0)).1), .int .i64 ((d0_1.getD i (0, 0)).2)])], .intp .i64 d1] fuel]], .immp [.int .i64 c3_0, .fn 2 c3_1.length (fun i => [.int .i64 ((c3_1.getD i (0, 0)).1), .int .i64 ((c3_1.getD i (0, 0)).2)])], cyc2 74 [.intp .i64 c0, .abs pl0 0 0] [.immp [.int .i64 c3_0, .fn 2 c3_1.length (fun i => [.int .i64 ((c3_1.getD i (0, 0)).1), .int .i64 ((c3_1.getD i (0, 0)).2)])]] 76 [.immp [.int .i64 d0_0, .fn 2 d0_1.length (fun i => [.int .i64 ((d0_1.getD i (0, 0)).1), .int .i64 ((d0_1.getD i (0, 0)).2)])], .intp .i64 d1] fuel]]), (12, .int .i64 (way.getD ((way.length : Int) - 1).toNat 0)), (41, .int .i64 c3_0), (42, .int .i64 v), (59, .func 74 [.intp .i64 c0, .abs pl0 0 0, .immp [.func 76 [.immp [.int .i64 d0_0, .fn 2 d0_1.length (fun i => [.int .i64 ((d0_1.getD i (0, 0)).1), .int .i64 ((d0_1.getD i (0, 0)).2)])], .intp .i64 d1, cyc2 74 [.intp .i64 c0, .abs pl0 0 0] [.immp [.int .i64 c3_0, .fn 2 c3_1.length (fun i => [.int .i64 ((c3_1.getD i (0, 0)).1), .int .i64 ((c3_1.getD i (0, 0)).2)])]] 76 [.immp [.int .i64 d0_0, .fn 2 d0_1.length (fun i => [.int .i64 ((d0_1.getD i (0, 0)).1), .int .i64 ((d0_1.getD i (0, 0)).2)])], .intp .i64 d1] fuel]], .immp [.int .i64 c3_0, .fn 2 c3_1.length (fun i => [.int .i64 ((c3_1.getD i (0, 0)).1), .int .i64 ((c3_1.getD i (0, 0)).2)])], cyc2 74 [.intp .i64 c0, .abs pl0 0 0] [.immp [.int .i64 c3_0, .fn 2 c3_1.length (fun i => [.int .i64 ((c3_1.getD i (0, 0)).1), .int .i64 ((c3_1.getD i (0, 0)).2)])]] 76 [.immp [.int .i64 d0_0, .fn 2 d0_1.length (fun i => [.int .i64 ((d0_1.getD i (0, 0)).1), .int .i64 ((d0_1.getD i (0, 0)).2)])], .intp .i64 d1] fuel]), (64, .own 5 ((way ++ [v]).length)), (68, .int .i64 (ior a1 (2 ^ v.toNat : Int))), (69, .int .i64 a2)], [some (.gen 47 1 [[.own 1 q02.length]]), some (.gen 22 1 (List.map (fun e => [.ints .i64 e]) q02)), some (.pin 0 pl0), none, some (.ints 3 .i64 [v]), some (.ints 3 .i64 (way ++ [v]))]⟩) : AA 2 #[false, true, true, true, true, true, true, true, true, true, true, false] ⟨72, [(0, .ints .i64 way), (1, .int .i64 a1), (2, .int .i64 a2), (6, .immp [.int .i64 c3_0, .fn 2 c3_1.length (fun i => [.int .i64 ((c3_1.getD i (0, 0)).1), .int .i64 ((c3_1.getD i (0, 0)).2)])]), (7, .immp [.func 74 [.intp .i64 c0, .abs pl0 0 0, .immp [.func 76 [.immp [.int .i64 d0_0, .fn 2 d0_1.length (fun i => [.int .i64 ((d0_1.getD i (0, 0)).1), .int .i64 ((d0_1.getD i (0, 0)).2)])], .intp .i64 d1, cyc2 74 [.intp .i64 c0, .abs pl0 0 0] [.immp [.int .i64 c3_0, .fn 2 c3_1.length (fun i => [.int .i64 ((c3_1.getD i (0, 0)).1), .int .i64 ((c3_1.getD i (0, 0)).2)])]] 76 [.immp [.int .i64 d0_0, .fn 2 d0_1.length (fun i => [.int .i64 ((d0_1.getD i (0, 0)).1), .int .i64 ((d0_1.getD i (0, 0)).2)])], .intp .i64 d1] fuel]], .immp [.int .i64 c3_0, .fn 2 c3_1.length (fun i => [.int .i64 ((c3_1.getD i (0, 0)).1), .int .i64 ((c3_1.getD i (0, 0)).2)])], cyc2 74 [.intp .i64 c0, .abs pl0 0 0] [.immp [.int .i64 c3_0, .fn 2 c3_1.length (fun i => [.int .i64 ((c3_1.getD i (0, 0)).1), .int .i64 ((c3_1.getD i (0, 0)).2)])]] 76 [.immp [.int .i64 d0_0, .fn 2 d0_1.length (fun i => [.int .i64 ((d0_1.getD i (0, 0)).1), .int .i64 ((d0_1.getD i (0, 0)).2)])], .intp .i64 d1] fuel]]), (12, .int .i64 (way.getD ((way.length : Int) - 1).toNat 0)), (41, .int .i64 c3_0), (42, .int .i64 v), (64, .own 5 ((way ++ [v]).length)), (68, .int .i64 (ior a1 (2 ^ v.toNat : Int))), (69, .int .i64 a2)], [some (.gen 47 1 [[.own 1 q02.length]]), some (.gen 22 1 (List.map (fun e => [.ints .i64 e]) q02)), some (.pin 0 pl0), none, some (.ints 3 .i64 [v]), some (.ints 3 .i64 (way ++ [v]))]⟩ := (hAA _ _ _).2 (by
  have h8x := h8; simp only [List.length_append, List.length_cons, List.length_nil] at h8x
  refine AWPB_takeB tab_ok [0, 1, 2, 6, 7, 12, 41, 42, 59, 64, 68, 69, 70] 0 [11] _ rfl ceg_links_Ways_1_11_49 fun c st' hr => ?_
  simp only [go_sem] at hr
  obtain ⟨rfl, rfl⟩ := hr
  refine ⟨vc, ?_⟩
  exact AWPB_wk [0, 1, 2, 3, 4, 5] mkWk ((hAA _ _ _).1 hn9))

theorem ceg_links_Ways_1_11_53 : (Region.ready .any reg_links_Ways_1_11.toArray #[false, true, true, true, true, false, true, true, true, true, true, false] == [0, 5]) = true := by kernel_rfl


end Go.SH
