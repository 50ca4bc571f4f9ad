/-
  That the code computes these functions: rotakeep_over, rotakeep_lets. By a program of mine (shal.py). Conditions: none.
-/
import Derived.Test.YtlpikingpnenkaaAxT
import Derived.Test.YtlpikingpnenkaaAxR
import Derived.Test.YtlpikingpnenkaaSprotakeep
set_option linter.unusedVariables false
set_option linter.unusedSimpArgs false
set_option maxRecDepth 8000
set_option maxHeartbeats 4000000
namespace Go.SH
open Go Go.AX Go.AX.Try Go.Proofs


theorem W_rotakeep_over {n : Int} {k : Int} {r : Int} (hK : rotakeep_over n k = some r) : Pure Try.prog 18 [.int .i64 n, .int .i64 k] (.int .i64 r) [] := by
  refine Pure_introF tab_ok (n := 28) (l := [.tmp 4]) Try.func18 rfl rfl rfl (by simp) fun hfact w0 => ?_
  simp only [factL1, fact1, fact0, factL0, lo, hi, maxLen, and_true] at hfact
  unfold rotakeep_over at hK
  refine AWP_seq ?_
  refine AWP_rg tab_ok [0, 1] fun c st' hr => ?_
  simp only [go_sem] at hr
  obtain ⟨rfl, rfl⟩ := hr
  refine ⟨vc, ?_⟩
  with_reducible refine thenC_normal ?_
  refine AWP_seq ?_
  refine AWP_seq ?_
  refine AWP_rg tab_ok [0, 1, 13] fun c st' hr => ?_
  simp only [go_sem] at hr
  obtain ⟨rfl, rfl⟩ := hr
  refine ⟨vc, ?_⟩
  with_reducible refine thenC_normal ?_
  refine AWP_condP ((k < 0 ∨ n < k)) rfl bd (fun hb => ?_) (fun hb => ?_)
  ·replace hK := ite_t hK hb
   refine AWP_seq ?_
   refine AWP_rg tab_ok [4] fun c st' hr => ?_
   simp only [go_sem] at hr
   obtain ⟨rfl, rfl⟩ := hr
   refine ⟨vc, ?_⟩
   with_reducible refine thenC_normal ?_
   refine AWP_ret ?_
   with_reducible refine thenC_ret ?_
   cases hK
   refine EndsRW [] (.inl rfl) (of_decide_eq_true rfl) (by simp) rfl (fun c x hr => ?_) trivial
   simp only [go_sem] at hr
   obtain ⟨rfl, rfl⟩ := hr
   exact ⟨rfl, endR⟩
  ·replace hK := ite_f hK hb
   refine AWP_skip ?_
   with_reducible refine thenC_normal ?_
   refine AWP_seq ?_
   refine AWP_rg tab_ok [0, 1, 5] fun c st' hr => ?_
   simp only [go_sem] at hr
   obtain ⟨rfl, rfl⟩ := hr
   refine ⟨vc, ?_⟩
   with_reducible refine thenC_normal ?_
   refine AWP_seq ?_
   refine AWP_seq ?_
   refine AWP_rg tab_ok [0, 5, 14, 15] fun c st' hr => ?_
   simp only [go_sem] at hr
   obtain ⟨rfl, rfl⟩ := hr
   refine ⟨vc, ?_⟩
   with_reducible refine thenC_normal ?_
   refine AWP_block ?_
   refine AWP_loopX 0 (fun ((out0, v) : Int × Int) => ⟨28, [(0, .int .i64 n), (5, .int .i64 out0), (14, .int .i64 k), (15, .int .i64 v)], []⟩) (fun (out01 : Int) => ⟨28, [(5, .int .i64 out01)], []⟩) (fun v => v) (1, 0) [] hK mkWk ?_ ?_
   ·clear hK; rintro ⟨out0, v⟩ b hK hpost1
    try dsimp only at hK
    change AWP _ _ _ _ ⟨28, [(0, .int .i64 n), (5, .int .i64 out0), (14, .int .i64 k), (15, .int .i64 v)], []⟩
    refine AWP_seq ?_
    refine AWP_rg tab_ok [0, 5, 14, 15, 16] fun c st' hr => ?_
    simp only [go_sem] at hr
    obtain ⟨rfl, rfl⟩ := hr
    refine ⟨vc, ?_⟩
    with_reducible refine thenC_normal ?_
    refine AWP_seq ?_
    refine AWP_condP (v < k) rfl bd (fun hb1 => ?_) (fun hb1 => ?_)
    ·replace hK := ite_t hK hb1
     refine AWP_skip ?_
     with_reducible refine thenC_normal ?_
     refine AWP_seq ?_
     refine AWP_block ?_
     refine AWP_seq ?_
     refine AWP_rg tab_ok [0, 5, 6, 14, 15] fun c st' hr => ?_
     simp only [go_sem] at hr
     obtain ⟨rfl, rfl⟩ := hr
     refine ⟨vc, ?_⟩
     with_reducible refine thenC_normal ?_
     refine AWP_facts (by simp) fun hfx => ?_
     simp only [factS, factV, fact1, fact0, factL0, lo, hi, maxLen, and_true, true_and] at hfx
     replace hK := chk_some hK
     obtain ⟨h, hK⟩ := hK
     refine AWP_rg tab_ok [0, 5, 14, 15] fun c st' hr => ?_
     simp only [go_sem] at hr
     obtain ⟨rfl, rfl⟩ := hr
     refine ⟨vc, ?_⟩
     clear hfx
     with_reducible refine inBlockA_normal (thenC_normal ?_)
     refine AWP_facts (by simp) fun hfx => ?_
     simp only [factS, factV, fact1, fact0, factL0, lo, hi, maxLen, and_true, true_and] at hfx
     refine AWP_rg tab_ok [0, 5, 14, 15] fun c st' hr => ?_
     simp only [go_sem] at hr
     obtain ⟨rfl, rfl⟩ := hr
     refine ⟨vc, ?_⟩
     clear hfx
     refine again_n (Int.tdiv (out0 * (n - v)) (v + 1), v + 1) [] hK mkWk
    ·replace hK := ite_f hK hb1
     refine AWP_exit ?_
     with_reducible refine thenC_exit (again_x ?_)
     refine cutX_here out0 [] (by have hq := hpost1 _ hK; exact hq) mkWk
   ·clear hK; rintro out01 hK
    try dsimp only at hK
    refine exS ⟨28, [(5, .int .i64 out01)], []⟩ rfl ?_
    with_reducible refine inBlockA_exit (thenC_normal ?_)
    refine AWP_seq ?_
    refine AWP_rg tab_ok [4] fun c st' hr => ?_
    simp only [go_sem] at hr
    obtain ⟨rfl, rfl⟩ := hr
    refine ⟨vc, ?_⟩
    with_reducible refine thenC_normal ?_
    refine AWP_ret ?_
    cases hK
    refine EndsRW [] (.inl rfl) (of_decide_eq_true rfl) (by simp) rfl (fun c x hr => ?_) trivial
    simp only [go_sem] at hr
    obtain ⟨rfl, rfl⟩ := hr
    exact ⟨rfl, endR⟩


theorem W_rotakeep_lets {h : Int} {k : Int} {r : Int} (hK : rotakeep_lets h k = some r) : Pure Try.prog 41 [.int .i64 h, .int .i64 k] (.int .i64 r) [] := by
  refine Pure_introF tab_ok (n := 37) (l := [.tmp 4]) Try.func41 rfl rfl rfl (by simp) fun hfact w0 => ?_
  simp only [factL1, fact1, fact0, factL0, lo, hi, maxLen, and_true] at hfact
  unfold rotakeep_lets at hK
  refine AWP_seq ?_
  refine AWP_rg tab_ok [0, 1] fun c st' hr => ?_
  simp only [go_sem] at hr
  obtain ⟨rfl, rfl⟩ := hr
  refine ⟨vc, ?_⟩
  with_reducible refine thenC_normal ?_
  refine AWP_seq ?_
  refine AWP_rg tab_ok [0, 1, 5] fun c st' hr => ?_
  simp only [go_sem] at hr
  obtain ⟨rfl, rfl⟩ := hr
  refine ⟨vc, ?_⟩
  with_reducible refine thenC_normal ?_
  refine AWP_seq ?_
  refine AWP_block ?_
  refine AWP_loopX 0 (fun ((h1, k1, sum) : Int × Int × Int) => ⟨37, [(0, .int .i64 h1), (1, .int .i64 k1), (5, .int .i64 sum)], []⟩) (fun (sum1 : Int) => ⟨37, [(5, .int .i64 sum1)], []⟩) (fun v => v) (h, k, 0) [] hK mkWk ?_ ?_
  ·clear hK; rintro ⟨h1, k1, sum⟩ b hK hpost1
   try dsimp only at hK
   change AWP _ _ _ _ ⟨37, [(0, .int .i64 h1), (1, .int .i64 k1), (5, .int .i64 sum)], []⟩
   refine AWP_seq ?_
   refine AWP_seq ?_
   refine AWP_rg tab_ok [0, 1, 5, 12] fun c st' hr => ?_
   simp only [go_sem] at hr
   obtain ⟨rfl, rfl⟩ := hr
   refine ⟨vc, ?_⟩
   with_reducible refine thenC_normal ?_
   refine AWP_condP ((0 < h1 ∧ 0 < k1)) rfl bd (fun hb => ?_) (fun hb => ?_)
   ·replace hK := ite_t hK hb
    refine AWP_skip ?_
    with_reducible refine thenC_normal ?_
    refine AWP_seq ?_
    refine AWP_block ?_
    refine AWP_seq ?_
    refine AWP_rg tab_ok [0, 1, 5, 6] fun c st' hr => ?_
    simp only [go_sem] at hr
    obtain ⟨rfl, rfl⟩ := hr
    refine ⟨vc, ?_⟩
    with_reducible refine thenC_normal ?_
    refine AWP_seq ?_
    refine AWP_block ?_
    refine AWP_loopX 2 (fun (n : Int) => ⟨37, [(0, .int .i64 h1), (1, .int .i64 k1), (5, .int .i64 sum), (6, .int .i64 n)], []⟩) (fun (n1 : Int) => ⟨37, [(0, .int .i64 h1), (1, .int .i64 k1), (5, .int .i64 sum), (6, .int .i64 n1)], []⟩) (fun v => v) k1 [] hK mkWk ?_ ?_
    ·clear hK; rintro n b1 hK hpost2
     try dsimp only at hK
     change AWP _ _ _ _ ⟨37, [(0, .int .i64 h1), (1, .int .i64 k1), (5, .int .i64 sum), (6, .int .i64 n)], []⟩
     refine AWP_seq ?_
     refine AWP_seq ?_
     refine AWP_rl ?_
     replace hK := chk_some hK
     obtain ⟨h2, hK⟩ := hK
     refine AWPL_rn tab_ok 3 [0, 1, 5, 6, 17, 18] fun c st' hr => ?_
     simp only [go_sem] at hr
     obtain ⟨rfl, rfl⟩ := hr
     refine ⟨vc, ?_⟩
     replace hK := bind_s hK
     obtain ⟨y, hy, hK⟩ := hK
     refine AWPL_callK [0, 1, 5, 6, 19] (W_rotakeep_over hy) rfl rfl pcT rfl Try.call18 (.cons (.atom _ rfl) (.cons (.atom _ rfl) .nil)) (hscG trivial) (of_decide_eq_true rfl) (by first | rfl | simp [nI, nI1, nI0]) (by first | rfl | simp [nIB, nI0]) fun st' hr => ?_
     simp only [go_sem] at hr
     subst hr
     clear hy
     refine AWPL_rn tab_ok 2 [0, 1, 5, 6, 21] fun c st' hr => ?_
     simp only [go_sem] at hr
     obtain ⟨rfl, rfl⟩ := hr
     refine ⟨vc, ?_⟩
     refine AWPL_nil ?_
     with_reducible refine thenC_normal ?_
     refine AWP_condP (y ≤ h1) rfl bd (fun hb1 => ?_) (fun hb1 => ?_)
     ·replace hK := ite_t hK hb1
      refine AWP_skip ?_
      with_reducible refine thenC_normal ?_
      refine AWP_block ?_
      replace hK := chk_some hK
      obtain ⟨h3, hK⟩ := hK
      refine AWP_rg tab_ok [0, 1, 5, 6] fun c st' hr => ?_
      simp only [go_sem] at hr
      obtain ⟨rfl, rfl⟩ := hr
      refine ⟨vc, ?_⟩
      with_reducible refine inBlockA_normal ?_
      refine again_n (n + 1) [] hK mkWk
     ·replace hK := ite_f hK hb1
      refine AWP_exit ?_
      with_reducible refine thenC_exit (again_x ?_)
      refine cutX_here n [] (by have hq := hpost2 _ hK; exact hq) mkWk
    ·clear hK; rintro n1 hK
     try dsimp only at hK
     refine exS ⟨37, [(0, .int .i64 h1), (1, .int .i64 k1), (5, .int .i64 sum), (6, .int .i64 n1)], []⟩ rfl ?_
     with_reducible refine inBlockA_exit (thenC_normal ?_)
     refine AWP_seq ?_
     refine AWP_rl ?_
     refine AWPL_rn tab_ok 3 [1, 5, 6, 24, 25, 26] fun c st' hr => ?_
     simp only [go_sem] at hr
     obtain ⟨rfl, rfl⟩ := hr
     refine ⟨vc, ?_⟩
     replace hK := bind_s hK
     obtain ⟨y1, hy, hK⟩ := hK
     refine AWPL_callK [1, 5, 6, 24, 27] (W_rotakeep_over hy) rfl rfl pcT rfl Try.call18 (.cons (.atom _ rfl) (.cons (.atom _ rfl) .nil)) (hscG trivial) (of_decide_eq_true rfl) (by first | rfl | simp [nI, nI1, nI0]) (by first | rfl | simp [nIB, nI0]) fun st' hr => ?_
     simp only [go_sem] at hr
     subst hr
     clear hy
     replace hK := chk_some hK
     obtain ⟨h4, hK⟩ := hK
     refine AWPL_rn tab_ok 2 [0, 1, 5, 6] fun c st' hr => ?_
     simp only [go_sem] at hr
     obtain ⟨rfl, rfl⟩ := hr
     refine ⟨vc, ?_⟩
     refine AWPL_nil ?_
     with_reducible refine thenC_normal ?_
     refine AWP_rl ?_
     replace hK := chk_some hK
     obtain ⟨h5, hK⟩ := hK
     refine AWPL_rn tab_ok 5 [0, 1, 29, 31, 33] fun c st' hr => ?_
     simp only [go_sem] at hr
     obtain ⟨rfl, rfl⟩ := hr
     refine ⟨vc, ?_⟩
     replace hK := bind_s hK
     obtain ⟨y2, hy, hK⟩ := hK
     refine AWPL_callK [0, 1, 29, 34] (W_rotakeep_over hy) rfl rfl pcT rfl Try.call18 (.cons (.atom _ rfl) (.cons (.atom _ rfl) .nil)) (hscG trivial) (of_decide_eq_true rfl) (by first | rfl | simp [nI, nI1, nI0]) (by first | rfl | simp [nIB, nI0]) fun st' hr => ?_
     simp only [go_sem] at hr
     subst hr
     clear hy
     replace hK := chk_some hK
     obtain ⟨h6, hK⟩ := hK
     refine AWPL_rn tab_ok 2 [0, 1, 5] fun c st' hr => ?_
     simp only [go_sem] at hr
     obtain ⟨rfl, rfl⟩ := hr
     refine ⟨vc, ?_⟩
     refine AWPL_nil ?_
     with_reducible refine inBlockA_normal (thenC_normal ?_)
     replace hK := chk_some hK
     obtain ⟨h7, hK⟩ := hK
     refine AWP_rg tab_ok [0, 1, 5] fun c st' hr => ?_
     simp only [go_sem] at hr
     obtain ⟨rfl, rfl⟩ := hr
     refine ⟨vc, ?_⟩
     refine again_n (h1 - y1, k1 - 1, sum + y2) [] hK mkWk
   ·replace hK := ite_f hK hb
    refine AWP_exit ?_
    with_reducible refine thenC_exit (again_x ?_)
    refine cutX_here sum [] (by have hq := hpost1 _ hK; exact hq) mkWk
  ·clear hK; rintro sum1 hK
   try dsimp only at hK
   refine exS ⟨37, [(5, .int .i64 sum1)], []⟩ rfl ?_
   with_reducible refine inBlockA_exit (thenC_normal ?_)
   refine AWP_seq ?_
   refine AWP_rg tab_ok [4] fun c st' hr => ?_
   simp only [go_sem] at hr
   obtain ⟨rfl, rfl⟩ := hr
   refine ⟨vc, ?_⟩
   with_reducible refine thenC_normal ?_
   refine AWP_ret ?_
   cases hK
   refine EndsRW [] (.inl rfl) (of_decide_eq_true rfl) (by simp) rfl (fun c x hr => ?_) trivial
   simp only [go_sem] at hr
   obtain ⟨rfl, rfl⟩ := hr
   exact ⟨rfl, endR⟩

end Go.SH
