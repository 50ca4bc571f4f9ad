/-
  That the code computes these functions: rotakeep_SetsSperner. By a program of mine (shal.py). Conditions: none.
-/
import Derived.Test.YtlpikingpnenkaaAxT
import Derived.Test.YtlpikingpnenkaaAxR
import Derived.Test.YtlpikingpnenkaaAxMp
import Derived.Test.YtlpikingpnenkaaAxRx
import Derived.Test.YtlpikingpnenkaaAxUn
import Derived.Test.YtlpikingpnenkaaAxOp
import Derived.Test.YtlpikingpnenkaaSkSetsSperner
import Derived.Test.YtlpikingpnenkaaWprotabig
import Derived.Test.YtlpikingpnenkaaWprotakeep
import Derived.Test.YtlpikingpnenkaaWprotalaw
import Derived.Test.YtlpikingpnenkaaWprotaref
import Derived.Test.YtlpikingpnenkaaWpsets
set_option linter.unusedVariables false
set_option linter.unusedSimpArgs false
set_option maxRecDepth 8000
set_option maxHeartbeats 4000000
namespace Go.SH
open Go Go.AX Go.AX.Try Go.Proofs


theorem W_rotakeep_SetsSperner {n : Int} {a1 : List Int} {r : Bool} (hK : rotakeep_SetsSperner n a1 = some r) : Pure Try.prog 3 [.int .i64 n, .ints .i64 a1] (.bool r) [] := by
  refine Pure_introF tab_ok (n := 66) (l := [.tmp 4]) Try.func3 rfl rfl rfl (by simp) fun hfact w0 => ?_
  simp only [factL1, fact1, fact0, factL0, lo, hi, maxLen, and_true] at hfact
  unfold rotakeep_SetsSperner at hK
  refine AWP_seq ?_
  refine AWP_rg tab_ok [0, 1] fun c st' hr => ?_
  simp only [go_sem] at hr
  obtain ⟨rfl, rfl⟩ := hr
  refine ⟨vc, ?_⟩
  with_reducible refine thenC_normal ?_
  refine AWP_seq ?_
  refine AWP_seq ?_
  refine AWP_rl ?_
  refine AWPL_rn tab_ok 1 [0, 1, 15] fun c st' hr => ?_
  simp only [go_sem] at hr
  obtain ⟨rfl, rfl⟩ := hr
  refine ⟨vc, ?_⟩
  replace hK := bind_s hK
  obtain ⟨y, hy, hK⟩ := hK
  refine AWPL_callK [0, 1, 16] (W_sets_Most hy) rfl rfl pcT rfl Try.call13 (.cons (.atom _ rfl) (.cons (.ownI _ _ _ _ _ [1, 2, 3] rfl (by simp) (by first | simp | exact List.take_of_length_le (by simp))) .nil)) (hscG trivial) (of_decide_eq_true rfl) (by first | rfl | simp [nI, nI1, nI0]) (by first | rfl | simp [nIB, nI0]) fun st' hr => ?_
  simp only [go_sem] at hr
  subst hr
  clear hy
  refine AWPL_rn tab_ok 5 [0, 1, 5, 6] fun c st' hr => ?_
  simp only [go_sem] at hr
  obtain ⟨rfl, rfl⟩ := hr
  refine ⟨vc, ?_⟩
  refine AWPL_nil ?_
  with_reducible refine thenC_normal ?_
  refine AWP_seq ?_
  refine AWP_rl ?_
  refine AWPL_rn tab_ok 4 [0, 1, 21, 22] fun c st' hr => ?_
  simp only [go_sem] at hr
  obtain ⟨rfl, rfl⟩ := hr
  refine ⟨vc, ?_⟩
  by_cases hg : ¬ (y.2 ≠ 0)
  ·replace hK := ite_t hK hg
   refine AWPL_stP [(0, .int .i64 n), (1, .ints .i64 a1), (21, .bool false), (22, .opt true (.own 1 y.1.length))] (by first | (simp [SameS, AX.look, hg]; done) | (simp at hg ⊢; simp [SameS, AX.look, hg]; done) | (simp_all [SameS, AX.look]; done)) ?_
   refine AWPL_effT tab_ok [0, 1, 21, 22, 23] pcT fun c st' hr => ?_
   simp only [go_sem] at hr
   obtain ⟨rfl, rfl⟩ := hr
   refine ⟨vc, ?_⟩
   replace hK := bind_s hK
   obtain ⟨y1, hy, hK⟩ := hK
   refine AWPL_callK [0, 1, 21, 24] (W_rotalaw_Same_int hy) rfl rfl pcT rfl Try.call14 (.cons (.ownI _ _ _ _ _ y.1 rfl (by simp) (by first | simp | exact List.take_of_length_le (by simp))) (.cons (.ownI _ _ _ _ _ [3] rfl (by simp) (by first | simp | exact List.take_of_length_le (by simp))) .nil)) (hscG trivial) (of_decide_eq_true rfl) (by first | rfl | simp [nI, nI1, nI0]) (by first | rfl | simp [nIB, nI0]) fun st' hr => ?_
   simp only [go_sem] at hr
   subst hr
   clear hy
   refine AWPL_rn tab_ok 2 [0, 1, 26] fun c st' hr => ?_
   simp only [go_sem] at hr
   obtain ⟨rfl, rfl⟩ := hr
   refine ⟨vc, ?_⟩
   refine AWPL_nil ?_
   with_reducible refine thenC_normal ?_
   refine AWP_condP (¬ (y1 = true)) rfl bd (fun hb => ?_) (fun hb => ?_)
   ·replace hK := ite_t hK hb
    refine AWP_seq ?_
    refine AWP_rg tab_ok [4] fun c st' hr => ?_
    simp only [go_sem] at hr
    obtain ⟨rfl, rfl⟩ := hr
    refine ⟨vc, ?_⟩
    with_reducible refine thenC_normal ?_
    refine AWP_ret ?_
    with_reducible refine thenC_ret ?_
    cases hK
    refine EndsRW [] (.inl rfl) (of_decide_eq_true rfl) (by simp) rfl (fun c x hr => ?_) trivial
    simp only [go_sem] at hr
    obtain ⟨rfl, rfl⟩ := hr
    exact ⟨rfl, endR⟩
   ·replace hK := ite_f hK hb
    refine AWP_skip ?_
    with_reducible refine thenC_normal ?_
    refine AWP_seq ?_
    refine AWP_seq ?_
    refine AWP_rg tab_ok [0, 1, 27, 28, 29] fun c st' hr => ?_
    simp only [go_sem] at hr
    obtain ⟨rfl, rfl⟩ := hr
    refine ⟨vc, ?_⟩
    with_reducible refine thenC_normal ?_
    refine AWP_block ?_
    refine AWP_freeze 27 3 (y := .imm 1 [[.func 15 []], [.func 13 []]]) rfl (.one (.ownSelf rfl rfl rfl)) fun st' hr => ?_
    simp only [go_sem, List.set_cons_zero, List.set_cons_succ] at hr
    subst hr
    refine AWP_unroll 3 ?_
    refine unr_go ?_
    refine AWP_seq ?_
    refine AWP_rg tab_ok [0, 1, 27, 28, 29, 30] fun c st' hr => ?_
    simp only [go_sem] at hr
    obtain ⟨rfl, rfl⟩ := hr
    refine ⟨vc, ?_⟩
    with_reducible refine thenC_normal ?_
    refine AWP_seq ?_
    refine AWP_condP (0 < 2) rfl bd (fun hb1 => ?_) (fun hb1 => ?_)
    rotate_left 1
    ·exact absurd (by omega) hb1
    clear hb1
    refine AWP_skip ?_
    with_reducible refine thenC_normal ?_
    refine AWP_seq ?_
    refine AWP_block ?_
    refine AWP_seq ?_
    refine AWP_rg tab_ok [0, 1, 8, 27, 28, 29] fun c st' hr => ?_
    simp only [go_sem] at hr
    obtain ⟨rfl, rfl⟩ := hr
    refine ⟨vc, ?_⟩
    with_reducible refine thenC_normal ?_
    refine AWP_seq ?_
    refine AWP_rl ?_
    refine AWPL_rn tab_ok 3 [0, 1, 27, 28, 29, 34, 35, 36] fun c st' hr => ?_
    simp only [go_sem] at hr
    obtain ⟨rfl, rfl⟩ := hr
    refine ⟨vc, ?_⟩
    replace hK := bind_s hK
    obtain ⟨y2, hy, hK⟩ := hK
    refine AWPL_callK [0, 1, 27, 28, 29, 37] (W_sets_Least hy) rfl rfl pcT rfl Try.call15 (.cons (.atom _ rfl) (.cons (.atom _ rfl) .nil)) (hscG trivial) (of_decide_eq_true rfl) (by first | rfl | simp [nI, nI1, nI0]) (by first | rfl | simp [nIB, nI0]) fun st' hr => ?_
    simp only [go_sem] at hr
    subst hr
    clear hy
    refine AWPL_rn tab_ok 5 [0, 1, 9, 10, 27, 28, 29] fun c st' hr => ?_
    simp only [go_sem] at hr
    obtain ⟨rfl, rfl⟩ := hr
    refine ⟨vc, ?_⟩
    refine AWPL_nil ?_
    with_reducible refine thenC_normal ?_
    refine AWP_seq ?_
    refine AWP_seq ?_
    refine AWP_rg tab_ok [0, 1, 9, 27, 28, 29, 41] fun c st' hr => ?_
    simp only [go_sem] at hr
    obtain ⟨rfl, rfl⟩ := hr
    refine ⟨vc, ?_⟩
    with_reducible refine thenC_normal ?_
    refine AWP_condP (y2.2 ≠ 0) rfl bd (fun hb2 => ?_) (fun hb2 => ?_)
    ·replace hK := ite_t hK hb2
     refine AWP_seq ?_
     refine AWP_rg tab_ok [4] fun c st' hr => ?_
     simp only [go_sem] at hr
     obtain ⟨rfl, rfl⟩ := hr
     refine ⟨vc, ?_⟩
     with_reducible refine thenC_normal ?_
     refine AWP_ret ?_
     with_reducible refine thenC_ret (inBlockA_ret (thenC_ret (thenA_r (inBlockA_ret (thenC_ret ?_)))))
     cases hK
     refine EndsRW [] (.inl rfl) (of_decide_eq_true rfl) (by simp) rfl (fun c x hr => ?_) trivial
     simp only [go_sem] at hr
     obtain ⟨rfl, rfl⟩ := hr
     exact ⟨rfl, endR⟩
    ·replace hK := ite_f hK hb2
     refine AWP_skip ?_
     with_reducible refine thenC_normal ?_
     refine AWP_seq ?_
     refine AWP_rg tab_ok [0, 1, 9, 11, 27, 28, 29] fun c st' hr => ?_
     simp only [go_sem] at hr
     obtain ⟨rfl, rfl⟩ := hr
     refine ⟨vc, ?_⟩
     with_reducible refine thenC_normal ?_
     refine AWP_ownH 5 1 (.ints 186 .u32 []) rfl rfl rfl fun st' hr => ?_
     simp only [go_sem] at hr
     subst hr
     refine AWP_ownH 5 3 (.ints 186 .u32 []) rfl rfl rfl fun st' hr => ?_
     simp only [go_sem] at hr
     subst hr
     refine AWP_seq ?_
     refine AWP_seq ?_
     refine AWP_rg tab_ok [0, 1, 11, 27, 28, 29, 46, 47, 48] fun c st' hr => ?_
     simp only [go_sem] at hr
     obtain ⟨rfl, rfl⟩ := hr
     refine ⟨vc, ?_⟩
     with_reducible refine thenC_normal ?_
     refine AWP_block ?_
     refine AWP_loopX 2 (fun ((v, v1, v2, v3, v4) : Bool × List Int × Bool × List Int × Int) => ⟨66, [(0, .int .i64 n), (1, .ints .i64 a1), (11, .ptr 0 0 0), (27, .imm 1 [[.func 15 []], [.func 13 []]]), (28, .int .i64 2), (29, .int .i64 0), (46, .own 3 y2.1.length), (47, .int .i64 (y2.1.length : Int)), (48, .int .i64 v4)], [some (.gen 33 4 [[.bool v, .own 1 v1.length, .bool v2, .own 2 v3.length]]), some (.ints 186 .u32 v1), some (.ints 186 .u32 v3), some (.ints 3 .i64 y2.1)]⟩) (fun ((v5, v6, v7, v8) : Bool × List Int × Bool × List Int) => ⟨66, [(0, .int .i64 n), (1, .ints .i64 a1), (11, .ptr 0 0 0), (27, .imm 1 [[.func 15 []], [.func 13 []]]), (28, .int .i64 2), (29, .int .i64 0)], [some (.gen 33 4 [[.bool v5, .own 1 v6.length, .bool v7, .own 2 v8.length]]), some (.ints 186 .u32 v6), some (.ints 186 .u32 v8)]⟩) (fun v => v) (false, [], false, [], 0) [5, 6, 7, 4] hK mkWkR ?_ ?_
     ·clear hK; rintro ⟨v, v1, v2, v3, v4⟩ b hK hpost1
      try dsimp only at hK
      change AWP _ _ _ _ ⟨66, [(0, .int .i64 n), (1, .ints .i64 a1), (11, .ptr 0 0 0), (27, .imm 1 [[.func 15 []], [.func 13 []]]), (28, .int .i64 2), (29, .int .i64 0), (46, .own 3 y2.1.length), (47, .int .i64 (y2.1.length : Int)), (48, .int .i64 v4)], [some (.gen 33 4 [[.bool v, .own 1 v1.length, .bool v2, .own 2 v3.length]]), some (.ints 186 .u32 v1), some (.ints 186 .u32 v3), some (.ints 3 .i64 y2.1)]⟩
      refine AWP_seq ?_
      refine AWP_rg tab_ok [0, 1, 11, 27, 28, 29, 46, 47, 48, 49] fun c st' hr => ?_
      simp only [go_sem] at hr
      obtain ⟨rfl, rfl⟩ := hr
      refine ⟨vc, ?_⟩
      with_reducible refine thenC_normal ?_
      refine AWP_seq ?_
      refine AWP_condP (v4 < (y2.1.length : Int)) rfl bd (fun hb3 => ?_) (fun hb3 => ?_)
      ·replace hK := ite_t hK hb3
       refine AWP_skip ?_
       with_reducible refine thenC_normal ?_
       refine AWP_seq ?_
       refine AWP_block ?_
       refine AWP_seq ?_
       replace hK := chk_some hK
       obtain ⟨h, hK⟩ := hK
       refine AWP_rg tab_ok [0, 1, 11, 13, 27, 28, 29, 46, 47, 48] fun c st' hr => ?_
       simp only [go_sem] at hr
       obtain ⟨rfl, rfl⟩ := hr
       refine ⟨vc, ?_⟩
       with_reducible refine thenC_normal ?_
       refine AWP_rl ?_
       refine AWPL_rn tab_ok 4 [0, 1, 11, 27, 28, 29, 46, 47, 48, 52, 53, 54, 55] fun c st' hr => ?_
       simp only [go_sem] at hr
       obtain ⟨rfl, rfl⟩ := hr
       refine ⟨vc, ?_⟩
       replace hK := bind_s hK
       obtain ⟨y3, hy, hK⟩ := hK
       refine AWPL_callK [0, 1, 11, 27, 28, 29, 46, 47, 48, 52, 53, 54, 56] (W_rotaref_Size hy) rfl rfl pcT rfl Try.call19 (.cons (.atom _ rfl) .nil) (hscG trivial) (of_decide_eq_true rfl) (by first | rfl | simp [nI, nI1, nI0]) (by first | rfl | simp [nIB, nI0]) fun st' hr => ?_
       simp only [go_sem] at hr
       subst hr
       clear hy
       replace hK := bind_s hK
       obtain ⟨y4, hy, hK⟩ := hK
       refine AWPL_callK [0, 1, 11, 27, 28, 29, 46, 47, 48, 52, 53, 57] (W_rotakeep_over hy) rfl rfl pcT rfl Try.call18 (.cons (.atom _ rfl) (.cons (.atom _ rfl) .nil)) (hscG trivial) (of_decide_eq_true rfl) (by first | rfl | simp [nI, nI1, nI0]) (by first | rfl | simp [nIB, nI0]) fun st' hr => ?_
       simp only [go_sem] at hr
       subst hr
       clear hy
       replace hK := bind_s hK
       obtain ⟨y5, hy, hK⟩ := hK
       refine AWPL_callK [0, 1, 11, 27, 28, 29, 46, 47, 48, 52, 53, 58] (W_rotabig_NewRat hy) rfl rfl pcT rfl Try.call17 (.cons (.atom _ rfl) (.cons (.atom _ rfl) .nil)) (hscG trivial) (of_decide_eq_true rfl) (by first | rfl | simp [nI, nI1, nI0]) (by first | rfl | simp [nIB, nI0]) fun st' hr => ?_
       simp only [go_sem] at hr
       subst hr
       clear hy
       replace hK := bind_s hK
       obtain ⟨y6, hy, hK⟩ := hK
       refine AWPL_gR [0, 1, 11, 27, 28, 29, 46, 47, 48] [0, 4, 1, 2, 5, 6] [.ptr 0 0 0, .ptr 0 0 0, .ptr 1 0 0] [some (.gen 33 4 [[.bool y6.1.1.1, .own 7 y6.1.1.2.length, .bool y6.1.2.1, .own 8 y6.1.2.2.length]]), none, none, some (.ints 3 .i64 y2.1), some (.gen 33 4 [[.bool y6.2.1.1, .own 9 y6.2.1.2.length, .bool y6.2.2.1, .own 10 y6.2.2.2.length]]), none, none, some (.ints 186 .u32 y6.1.1.2), some (.ints 186 .u32 y6.1.2.2), some (.ints 186 .u32 y6.2.1.2), some (.ints 186 .u32 y6.2.2.2)] (r' := .ptr 0 0 0) (W_rotabig_Rat_Add hy) rfl rfl pcT rfl Try.call16 (of_decide_eq_true rfl) ⟨rfl, rfl, rfl, rfl, rfl, rfl, trivial⟩ rfl (hscG trivial) (of_decide_eq_true rfl) rfl rfl rfl (of_decide_eq_true rfl) rfl fun st' hr => ?_
       simp only [go_sem] at hr
       subst hr
       clear hy
       refine AWPL_nil ?_
       with_reducible refine inBlockA_normal (thenC_normal ?_)
       replace hK := chk_some hK
       obtain ⟨h2, hK⟩ := hK
       refine AWP_rg tab_ok [0, 1, 11, 27, 28, 29, 46, 47, 48] fun c st' hr => ?_
       simp only [go_sem] at hr
       obtain ⟨rfl, rfl⟩ := hr
       refine ⟨vc, ?_⟩
       refine again_n (y6.1.1.1, y6.1.1.2, y6.1.2.1, y6.1.2.2, v4 + 1) [0, 7, 8, 3] hK mkWkR
      ·replace hK := ite_f hK hb3
       refine AWP_exit ?_
       with_reducible refine thenC_exit (again_x ?_)
       refine cutX_here (v, v1, v2, v3) [0, 1, 2] (by have hq := hpost1 _ hK; exact hq) mkWkR
     ·clear hK; rintro ⟨v5, v6, v7, v8⟩ hK
      try dsimp only at hK
      refine exS ⟨66, [(0, .int .i64 n), (1, .ints .i64 a1), (11, .ptr 0 0 0), (27, .imm 1 [[.func 15 []], [.func 13 []]]), (28, .int .i64 2), (29, .int .i64 0)], [some (.gen 33 4 [[.bool v5, .own 1 v6.length, .bool v7, .own 2 v8.length]]), some (.ints 186 .u32 v6), some (.ints 186 .u32 v8)]⟩ rfl ?_
      with_reducible refine inBlockA_exit (thenC_normal ?_)
      refine AWP_seq ?_
      refine AWP_rl ?_
      refine AWPL_rn tab_ok 1 [0, 1, 27, 28, 29, 61] fun c st' hr => ?_
      simp only [go_sem] at hr
      obtain ⟨rfl, rfl⟩ := hr
      refine ⟨vc, ?_⟩
      replace hK := bind_s hK
      obtain ⟨y7, hy, hK⟩ := hK
      refine AWPL_callK [0, 1, 27, 28, 29, 61, 62] (W_rotabig_NewRat hy) rfl rfl pcT rfl Try.call17 (.cons (.atom _ rfl) (.cons (.atom _ rfl) .nil)) (hscG trivial) (of_decide_eq_true rfl) (by first | rfl | simp [nI, nI1, nI0]) (by first | rfl | simp [nIB, nI0]) fun st' hr => ?_
      simp only [go_sem] at hr
      subst hr
      clear hy
      replace hK := bind_s hK
      obtain ⟨y8, hy, hK⟩ := hK
      refine AWPL_gM [0, 1, 27, 28, 29, 63] [0, 3, 1, 2, 4, 5] [.ptr 0 0 0, .ptr 1 0 0] [some (.gen 33 4 [[.bool y8.2.1.1.1, .own 6 y8.2.1.1.2.length, .bool y8.2.1.2.1, .own 7 y8.2.1.2.2.length]]), none, none, some (.gen 33 4 [[.bool y8.2.2.1.1, .own 8 y8.2.2.1.2.length, .bool y8.2.2.2.1, .own 9 y8.2.2.2.2.length]]), none, none, some (.ints 186 .u32 y8.2.1.1.2), some (.ints 186 .u32 y8.2.1.2.2), some (.ints 186 .u32 y8.2.2.1.2), some (.ints 186 .u32 y8.2.2.2.2)] (W_rotabig_Rat_Cmp hy) rfl rfl pcT rfl Try.call20 (of_decide_eq_true rfl) ⟨rfl, rfl, rfl, rfl, rfl, rfl, trivial⟩ rfl (hscG trivial) (of_decide_eq_true rfl) rfl rfl (of_decide_eq_true rfl) rfl fun st' hr => ?_
      simp only [go_sem] at hr
      subst hr
      clear hy
      refine AWPL_rn tab_ok 1 [0, 1, 27, 28, 29, 64] fun c st' hr => ?_
      simp only [go_sem] at hr
      obtain ⟨rfl, rfl⟩ := hr
      refine ⟨vc, ?_⟩
      refine AWPL_nil ?_
      with_reducible refine thenC_normal ?_
      refine AWP_condP (0 < y8.1) rfl bd (fun hb4 => ?_) (fun hb4 => ?_)
      ·replace hK := ite_t hK hb4
       refine AWP_seq ?_
       refine AWP_rg tab_ok [4] fun c st' hr => ?_
       simp only [go_sem] at hr
       obtain ⟨rfl, rfl⟩ := hr
       refine ⟨vc, ?_⟩
       with_reducible refine thenC_normal ?_
       refine AWP_ret ?_
       with_reducible refine inBlockA_ret (thenC_ret (thenA_r (inBlockA_ret (thenC_ret ?_))))
       cases hK
       refine EndsRW [] (.inl rfl) (of_decide_eq_true rfl) (by simp) rfl (fun c x hr => ?_) trivial
       simp only [go_sem] at hr
       obtain ⟨rfl, rfl⟩ := hr
       exact ⟨rfl, endR⟩
      ·replace hK := ite_f hK hb4
       refine AWP_skip ?_
       with_reducible refine inBlockA_normal (thenC_normal ?_)
       refine AWP_rg tab_ok [0, 1, 27, 28, 29] fun c st' hr => ?_
       simp only [go_sem] at hr
       obtain ⟨rfl, rfl⟩ := hr
       refine ⟨vc, ?_⟩
       with_reducible refine thenA_n ?_
       refine unr_go ?_
       refine AWP_seq ?_
       refine AWP_rg tab_ok [0, 1, 27, 28, 29, 30] fun c st' hr => ?_
       simp only [go_sem] at hr
       obtain ⟨rfl, rfl⟩ := hr
       refine ⟨vc, ?_⟩
       with_reducible refine thenC_normal ?_
       refine AWP_seq ?_
       refine AWP_condP (1 < 2) rfl bd (fun hb5 => ?_) (fun hb5 => ?_)
       rotate_left 1
       ·exact absurd (by omega) hb5
       clear hb5
       refine AWP_skip ?_
       with_reducible refine thenC_normal ?_
       refine AWP_seq ?_
       refine AWP_block ?_
       refine AWP_seq ?_
       refine AWP_rg tab_ok [0, 1, 8, 27, 28, 29] fun c st' hr => ?_
       simp only [go_sem] at hr
       obtain ⟨rfl, rfl⟩ := hr
       refine ⟨vc, ?_⟩
       with_reducible refine thenC_normal ?_
       refine AWP_seq ?_
       refine AWP_rl ?_
       refine AWPL_rn tab_ok 3 [0, 1, 27, 28, 29, 34, 35, 36] fun c st' hr => ?_
       simp only [go_sem] at hr
       obtain ⟨rfl, rfl⟩ := hr
       refine ⟨vc, ?_⟩
       replace hK := bind_s hK
       obtain ⟨y9, hy, hK⟩ := hK
       refine AWPL_callK [0, 1, 27, 28, 29, 37] (W_sets_Most hy) rfl rfl pcT rfl Try.call13 (.cons (.atom _ rfl) (.cons (.atom _ rfl) .nil)) (hscG trivial) (of_decide_eq_true rfl) (by first | rfl | simp [nI, nI1, nI0]) (by first | rfl | simp [nIB, nI0]) fun st' hr => ?_
       simp only [go_sem] at hr
       subst hr
       clear hy
       refine AWPL_rn tab_ok 5 [0, 1, 9, 10, 27, 28, 29] fun c st' hr => ?_
       simp only [go_sem] at hr
       obtain ⟨rfl, rfl⟩ := hr
       refine ⟨vc, ?_⟩
       refine AWPL_nil ?_
       with_reducible refine thenC_normal ?_
       refine AWP_seq ?_
       refine AWP_seq ?_
       refine AWP_rg tab_ok [0, 1, 9, 27, 28, 29, 41] fun c st' hr => ?_
       simp only [go_sem] at hr
       obtain ⟨rfl, rfl⟩ := hr
       refine ⟨vc, ?_⟩
       with_reducible refine thenC_normal ?_
       refine AWP_condP (y9.2 ≠ 0) rfl bd (fun hb6 => ?_) (fun hb6 => ?_)
       ·replace hK := ite_t hK hb6
        refine AWP_seq ?_
        refine AWP_rg tab_ok [4] fun c st' hr => ?_
        simp only [go_sem] at hr
        obtain ⟨rfl, rfl⟩ := hr
        refine ⟨vc, ?_⟩
        with_reducible refine thenC_normal ?_
        refine AWP_ret ?_
        with_reducible refine thenC_ret (inBlockA_ret (thenC_ret (thenA_r (inBlockA_ret (thenC_ret ?_)))))
        cases hK
        refine EndsRW [] (.inl rfl) (of_decide_eq_true rfl) (by simp) rfl (fun c x hr => ?_) trivial
        simp only [go_sem] at hr
        obtain ⟨rfl, rfl⟩ := hr
        exact ⟨rfl, endR⟩
       ·replace hK := ite_f hK hb6
        refine AWP_skip ?_
        with_reducible refine thenC_normal ?_
        refine AWP_seq ?_
        refine AWP_rg tab_ok [0, 1, 9, 11, 27, 28, 29] fun c st' hr => ?_
        simp only [go_sem] at hr
        obtain ⟨rfl, rfl⟩ := hr
        refine ⟨vc, ?_⟩
        with_reducible refine thenC_normal ?_
        refine AWP_ownH 11 1 (.ints 186 .u32 []) rfl rfl rfl fun st' hr => ?_
        simp only [go_sem] at hr
        subst hr
        refine AWP_ownH 11 3 (.ints 186 .u32 []) rfl rfl rfl fun st' hr => ?_
        simp only [go_sem] at hr
        subst hr
        refine AWP_seq ?_
        refine AWP_seq ?_
        refine AWP_rg tab_ok [0, 1, 11, 27, 28, 29, 46, 47, 48] fun c st' hr => ?_
        simp only [go_sem] at hr
        obtain ⟨rfl, rfl⟩ := hr
        refine ⟨vc, ?_⟩
        with_reducible refine thenC_normal ?_
        refine AWP_block ?_
        refine AWP_loopX 2 (fun ((v9, v10, v11, v12, v13) : Bool × List Int × Bool × List Int × Int) => ⟨66, [(0, .int .i64 n), (1, .ints .i64 a1), (11, .ptr 0 0 0), (27, .imm 1 [[.func 15 []], [.func 13 []]]), (28, .int .i64 2), (29, .int .i64 1), (46, .own 3 y9.1.length), (47, .int .i64 (y9.1.length : Int)), (48, .int .i64 v13)], [some (.gen 33 4 [[.bool v9, .own 1 v10.length, .bool v11, .own 2 v12.length]]), some (.ints 186 .u32 v10), some (.ints 186 .u32 v12), some (.ints 3 .i64 y9.1)]⟩) (fun ((v14, v15, v16, v17) : Bool × List Int × Bool × List Int) => ⟨66, [(0, .int .i64 n), (1, .ints .i64 a1), (11, .ptr 0 0 0), (27, .imm 1 [[.func 15 []], [.func 13 []]]), (28, .int .i64 2), (29, .int .i64 1)], [some (.gen 33 4 [[.bool v14, .own 1 v15.length, .bool v16, .own 2 v17.length]]), some (.ints 186 .u32 v15), some (.ints 186 .u32 v17)]⟩) (fun v => v) (false, [], false, [], 0) [11, 12, 13, 10] hK mkWkR ?_ ?_
        ·clear hK; rintro ⟨v9, v10, v11, v12, v13⟩ b1 hK hpost2
         try dsimp only at hK
         change AWP _ _ _ _ ⟨66, [(0, .int .i64 n), (1, .ints .i64 a1), (11, .ptr 0 0 0), (27, .imm 1 [[.func 15 []], [.func 13 []]]), (28, .int .i64 2), (29, .int .i64 1), (46, .own 3 y9.1.length), (47, .int .i64 (y9.1.length : Int)), (48, .int .i64 v13)], [some (.gen 33 4 [[.bool v9, .own 1 v10.length, .bool v11, .own 2 v12.length]]), some (.ints 186 .u32 v10), some (.ints 186 .u32 v12), some (.ints 3 .i64 y9.1)]⟩
         refine AWP_seq ?_
         refine AWP_rg tab_ok [0, 1, 11, 27, 28, 29, 46, 47, 48, 49] fun c st' hr => ?_
         simp only [go_sem] at hr
         obtain ⟨rfl, rfl⟩ := hr
         refine ⟨vc, ?_⟩
         with_reducible refine thenC_normal ?_
         refine AWP_seq ?_
         refine AWP_condP (v13 < (y9.1.length : Int)) rfl bd (fun hb7 => ?_) (fun hb7 => ?_)
         ·replace hK := ite_t hK hb7
          refine AWP_skip ?_
          with_reducible refine thenC_normal ?_
          refine AWP_seq ?_
          refine AWP_block ?_
          refine AWP_seq ?_
          replace hK := chk_some hK
          obtain ⟨h4, hK⟩ := hK
          refine AWP_rg tab_ok [0, 1, 11, 13, 27, 28, 29, 46, 47, 48] fun c st' hr => ?_
          simp only [go_sem] at hr
          obtain ⟨rfl, rfl⟩ := hr
          refine ⟨vc, ?_⟩
          with_reducible refine thenC_normal ?_
          refine AWP_rl ?_
          refine AWPL_rn tab_ok 4 [0, 1, 11, 27, 28, 29, 46, 47, 48, 52, 53, 54, 55] fun c st' hr => ?_
          simp only [go_sem] at hr
          obtain ⟨rfl, rfl⟩ := hr
          refine ⟨vc, ?_⟩
          replace hK := bind_s hK
          obtain ⟨y10, hy, hK⟩ := hK
          refine AWPL_callK [0, 1, 11, 27, 28, 29, 46, 47, 48, 52, 53, 54, 56] (W_rotaref_Size hy) rfl rfl pcT rfl Try.call19 (.cons (.atom _ rfl) .nil) (hscG trivial) (of_decide_eq_true rfl) (by first | rfl | simp [nI, nI1, nI0]) (by first | rfl | simp [nIB, nI0]) fun st' hr => ?_
          simp only [go_sem] at hr
          subst hr
          clear hy
          replace hK := bind_s hK
          obtain ⟨y11, hy, hK⟩ := hK
          refine AWPL_callK [0, 1, 11, 27, 28, 29, 46, 47, 48, 52, 53, 57] (W_rotakeep_over hy) rfl rfl pcT rfl Try.call18 (.cons (.atom _ rfl) (.cons (.atom _ rfl) .nil)) (hscG trivial) (of_decide_eq_true rfl) (by first | rfl | simp [nI, nI1, nI0]) (by first | rfl | simp [nIB, nI0]) fun st' hr => ?_
          simp only [go_sem] at hr
          subst hr
          clear hy
          replace hK := bind_s hK
          obtain ⟨y12, hy, hK⟩ := hK
          refine AWPL_callK [0, 1, 11, 27, 28, 29, 46, 47, 48, 52, 53, 58] (W_rotabig_NewRat hy) rfl rfl pcT rfl Try.call17 (.cons (.atom _ rfl) (.cons (.atom _ rfl) .nil)) (hscG trivial) (of_decide_eq_true rfl) (by first | rfl | simp [nI, nI1, nI0]) (by first | rfl | simp [nIB, nI0]) fun st' hr => ?_
          simp only [go_sem] at hr
          subst hr
          clear hy
          replace hK := bind_s hK
          obtain ⟨y13, hy, hK⟩ := hK
          refine AWPL_gR [0, 1, 11, 27, 28, 29, 46, 47, 48] [0, 4, 1, 2, 5, 6] [.ptr 0 0 0, .ptr 0 0 0, .ptr 1 0 0] [some (.gen 33 4 [[.bool y13.1.1.1, .own 7 y13.1.1.2.length, .bool y13.1.2.1, .own 8 y13.1.2.2.length]]), none, none, some (.ints 3 .i64 y9.1), some (.gen 33 4 [[.bool y13.2.1.1, .own 9 y13.2.1.2.length, .bool y13.2.2.1, .own 10 y13.2.2.2.length]]), none, none, some (.ints 186 .u32 y13.1.1.2), some (.ints 186 .u32 y13.1.2.2), some (.ints 186 .u32 y13.2.1.2), some (.ints 186 .u32 y13.2.2.2)] (r' := .ptr 0 0 0) (W_rotabig_Rat_Add hy) rfl rfl pcT rfl Try.call16 (of_decide_eq_true rfl) ⟨rfl, rfl, rfl, rfl, rfl, rfl, trivial⟩ rfl (hscG trivial) (of_decide_eq_true rfl) rfl rfl rfl (of_decide_eq_true rfl) rfl fun st' hr => ?_
          simp only [go_sem] at hr
          subst hr
          clear hy
          refine AWPL_nil ?_
          with_reducible refine inBlockA_normal (thenC_normal ?_)
          replace hK := chk_some hK
          obtain ⟨h6, hK⟩ := hK
          refine AWP_rg tab_ok [0, 1, 11, 27, 28, 29, 46, 47, 48] fun c st' hr => ?_
          simp only [go_sem] at hr
          obtain ⟨rfl, rfl⟩ := hr
          refine ⟨vc, ?_⟩
          refine again_n (y13.1.1.1, y13.1.1.2, y13.1.2.1, y13.1.2.2, v13 + 1) [0, 7, 8, 3] hK mkWkR
         ·replace hK := ite_f hK hb7
          refine AWP_exit ?_
          with_reducible refine thenC_exit (again_x ?_)
          refine cutX_here (v9, v10, v11, v12) [0, 1, 2] (by have hq := hpost2 _ hK; exact hq) mkWkR
        ·clear hK; rintro ⟨v14, v15, v16, v17⟩ hK
         try dsimp only at hK
         refine exS ⟨66, [(0, .int .i64 n), (1, .ints .i64 a1), (11, .ptr 0 0 0), (27, .imm 1 [[.func 15 []], [.func 13 []]]), (28, .int .i64 2), (29, .int .i64 1)], [some (.gen 33 4 [[.bool v14, .own 1 v15.length, .bool v16, .own 2 v17.length]]), some (.ints 186 .u32 v15), some (.ints 186 .u32 v17)]⟩ rfl ?_
         with_reducible refine inBlockA_exit (thenC_normal ?_)
         refine AWP_seq ?_
         refine AWP_rl ?_
         refine AWPL_rn tab_ok 1 [0, 1, 27, 28, 29, 61] fun c st' hr => ?_
         simp only [go_sem] at hr
         obtain ⟨rfl, rfl⟩ := hr
         refine ⟨vc, ?_⟩
         replace hK := bind_s hK
         obtain ⟨y14, hy, hK⟩ := hK
         refine AWPL_callK [0, 1, 27, 28, 29, 61, 62] (W_rotabig_NewRat hy) rfl rfl pcT rfl Try.call17 (.cons (.atom _ rfl) (.cons (.atom _ rfl) .nil)) (hscG trivial) (of_decide_eq_true rfl) (by first | rfl | simp [nI, nI1, nI0]) (by first | rfl | simp [nIB, nI0]) fun st' hr => ?_
         simp only [go_sem] at hr
         subst hr
         clear hy
         replace hK := bind_s hK
         obtain ⟨y15, hy, hK⟩ := hK
         refine AWPL_gM [0, 1, 27, 28, 29, 63] [0, 3, 1, 2, 4, 5] [.ptr 0 0 0, .ptr 1 0 0] [some (.gen 33 4 [[.bool y15.2.1.1.1, .own 6 y15.2.1.1.2.length, .bool y15.2.1.2.1, .own 7 y15.2.1.2.2.length]]), none, none, some (.gen 33 4 [[.bool y15.2.2.1.1, .own 8 y15.2.2.1.2.length, .bool y15.2.2.2.1, .own 9 y15.2.2.2.2.length]]), none, none, some (.ints 186 .u32 y15.2.1.1.2), some (.ints 186 .u32 y15.2.1.2.2), some (.ints 186 .u32 y15.2.2.1.2), some (.ints 186 .u32 y15.2.2.2.2)] (W_rotabig_Rat_Cmp hy) rfl rfl pcT rfl Try.call20 (of_decide_eq_true rfl) ⟨rfl, rfl, rfl, rfl, rfl, rfl, trivial⟩ rfl (hscG trivial) (of_decide_eq_true rfl) rfl rfl (of_decide_eq_true rfl) rfl fun st' hr => ?_
         simp only [go_sem] at hr
         subst hr
         clear hy
         refine AWPL_rn tab_ok 1 [0, 1, 27, 28, 29, 64] fun c st' hr => ?_
         simp only [go_sem] at hr
         obtain ⟨rfl, rfl⟩ := hr
         refine ⟨vc, ?_⟩
         refine AWPL_nil ?_
         with_reducible refine thenC_normal ?_
         refine AWP_condP (0 < y15.1) rfl bd (fun hb8 => ?_) (fun hb8 => ?_)
         ·replace hK := ite_t hK hb8
          refine AWP_seq ?_
          refine AWP_rg tab_ok [4] fun c st' hr => ?_
          simp only [go_sem] at hr
          obtain ⟨rfl, rfl⟩ := hr
          refine ⟨vc, ?_⟩
          with_reducible refine thenC_normal ?_
          refine AWP_ret ?_
          with_reducible refine inBlockA_ret (thenC_ret (thenA_r (inBlockA_ret (thenC_ret ?_))))
          cases hK
          refine EndsRW [] (.inl rfl) (of_decide_eq_true rfl) (by simp) rfl (fun c x hr => ?_) trivial
          simp only [go_sem] at hr
          obtain ⟨rfl, rfl⟩ := hr
          exact ⟨rfl, endR⟩
         ·replace hK := ite_f hK hb8
          refine AWP_skip ?_
          with_reducible refine inBlockA_normal (thenC_normal ?_)
          refine AWP_rg tab_ok [0, 1, 27, 28, 29] fun c st' hr => ?_
          simp only [go_sem] at hr
          obtain ⟨rfl, rfl⟩ := hr
          refine ⟨vc, ?_⟩
          with_reducible refine thenA_n ?_
          refine unr_go ?_
          refine AWP_seq ?_
          refine AWP_rg tab_ok [0, 1, 27, 28, 29, 30] fun c st' hr => ?_
          simp only [go_sem] at hr
          obtain ⟨rfl, rfl⟩ := hr
          refine ⟨vc, ?_⟩
          with_reducible refine thenC_normal ?_
          refine AWP_seq ?_
          refine AWP_condP (2 < 2) rfl bd (fun hb9 => ?_) (fun hb9 => ?_)
          ·exact absurd hb9 (by omega)
          clear hb9
          refine AWP_exit ?_
          with_reducible refine thenC_exit (thenA_x (inBlockA_exit (thenC_normal ?_)))
          refine AWP_seq ?_
          refine AWP_rg tab_ok [4] fun c st' hr => ?_
          simp only [go_sem] at hr
          obtain ⟨rfl, rfl⟩ := hr
          refine ⟨vc, ?_⟩
          with_reducible refine thenC_normal ?_
          refine AWP_ret ?_
          cases hK
          refine EndsRW [] (.inl rfl) (of_decide_eq_true rfl) (by simp) rfl (fun c x hr => ?_) trivial
          simp only [go_sem] at hr
          obtain ⟨rfl, rfl⟩ := hr
          exact ⟨rfl, endR⟩
  ·replace hK := ite_f hK hg
   refine AWPL_stP [(0, .int .i64 n), (1, .ints .i64 a1), (21, .bool true), (22, .opt false (.own 1 y.1.length))] (by first | (simp [SameS, AX.look, hg]; done) | (simp at hg ⊢; simp [SameS, AX.look, hg]; done) | (simp_all [SameS, AX.look]; done)) ?_
   refine AWPL_skipV [0, 1, 21, 22, 23] (.junk) rfl pcF (of_decide_eq_true rfl) fun st' hr => ?_
   simp only [go_sem] at hr
   subst hr
   refine AWPL_skipV [0, 1, 21, 24] (.bool false) rfl pcF (of_decide_eq_true rfl) fun st' hr => ?_
   simp only [go_sem] at hr
   subst hr
   refine AWPL_rn tab_ok 2 [0, 1, 26] fun c st' hr => ?_
   simp only [go_sem] at hr
   obtain ⟨rfl, rfl⟩ := hr
   refine ⟨vc, ?_⟩
   refine AWPL_nil ?_
   with_reducible refine thenC_normal ?_
   refine AWP_condP (True) rfl bd (fun hb10 => ?_) (fun hb10 => ?_)
   rotate_left 1
   ·exact absurd trivial hb10
   clear hb10
   refine AWP_seq ?_
   refine AWP_rg tab_ok [4] fun c st' hr => ?_
   simp only [go_sem] at hr
   obtain ⟨rfl, rfl⟩ := hr
   refine ⟨vc, ?_⟩
   with_reducible refine thenC_normal ?_
   refine AWP_ret ?_
   with_reducible refine thenC_ret ?_
   cases hK
   refine EndsRW [] (.inl rfl) (of_decide_eq_true rfl) (by simp) rfl (fun c x hr => ?_) trivial
   simp only [go_sem] at hr
   obtain ⟨rfl, rfl⟩ := hr
   exact ⟨rfl, endR⟩

end Go.SH
