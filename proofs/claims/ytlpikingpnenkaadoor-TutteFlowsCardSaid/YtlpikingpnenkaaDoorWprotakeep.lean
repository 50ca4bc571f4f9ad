/-
  That the code computes these functions: rotakeep_power, rotakeep_TutteFlows_1, rotakeep_value. By a program of mine (shal.py). Conditions: none.
-/
import Derived.Test.YtlpikingpnenkaaDoorAxT
import Derived.Test.YtlpikingpnenkaaDoorAxR
import Derived.Test.YtlpikingpnenkaaDoorAxRx
import Derived.Test.YtlpikingpnenkaaDoorSp
import Derived.Test.YtlpikingpnenkaaDoorWprotabig
set_option linter.unusedVariables false
set_option linter.unusedSimpArgs false
set_option maxRecDepth 8000
set_option maxHeartbeats 4000000
namespace Go.SH
open Go Go.AX Go.AX.Tryd Go.Proofs


theorem W_rotakeep_power {a : Int} {b : Int} {r : Int} (hK : rotakeep_power a b = some r) : Pure Tryd.prog 10 [.int .i64 a, .int .i64 b] (.int .i64 r) [] := by
  refine Pure_introF tab_ok (n := 14) (l := [.tmp 4]) Tryd.func10 rfl rfl rfl (by simp) fun hfact w0 => ?_
  simp only [factL1, fact1, fact0, factL0, lo, hi, maxLen, and_true] at hfact
  unfold rotakeep_power at hK
  refine AWP_seq ?_
  refine AWP_rg tab_ok [0, 1] fun c st' hr => ?_
  simp only [go_sem] at hr
  obtain ⟨rfl, rfl⟩ := hr
  refine ⟨vc, ?_⟩
  with_reducible refine thenC_normal ?_
  refine AWP_seq ?_
  refine AWP_rg tab_ok [0, 1, 5] fun c st' hr => ?_
  simp only [go_sem] at hr
  obtain ⟨rfl, rfl⟩ := hr
  refine ⟨vc, ?_⟩
  with_reducible refine thenC_normal ?_
  refine AWP_seq ?_
  refine AWP_seq ?_
  refine AWP_rg tab_ok [0, 5, 6, 7] fun c st' hr => ?_
  simp only [go_sem] at hr
  obtain ⟨rfl, rfl⟩ := hr
  refine ⟨vc, ?_⟩
  with_reducible refine thenC_normal ?_
  refine AWP_block ?_
  refine AWP_loopX 0 (fun ((n, v) : Int × Int) => ⟨14, [(0, .int .i64 a), (5, .int .i64 n), (6, .int .i64 b), (7, .int .i64 v)], []⟩) (fun (n1 : Int) => ⟨14, [(5, .int .i64 n1)], []⟩) (fun v => v) (1, 0) [] hK mkWk ?_ ?_
  ·clear hK; rintro ⟨n, v⟩ b1 hK hpost1
   try dsimp only at hK
   change AWP _ _ _ _ ⟨14, [(0, .int .i64 a), (5, .int .i64 n), (6, .int .i64 b), (7, .int .i64 v)], []⟩
   refine AWP_seq ?_
   refine AWP_rg tab_ok [0, 5, 6, 7, 8] fun c st' hr => ?_
   simp only [go_sem] at hr
   obtain ⟨rfl, rfl⟩ := hr
   refine ⟨vc, ?_⟩
   with_reducible refine thenC_normal ?_
   refine AWP_seq ?_
   refine AWP_condP (v < b) rfl bd (fun hb => ?_) (fun hb => ?_)
   ·replace hK := ite_t hK hb
    refine AWP_skip ?_
    with_reducible refine thenC_normal ?_
    refine AWP_seq ?_
    refine AWP_block ?_
    replace hK := chk_some hK
    obtain ⟨h, hK⟩ := hK
    refine AWP_rg tab_ok [0, 5, 6, 7] fun c st' hr => ?_
    simp only [go_sem] at hr
    obtain ⟨rfl, rfl⟩ := hr
    refine ⟨vc, ?_⟩
    with_reducible refine inBlockA_normal (thenC_normal ?_)
    refine AWP_facts (by simp) fun hfx => ?_
    simp only [factS, factV, fact1, fact0, factL0, lo, hi, maxLen, and_true, true_and] at hfx
    refine AWP_rg tab_ok [0, 5, 6, 7] fun c st' hr => ?_
    simp only [go_sem] at hr
    obtain ⟨rfl, rfl⟩ := hr
    refine ⟨vc, ?_⟩
    clear hfx
    refine again_n (n * a, v + 1) [] hK mkWk
   ·replace hK := ite_f hK hb
    refine AWP_exit ?_
    with_reducible refine thenC_exit (again_x ?_)
    refine cutX_here n [] (by have hq := hpost1 _ hK; exact hq) mkWk
  ·clear hK; rintro n1 hK
   try dsimp only at hK
   refine exS ⟨14, [(5, .int .i64 n1)], []⟩ rfl ?_
   with_reducible refine inBlockA_exit (thenC_normal ?_)
   refine AWP_seq ?_
   refine AWP_rg tab_ok [4] fun c st' hr => ?_
   simp only [go_sem] at hr
   obtain ⟨rfl, rfl⟩ := hr
   refine ⟨vc, ?_⟩
   with_reducible refine thenC_normal ?_
   refine AWP_ret ?_
   cases hK
   refine EndsRW [] (.inl rfl) (of_decide_eq_true rfl) (by simp) rfl (fun c x hr => ?_) trivial
   simp only [go_sem] at hr
   obtain ⟨rfl, rfl⟩ := hr
   exact ⟨rfl, endR⟩


theorem W_rotakeep_TutteFlows_1 {x : Int} {c0 : Int} {r : Bool} (hK : rotakeep_TutteFlows_1 x c0 = some r) : Pure Tryd.prog 17 [.int .i64 x, .intp .i64 c0] (.bool r) [] := by
  refine Pure_introF tab_ok (n := 8) (l := [.tmp 3]) Tryd.func17 rfl rfl rfl (by simp) fun hfact w0 => ?_
  simp only [factL1, fact1, fact0, factL0, lo, hi, maxLen, and_true] at hfact
  unfold rotakeep_TutteFlows_1 at hK
  refine AWP_seq ?_
  refine AWP_rg tab_ok [0, 1] fun c st' hr => ?_
  simp only [go_sem] at hr
  obtain ⟨rfl, rfl⟩ := hr
  refine ⟨vc, ?_⟩
  with_reducible refine thenC_normal ?_
  refine AWP_seq ?_
  replace hK := chk_some hK
  obtain ⟨h, hK⟩ := hK
  refine AWP_rg tab_ok [3] fun c st' hr => ?_
  simp only [go_sem] at hr
  obtain ⟨rfl, rfl⟩ := hr
  refine ⟨vc, ?_⟩
  with_reducible refine thenC_normal ?_
  refine AWP_ret ?_
  cases hK
  refine EndsRW [] (.inl rfl) (of_decide_eq_true rfl) (by simp) rfl (fun c x hr => ?_) trivial
  simp only [go_sem] at hr
  obtain ⟨rfl, rfl⟩ := hr
  exact ⟨rfl, endR⟩


theorem W_rotakeep_value {c : List Int} {at0 : Int} {r : Bool × List Int} (hK : rotakeep_value c at0 = some r) : Pure Tryd.prog 11 [.ints .i64 c, .int .i64 at0] (.ptr 0 0 0) [(.gen 51 2 [[.bool r.1, .own 1 r.2.length]]), (.ints 64 .u32 r.2)] := by
  refine Pure_introF tab_ok (n := 29) (l := [.tmp 4]) Tryd.func11 rfl rfl rfl (by simp) fun hfact w0 => ?_
  simp only [factL1, fact1, fact0, factL0, lo, hi, maxLen, and_true] at hfact
  unfold rotakeep_value at hK
  refine AWP_seq ?_
  refine AWP_rg tab_ok [0, 1] fun c st' hr => ?_
  simp only [go_sem] at hr
  obtain ⟨rfl, rfl⟩ := hr
  refine ⟨vc, ?_⟩
  with_reducible refine thenC_normal ?_
  refine AWP_seq ?_
  refine AWP_rg tab_ok [0, 1, 5] fun c st' hr => ?_
  simp only [go_sem] at hr
  obtain ⟨rfl, rfl⟩ := hr
  refine ⟨vc, ?_⟩
  with_reducible refine thenC_normal ?_
  refine AWP_ownH 0 1 (.ints 64 .u32 []) rfl rfl rfl fun st' hr => ?_
  simp only [go_sem] at hr
  subst hr
  refine AWP_seq ?_
  refine AWP_seq ?_
  replace hK := chk_some hK
  obtain ⟨h, hK⟩ := hK
  refine AWP_rg tab_ok [0, 1, 5, 6] fun c st' hr => ?_
  simp only [go_sem] at hr
  obtain ⟨rfl, rfl⟩ := hr
  refine ⟨vc, ?_⟩
  with_reducible refine thenC_normal ?_
  refine AWP_block ?_
  refine AWP_loopX 0 (fun ((sum, sum1, i) : Bool × List Int × Int) => ⟨29, [(0, .ints .i64 c), (1, .int .i64 at0), (5, .ptr 0 0 0), (6, .int .i64 i)], [some (.gen 51 2 [[.bool sum, .own 1 sum1.length]]), some (.ints 64 .u32 sum1)]⟩) (fun ((sum2, sum3) : Bool × List Int) => ⟨29, [(5, .ptr 0 0 0)], [some (.gen 51 2 [[.bool sum2, .own 1 sum3.length]]), some (.ints 64 .u32 sum3)]⟩) (fun v => v) (false, [], (c.length : Int) - 1) [0, 1] hK mkWk ?_ ?_
  ·clear hK; rintro ⟨sum, sum1, i⟩ b hK hpost1
   try dsimp only at hK
   change AWP _ _ _ _ ⟨29, [(0, .ints .i64 c), (1, .int .i64 at0), (5, .ptr 0 0 0), (6, .int .i64 i)], [some (.gen 51 2 [[.bool sum, .own 1 sum1.length]]), some (.ints 64 .u32 sum1)]⟩
   refine AWP_seq ?_
   refine AWP_seq ?_
   refine AWP_rg tab_ok [0, 1, 5, 6, 12] fun c st' hr => ?_
   simp only [go_sem] at hr
   obtain ⟨rfl, rfl⟩ := hr
   refine ⟨vc, ?_⟩
   with_reducible refine thenC_normal ?_
   refine AWP_condP (0 ≤ i) rfl bd (fun hb => ?_) (fun hb => ?_)
   ·replace hK := ite_t hK hb
    refine AWP_skip ?_
    with_reducible refine thenC_normal ?_
    refine AWP_seq ?_
    refine AWP_block ?_
    refine AWP_seq ?_
    refine AWP_rl ?_
    refine AWPL_rn tab_ok 3 [0, 1, 5, 6, 15, 16, 17] fun c st' hr => ?_
    simp only [go_sem] at hr
    obtain ⟨rfl, rfl⟩ := hr
    refine ⟨vc, ?_⟩
    replace hK := bind_s hK
    obtain ⟨y, hy, hK⟩ := hK
    refine AWPL_callK [0, 1, 5, 6, 15, 16, 18] (W_rotabig_NewInt hy) rfl rfl pcT rfl Tryd.call25 (.cons (.atom _ rfl) .nil) (hscG trivial) (of_decide_eq_true rfl) (by first | rfl | simp [nI, nI1, nI0]) (by first | rfl | simp [nIB, nI0]) fun st' hr => ?_
    simp only [go_sem] at hr
    subst hr
    clear hy
    replace hK := bind_s hK
    obtain ⟨y1, hy, hK⟩ := hK
    refine AWPL_gR [0, 1, 5, 6] [0, 2, 1, 3] [.ptr 0 0 0, .ptr 0 0 0, .ptr 1 0 0] [some (.gen 51 2 [[.bool y1.1.1, .own 4 y1.1.2.length]]), none, some (.gen 51 2 [[.bool y1.2.1, .own 5 y1.2.2.length]]), none, some (.ints 64 .u32 y1.1.2), some (.ints 64 .u32 y1.2.2)] (r' := .ptr 0 0 0) (W_rotabig_Int_Mul hy) rfl rfl pcT rfl Tryd.call24 (of_decide_eq_true rfl) ⟨rfl, rfl, rfl, rfl, trivial⟩ rfl (hscG trivial) (of_decide_eq_true rfl) rfl rfl rfl (of_decide_eq_true rfl) rfl fun st' hr => ?_
    simp only [go_sem] at hr
    subst hr
    clear hy
    refine AWPL_nil ?_
    with_reducible refine thenC_normal ?_
    refine AWP_rl ?_
    replace hK := chk_some hK
    obtain ⟨h2, hK⟩ := hK
    refine AWPL_rn tab_ok 6 [0, 1, 5, 6, 20, 21, 25] fun c st' hr => ?_
    simp only [go_sem] at hr
    obtain ⟨rfl, rfl⟩ := hr
    refine ⟨vc, ?_⟩
    replace hK := bind_s hK
    obtain ⟨y2, hy, hK⟩ := hK
    refine AWPL_callK [0, 1, 5, 6, 20, 21, 26] (W_rotabig_NewInt hy) rfl rfl pcT rfl Tryd.call25 (.cons (.atom _ rfl) .nil) (hscG trivial) (of_decide_eq_true rfl) (by first | rfl | simp [nI, nI1, nI0]) (by first | rfl | simp [nIB, nI0]) fun st' hr => ?_
    simp only [go_sem] at hr
    subst hr
    clear hy
    replace hK := bind_s hK
    obtain ⟨y3, hy, hK⟩ := hK
    refine AWPL_gR [0, 1, 5, 6] [0, 6, 4, 7] [.ptr 0 0 0, .ptr 0 0 0, .ptr 1 0 0] [some (.gen 51 2 [[.bool y3.1.1, .own 8 y3.1.2.length]]), none, some (.gen 51 2 [[.bool y1.2.1, .own 5 y1.2.2.length]]), none, none, some (.ints 64 .u32 y1.2.2), some (.gen 51 2 [[.bool y3.2.1, .own 9 y3.2.2.length]]), none, some (.ints 64 .u32 y3.1.2), some (.ints 64 .u32 y3.2.2)] (r' := .ptr 0 0 0) (W_rotabig_Int_Add hy) rfl rfl pcT rfl Tryd.call26 (of_decide_eq_true rfl) ⟨rfl, rfl, rfl, rfl, trivial⟩ rfl (hscG trivial) (of_decide_eq_true rfl) rfl rfl rfl (of_decide_eq_true rfl) rfl fun st' hr => ?_
    simp only [go_sem] at hr
    subst hr
    clear hy
    refine AWPL_nil ?_
    with_reducible refine inBlockA_normal (thenC_normal ?_)
    replace hK := chk_some hK
    obtain ⟨h4, hK⟩ := hK
    refine AWP_rg tab_ok [0, 1, 5, 6] fun c st' hr => ?_
    simp only [go_sem] at hr
    obtain ⟨rfl, rfl⟩ := hr
    refine ⟨vc, ?_⟩
    refine again_n (y3.1.1, y3.1.2, i - 1) [0, 8] hK mkWk
   ·replace hK := ite_f hK hb
    refine AWP_exit ?_
    with_reducible refine thenC_exit (again_x ?_)
    refine cutX_here (sum, sum1) [0, 1] (by have hq := hpost1 _ hK; exact hq) mkWk
  ·clear hK; rintro ⟨sum2, sum3⟩ hK
   try dsimp only at hK
   refine exS ⟨29, [(5, .ptr 0 0 0)], [some (.gen 51 2 [[.bool sum2, .own 1 sum3.length]]), some (.ints 64 .u32 sum3)]⟩ rfl ?_
   with_reducible refine inBlockA_exit (thenC_normal ?_)
   refine AWP_seq ?_
   refine AWP_rg tab_ok [4] fun c st' hr => ?_
   simp only [go_sem] at hr
   obtain ⟨rfl, rfl⟩ := hr
   refine ⟨vc, ?_⟩
   with_reducible refine thenC_normal ?_
   refine AWP_ret ?_
   cases hK
   refine EndsRW [0, 1] (.inl rfl) (of_decide_eq_true rfl) (by simp) rfl (fun c x hr => ?_) endH
   simp only [go_sem] at hr
   obtain ⟨rfl, rfl⟩ := hr
   exact ⟨rfl, endR⟩

end Go.SH
