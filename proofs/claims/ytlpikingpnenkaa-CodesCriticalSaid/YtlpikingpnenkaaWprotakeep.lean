/-
  That the code computes these functions: rotakeep_CodesCritical_1, rotakeep_value. By a program of mine (shal.py). Conditions: none.
-/
import Derived.Test.YtlpikingpnenkaaAxT
import Derived.Test.YtlpikingpnenkaaAxR
import Derived.Test.YtlpikingpnenkaaAxRx
import Derived.Test.YtlpikingpnenkaaSprotakeep
import Derived.Test.YtlpikingpnenkaaWprotabig
set_option linter.unusedVariables false
set_option linter.unusedSimpArgs false
set_option maxRecDepth 8000
set_option maxHeartbeats 4000000
namespace Go.SH
open Go Go.AX Go.AX.Try Go.Proofs


theorem W_rotakeep_CodesCritical_1 {n : Int} {r : Bool} (hK : rotakeep_CodesCritical_1 n = some r) : Pure Try.prog 36 [.int .i64 n] (.bool r) [] := by
  refine Pure_introF tab_ok (n := 5) (l := [.tmp 2]) Try.func36 rfl rfl rfl (by simp) fun hfact w0 => ?_
  simp only [factL1, fact1, fact0, factL0, lo, hi, maxLen, and_true] at hfact
  unfold rotakeep_CodesCritical_1 at hK
  refine AWP_seq ?_
  refine AWP_rg tab_ok [0] fun c st' hr => ?_
  simp only [go_sem] at hr
  obtain ⟨rfl, rfl⟩ := hr
  refine ⟨vc, ?_⟩
  with_reducible refine thenC_normal ?_
  refine AWP_seq ?_
  refine AWP_rg tab_ok [2] fun c st' hr => ?_
  simp only [go_sem] at hr
  obtain ⟨rfl, rfl⟩ := hr
  refine ⟨vc, ?_⟩
  with_reducible refine thenC_normal ?_
  refine AWP_ret ?_
  cases hK
  refine EndsRW [] (.inl rfl) (of_decide_eq_true rfl) (by simp) rfl (fun c x hr => ?_) trivial
  simp only [go_sem] at hr
  obtain ⟨rfl, rfl⟩ := hr
  exact ⟨rfl, endR⟩


theorem W_rotakeep_value {c : List Int} {at0 : Int} {r : Bool × List Int} (hK : rotakeep_value c at0 = some r) : Pure Try.prog 37 [.ints .i64 c, .int .i64 at0] (.ptr 0 0 0) [(.gen 31 2 [[.bool r.1, .own 1 r.2.length]]), (.ints 186 .u32 r.2)] := by
  refine Pure_introF tab_ok (n := 29) (l := [.tmp 4]) Try.func37 rfl rfl rfl (by simp) fun hfact w0 => ?_
  simp only [factL1, fact1, fact0, factL0, lo, hi, maxLen, and_true] at hfact
  unfold rotakeep_value at hK
  refine AWP_seq ?_
  refine AWP_rg tab_ok [0, 1] fun c st' hr => ?_
  simp only [go_sem] at hr
  obtain ⟨rfl, rfl⟩ := hr
  refine ⟨vc, ?_⟩
  with_reducible refine thenC_normal ?_
  refine AWP_seq ?_
  refine AWP_rg tab_ok [0, 1, 5] fun c st' hr => ?_
  simp only [go_sem] at hr
  obtain ⟨rfl, rfl⟩ := hr
  refine ⟨vc, ?_⟩
  with_reducible refine thenC_normal ?_
  refine AWP_ownH 0 1 (.ints 186 .u32 []) rfl rfl rfl fun st' hr => ?_
  simp only [go_sem] at hr
  subst hr
  refine AWP_seq ?_
  refine AWP_seq ?_
  replace hK := chk_some hK
  obtain ⟨h, hK⟩ := hK
  refine AWP_rg tab_ok [0, 1, 5, 6] fun c st' hr => ?_
  simp only [go_sem] at hr
  obtain ⟨rfl, rfl⟩ := hr
  refine ⟨vc, ?_⟩
  with_reducible refine thenC_normal ?_
  refine AWP_block ?_
  refine AWP_loopX 0 (fun ((sum, sum1, i) : Bool × List Int × Int) => ⟨29, [(0, .ints .i64 c), (1, .int .i64 at0), (5, .ptr 0 0 0), (6, .int .i64 i)], [some (.gen 31 2 [[.bool sum, .own 1 sum1.length]]), some (.ints 186 .u32 sum1)]⟩) (fun ((sum2, sum3) : Bool × List Int) => ⟨29, [(5, .ptr 0 0 0)], [some (.gen 31 2 [[.bool sum2, .own 1 sum3.length]]), some (.ints 186 .u32 sum3)]⟩) (fun v => v) (false, [], (c.length : Int) - 1) [0, 1] hK mkWk ?_ ?_
  ·clear hK; rintro ⟨sum, sum1, i⟩ b hK hpost1
   try dsimp only at hK
   change AWP _ _ _ _ ⟨29, [(0, .ints .i64 c), (1, .int .i64 at0), (5, .ptr 0 0 0), (6, .int .i64 i)], [some (.gen 31 2 [[.bool sum, .own 1 sum1.length]]), some (.ints 186 .u32 sum1)]⟩
   refine AWP_seq ?_
   refine AWP_seq ?_
   refine AWP_rg tab_ok [0, 1, 5, 6, 12] fun c st' hr => ?_
   simp only [go_sem] at hr
   obtain ⟨rfl, rfl⟩ := hr
   refine ⟨vc, ?_⟩
   with_reducible refine thenC_normal ?_
   refine AWP_condP (0 ≤ i) rfl bd (fun hb => ?_) (fun hb => ?_)
   ·replace hK := ite_t hK hb
    refine AWP_skip ?_
    with_reducible refine thenC_normal ?_
    refine AWP_seq ?_
    refine AWP_block ?_
    refine AWP_seq ?_
    refine AWP_rl ?_
    refine AWPL_rn tab_ok 3 [0, 1, 5, 6, 15, 16, 17] fun c st' hr => ?_
    simp only [go_sem] at hr
    obtain ⟨rfl, rfl⟩ := hr
    refine ⟨vc, ?_⟩
    replace hK := bind_s hK
    obtain ⟨y, hy, hK⟩ := hK
    refine AWPL_callK [0, 1, 5, 6, 15, 16, 18] (W_rotabig_NewInt hy) rfl rfl pcT rfl Try.call68 (.cons (.atom _ rfl) .nil) (hscG trivial) (of_decide_eq_true rfl) (by first | rfl | simp [nI, nI1, nI0]) (by first | rfl | simp [nIB, nI0]) fun st' hr => ?_
    simp only [go_sem] at hr
    subst hr
    clear hy
    replace hK := bind_s hK
    obtain ⟨y1, hy, hK⟩ := hK
    refine AWPL_gR [0, 1, 5, 6] [0, 2, 1, 3] [.ptr 0 0 0, .ptr 0 0 0, .ptr 1 0 0] [some (.gen 31 2 [[.bool y1.1.1, .own 4 y1.1.2.length]]), none, some (.gen 31 2 [[.bool y1.2.1, .own 5 y1.2.2.length]]), none, some (.ints 186 .u32 y1.1.2), some (.ints 186 .u32 y1.2.2)] (r' := .ptr 0 0 0) (W_rotabig_Int_Mul hy) rfl rfl pcT rfl Try.call65 (of_decide_eq_true rfl) ⟨rfl, rfl, rfl, rfl, trivial⟩ rfl (hscG trivial) (of_decide_eq_true rfl) rfl rfl rfl (of_decide_eq_true rfl) rfl fun st' hr => ?_
    simp only [go_sem] at hr
    subst hr
    clear hy
    refine AWPL_nil ?_
    with_reducible refine thenC_normal ?_
    refine AWP_rl ?_
    replace hK := chk_some hK
    obtain ⟨h2, hK⟩ := hK
    refine AWPL_rn tab_ok 6 [0, 1, 5, 6, 20, 21, 25] fun c st' hr => ?_
    simp only [go_sem] at hr
    obtain ⟨rfl, rfl⟩ := hr
    refine ⟨vc, ?_⟩
    replace hK := bind_s hK
    obtain ⟨y2, hy, hK⟩ := hK
    refine AWPL_callK [0, 1, 5, 6, 20, 21, 26] (W_rotabig_NewInt hy) rfl rfl pcT rfl Try.call68 (.cons (.atom _ rfl) .nil) (hscG trivial) (of_decide_eq_true rfl) (by first | rfl | simp [nI, nI1, nI0]) (by first | rfl | simp [nIB, nI0]) fun st' hr => ?_
    simp only [go_sem] at hr
    subst hr
    clear hy
    replace hK := bind_s hK
    obtain ⟨y3, hy, hK⟩ := hK
    refine AWPL_gR [0, 1, 5, 6] [0, 6, 4, 7] [.ptr 0 0 0, .ptr 0 0 0, .ptr 1 0 0] [some (.gen 31 2 [[.bool y3.1.1, .own 8 y3.1.2.length]]), none, some (.gen 31 2 [[.bool y1.2.1, .own 5 y1.2.2.length]]), none, none, some (.ints 186 .u32 y1.2.2), some (.gen 31 2 [[.bool y3.2.1, .own 9 y3.2.2.length]]), none, some (.ints 186 .u32 y3.1.2), some (.ints 186 .u32 y3.2.2)] (r' := .ptr 0 0 0) (W_rotabig_Int_Add hy) rfl rfl pcT rfl Try.call64 (of_decide_eq_true rfl) ⟨rfl, rfl, rfl, rfl, trivial⟩ rfl (hscG trivial) (of_decide_eq_true rfl) rfl rfl rfl (of_decide_eq_true rfl) rfl fun st' hr => ?_
    simp only [go_sem] at hr
    subst hr
    clear hy
    refine AWPL_nil ?_
    with_reducible refine inBlockA_normal (thenC_normal ?_)
    replace hK := chk_some hK
    obtain ⟨h4, hK⟩ := hK
    refine AWP_rg tab_ok [0, 1, 5, 6] fun c st' hr => ?_
    simp only [go_sem] at hr
    obtain ⟨rfl, rfl⟩ := hr
    refine ⟨vc, ?_⟩
    refine again_n (y3.1.1, y3.1.2, i - 1) [0, 8] hK mkWk
   ·replace hK := ite_f hK hb
    refine AWP_exit ?_
    with_reducible refine thenC_exit (again_x ?_)
    refine cutX_here (sum, sum1) [0, 1] (by have hq := hpost1 _ hK; exact hq) mkWk
  ·clear hK; rintro ⟨sum2, sum3⟩ hK
   try dsimp only at hK
   refine exS ⟨29, [(5, .ptr 0 0 0)], [some (.gen 31 2 [[.bool sum2, .own 1 sum3.length]]), some (.ints 186 .u32 sum3)]⟩ rfl ?_
   with_reducible refine inBlockA_exit (thenC_normal ?_)
   refine AWP_seq ?_
   refine AWP_rg tab_ok [4] fun c st' hr => ?_
   simp only [go_sem] at hr
   obtain ⟨rfl, rfl⟩ := hr
   refine ⟨vc, ?_⟩
   with_reducible refine thenC_normal ?_
   refine AWP_ret ?_
   cases hK
   refine EndsRW [0, 1] (.inl rfl) (of_decide_eq_true rfl) (by simp) rfl (fun c x hr => ?_) endH
   simp only [go_sem] at hr
   obtain ⟨rfl, rfl⟩ := hr
   exact ⟨rfl, endR⟩

end Go.SH
