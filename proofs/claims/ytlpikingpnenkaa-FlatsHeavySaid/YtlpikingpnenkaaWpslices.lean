/-
  That the code computes these functions: slices_isNaN_int, slices_BinarySearch_int_int. By a program of mine (shal.py). Conditions: none.
-/
import Derived.Test.YtlpikingpnenkaaAxT
import Derived.Test.YtlpikingpnenkaaAxR
import Derived.Test.YtlpikingpnenkaaSp
import Derived.Test.YtlpikingpnenkaaWpcmp
set_option linter.unusedVariables false
set_option linter.unusedSimpArgs false
set_option maxRecDepth 8000
set_option maxHeartbeats 4000000
namespace Go.SH
open Go Go.AX Go.AX.Try Go.Proofs


theorem W_slices_isNaN_int {x : Int} {r : Bool} (hK : slices_isNaN_int x = some r) : Pure Try.prog 231 [.int .i64 x] (.bool r) [] := by
  refine Pure_introF tab_ok (n := 6) (l := [.tmp 2]) Try.func231 rfl rfl rfl (by simp) fun hfact w0 => ?_
  simp only [factL1, fact1, fact0, factL0, lo, hi, maxLen, and_true] at hfact
  unfold slices_isNaN_int at hK
  refine AWP_seq ?_
  refine AWP_rg tab_ok [0] fun c st' hr => ?_
  simp only [go_sem] at hr
  obtain ⟨rfl, rfl⟩ := hr
  refine ⟨vc, ?_⟩
  with_reducible refine thenC_normal ?_
  refine AWP_seq ?_
  refine AWP_rg tab_ok [2] fun c st' hr => ?_
  simp only [go_sem] at hr
  obtain ⟨rfl, rfl⟩ := hr
  refine ⟨vc, ?_⟩
  with_reducible refine thenC_normal ?_
  refine AWP_ret ?_
  cases hK
  refine EndsRW [] (.inl rfl) (of_decide_eq_true rfl) (by simp) rfl (fun c x hr => ?_) trivial
  simp only [go_sem] at hr
  obtain ⟨rfl, rfl⟩ := hr
  exact ⟨rfl, endR⟩


theorem W_slices_BinarySearch_int_int {x : List Int} {target : Int} {r : Int × Bool} (hK : slices_BinarySearch_int_int x target = some r) : Pure Try.prog 203 [.ints .i64 x, .int .i64 target] (.tup [.int .i64 r.1, .bool r.2]) [] := by
  refine Pure_introF tab_ok (n := 54) (l := [.tmp 4, .tmp 5]) Try.func203 rfl rfl rfl (by simp) fun hfact w0 => ?_
  simp only [factL1, fact1, fact0, factL0, lo, hi, maxLen, and_true] at hfact
  unfold slices_BinarySearch_int_int at hK
  refine AWP_seq ?_
  refine AWP_rg tab_ok [0, 1] fun c st' hr => ?_
  simp only [go_sem] at hr
  obtain ⟨rfl, rfl⟩ := hr
  refine ⟨vc, ?_⟩
  with_reducible refine thenC_normal ?_
  refine AWP_seq ?_
  refine AWP_rg tab_ok [0, 1, 6] fun c st' hr => ?_
  simp only [go_sem] at hr
  obtain ⟨rfl, rfl⟩ := hr
  refine ⟨vc, ?_⟩
  with_reducible refine thenC_normal ?_
  refine AWP_seq ?_
  refine AWP_rg tab_ok [0, 1, 6, 7, 8] fun c st' hr => ?_
  simp only [go_sem] at hr
  obtain ⟨rfl, rfl⟩ := hr
  refine ⟨vc, ?_⟩
  with_reducible refine thenC_normal ?_
  refine AWP_seq ?_
  refine AWP_block ?_
  refine AWP_loopX 0 (fun ((i, j) : Int × Int) => ⟨54, [(0, .ints .i64 x), (1, .int .i64 target), (6, .int .i64 (x.length : Int)), (7, .int .i64 i), (8, .int .i64 j)], []⟩) (fun (i1 : Int) => ⟨54, [(0, .ints .i64 x), (1, .int .i64 target), (6, .int .i64 (x.length : Int)), (7, .int .i64 i1)], []⟩) (fun v => v) (0, (x.length : Int)) [] hK mkWk ?_ ?_
  ·clear hK; rintro ⟨i, j⟩ b hK hpost1
   try dsimp only at hK
   change AWP _ _ _ _ ⟨54, [(0, .ints .i64 x), (1, .int .i64 target), (6, .int .i64 (x.length : Int)), (7, .int .i64 i), (8, .int .i64 j)], []⟩
   refine AWP_seq ?_
   refine AWP_seq ?_
   refine AWP_rg tab_ok [0, 1, 6, 7, 8, 15] fun c st' hr => ?_
   simp only [go_sem] at hr
   obtain ⟨rfl, rfl⟩ := hr
   refine ⟨vc, ?_⟩
   with_reducible refine thenC_normal ?_
   refine AWP_condP (i < j) rfl bd (fun hb => ?_) (fun hb => ?_)
   ·replace hK := ite_t hK hb
    refine AWP_skip ?_
    with_reducible refine thenC_normal ?_
    refine AWP_block ?_
    refine AWP_seq ?_
    replace hK := chk_some hK
    obtain ⟨h, hK⟩ := hK
    refine AWP_rg tab_ok [0, 1, 6, 7, 8, 9] fun c st' hr => ?_
    simp only [go_sem] at hr
    obtain ⟨rfl, rfl⟩ := hr
    refine ⟨vc, ?_⟩
    with_reducible refine thenC_normal ?_
    refine AWP_seq ?_
    refine AWP_rl ?_
    replace hK := chk_some hK
    obtain ⟨h1, hK⟩ := hK
    refine AWPL_rn tab_ok 5 [0, 1, 6, 7, 8, 9, 25, 26] fun c st' hr => ?_
    simp only [go_sem] at hr
    obtain ⟨rfl, rfl⟩ := hr
    refine ⟨vc, ?_⟩
    replace hK := bind_s hK
    obtain ⟨y, hy, hK⟩ := hK
    refine AWPL_callK [0, 1, 6, 7, 8, 9, 27] (W_cmp_Less_int hy) rfl rfl pcT rfl Try.call186 (.cons (.atom _ rfl) (.cons (.atom _ rfl) .nil)) (hscG trivial) (of_decide_eq_true rfl) (by first | rfl | simp [nI, nI1, nI0]) (by first | rfl | simp [nIB, nI0]) fun st' hr => ?_
    simp only [go_sem] at hr
    subst hr
    clear hy
    refine AWPL_nil ?_
    with_reducible refine thenC_normal ?_
    refine AWP_condP (y = true) rfl bd (fun hb1 => ?_) (fun hb1 => ?_)
    ·replace hK := ite_t hK hb1
     replace hK := chk_some hK
     obtain ⟨h2, hK⟩ := hK
     refine AWP_rg tab_ok [0, 1, 6, 7, 8] fun c st' hr => ?_
     simp only [go_sem] at hr
     obtain ⟨rfl, rfl⟩ := hr
     refine ⟨vc, ?_⟩
     with_reducible refine inBlockA_normal ?_
     refine again_n (((i + j) / 2 ^ 1) + 1, j) [] hK mkWk
    ·replace hK := ite_f hK hb1
     refine AWP_rg tab_ok [0, 1, 6, 7, 8] fun c st' hr => ?_
     simp only [go_sem] at hr
     obtain ⟨rfl, rfl⟩ := hr
     refine ⟨vc, ?_⟩
     with_reducible refine inBlockA_normal ?_
     refine again_n (i, (i + j) / 2 ^ 1) [] hK mkWk
   ·replace hK := ite_f hK hb
    refine AWP_exit ?_
    with_reducible refine thenC_exit (again_x ?_)
    refine cutX_here i [] (by have hq := hpost1 _ hK; exact hq) mkWk
  ·clear hK; rintro i1 hK
   try dsimp only at hK
   refine exS ⟨54, [(0, .ints .i64 x), (1, .int .i64 target), (6, .int .i64 (x.length : Int)), (7, .int .i64 i1)], []⟩ rfl ?_
   with_reducible refine inBlockA_exit (thenC_normal ?_)
   refine AWP_seq ?_
   refine AWP_rl ?_
   replace hK := chk_some hK
   obtain ⟨h3, hK⟩ := hK
   refine AWPL_rn tab_ok 16 [1, 31, 35, 42, 46] fun c st' hr => ?_
   simp only [go_sem] at hr
   obtain ⟨rfl, rfl⟩ := hr
   refine ⟨vc, ?_⟩
   replace hK := bind_s hK
   obtain ⟨y1, hy, hK⟩ := hK
   refine AWPL_callGP [1, 31, 35, 42, 47] (((i1 < (x.length : Int)) ∧ ¬ (x.getD i1.toNat 0 = target))) (fun hg => (W_slices_isNaN_int (ite_t hy hg))) rfl rfl pcG rfl Try.call231 (.cons (.atom _ rfl) .nil) (fun hg => hscG hg) (of_decide_eq_true rfl) (by first | rfl | simp [nI, nI1, nI0]) (by first | rfl | simp [sh, sh1, sh0]) fun st' hr => ?_
   simp only [go_sem] at hr
   subst hr
   clear hy
   refine AWPL_rn tab_ok 2 [31, 35, 42, 48, 49] fun c st' hr => ?_
   simp only [go_sem] at hr
   obtain ⟨rfl, rfl⟩ := hr
   refine ⟨vc, ?_⟩
   replace hK := bind_s hK
   obtain ⟨y2, hy, hK⟩ := hK
   refine AWPL_callGP [31, 35, 42, 48, 50] ((((i1 < (x.length : Int)) ∧ ¬ (x.getD i1.toNat 0 = target)) ∧ y1 = true)) (fun hg => (W_slices_isNaN_int (ite_t hy hg))) rfl rfl pcG rfl Try.call231 (.cons (.atom _ rfl) .nil) (fun hg => hscG hg) (of_decide_eq_true rfl) (by first | rfl | simp [nI, nI1, nI0]) (by first | rfl | simp [sh, sh1, sh0]) fun st' hr => ?_
   simp only [go_sem] at hr
   subst hr
   clear hy
   refine AWPL_rn tab_ok 5 [4, 5] fun c st' hr => ?_
   simp only [go_sem] at hr
   obtain ⟨rfl, rfl⟩ := hr
   refine ⟨vc, ?_⟩
   refine AWPL_nil ?_
   with_reducible refine thenC_normal ?_
   refine AWP_ret ?_
   cases hK
   refine EndsRW [] (.inl rfl) (of_decide_eq_true rfl) (by simp) rfl (fun c x hr => ?_) trivial
   simp only [go_sem] at hr
   obtain ⟨rfl, rfl⟩ := hr
   exact ⟨rfl, endR⟩

end Go.SH
