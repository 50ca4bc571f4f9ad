/-
  That the code computes these functions: kinds_CheckGraph. By a program of mine (shal.py). Conditions: none.
-/
import Derived.Test.YtlpikingpnenkaaAxT
import Derived.Test.YtlpikingpnenkaaAxR
import Derived.Test.YtlpikingpnenkaaSp
set_option linter.unusedVariables false
set_option linter.unusedSimpArgs false
set_option maxRecDepth 8000
set_option maxHeartbeats 4000000
namespace Go.SH
open Go Go.AX Go.AX.Try Go.Proofs


theorem W_kinds_CheckGraph {g_0 : Int} {g_1 : List (Int × Int)} {r : Int} (hK : kinds_CheckGraph g_0 g_1 = some r) : Pure Try.prog 132 [.agg [.int .i64 g_0, .fn 2 g_1.length (fun i => [.int .i64 ((g_1.getD i (0, 0)).1), .int .i64 ((g_1.getD i (0, 0)).2)])]] (.int .i64 r) [] := by
  refine Pure_introF tab_ok (n := 49) (l := [.tmp 2]) Try.func132 rfl rfl rfl (by simp) fun hfact w0 => ?_
  simp only [factL1, fact1, fact0, factL0, lo, hi, maxLen, and_true] at hfact
  unfold kinds_CheckGraph at hK
  refine AWP_seq ?_
  refine AWP_rg tab_ok [1] fun c st' hr => ?_
  simp only [go_sem] at hr
  obtain ⟨rfl, rfl⟩ := hr
  refine ⟨vc, ?_⟩
  with_reducible refine thenC_normal ?_
  refine AWP_seq ?_
  refine AWP_seq ?_
  refine AWP_rg tab_ok [1, 18] fun c st' hr => ?_
  simp only [go_sem] at hr
  obtain ⟨rfl, rfl⟩ := hr
  refine ⟨vc, ?_⟩
  with_reducible refine thenC_normal ?_
  refine AWP_condP (((g_0 < 1 ∨ 7 < g_0) ∨ 8 < (g_1.length : Int))) rfl bd (fun hb => ?_) (fun hb => ?_)
  ·replace hK := ite_t hK hb
   refine AWP_seq ?_
   refine AWP_rg tab_ok [2] fun c st' hr => ?_
   simp only [go_sem] at hr
   obtain ⟨rfl, rfl⟩ := hr
   refine ⟨vc, ?_⟩
   with_reducible refine thenC_normal ?_
   refine AWP_ret ?_
   with_reducible refine thenC_ret ?_
   cases hK
   refine EndsRW [] (.inl rfl) (of_decide_eq_true rfl) (by simp) rfl (fun c x hr => ?_) trivial
   simp only [go_sem] at hr
   obtain ⟨rfl, rfl⟩ := hr
   exact ⟨rfl, endR⟩
  ·replace hK := ite_f hK hb
   refine AWP_skip ?_
   with_reducible refine thenC_normal ?_
   refine AWP_seq ?_
   refine AWP_seq ?_
   refine AWP_rg tab_ok [1, 20, 21, 22] fun c st' hr => ?_
   simp only [go_sem] at hr
   obtain ⟨rfl, rfl⟩ := hr
   refine ⟨vc, ?_⟩
   with_reducible refine thenC_normal ?_
   refine AWP_block ?_
   refine AWP_loopX 0 (fun (v : Int) => ⟨49, [(1, .ptr 0 0 0), (20, .fn 2 g_1.length (fun i => [.int .i64 ((g_1.getD i (0, 0)).1), .int .i64 ((g_1.getD i (0, 0)).2)])), (21, .int .i64 (g_1.length : Int)), (22, .int .i64 v)], [some (.gen 42 2 [[.int .i64 g_0, .fn 2 g_1.length (fun i => [.int .i64 ((g_1.getD i (0, 0)).1), .int .i64 ((g_1.getD i (0, 0)).2)])]])]⟩) (fun (_ : Unit) => ⟨49, [], []⟩) Sum.inl 0 [0] hK mkWk ?_ ?_
   ·clear hK; rintro v b hK hpost1
    try dsimp only at hK
    change AWP _ _ _ _ ⟨49, [(1, .ptr 0 0 0), (20, .fn 2 g_1.length (fun i => [.int .i64 ((g_1.getD i (0, 0)).1), .int .i64 ((g_1.getD i (0, 0)).2)])), (21, .int .i64 (g_1.length : Int)), (22, .int .i64 v)], [some (.gen 42 2 [[.int .i64 g_0, .fn 2 g_1.length (fun i => [.int .i64 ((g_1.getD i (0, 0)).1), .int .i64 ((g_1.getD i (0, 0)).2)])]])]⟩
    refine AWP_seq ?_
    refine AWP_rg tab_ok [1, 20, 21, 22, 23] fun c st' hr => ?_
    simp only [go_sem] at hr
    obtain ⟨rfl, rfl⟩ := hr
    refine ⟨vc, ?_⟩
    with_reducible refine thenC_normal ?_
    refine AWP_seq ?_
    refine AWP_condP (v < (g_1.length : Int)) rfl bd (fun hb1 => ?_) (fun hb1 => ?_)
    ·replace hK := ite_t hK hb1
     refine AWP_skip ?_
     with_reducible refine thenC_normal ?_
     refine AWP_seq ?_
     refine AWP_block ?_
     refine AWP_seq ?_
     replace hK := chk_some hK
     obtain ⟨h, hK⟩ := hK
     refine AWP_rg tab_ok [1, 4, 20, 21, 22] fun c st' hr => ?_
     simp only [go_sem] at hr
     obtain ⟨rfl, rfl⟩ := hr
     refine ⟨vc, ?_⟩
     with_reducible refine thenC_normal ?_
     refine AWP_seq ?_
     refine AWP_rg tab_ok [1, 20, 21, 22, 47] fun c st' hr => ?_
     simp only [go_sem] at hr
     obtain ⟨rfl, rfl⟩ := hr
     refine ⟨vc, ?_⟩
     with_reducible refine thenC_normal ?_
     refine AWP_condP (((((g_1.getD v.toNat (0, 0)).1 < 0 ∨ (g_1.getD v.toNat (0, 0)).2 < 0) ∨ g_0 ≤ (g_1.getD v.toNat (0, 0)).1) ∨ g_0 ≤ (g_1.getD v.toNat (0, 0)).2)) rfl bd (fun hb2 => ?_) (fun hb2 => ?_)
     ·replace hK := ite_t hK hb2
      refine AWP_seq ?_
      refine AWP_rg tab_ok [2] fun c st' hr => ?_
      simp only [go_sem] at hr
      obtain ⟨rfl, rfl⟩ := hr
      refine ⟨vc, ?_⟩
      with_reducible refine thenC_normal ?_
      refine AWP_ret ?_
      with_reducible refine inBlockA_ret (thenC_ret (again_r (cutX_r (inBlockA_ret (thenC_ret ?_)))))
      replace hK := hpost1 _ hK
      try dsimp only at hK
      cases hK
      refine EndsRW [] (.inl rfl) (of_decide_eq_true rfl) (by simp) rfl (fun c x hr => ?_) trivial
      simp only [go_sem] at hr
      obtain ⟨rfl, rfl⟩ := hr
      exact ⟨rfl, endR⟩
     ·replace hK := ite_f hK hb2
      refine AWP_skip ?_
      with_reducible refine inBlockA_normal (thenC_normal ?_)
      refine AWP_facts (by simp) fun hfx => ?_
      simp only [factS, factV, fact1, fact0, factL0, lo, hi, maxLen, and_true, true_and] at hfx
      refine AWP_rg tab_ok [1, 20, 21, 22] fun c st' hr => ?_
      simp only [go_sem] at hr
      obtain ⟨rfl, rfl⟩ := hr
      refine ⟨vc, ?_⟩
      clear hfx
      refine again_n (v + 1) [0] hK mkWk
    ·replace hK := ite_f hK hb1
     refine AWP_exit ?_
     with_reducible refine thenC_exit (again_x ?_)
     refine cutX_here () [] (by have hq := hpost1 _ hK; exact hq) mkWk
   ·clear hK; rintro _ hK
    try dsimp only at hK
    refine exS ⟨49, [], []⟩ rfl ?_
    with_reducible refine inBlockA_exit (thenC_normal ?_)
    refine AWP_seq ?_
    refine AWP_rg tab_ok [2] fun c st' hr => ?_
    simp only [go_sem] at hr
    obtain ⟨rfl, rfl⟩ := hr
    refine ⟨vc, ?_⟩
    with_reducible refine thenC_normal ?_
    refine AWP_ret ?_
    cases hK
    refine EndsRW [] (.inl rfl) (of_decide_eq_true rfl) (by simp) rfl (fun c x hr => ?_) trivial
    simp only [go_sem] at hr
    obtain ⟨rfl, rfl⟩ := hr
    exact ⟨rfl, endR⟩

end Go.SH
