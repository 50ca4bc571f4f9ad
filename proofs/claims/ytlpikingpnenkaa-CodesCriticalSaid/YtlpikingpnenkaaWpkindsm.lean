/-
  That the code computes these functions: kinds_CheckMatrix. By a program of mine (shal.py). Conditions: none.
-/
import Derived.Test.YtlpikingpnenkaaAxT
import Derived.Test.YtlpikingpnenkaaAxR
import Derived.Test.YtlpikingpnenkaaSp
set_option linter.unusedVariables false
set_option linter.unusedSimpArgs false
set_option maxRecDepth 8000
set_option maxHeartbeats 4000000
namespace Go.SH
open Go Go.AX Go.AX.Try Go.Proofs


theorem W_kinds_CheckMatrix {x_0 : Int} {x_1 : Int} {x_2 : List (List Int)} {r : Int} (hK : kinds_CheckMatrix x_0 x_1 x_2 = some r) : Pure Try.prog 82 [.agg [.int .i64 x_0, .int .i64 x_1, .fn 1 x_2.length (fun i => [.ints .i64 (x_2.getD i [])])]] (.int .i64 r) [] := by
  refine Pure_introF tab_ok (n := 69) (l := [.tmp 2]) Try.func82 rfl rfl rfl (by simp) fun hfact w0 => ?_
  simp only [factL1, fact1, fact0, factL0, lo, hi, maxLen, and_true] at hfact
  unfold kinds_CheckMatrix at hK
  refine AWP_seq ?_
  refine AWP_rg tab_ok [1] fun c st' hr => ?_
  simp only [go_sem] at hr
  obtain ⟨rfl, rfl⟩ := hr
  refine ⟨vc, ?_⟩
  with_reducible refine thenC_normal ?_
  refine AWP_seq ?_
  refine AWP_seq ?_
  refine AWP_rg tab_ok [1, 40] fun c st' hr => ?_
  simp only [go_sem] at hr
  obtain ⟨rfl, rfl⟩ := hr
  refine ⟨vc, ?_⟩
  with_reducible refine thenC_normal ?_
  refine AWP_condP (((((((x_0 ≠ 2 ∧ x_0 ≠ 3) ∧ x_0 ≠ 5) ∧ x_0 ≠ 7) ∨ x_1 < 0) ∨ 8 < x_1) ∨ 6 < (x_2.length : Int))) rfl bd (fun hb => ?_) (fun hb => ?_)
  ·replace hK := ite_t hK hb
   refine AWP_seq ?_
   refine AWP_rg tab_ok [2] fun c st' hr => ?_
   simp only [go_sem] at hr
   obtain ⟨rfl, rfl⟩ := hr
   refine ⟨vc, ?_⟩
   with_reducible refine thenC_normal ?_
   refine AWP_ret ?_
   with_reducible refine thenC_ret ?_
   cases hK
   refine EndsRW [] (.inl rfl) (of_decide_eq_true rfl) (by simp) rfl (fun c x hr => ?_) trivial
   simp only [go_sem] at hr
   obtain ⟨rfl, rfl⟩ := hr
   exact ⟨rfl, endR⟩
  ·replace hK := ite_f hK hb
   refine AWP_skip ?_
   with_reducible refine thenC_normal ?_
   refine AWP_seq ?_
   refine AWP_seq ?_
   refine AWP_rg tab_ok [1, 42, 43, 44] fun c st' hr => ?_
   simp only [go_sem] at hr
   obtain ⟨rfl, rfl⟩ := hr
   refine ⟨vc, ?_⟩
   with_reducible refine thenC_normal ?_
   refine AWP_block ?_
   refine AWP_loopX 0 (fun (v : Int) => ⟨69, [(1, .ptr 0 0 0), (42, .fn 1 x_2.length (fun i => [.ints .i64 (x_2.getD i [])])), (43, .int .i64 (x_2.length : Int)), (44, .int .i64 v)], [some (.gen 65 3 [[.int .i64 x_0, .int .i64 x_1, .fn 1 x_2.length (fun i => [.ints .i64 (x_2.getD i [])])]])]⟩) (fun (_ : Unit) => ⟨69, [], []⟩) Sum.inl 0 [0] hK mkWk ?_ ?_
   ·clear hK; rintro v b hK hpost1
    try dsimp only at hK
    change AWP _ _ _ _ ⟨69, [(1, .ptr 0 0 0), (42, .fn 1 x_2.length (fun i => [.ints .i64 (x_2.getD i [])])), (43, .int .i64 (x_2.length : Int)), (44, .int .i64 v)], [some (.gen 65 3 [[.int .i64 x_0, .int .i64 x_1, .fn 1 x_2.length (fun i => [.ints .i64 (x_2.getD i [])])]])]⟩
    refine AWP_seq ?_
    refine AWP_rg tab_ok [1, 42, 43, 44, 45] fun c st' hr => ?_
    simp only [go_sem] at hr
    obtain ⟨rfl, rfl⟩ := hr
    refine ⟨vc, ?_⟩
    with_reducible refine thenC_normal ?_
    refine AWP_seq ?_
    refine AWP_condP (v < (x_2.length : Int)) rfl bd (fun hb1 => ?_) (fun hb1 => ?_)
    ·replace hK := ite_t hK hb1
     refine AWP_skip ?_
     with_reducible refine thenC_normal ?_
     refine AWP_seq ?_
     refine AWP_block ?_
     refine AWP_seq ?_
     replace hK := chk_some hK
     obtain ⟨h, hK⟩ := hK
     refine AWP_rg tab_ok [1, 4, 42, 43, 44] fun c st' hr => ?_
     simp only [go_sem] at hr
     obtain ⟨rfl, rfl⟩ := hr
     refine ⟨vc, ?_⟩
     with_reducible refine thenC_normal ?_
     refine AWP_seq ?_
     refine AWP_seq ?_
     refine AWP_rg tab_ok [1, 4, 42, 43, 44, 52] fun c st' hr => ?_
     simp only [go_sem] at hr
     obtain ⟨rfl, rfl⟩ := hr
     refine ⟨vc, ?_⟩
     with_reducible refine thenC_normal ?_
     refine AWP_condP (((x_2.getD v.toNat []).length : Int) ≠ x_1) rfl bd (fun hb2 => ?_) (fun hb2 => ?_)
     ·replace hK := ite_t hK hb2
      refine AWP_seq ?_
      refine AWP_rg tab_ok [2] fun c st' hr => ?_
      simp only [go_sem] at hr
      obtain ⟨rfl, rfl⟩ := hr
      refine ⟨vc, ?_⟩
      with_reducible refine thenC_normal ?_
      refine AWP_ret ?_
      with_reducible refine thenC_ret (inBlockA_ret (thenC_ret (again_r (cutX_r (inBlockA_ret (thenC_ret ?_))))))
      replace hK := hpost1 _ hK
      try dsimp only at hK
      cases hK
      refine EndsRW [] (.inl rfl) (of_decide_eq_true rfl) (by simp) rfl (fun c x hr => ?_) trivial
      simp only [go_sem] at hr
      obtain ⟨rfl, rfl⟩ := hr
      exact ⟨rfl, endR⟩
     ·replace hK := ite_f hK hb2
      refine AWP_skip ?_
      with_reducible refine thenC_normal ?_
      refine AWP_seq ?_
      refine AWP_rg tab_ok [1, 42, 43, 44, 53, 54, 55] fun c st' hr => ?_
      simp only [go_sem] at hr
      obtain ⟨rfl, rfl⟩ := hr
      refine ⟨vc, ?_⟩
      with_reducible refine thenC_normal ?_
      refine AWP_block ?_
      refine AWP_loopX 2 (fun (v1 : Int) => ⟨69, [(1, .ptr 0 0 0), (42, .fn 1 x_2.length (fun i => [.ints .i64 (x_2.getD i [])])), (43, .int .i64 (x_2.length : Int)), (44, .int .i64 v), (53, .ints .i64 (x_2.getD v.toNat [])), (54, .int .i64 ((x_2.getD v.toNat []).length : Int)), (55, .int .i64 v1)], [some (.gen 65 3 [[.int .i64 x_0, .int .i64 x_1, .fn 1 x_2.length (fun i => [.ints .i64 (x_2.getD i [])])]])]⟩) (fun (_ : Unit) => ⟨69, [(1, .ptr 0 0 0), (42, .fn 1 x_2.length (fun i => [.ints .i64 (x_2.getD i [])])), (43, .int .i64 (x_2.length : Int)), (44, .int .i64 v)], [some (.gen 65 3 [[.int .i64 x_0, .int .i64 x_1, .fn 1 x_2.length (fun i => [.ints .i64 (x_2.getD i [])])]])]⟩) Sum.inl 0 [0] hK mkWk ?_ ?_
      ·clear hK; rintro v1 b1 hK hpost2
       try dsimp only at hK
       change AWP _ _ _ _ ⟨69, [(1, .ptr 0 0 0), (42, .fn 1 x_2.length (fun i => [.ints .i64 (x_2.getD i [])])), (43, .int .i64 (x_2.length : Int)), (44, .int .i64 v), (53, .ints .i64 (x_2.getD v.toNat [])), (54, .int .i64 ((x_2.getD v.toNat []).length : Int)), (55, .int .i64 v1)], [some (.gen 65 3 [[.int .i64 x_0, .int .i64 x_1, .fn 1 x_2.length (fun i => [.ints .i64 (x_2.getD i [])])]])]⟩
       refine AWP_seq ?_
       refine AWP_rg tab_ok [1, 42, 43, 44, 53, 54, 55, 56] fun c st' hr => ?_
       simp only [go_sem] at hr
       obtain ⟨rfl, rfl⟩ := hr
       refine ⟨vc, ?_⟩
       with_reducible refine thenC_normal ?_
       refine AWP_seq ?_
       refine AWP_condP (v1 < ((x_2.getD v.toNat []).length : Int)) rfl bd (fun hb3 => ?_) (fun hb3 => ?_)
       ·replace hK := ite_t hK hb3
        refine AWP_skip ?_
        with_reducible refine thenC_normal ?_
        refine AWP_seq ?_
        refine AWP_block ?_
        refine AWP_seq ?_
        replace hK := chk_some hK
        obtain ⟨h1, hK⟩ := hK
        refine AWP_rg tab_ok [1, 6, 42, 43, 44, 53, 54, 55] fun c st' hr => ?_
        simp only [go_sem] at hr
        obtain ⟨rfl, rfl⟩ := hr
        refine ⟨vc, ?_⟩
        with_reducible refine thenC_normal ?_
        refine AWP_seq ?_
        refine AWP_rg tab_ok [1, 42, 43, 44, 53, 54, 55, 66] fun c st' hr => ?_
        simp only [go_sem] at hr
        obtain ⟨rfl, rfl⟩ := hr
        refine ⟨vc, ?_⟩
        with_reducible refine thenC_normal ?_
        refine AWP_condP (((x_2.getD v.toNat []).getD v1.toNat 0 < 0 ∨ x_0 ≤ (x_2.getD v.toNat []).getD v1.toNat 0)) rfl bd (fun hb4 => ?_) (fun hb4 => ?_)
        ·replace hK := ite_t hK hb4
         refine AWP_seq ?_
         refine AWP_rg tab_ok [2] fun c st' hr => ?_
         simp only [go_sem] at hr
         obtain ⟨rfl, rfl⟩ := hr
         refine ⟨vc, ?_⟩
         with_reducible refine thenC_normal ?_
         refine AWP_ret ?_
         with_reducible refine inBlockA_ret (thenC_ret (again_r (cutX_r (inBlockA_ret (inBlockA_ret (thenC_ret (again_r (cutX_r (inBlockA_ret (thenC_ret ?_))))))))))
         replace hK := hpost2 _ hK
         try dsimp only at hK
         replace hK := hpost1 _ hK
         try dsimp only at hK
         cases hK
         refine EndsRW [] (.inl rfl) (of_decide_eq_true rfl) (by simp) rfl (fun c x hr => ?_) trivial
         simp only [go_sem] at hr
         obtain ⟨rfl, rfl⟩ := hr
         exact ⟨rfl, endR⟩
        ·replace hK := ite_f hK hb4
         refine AWP_skip ?_
         with_reducible refine inBlockA_normal (thenC_normal ?_)
         refine AWP_facts (by simp) fun hfx => ?_
         simp only [factS, factV, fact1, fact0, factL0, lo, hi, maxLen, and_true, true_and] at hfx
         refine AWP_rg tab_ok [1, 42, 43, 44, 53, 54, 55] fun c st' hr => ?_
         simp only [go_sem] at hr
         obtain ⟨rfl, rfl⟩ := hr
         refine ⟨vc, ?_⟩
         clear hfx
         refine again_n (v1 + 1) [0] hK mkWk
       ·replace hK := ite_f hK hb3
        refine AWP_exit ?_
        with_reducible refine thenC_exit (again_x ?_)
        refine cutX_here () [0] (by have hq := hpost2 _ hK; exact hq) mkWk
      ·clear hK; rintro _ hK
       try dsimp only at hK
       refine exS ⟨69, [(1, .ptr 0 0 0), (42, .fn 1 x_2.length (fun i => [.ints .i64 (x_2.getD i [])])), (43, .int .i64 (x_2.length : Int)), (44, .int .i64 v)], [some (.gen 65 3 [[.int .i64 x_0, .int .i64 x_1, .fn 1 x_2.length (fun i => [.ints .i64 (x_2.getD i [])])]])]⟩ rfl ?_
       with_reducible refine inBlockA_exit (inBlockA_normal (thenC_normal ?_))
       refine AWP_facts (by simp) fun hfx => ?_
       simp only [factS, factV, fact1, fact0, factL0, lo, hi, maxLen, and_true, true_and] at hfx
       refine AWP_rg tab_ok [1, 42, 43, 44] fun c st' hr => ?_
       simp only [go_sem] at hr
       obtain ⟨rfl, rfl⟩ := hr
       refine ⟨vc, ?_⟩
       clear hfx
       refine again_n (v + 1) [0] hK mkWk
    ·replace hK := ite_f hK hb1
     refine AWP_exit ?_
     with_reducible refine thenC_exit (again_x ?_)
     refine cutX_here () [] (by have hq := hpost1 _ hK; exact hq) mkWk
   ·clear hK; rintro _ hK
    try dsimp only at hK
    refine exS ⟨69, [], []⟩ rfl ?_
    with_reducible refine inBlockA_exit (thenC_normal ?_)
    refine AWP_seq ?_
    refine AWP_rg tab_ok [2] fun c st' hr => ?_
    simp only [go_sem] at hr
    obtain ⟨rfl, rfl⟩ := hr
    refine ⟨vc, ?_⟩
    with_reducible refine thenC_normal ?_
    refine AWP_ret ?_
    cases hK
    refine EndsRW [] (.inl rfl) (of_decide_eq_true rfl) (by simp) rfl (fun c x hr => ?_) trivial
    simp only [go_sem] at hr
    obtain ⟨rfl, rfl⟩ := hr
    exact ⟨rfl, endR⟩

end Go.SH
