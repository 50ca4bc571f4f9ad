/-
  That the code computes these functions: axioms_flat, axioms_Flats_1, axioms_size, axioms_exchange, axioms_Check, axioms_ranks, axioms_family, axioms_Flats, axioms_Ranks. By a program of mine (shal.py). Conditions: none.
-/
import Derived.Test.YtlpikingpnenkaaAxT
import Derived.Test.YtlpikingpnenkaaAxR
import Derived.Test.YtlpikingpnenkaaSp
import Derived.Test.YtlpikingpnenkaaWpbits
import Derived.Test.YtlpikingpnenkaaWpsets
import Derived.Test.YtlpikingpnenkaaWpslices
set_option linter.unusedVariables false
set_option linter.unusedSimpArgs false
set_option maxRecDepth 8000
set_option maxHeartbeats 4000000
namespace Go.SH
open Go Go.AX Go.AX.Try Go.Proofs


theorem W_axioms_flat {r1 : List Int} {n : Int} {s : Int} {r : Bool} (hK : axioms_flat r1 n s = some r) : Pure Try.prog 177 [.ints .i64 r1, .int .i64 n, .int .i64 s] (.bool r) [] := by
  refine Pure_introF tab_ok (n := 32) (l := [.tmp 6]) Try.func177 rfl rfl rfl (by simp) fun hfact w0 => ?_
  simp only [factL1, fact1, fact0, factL0, lo, hi, maxLen, and_true] at hfact
  unfold axioms_flat at hK
  refine AWP_seq ?_
  refine AWP_rg tab_ok [0, 1, 2] fun c st' hr => ?_
  simp only [go_sem] at hr
  obtain ⟨rfl, rfl⟩ := hr
  refine ⟨vc, ?_⟩
  with_reducible refine thenC_normal ?_
  refine AWP_seq ?_
  refine AWP_seq ?_
  refine AWP_rg tab_ok [0, 2, 8, 9] fun c st' hr => ?_
  simp only [go_sem] at hr
  obtain ⟨rfl, rfl⟩ := hr
  refine ⟨vc, ?_⟩
  with_reducible refine thenC_normal ?_
  refine AWP_block ?_
  refine AWP_loopX 0 (fun (v : Int) => ⟨32, [(0, .ints .i64 r1), (2, .int .i64 s), (8, .int .i64 n), (9, .int .i64 v)], []⟩) (fun (_ : Unit) => ⟨32, [], []⟩) Sum.inl 0 [] hK mkWk ?_ ?_
  ·clear hK; rintro v b hK hpost1
   try dsimp only at hK
   change AWP _ _ _ _ ⟨32, [(0, .ints .i64 r1), (2, .int .i64 s), (8, .int .i64 n), (9, .int .i64 v)], []⟩
   refine AWP_seq ?_
   refine AWP_rg tab_ok [0, 2, 8, 9, 10] fun c st' hr => ?_
   simp only [go_sem] at hr
   obtain ⟨rfl, rfl⟩ := hr
   refine ⟨vc, ?_⟩
   with_reducible refine thenC_normal ?_
   refine AWP_seq ?_
   refine AWP_condP (v < n) rfl bd (fun hb => ?_) (fun hb => ?_)
   ·replace hK := ite_t hK hb
    refine AWP_skip ?_
    with_reducible refine thenC_normal ?_
    refine AWP_seq ?_
    refine AWP_block ?_
    refine AWP_seq ?_
    refine AWP_rg tab_ok [0, 2, 7, 8, 9] fun c st' hr => ?_
    simp only [go_sem] at hr
    obtain ⟨rfl, rfl⟩ := hr
    refine ⟨vc, ?_⟩
    with_reducible refine thenC_normal ?_
    refine AWP_seq ?_
    replace hK := chk_some hK
    obtain ⟨h, hK⟩ := hK
    refine AWP_dr tab_ok [0, 2, 8, 9, 30] mixed (by kernel_rfl) fun c st' hr => ?_
    simp only [go_sem] at hr
    obtain ⟨rfl, rfl⟩ := hr
    refine ⟨vc, ?_⟩
    with_reducible refine thenC_normal ?_
    refine AWP_condP ((iand (s / 2 ^ v.toNat) 1 = 0 ∧ r1.getD (ior s (2 ^ v.toNat : Int)).toNat 0 = r1.getD s.toNat 0)) rfl bd (fun hb1 => ?_) (fun hb1 => ?_)
    ·replace hK := ite_t hK hb1
     refine AWP_seq ?_
     refine AWP_rg tab_ok [6] fun c st' hr => ?_
     simp only [go_sem] at hr
     obtain ⟨rfl, rfl⟩ := hr
     refine ⟨vc, ?_⟩
     with_reducible refine thenC_normal ?_
     refine AWP_ret ?_
     with_reducible refine inBlockA_ret (thenC_ret (again_r (cutX_r (inBlockA_ret (thenC_ret ?_)))))
     replace hK := hpost1 _ hK
     try dsimp only at hK
     cases hK
     refine EndsRW [] (.inl rfl) (of_decide_eq_true rfl) (by simp) rfl (fun c x hr => ?_) trivial
     simp only [go_sem] at hr
     obtain ⟨rfl, rfl⟩ := hr
     exact ⟨rfl, endR⟩
    ·replace hK := ite_f hK hb1
     refine AWP_skip ?_
     with_reducible refine inBlockA_normal (thenC_normal ?_)
     refine AWP_facts (by simp) fun hfx => ?_
     simp only [factS, factV, fact1, fact0, factL0, lo, hi, maxLen, and_true, true_and] at hfx
     refine AWP_rg tab_ok [0, 2, 8, 9] fun c st' hr => ?_
     simp only [go_sem] at hr
     obtain ⟨rfl, rfl⟩ := hr
     refine ⟨vc, ?_⟩
     clear hfx
     refine again_n (v + 1) [] hK mkWk
   ·replace hK := ite_f hK hb
    refine AWP_exit ?_
    with_reducible refine thenC_exit (again_x ?_)
    refine cutX_here () [] (by have hq := hpost1 _ hK; exact hq) mkWk
  ·clear hK; rintro _ hK
   try dsimp only at hK
   refine exS ⟨32, [], []⟩ rfl ?_
   with_reducible refine inBlockA_exit (thenC_normal ?_)
   refine AWP_seq ?_
   refine AWP_rg tab_ok [6] fun c st' hr => ?_
   simp only [go_sem] at hr
   obtain ⟨rfl, rfl⟩ := hr
   refine ⟨vc, ?_⟩
   with_reducible refine thenC_normal ?_
   refine AWP_ret ?_
   cases hK
   refine EndsRW [] (.inl rfl) (of_decide_eq_true rfl) (by simp) rfl (fun c x hr => ?_) trivial
   simp only [go_sem] at hr
   obtain ⟨rfl, rfl⟩ := hr
   exact ⟨rfl, endR⟩


theorem W_axioms_Flats_1 {r1 : List Int} {s : Int} {c0_0 : Int} {c0_1 : List Int} {r : Bool} (hK : axioms_Flats_1 r1 s c0_0 c0_1 = some r) : Pure Try.prog 176 [.ints .i64 r1, .int .i64 s, .immp [.int .i64 c0_0, .ints .i64 c0_1]] (.bool r) [] := by
  refine Pure_introF tab_ok (n := 11) (l := [.tmp 5]) Try.func176 rfl rfl rfl (by simp) fun hfact w0 => ?_
  simp only [factL1, fact1, fact0, factL0, lo, hi, maxLen, and_true] at hfact
  unfold axioms_Flats_1 at hK
  refine AWP_seq ?_
  refine AWP_rg tab_ok [0, 1, 2] fun c st' hr => ?_
  simp only [go_sem] at hr
  obtain ⟨rfl, rfl⟩ := hr
  refine ⟨vc, ?_⟩
  with_reducible refine thenC_normal ?_
  refine AWP_seq ?_
  refine AWP_rl ?_
  refine AWPL_rn tab_ok 4 [6, 8, 9] fun c st' hr => ?_
  simp only [go_sem] at hr
  obtain ⟨rfl, rfl⟩ := hr
  refine ⟨vc, ?_⟩
  replace hK := bind_s hK
  obtain ⟨y, hy, hK⟩ := hK
  refine AWPL_callK [10] (W_axioms_flat hy) rfl rfl pcT rfl Try.call177 (.cons (.atom _ rfl) (.cons (.atom _ rfl) (.cons (.atom _ rfl) .nil))) (hscG trivial) (of_decide_eq_true rfl) (by first | rfl | simp [nI, nI1, nI0]) (by first | rfl | simp [nIB, nI0]) fun st' hr => ?_
  simp only [go_sem] at hr
  subst hr
  clear hy
  refine AWPL_rn tab_ok 1 [5] fun c st' hr => ?_
  simp only [go_sem] at hr
  obtain ⟨rfl, rfl⟩ := hr
  refine ⟨vc, ?_⟩
  refine AWPL_nil ?_
  with_reducible refine thenC_normal ?_
  refine AWP_ret ?_
  cases hK
  refine EndsRW [] (.inl rfl) (of_decide_eq_true rfl) (by simp) rfl (fun c x hr => ?_) trivial
  simp only [go_sem] at hr
  obtain ⟨rfl, rfl⟩ := hr
  exact ⟨rfl, endR⟩


theorem W_axioms_size {s : Int} {r : Int} (hK : axioms_size s = some r) : Pure Try.prog 154 [.int .i64 s] (.int .i64 r) [] := by
  refine Pure_introF tab_ok (n := 6) (l := [.tmp 2]) Try.func154 rfl rfl rfl (by simp) fun hfact w0 => ?_
  simp only [factL1, fact1, fact0, factL0, lo, hi, maxLen, and_true] at hfact
  unfold axioms_size at hK
  refine AWP_seq ?_
  refine AWP_rg tab_ok [0] fun c st' hr => ?_
  simp only [go_sem] at hr
  obtain ⟨rfl, rfl⟩ := hr
  refine ⟨vc, ?_⟩
  with_reducible refine thenC_normal ?_
  refine AWP_seq ?_
  refine AWP_rl ?_
  replace hK := chk_some hK
  obtain ⟨h, hK⟩ := hK
  refine AWPL_rn tab_ok 2 [4] fun c st' hr => ?_
  simp only [go_sem] at hr
  obtain ⟨rfl, rfl⟩ := hr
  refine ⟨vc, ?_⟩
  replace hK := bind_s hK
  obtain ⟨y, hy, hK⟩ := hK
  refine AWPL_callK [5] (W_bits_OnesCount hy) rfl rfl pcT rfl Try.call135 (.cons (.atom _ rfl) .nil) (hscG trivial) (of_decide_eq_true rfl) (by first | rfl | simp [nI, nI1, nI0]) (by first | rfl | simp [nIB, nI0]) fun st' hr => ?_
  simp only [go_sem] at hr
  subst hr
  clear hy
  refine AWPL_rn tab_ok 1 [2] fun c st' hr => ?_
  simp only [go_sem] at hr
  obtain ⟨rfl, rfl⟩ := hr
  refine ⟨vc, ?_⟩
  refine AWPL_nil ?_
  with_reducible refine thenC_normal ?_
  refine AWP_ret ?_
  cases hK
  refine EndsRW [] (.inl rfl) (of_decide_eq_true rfl) (by simp) rfl (fun c x hr => ?_) trivial
  simp only [go_sem] at hr
  obtain ⟨rfl, rfl⟩ := hr
  exact ⟨rfl, endR⟩


theorem W_axioms_exchange {m_0 : Int} {m_1 : List Int} {a : Int} {b : Int} {r : Bool} (hK : axioms_exchange m_0 m_1 a b = some r) : Pure Try.prog 155 [.agg [.int .i64 m_0, .ints .i64 m_1], .int .i64 a, .int .i64 b] (.bool r) [] := by
  refine Pure_introF tab_ok (n := 53) (l := [.tmp 6]) Try.func155 rfl rfl rfl (by simp) fun hfact w0 => ?_
  simp only [factL1, fact1, fact0, factL0, lo, hi, maxLen, and_true] at hfact
  unfold axioms_exchange at hK
  refine AWP_seq ?_
  refine AWP_rg tab_ok [1, 2, 3] fun c st' hr => ?_
  simp only [go_sem] at hr
  obtain ⟨rfl, rfl⟩ := hr
  refine ⟨vc, ?_⟩
  with_reducible refine thenC_normal ?_
  refine AWP_seq ?_
  refine AWP_seq ?_
  refine AWP_rg tab_ok [1, 2, 3, 7] fun c st' hr => ?_
  simp only [go_sem] at hr
  obtain ⟨rfl, rfl⟩ := hr
  refine ⟨vc, ?_⟩
  with_reducible refine thenC_normal ?_
  refine AWP_block ?_
  refine AWP_loopX 0 (fun (out0 : Int) => ⟨53, [(1, .int .i64 a), (2, .int .i64 b), (3, .ptr 0 0 0), (7, .int .i64 out0)], [some (.gen 56 2 [[.int .i64 m_0, .ints .i64 m_1]])]⟩) (fun (_ : Unit) => ⟨53, [], []⟩) Sum.inl (iandnot a b) [0] hK mkWk ?_ ?_
  ·clear hK; rintro out0 b1 hK hpost1
   try dsimp only at hK
   change AWP _ _ _ _ ⟨53, [(1, .int .i64 a), (2, .int .i64 b), (3, .ptr 0 0 0), (7, .int .i64 out0)], [some (.gen 56 2 [[.int .i64 m_0, .ints .i64 m_1]])]⟩
   refine AWP_seq ?_
   refine AWP_seq ?_
   refine AWP_rg tab_ok [1, 2, 3, 7, 15] fun c st' hr => ?_
   simp only [go_sem] at hr
   obtain ⟨rfl, rfl⟩ := hr
   refine ⟨vc, ?_⟩
   with_reducible refine thenC_normal ?_
   refine AWP_condP (out0 ≠ 0) rfl bd (fun hb => ?_) (fun hb => ?_)
   ·replace hK := ite_t hK hb
    refine AWP_skip ?_
    with_reducible refine thenC_normal ?_
    refine AWP_seq ?_
    refine AWP_block ?_
    refine AWP_seq ?_
    replace hK := chk_some hK
    obtain ⟨h, hK⟩ := hK
    refine AWP_rg tab_ok [1, 2, 3, 7, 8] fun c st' hr => ?_
    simp only [go_sem] at hr
    obtain ⟨rfl, rfl⟩ := hr
    refine ⟨vc, ?_⟩
    with_reducible refine thenC_normal ?_
    refine AWP_seq ?_
    refine AWP_rg tab_ok [1, 2, 3, 7, 8, 9] fun c st' hr => ?_
    simp only [go_sem] at hr
    obtain ⟨rfl, rfl⟩ := hr
    refine ⟨vc, ?_⟩
    with_reducible refine thenC_normal ?_
    refine AWP_seq ?_
    refine AWP_seq ?_
    refine AWP_rg tab_ok [1, 2, 3, 7, 8, 9, 10] fun c st' hr => ?_
    simp only [go_sem] at hr
    obtain ⟨rfl, rfl⟩ := hr
    refine ⟨vc, ?_⟩
    with_reducible refine thenC_normal ?_
    refine AWP_block ?_
    refine AWP_loopX 2 (fun ((ok, in0) : Bool × Int) => ⟨53, [(1, .int .i64 a), (2, .int .i64 b), (3, .ptr 0 0 0), (7, .int .i64 out0), (8, .int .i64 (iand out0 (-out0))), (9, .bool ok), (10, .int .i64 in0)], [some (.gen 56 2 [[.int .i64 m_0, .ints .i64 m_1]])]⟩) (fun (ok1 : Bool) => ⟨53, [(1, .int .i64 a), (2, .int .i64 b), (3, .ptr 0 0 0), (7, .int .i64 out0), (9, .bool ok1)], [some (.gen 56 2 [[.int .i64 m_0, .ints .i64 m_1]])]⟩) (fun v => v) (false, iandnot b a) [0] hK mkWk ?_ ?_
    ·clear hK; rintro ⟨ok, in0⟩ b2 hK hpost2
     try dsimp only at hK
     change AWP _ _ _ _ ⟨53, [(1, .int .i64 a), (2, .int .i64 b), (3, .ptr 0 0 0), (7, .int .i64 out0), (8, .int .i64 (iand out0 (-out0))), (9, .bool ok), (10, .int .i64 in0)], [some (.gen 56 2 [[.int .i64 m_0, .ints .i64 m_1]])]⟩
     refine AWP_seq ?_
     refine AWP_seq ?_
     refine AWP_rg tab_ok [1, 2, 3, 7, 8, 9, 10, 32] fun c st' hr => ?_
     simp only [go_sem] at hr
     obtain ⟨rfl, rfl⟩ := hr
     refine ⟨vc, ?_⟩
     with_reducible refine thenC_normal ?_
     refine AWP_condP ((in0 ≠ 0 ∧ ¬ (ok = true))) rfl bd (fun hb1 => ?_) (fun hb1 => ?_)
     ·replace hK := ite_t hK hb1
      refine AWP_skip ?_
      with_reducible refine thenC_normal ?_
      refine AWP_seq ?_
      refine AWP_block ?_
      refine AWP_rl ?_
      replace hK := chk_some hK
      obtain ⟨h1, hK⟩ := hK
      refine AWPL_rn tab_ok 10 [1, 2, 3, 7, 8, 10, 39, 47] fun c st' hr => ?_
      simp only [go_sem] at hr
      obtain ⟨rfl, rfl⟩ := hr
      refine ⟨vc, ?_⟩
      replace hK := bind_s hK
      obtain ⟨y, hy, hK⟩ := hK
      refine AWPL_callK [1, 2, 3, 7, 8, 10, 48] (W_slices_BinarySearch_int_int hy) rfl rfl pcT rfl Try.call203 (.cons (.atom _ rfl) (.cons (.atom _ rfl) .nil)) (hscG trivial) (of_decide_eq_true rfl) (by first | rfl | simp [nI, nI1, nI0]) (by first | rfl | simp [nIB, nI0]) fun st' hr => ?_
      simp only [go_sem] at hr
      subst hr
      clear hy
      refine AWPL_rn tab_ok 4 [1, 2, 3, 7, 8, 9, 10] fun c st' hr => ?_
      simp only [go_sem] at hr
      obtain ⟨rfl, rfl⟩ := hr
      refine ⟨vc, ?_⟩
      refine AWPL_nil ?_
      with_reducible refine inBlockA_normal (thenC_normal ?_)
      replace hK := chk_some hK
      obtain ⟨h2, hK⟩ := hK
      refine AWP_rg tab_ok [1, 2, 3, 7, 8, 9, 10] fun c st' hr => ?_
      simp only [go_sem] at hr
      obtain ⟨rfl, rfl⟩ := hr
      refine ⟨vc, ?_⟩
      refine again_n (y.2, iand in0 (in0 - 1)) [0] hK mkWk
     ·replace hK := ite_f hK hb1
      refine AWP_exit ?_
      with_reducible refine thenC_exit (again_x ?_)
      refine cutX_here ok [0] (by have hq := hpost2 _ hK; exact hq) mkWk
    ·clear hK; rintro ok1 hK
     try dsimp only at hK
     refine exS ⟨53, [(1, .int .i64 a), (2, .int .i64 b), (3, .ptr 0 0 0), (7, .int .i64 out0), (9, .bool ok1)], [some (.gen 56 2 [[.int .i64 m_0, .ints .i64 m_1]])]⟩ rfl ?_
     with_reducible refine inBlockA_exit (thenC_normal ?_)
     refine AWP_seq ?_
     refine AWP_rg tab_ok [1, 2, 3, 7, 52] fun c st' hr => ?_
     simp only [go_sem] at hr
     obtain ⟨rfl, rfl⟩ := hr
     refine ⟨vc, ?_⟩
     with_reducible refine thenC_normal ?_
     refine AWP_condP (¬ (ok1 = true)) rfl bd (fun hb2 => ?_) (fun hb2 => ?_)
     ·replace hK := ite_t hK hb2
      refine AWP_seq ?_
      refine AWP_rg tab_ok [6] fun c st' hr => ?_
      simp only [go_sem] at hr
      obtain ⟨rfl, rfl⟩ := hr
      refine ⟨vc, ?_⟩
      with_reducible refine thenC_normal ?_
      refine AWP_ret ?_
      with_reducible refine inBlockA_ret (thenC_ret (again_r (cutX_r (inBlockA_ret (thenC_ret ?_)))))
      replace hK := hpost1 _ hK
      try dsimp only at hK
      cases hK
      refine EndsRW [] (.inl rfl) (of_decide_eq_true rfl) (by simp) rfl (fun c x hr => ?_) trivial
      simp only [go_sem] at hr
      obtain ⟨rfl, rfl⟩ := hr
      exact ⟨rfl, endR⟩
     ·replace hK := ite_f hK hb2
      refine AWP_skip ?_
      with_reducible refine inBlockA_normal (thenC_normal ?_)
      replace hK := chk_some hK
      obtain ⟨h3, hK⟩ := hK
      refine AWP_rg tab_ok [1, 2, 3, 7] fun c st' hr => ?_
      simp only [go_sem] at hr
      obtain ⟨rfl, rfl⟩ := hr
      refine ⟨vc, ?_⟩
      refine again_n (iand out0 (out0 - 1)) [0] hK mkWk
   ·replace hK := ite_f hK hb
    refine AWP_exit ?_
    with_reducible refine thenC_exit (again_x ?_)
    refine cutX_here () [] (by have hq := hpost1 _ hK; exact hq) mkWk
  ·clear hK; rintro _ hK
   try dsimp only at hK
   refine exS ⟨53, [], []⟩ rfl ?_
   with_reducible refine inBlockA_exit (thenC_normal ?_)
   refine AWP_seq ?_
   refine AWP_rg tab_ok [6] fun c st' hr => ?_
   simp only [go_sem] at hr
   obtain ⟨rfl, rfl⟩ := hr
   refine ⟨vc, ?_⟩
   with_reducible refine thenC_normal ?_
   refine AWP_ret ?_
   cases hK
   refine EndsRW [] (.inl rfl) (of_decide_eq_true rfl) (by simp) rfl (fun c x hr => ?_) trivial
   simp only [go_sem] at hr
   obtain ⟨rfl, rfl⟩ := hr
   exact ⟨rfl, endR⟩


theorem W_axioms_Check {m_0 : Int} {m_1 : List Int} {r : Int} (hK : axioms_Check m_0 m_1 = some r) : Pure Try.prog 112 [.agg [.int .i64 m_0, .ints .i64 m_1]] (.int .i64 r) [] := by
  refine Pure_introF tab_ok (n := 58) (l := [.tmp 2]) Try.func112 rfl rfl rfl (by simp) fun hfact w0 => ?_
  simp only [factL1, fact1, fact0, factL0, lo, hi, maxLen, and_true] at hfact
  unfold axioms_Check at hK
  refine AWP_seq ?_
  refine AWP_rg tab_ok [1] fun c st' hr => ?_
  simp only [go_sem] at hr
  obtain ⟨rfl, rfl⟩ := hr
  refine ⟨vc, ?_⟩
  with_reducible refine thenC_normal ?_
  refine AWP_seq ?_
  refine AWP_seq ?_
  refine AWP_rl ?_
  refine AWPL_rn tab_ok 4 [1, 10, 12] fun c st' hr => ?_
  simp only [go_sem] at hr
  obtain ⟨rfl, rfl⟩ := hr
  refine ⟨vc, ?_⟩
  replace hK := bind_s hK
  obtain ⟨y, hy, hK⟩ := hK
  refine AWPL_callK [1, 13] (W_sets_Family hy) rfl rfl pcT rfl Try.call60 (.cons (.atom _ rfl) (.cons (.atom _ rfl) .nil)) (hscG trivial) (of_decide_eq_true rfl) (by first | rfl | simp [nI, nI1, nI0]) (by first | rfl | simp [nIB, nI0]) fun st' hr => ?_
  simp only [go_sem] at hr
  subst hr
  clear hy
  refine AWPL_rn tab_ok 7 [1, 20] fun c st' hr => ?_
  simp only [go_sem] at hr
  obtain ⟨rfl, rfl⟩ := hr
  refine ⟨vc, ?_⟩
  refine AWPL_nil ?_
  with_reducible refine thenC_normal ?_
  refine AWP_condP ((y ≠ 0 ∨ (m_1.length : Int) = 0)) rfl bd (fun hb => ?_) (fun hb => ?_)
  ·replace hK := ite_t hK hb
   refine AWP_seq ?_
   refine AWP_rg tab_ok [2] fun c st' hr => ?_
   simp only [go_sem] at hr
   obtain ⟨rfl, rfl⟩ := hr
   refine ⟨vc, ?_⟩
   with_reducible refine thenC_normal ?_
   refine AWP_ret ?_
   with_reducible refine thenC_ret ?_
   cases hK
   refine EndsRW [] (.inl rfl) (of_decide_eq_true rfl) (by simp) rfl (fun c x hr => ?_) trivial
   simp only [go_sem] at hr
   obtain ⟨rfl, rfl⟩ := hr
   exact ⟨rfl, endR⟩
  ·replace hK := ite_f hK hb
   refine AWP_skip ?_
   with_reducible refine thenC_normal ?_
   refine AWP_seq ?_
   refine AWP_seq ?_
   refine AWP_rg tab_ok [1, 22, 23, 24] fun c st' hr => ?_
   simp only [go_sem] at hr
   obtain ⟨rfl, rfl⟩ := hr
   refine ⟨vc, ?_⟩
   with_reducible refine thenC_normal ?_
   refine AWP_block ?_
   refine AWP_loopX 0 (fun (v : Int) => ⟨58, [(1, .ptr 0 0 0), (22, .ints .i64 m_1), (23, .int .i64 (m_1.length : Int)), (24, .int .i64 v)], [some (.gen 56 2 [[.int .i64 m_0, .ints .i64 m_1]])]⟩) (fun (_ : Unit) => ⟨58, [(1, .ptr 0 0 0)], [some (.gen 56 2 [[.int .i64 m_0, .ints .i64 m_1]])]⟩) Sum.inl 0 [0] hK mkWk ?_ ?_
   ·clear hK; rintro v b hK hpost1
    try dsimp only at hK
    change AWP _ _ _ _ ⟨58, [(1, .ptr 0 0 0), (22, .ints .i64 m_1), (23, .int .i64 (m_1.length : Int)), (24, .int .i64 v)], [some (.gen 56 2 [[.int .i64 m_0, .ints .i64 m_1]])]⟩
    refine AWP_seq ?_
    refine AWP_rg tab_ok [1, 22, 23, 24, 25] fun c st' hr => ?_
    simp only [go_sem] at hr
    obtain ⟨rfl, rfl⟩ := hr
    refine ⟨vc, ?_⟩
    with_reducible refine thenC_normal ?_
    refine AWP_seq ?_
    refine AWP_condP (v < (m_1.length : Int)) rfl bd (fun hb1 => ?_) (fun hb1 => ?_)
    ·replace hK := ite_t hK hb1
     refine AWP_skip ?_
     with_reducible refine thenC_normal ?_
     refine AWP_seq ?_
     refine AWP_block ?_
     refine AWP_seq ?_
     replace hK := chk_some hK
     obtain ⟨h, hK⟩ := hK
     refine AWP_rg tab_ok [1, 4, 22, 23, 24] fun c st' hr => ?_
     simp only [go_sem] at hr
     obtain ⟨rfl, rfl⟩ := hr
     refine ⟨vc, ?_⟩
     with_reducible refine thenC_normal ?_
     refine AWP_seq ?_
     refine AWP_drawQ mixed (by kernel_rfl) ?_
     refine AWQL_rn tab_ok 1 [1, 22, 23, 24, 28] fun c st' hr => ?_
     simp only [go_sem] at hr
     obtain ⟨rfl, rfl⟩ := hr
     refine ⟨vc, ?_⟩
     replace hK := bind_s hK
     obtain ⟨y1, hy, hK⟩ := hK
     refine AWQL_callK [1, 22, 23, 24, 29] (W_axioms_size hy) rfl rfl pcT rfl Try.call154 (.cons (.atom _ rfl) .nil) (hscG trivial) (of_decide_eq_true rfl) rfl fun st' hr => ?_
     simp only [go_sem] at hr
     subst hr
     clear hy
     replace hK := chk_some hK
     obtain ⟨h1, hK⟩ := hK
     refine AWQL_rn tab_ok 4 [1, 22, 23, 24, 29, 33] fun c st' hr => ?_
     simp only [go_sem] at hr
     obtain ⟨rfl, rfl⟩ := hr
     refine ⟨vc, ?_⟩
     replace hK := bind_s hK
     obtain ⟨y2, hy, hK⟩ := hK
     refine AWQL_callK [1, 22, 23, 24, 29, 34] (W_axioms_size hy) rfl rfl pcT rfl Try.call154 (.cons (.atom _ rfl) .nil) (hscG trivial) (of_decide_eq_true rfl) rfl fun st' hr => ?_
     simp only [go_sem] at hr
     subst hr
     clear hy
     refine AWQL_rn tab_ok 1 [1, 22, 23, 24, 35] fun c st' hr => ?_
     simp only [go_sem] at hr
     obtain ⟨rfl, rfl⟩ := hr
     refine ⟨vc, ?_⟩
     refine AWQL_nil ?_
     with_reducible refine thenC_normal ?_
     refine AWP_condP (y1 ≠ y2) rfl bd (fun hb2 => ?_) (fun hb2 => ?_)
     ·replace hK := ite_t hK hb2
      refine AWP_seq ?_
      refine AWP_rg tab_ok [2] fun c st' hr => ?_
      simp only [go_sem] at hr
      obtain ⟨rfl, rfl⟩ := hr
      refine ⟨vc, ?_⟩
      with_reducible refine thenC_normal ?_
      refine AWP_ret ?_
      with_reducible refine inBlockA_ret (thenC_ret (again_r (cutX_r (inBlockA_ret (thenC_ret ?_)))))
      replace hK := hpost1 _ hK
      try dsimp only at hK
      cases hK
      refine EndsRW [] (.inl rfl) (of_decide_eq_true rfl) (by simp) rfl (fun c x hr => ?_) trivial
      simp only [go_sem] at hr
      obtain ⟨rfl, rfl⟩ := hr
      exact ⟨rfl, endR⟩
     ·replace hK := ite_f hK hb2
      refine AWP_skip ?_
      with_reducible refine inBlockA_normal (thenC_normal ?_)
      refine AWP_facts (by simp) fun hfx => ?_
      simp only [factS, factV, fact1, fact0, factL0, lo, hi, maxLen, and_true, true_and] at hfx
      refine AWP_rg tab_ok [1, 22, 23, 24] fun c st' hr => ?_
      simp only [go_sem] at hr
      obtain ⟨rfl, rfl⟩ := hr
      refine ⟨vc, ?_⟩
      clear hfx
      refine again_n (v + 1) [0] hK mkWk
    ·replace hK := ite_f hK hb1
     refine AWP_exit ?_
     with_reducible refine thenC_exit (again_x ?_)
     refine cutX_here () [0] (by have hq := hpost1 _ hK; exact hq) mkWk
   ·clear hK; rintro _ hK
    try dsimp only at hK
    refine exS ⟨58, [(1, .ptr 0 0 0)], [some (.gen 56 2 [[.int .i64 m_0, .ints .i64 m_1]])]⟩ rfl ?_
    with_reducible refine inBlockA_exit (thenC_normal ?_)
    refine AWP_seq ?_
    refine AWP_seq ?_
    refine AWP_rg tab_ok [1, 38, 39, 40] fun c st' hr => ?_
    simp only [go_sem] at hr
    obtain ⟨rfl, rfl⟩ := hr
    refine ⟨vc, ?_⟩
    with_reducible refine thenC_normal ?_
    refine AWP_block ?_
    refine AWP_loopX 2 (fun (v1 : Int) => ⟨58, [(1, .ptr 0 0 0), (38, .ints .i64 m_1), (39, .int .i64 (m_1.length : Int)), (40, .int .i64 v1)], [some (.gen 56 2 [[.int .i64 m_0, .ints .i64 m_1]])]⟩) (fun (_ : Unit) => ⟨58, [], []⟩) Sum.inl 0 [0] hK mkWk ?_ ?_
    ·clear hK; rintro v1 b1 hK hpost2
     try dsimp only at hK
     change AWP _ _ _ _ ⟨58, [(1, .ptr 0 0 0), (38, .ints .i64 m_1), (39, .int .i64 (m_1.length : Int)), (40, .int .i64 v1)], [some (.gen 56 2 [[.int .i64 m_0, .ints .i64 m_1]])]⟩
     refine AWP_seq ?_
     refine AWP_rg tab_ok [1, 38, 39, 40, 41] fun c st' hr => ?_
     simp only [go_sem] at hr
     obtain ⟨rfl, rfl⟩ := hr
     refine ⟨vc, ?_⟩
     with_reducible refine thenC_normal ?_
     refine AWP_seq ?_
     refine AWP_condP (v1 < (m_1.length : Int)) rfl bd (fun hb3 => ?_) (fun hb3 => ?_)
     ·replace hK := ite_t hK hb3
      refine AWP_skip ?_
      with_reducible refine thenC_normal ?_
      refine AWP_seq ?_
      refine AWP_block ?_
      refine AWP_seq ?_
      replace hK := chk_some hK
      obtain ⟨h2, hK⟩ := hK
      refine AWP_rg tab_ok [1, 6, 38, 39, 40] fun c st' hr => ?_
      simp only [go_sem] at hr
      obtain ⟨rfl, rfl⟩ := hr
      refine ⟨vc, ?_⟩
      with_reducible refine thenC_normal ?_
      refine AWP_seq ?_
      refine AWP_rg tab_ok [1, 6, 38, 39, 40, 45, 46, 47] fun c st' hr => ?_
      simp only [go_sem] at hr
      obtain ⟨rfl, rfl⟩ := hr
      refine ⟨vc, ?_⟩
      with_reducible refine thenC_normal ?_
      refine AWP_block ?_
      refine AWP_loopX 4 (fun (v2 : Int) => ⟨58, [(1, .ptr 0 0 0), (6, .int .i64 (m_1.getD v1.toNat 0)), (38, .ints .i64 m_1), (39, .int .i64 (m_1.length : Int)), (40, .int .i64 v1), (45, .ints .i64 m_1), (46, .int .i64 (m_1.length : Int)), (47, .int .i64 v2)], [some (.gen 56 2 [[.int .i64 m_0, .ints .i64 m_1]])]⟩) (fun (_ : Unit) => ⟨58, [(1, .ptr 0 0 0), (38, .ints .i64 m_1), (39, .int .i64 (m_1.length : Int)), (40, .int .i64 v1)], [some (.gen 56 2 [[.int .i64 m_0, .ints .i64 m_1]])]⟩) Sum.inl 0 [0] hK mkWk ?_ ?_
      ·clear hK; rintro v2 b2 hK hpost3
       try dsimp only at hK
       change AWP _ _ _ _ ⟨58, [(1, .ptr 0 0 0), (6, .int .i64 (m_1.getD v1.toNat 0)), (38, .ints .i64 m_1), (39, .int .i64 (m_1.length : Int)), (40, .int .i64 v1), (45, .ints .i64 m_1), (46, .int .i64 (m_1.length : Int)), (47, .int .i64 v2)], [some (.gen 56 2 [[.int .i64 m_0, .ints .i64 m_1]])]⟩
       refine AWP_seq ?_
       refine AWP_rg tab_ok [1, 6, 38, 39, 40, 45, 46, 47, 48] fun c st' hr => ?_
       simp only [go_sem] at hr
       obtain ⟨rfl, rfl⟩ := hr
       refine ⟨vc, ?_⟩
       with_reducible refine thenC_normal ?_
       refine AWP_seq ?_
       refine AWP_condP (v2 < (m_1.length : Int)) rfl bd (fun hb4 => ?_) (fun hb4 => ?_)
       ·replace hK := ite_t hK hb4
        refine AWP_skip ?_
        with_reducible refine thenC_normal ?_
        refine AWP_seq ?_
        refine AWP_block ?_
        refine AWP_seq ?_
        replace hK := chk_some hK
        obtain ⟨h3, hK⟩ := hK
        refine AWP_rg tab_ok [1, 6, 8, 38, 39, 40, 45, 46, 47] fun c st' hr => ?_
        simp only [go_sem] at hr
        obtain ⟨rfl, rfl⟩ := hr
        refine ⟨vc, ?_⟩
        with_reducible refine thenC_normal ?_
        refine AWP_seq ?_
        refine AWP_rl ?_
        refine AWPL_rn tab_ok 3 [1, 6, 38, 39, 40, 45, 46, 47, 51, 52, 53] fun c st' hr => ?_
        simp only [go_sem] at hr
        obtain ⟨rfl, rfl⟩ := hr
        refine ⟨vc, ?_⟩
        replace hK := bind_s hK
        obtain ⟨y3, hy, hK⟩ := hK
        refine AWPL_callK [1, 6, 38, 39, 40, 45, 46, 47, 54] (W_axioms_exchange hy) rfl rfl pcT rfl Try.call155 (.cons (.agg _ _ rfl (ArgsOk.get (.cons (.atom _ rfl) (.cons (.atom _ rfl) .nil))).2) (.cons (.atom _ rfl) (.cons (.atom _ rfl) .nil))) (hscG trivial) (of_decide_eq_true rfl) (by first | rfl | simp [nI, nI1, nI0]) (by first | rfl | simp [nIB, nI0]) fun st' hr => ?_
        simp only [go_sem] at hr
        subst hr
        clear hy
        refine AWPL_rn tab_ok 1 [1, 6, 38, 39, 40, 45, 46, 47, 55] fun c st' hr => ?_
        simp only [go_sem] at hr
        obtain ⟨rfl, rfl⟩ := hr
        refine ⟨vc, ?_⟩
        refine AWPL_nil ?_
        with_reducible refine thenC_normal ?_
        refine AWP_condP (¬ (y3 = true)) rfl bd (fun hb5 => ?_) (fun hb5 => ?_)
        ·replace hK := ite_t hK hb5
         refine AWP_seq ?_
         refine AWP_rg tab_ok [2] fun c st' hr => ?_
         simp only [go_sem] at hr
         obtain ⟨rfl, rfl⟩ := hr
         refine ⟨vc, ?_⟩
         with_reducible refine thenC_normal ?_
         refine AWP_ret ?_
         with_reducible refine inBlockA_ret (thenC_ret (again_r (cutX_r (inBlockA_ret (inBlockA_ret (thenC_ret (again_r (cutX_r (inBlockA_ret (thenC_ret ?_))))))))))
         replace hK := hpost3 _ hK
         try dsimp only at hK
         replace hK := hpost2 _ hK
         try dsimp only at hK
         cases hK
         refine EndsRW [] (.inl rfl) (of_decide_eq_true rfl) (by simp) rfl (fun c x hr => ?_) trivial
         simp only [go_sem] at hr
         obtain ⟨rfl, rfl⟩ := hr
         exact ⟨rfl, endR⟩
        ·replace hK := ite_f hK hb5
         refine AWP_skip ?_
         with_reducible refine inBlockA_normal (thenC_normal ?_)
         refine AWP_facts (by simp) fun hfx => ?_
         simp only [factS, factV, fact1, fact0, factL0, lo, hi, maxLen, and_true, true_and] at hfx
         refine AWP_rg tab_ok [1, 6, 38, 39, 40, 45, 46, 47] fun c st' hr => ?_
         simp only [go_sem] at hr
         obtain ⟨rfl, rfl⟩ := hr
         refine ⟨vc, ?_⟩
         clear hfx
         refine again_n (v2 + 1) [0] hK mkWk
       ·replace hK := ite_f hK hb4
        refine AWP_exit ?_
        with_reducible refine thenC_exit (again_x ?_)
        refine cutX_here () [0] (by have hq := hpost3 _ hK; exact hq) mkWk
      ·clear hK; rintro _ hK
       try dsimp only at hK
       refine exS ⟨58, [(1, .ptr 0 0 0), (38, .ints .i64 m_1), (39, .int .i64 (m_1.length : Int)), (40, .int .i64 v1)], [some (.gen 56 2 [[.int .i64 m_0, .ints .i64 m_1]])]⟩ rfl ?_
       with_reducible refine inBlockA_exit (inBlockA_normal (thenC_normal ?_))
       refine AWP_facts (by simp) fun hfx => ?_
       simp only [factS, factV, fact1, fact0, factL0, lo, hi, maxLen, and_true, true_and] at hfx
       refine AWP_rg tab_ok [1, 38, 39, 40] fun c st' hr => ?_
       simp only [go_sem] at hr
       obtain ⟨rfl, rfl⟩ := hr
       refine ⟨vc, ?_⟩
       clear hfx
       refine again_n (v1 + 1) [0] hK mkWk
     ·replace hK := ite_f hK hb3
      refine AWP_exit ?_
      with_reducible refine thenC_exit (again_x ?_)
      refine cutX_here () [] (by have hq := hpost2 _ hK; exact hq) mkWk
    ·clear hK; rintro _ hK
     try dsimp only at hK
     refine exS ⟨58, [], []⟩ rfl ?_
     with_reducible refine inBlockA_exit (thenC_normal ?_)
     refine AWP_seq ?_
     refine AWP_rg tab_ok [2] fun c st' hr => ?_
     simp only [go_sem] at hr
     obtain ⟨rfl, rfl⟩ := hr
     refine ⟨vc, ?_⟩
     with_reducible refine thenC_normal ?_
     refine AWP_ret ?_
     cases hK
     refine EndsRW [] (.inl rfl) (of_decide_eq_true rfl) (by simp) rfl (fun c x hr => ?_) trivial
     simp only [go_sem] at hr
     obtain ⟨rfl, rfl⟩ := hr
     exact ⟨rfl, endR⟩


theorem W_axioms_ranks {m_0 : Int} {m_1 : List Int} {r : List Int} (hK : axioms_ranks m_0 m_1 = some r) : Pure Try.prog 160 [.agg [.int .i64 m_0, .ints .i64 m_1]] (.own 0 r.length) [(.ints 3 .i64 r)] := by
  refine Pure_introF tab_ok (n := 38) (l := [.tmp 2]) Try.func160 rfl rfl rfl (by simp) fun hfact w0 => ?_
  simp only [factL1, fact1, fact0, factL0, lo, hi, maxLen, and_true] at hfact
  unfold axioms_ranks at hK
  refine AWP_seq ?_
  refine AWP_rg tab_ok [1] fun c st' hr => ?_
  simp only [go_sem] at hr
  obtain ⟨rfl, rfl⟩ := hr
  refine ⟨vc, ?_⟩
  with_reducible refine thenC_normal ?_
  refine AWP_seq ?_
  replace hK := chk_some hK
  obtain ⟨h, hK⟩ := hK
  refine AWP_rg tab_ok [1, 3] fun c st' hr => ?_
  simp only [go_sem] at hr
  obtain ⟨rfl, rfl⟩ := hr
  refine ⟨vc, ?_⟩
  with_reducible refine thenC_normal ?_
  refine AWP_seq ?_
  refine AWP_seq ?_
  refine AWP_rg tab_ok [1, 3, 12, 13] fun c st' hr => ?_
  simp only [go_sem] at hr
  obtain ⟨rfl, rfl⟩ := hr
  refine ⟨vc, ?_⟩
  with_reducible refine thenC_normal ?_
  refine AWP_block ?_
  refine AWP_loopX 0 (fun ((out0, v) : List Int × Int) => ⟨38, [(1, .ptr 0 0 0), (3, .own 1 out0.length), (12, .int .i64 ((List.replicate (2 ^ m_0.toNat : Int).toNat 0).length : Int)), (13, .int .i64 v)], [some (.gen 56 2 [[.int .i64 m_0, .ints .i64 m_1]]), some (.ints 3 .i64 out0)]⟩) (fun (out01 : List Int) => ⟨38, [(3, .own 0 out01.length)], [some (.ints 3 .i64 out01)]⟩) (fun v => v) (List.replicate (2 ^ m_0.toNat : Int).toNat 0, 0) [0, 1] hK mkWk ?_ ?_
  ·clear hK; rintro ⟨out0, v⟩ b hK hpost1
   try dsimp only at hK
   change AWP _ _ _ _ ⟨38, [(1, .ptr 0 0 0), (3, .own 1 out0.length), (12, .int .i64 ((List.replicate (2 ^ m_0.toNat : Int).toNat 0).length : Int)), (13, .int .i64 v)], [some (.gen 56 2 [[.int .i64 m_0, .ints .i64 m_1]]), some (.ints 3 .i64 out0)]⟩
   refine AWP_seq ?_
   refine AWP_rg tab_ok [1, 3, 12, 13, 14] fun c st' hr => ?_
   simp only [go_sem] at hr
   obtain ⟨rfl, rfl⟩ := hr
   refine ⟨vc, ?_⟩
   with_reducible refine thenC_normal ?_
   refine AWP_seq ?_
   refine AWP_condP (v < ((List.replicate (2 ^ m_0.toNat : Int).toNat 0).length : Int)) rfl bd (fun hb => ?_) (fun hb => ?_)
   ·replace hK := ite_t hK hb
    refine AWP_skip ?_
    with_reducible refine thenC_normal ?_
    refine AWP_seq ?_
    refine AWP_block ?_
    refine AWP_seq ?_
    refine AWP_rg tab_ok [1, 3, 4, 12, 13] fun c st' hr => ?_
    simp only [go_sem] at hr
    obtain ⟨rfl, rfl⟩ := hr
    refine ⟨vc, ?_⟩
    with_reducible refine thenC_normal ?_
    refine AWP_seq ?_
    refine AWP_rg tab_ok [1, 3, 4, 12, 13, 17, 18, 19] fun c st' hr => ?_
    simp only [go_sem] at hr
    obtain ⟨rfl, rfl⟩ := hr
    refine ⟨vc, ?_⟩
    with_reducible refine thenC_normal ?_
    refine AWP_block ?_
    refine AWP_loopX 2 (fun ((out02, v1) : List Int × Int) => ⟨38, [(1, .ptr 0 0 0), (3, .own 1 out02.length), (4, .int .i64 v), (12, .int .i64 ((List.replicate (2 ^ m_0.toNat : Int).toNat 0).length : Int)), (13, .int .i64 v), (17, .ints .i64 m_1), (18, .int .i64 (m_1.length : Int)), (19, .int .i64 v1)], [some (.gen 56 2 [[.int .i64 m_0, .ints .i64 m_1]]), some (.ints 3 .i64 out02)]⟩) (fun (out03 : List Int) => ⟨38, [(1, .ptr 0 0 0), (3, .own 1 out03.length), (12, .int .i64 ((List.replicate (2 ^ m_0.toNat : Int).toNat 0).length : Int)), (13, .int .i64 v)], [some (.gen 56 2 [[.int .i64 m_0, .ints .i64 m_1]]), some (.ints 3 .i64 out03)]⟩) (fun v => v) (out0, 0) [0, 1] hK mkWk ?_ ?_
    ·clear hK; rintro ⟨out02, v1⟩ b1 hK hpost2
     try dsimp only at hK
     change AWP _ _ _ _ ⟨38, [(1, .ptr 0 0 0), (3, .own 1 out02.length), (4, .int .i64 v), (12, .int .i64 ((List.replicate (2 ^ m_0.toNat : Int).toNat 0).length : Int)), (13, .int .i64 v), (17, .ints .i64 m_1), (18, .int .i64 (m_1.length : Int)), (19, .int .i64 v1)], [some (.gen 56 2 [[.int .i64 m_0, .ints .i64 m_1]]), some (.ints 3 .i64 out02)]⟩
     refine AWP_seq ?_
     refine AWP_rg tab_ok [1, 3, 4, 12, 13, 17, 18, 19, 20] fun c st' hr => ?_
     simp only [go_sem] at hr
     obtain ⟨rfl, rfl⟩ := hr
     refine ⟨vc, ?_⟩
     with_reducible refine thenC_normal ?_
     refine AWP_seq ?_
     refine AWP_condP (v1 < (m_1.length : Int)) rfl bd (fun hb1 => ?_) (fun hb1 => ?_)
     ·replace hK := ite_t hK hb1
      refine AWP_skip ?_
      with_reducible refine thenC_normal ?_
      refine AWP_seq ?_
      refine AWP_block ?_
      refine AWP_seq ?_
      replace hK := chk_some hK
      obtain ⟨h1, hK⟩ := hK
      refine AWP_rg tab_ok [1, 3, 4, 6, 12, 13, 17, 18, 19] fun c st' hr => ?_
      simp only [go_sem] at hr
      obtain ⟨rfl, rfl⟩ := hr
      refine ⟨vc, ?_⟩
      with_reducible refine thenC_normal ?_
      refine AWP_drawQT 12 mixed (by kernel_rfl) ?_
      replace hK := chk_some hK
      obtain ⟨h2, hK⟩ := hK
      refine AWQL_rn tab_ok 9 [1, 3, 4, 12, 13, 17, 18, 19, 23, 24, 28, 31] fun c st' hr => ?_
      simp only [go_sem] at hr
      obtain ⟨rfl, rfl⟩ := hr
      refine ⟨vc, ?_⟩
      replace hK := bind_s hK
      obtain ⟨y, hy, hK⟩ := hK
      refine AWQL_callK [1, 3, 4, 12, 13, 17, 18, 19, 23, 24, 28, 32] (W_axioms_size hy) rfl rfl pcT rfl Try.call154 (.cons (.atom _ rfl) .nil) (hscG trivial) (of_decide_eq_true rfl) rfl fun st' hr => ?_
      simp only [go_sem] at hr
      subst hr
      clear hy
      replace hK := chk_some hK
      obtain ⟨h3, hK⟩ := hK
      refine AWQL_rn tab_ok 2 [1, 3, 4, 12, 13, 17, 18, 19, 33, 34] fun c st' hr => ?_
      simp only [go_sem] at hr
      obtain ⟨rfl, rfl⟩ := hr
      refine ⟨vc, ?_⟩
      refine AWQL_done ?_
      refine AWPL_rn tab_ok 1 [1, 3, 4, 12, 13, 17, 18, 19] fun c st' hr => ?_
      simp only [go_sem] at hr
      obtain ⟨rfl, rfl⟩ := hr
      refine ⟨vc, ?_⟩
      refine AWPL_nil ?_
      with_reducible refine inBlockA_normal (thenC_normal ?_)
      refine AWP_facts (by simp) fun hfx => ?_
      simp only [factS, factV, fact1, fact0, factL0, lo, hi, maxLen, and_true, true_and] at hfx
      refine AWP_rg tab_ok [1, 3, 4, 12, 13, 17, 18, 19] fun c st' hr => ?_
      simp only [go_sem] at hr
      obtain ⟨rfl, rfl⟩ := hr
      refine ⟨vc, ?_⟩
      clear hfx
      refine again_n (out02.set v.toNat (max (out02.getD v.toNat 0) y), v1 + 1) [0, 1] hK mkWk
     ·replace hK := ite_f hK hb1
      refine AWP_exit ?_
      with_reducible refine thenC_exit (again_x ?_)
      refine cutX_here out02 [0, 1] (by have hq := hpost2 _ hK; exact hq) mkWk
    ·clear hK; rintro out03 hK
     try dsimp only at hK
     refine exS ⟨38, [(1, .ptr 0 0 0), (3, .own 1 out03.length), (12, .int .i64 ((List.replicate (2 ^ m_0.toNat : Int).toNat 0).length : Int)), (13, .int .i64 v)], [some (.gen 56 2 [[.int .i64 m_0, .ints .i64 m_1]]), some (.ints 3 .i64 out03)]⟩ rfl ?_
     with_reducible refine inBlockA_exit (inBlockA_normal (thenC_normal ?_))
     refine AWP_facts (by simp) fun hfx => ?_
     simp only [factS, factV, fact1, fact0, factL0, lo, hi, maxLen, and_true, true_and] at hfx
     refine AWP_rg tab_ok [1, 3, 12, 13] fun c st' hr => ?_
     simp only [go_sem] at hr
     obtain ⟨rfl, rfl⟩ := hr
     refine ⟨vc, ?_⟩
     clear hfx
     refine again_n (out03, v + 1) [0, 1] hK mkWk
   ·replace hK := ite_f hK hb
    refine AWP_exit ?_
    with_reducible refine thenC_exit (again_x ?_)
    refine cutX_here out0 [1] (by have hq := hpost1 _ hK; exact hq) mkWk
  ·clear hK; rintro out01 hK
   try dsimp only at hK
   refine exS ⟨38, [(3, .own 0 out01.length)], [some (.ints 3 .i64 out01)]⟩ rfl ?_
   with_reducible refine inBlockA_exit (thenC_normal ?_)
   refine AWP_seq ?_
   refine AWP_rg tab_ok [2] fun c st' hr => ?_
   simp only [go_sem] at hr
   obtain ⟨rfl, rfl⟩ := hr
   refine ⟨vc, ?_⟩
   with_reducible refine thenC_normal ?_
   refine AWP_ret ?_
   cases hK
   refine EndsRW [0] (.inl rfl) (of_decide_eq_true rfl) (by simp) rfl (fun c x hr => ?_) endH
   simp only [go_sem] at hr
   obtain ⟨rfl, rfl⟩ := hr
   exact ⟨rfl, endR⟩


theorem W_axioms_family {m_0 : Int} {m_1 : List Int} {kind : (List Int) → Int → Option (Bool)} {kindP : Nat} {kindC : List AVal} (hkindf : ∀ args w, (callFunc kindP args).run Try.prog w = .ok (.enter kindP args) w) (hkinda : kindC.all atomB = true) (hkind : ∀ x0 x1 r, kind x0 x1 = some r → Pure Try.prog kindP ([.ints .i64 x0, .int .i64 x1] ++ kindC) (.bool r) []) {r : List Int × Int} (hK : axioms_family m_0 m_1 kind = some r) : Pure Try.prog 175 [.agg [.int .i64 m_0, .ints .i64 m_1], .func kindP kindC] (.tup [.own 0 r.1.length, .int .i64 r.2]) [(.ints 3 .i64 r.1)] := by
  refine Pure_introF tab_ok (n := 32) (l := [.tmp 4, .tmp 5]) Try.func175 rfl rfl rfl (by simp) fun hfact w0 => ?_
  have hkindr : ∀ ρ, List.map (ren0 ρ) kindC = kindC := fun ρ => ren_atoms ρ hkinda
  simp only [factL1, fact1, fact0, factL0, lo, hi, maxLen, and_true] at hfact
  unfold axioms_family at hK
  refine AWP_seq ?_
  refine AWP_rg tab_ok [1, 2] fun c st' hr => ?_
  simp only [go_sem] at hr
  obtain ⟨rfl, rfl⟩ := hr
  refine ⟨vc, ?_⟩
  with_reducible refine thenC_normal ?_
  refine AWP_seq ?_
  refine AWP_seq ?_
  refine AWP_rl ?_
  refine AWPL_rn tab_ok 1 [1, 2, 10] fun c st' hr => ?_
  simp only [go_sem] at hr
  obtain ⟨rfl, rfl⟩ := hr
  refine ⟨vc, ?_⟩
  replace hK := bind_s hK
  obtain ⟨y, hy, hK⟩ := hK
  refine AWPL_callK [1, 2, 11] (W_axioms_Check hy) rfl rfl pcT rfl Try.call112 (.cons (.agg _ _ rfl (ArgsOk.get (.cons (.atom _ rfl) (.cons (.atom _ rfl) .nil))).2) .nil) (hscG trivial) (of_decide_eq_true rfl) (by first | rfl | simp [nI, nI1, nI0]) (by first | rfl | simp [nIB, nI0]) fun st' hr => ?_
  simp only [go_sem] at hr
  subst hr
  clear hy
  refine AWPL_rn tab_ok 1 [1, 2, 6] fun c st' hr => ?_
  simp only [go_sem] at hr
  obtain ⟨rfl, rfl⟩ := hr
  refine ⟨vc, ?_⟩
  refine AWPL_nil ?_
  with_reducible refine thenC_normal ?_
  refine AWP_seq ?_
  refine AWP_rg tab_ok [1, 2, 6, 13] fun c st' hr => ?_
  simp only [go_sem] at hr
  obtain ⟨rfl, rfl⟩ := hr
  refine ⟨vc, ?_⟩
  with_reducible refine thenC_normal ?_
  refine AWP_condP (y ≠ 0) rfl bd (fun hb => ?_) (fun hb => ?_)
  ·replace hK := ite_t hK hb
   refine AWP_seq ?_
   refine AWP_rg tab_ok [4, 5] fun c st' hr => ?_
   simp only [go_sem] at hr
   obtain ⟨rfl, rfl⟩ := hr
   refine ⟨vc, ?_⟩
   with_reducible refine thenC_normal ?_
   refine AWP_own 4 (.ints 3 .i64 []) rfl rfl fun st' hr => ?_
   simp only [go_sem] at hr
   subst hr
   refine AWP_ret ?_
   with_reducible refine thenC_ret ?_
   cases hK
   refine EndsRW [1] (.inl rfl) (of_decide_eq_true rfl) (by simp) rfl (fun c x hr => ?_) endH
   simp only [go_sem] at hr
   obtain ⟨rfl, rfl⟩ := hr
   exact ⟨rfl, endR⟩
  ·replace hK := ite_f hK hb
   refine AWP_skip ?_
   with_reducible refine thenC_normal ?_
   refine AWP_seq ?_
   refine AWP_rl ?_
   refine AWPL_rn tab_ok 1 [1, 15] fun c st' hr => ?_
   simp only [go_sem] at hr
   obtain ⟨rfl, rfl⟩ := hr
   refine ⟨vc, ?_⟩
   replace hK := bind_s hK
   obtain ⟨y1, hy, hK⟩ := hK
   refine AWPL_callK [1, 16] (W_axioms_ranks hy) rfl rfl pcT rfl Try.call160 (.cons (.agg _ _ rfl (ArgsOk.get (.cons (.atom _ rfl) (.cons (.atom _ rfl) .nil))).2) .nil) (hscG trivial) (of_decide_eq_true rfl) (by first | rfl | simp [nI, nI1, nI0]) (by first | rfl | simp [nIB, nI0]) fun st' hr => ?_
   simp only [go_sem] at hr
   subst hr
   clear hy
   refine AWPL_rn tab_ok 1 [1, 7] fun c st' hr => ?_
   simp only [go_sem] at hr
   obtain ⟨rfl, rfl⟩ := hr
   refine ⟨vc, ?_⟩
   refine AWPL_nil ?_
   with_reducible refine thenC_normal ?_
   refine AWP_seq ?_
   refine AWP_rg tab_ok [1, 7, 8] fun c st' hr => ?_
   simp only [go_sem] at hr
   obtain ⟨rfl, rfl⟩ := hr
   refine ⟨vc, ?_⟩
   with_reducible refine thenC_normal ?_
   refine AWP_own 8 (.ints 3 .i64 []) rfl rfl fun st' hr => ?_
   simp only [go_sem] at hr
   subst hr
   refine AWP_seq ?_
   refine AWP_seq ?_
   refine AWP_rg tab_ok [1, 7, 8, 18, 19] fun c st' hr => ?_
   simp only [go_sem] at hr
   obtain ⟨rfl, rfl⟩ := hr
   refine ⟨vc, ?_⟩
   with_reducible refine thenC_normal ?_
   refine AWP_block ?_
   refine AWP_loopX 0 (fun ((out0, v) : List Int × Int) => ⟨32, [(1, .func kindP kindC), (7, .own 0 y1.length), (8, .own 1 out0.length), (18, .int .i64 (y1.length : Int)), (19, .int .i64 v)], [some (.ints 3 .i64 y1), some (.ints 3 .i64 out0)]⟩) (fun (out01 : List Int) => ⟨32, [(8, .own 0 out01.length)], [some (.ints 3 .i64 out01)]⟩) (fun v => v) ([], 0) [1, 2] hK mkWk ?_ ?_
   ·clear hK; rintro ⟨out0, v⟩ b hK hpost1
    try dsimp only at hK
    change AWP _ _ _ _ ⟨32, [(1, .func kindP kindC), (7, .own 0 y1.length), (8, .own 1 out0.length), (18, .int .i64 (y1.length : Int)), (19, .int .i64 v)], [some (.ints 3 .i64 y1), some (.ints 3 .i64 out0)]⟩
    refine AWP_seq ?_
    refine AWP_rg tab_ok [1, 7, 8, 18, 19, 20] fun c st' hr => ?_
    simp only [go_sem] at hr
    obtain ⟨rfl, rfl⟩ := hr
    refine ⟨vc, ?_⟩
    with_reducible refine thenC_normal ?_
    refine AWP_seq ?_
    refine AWP_condP (v < (y1.length : Int)) rfl bd (fun hb1 => ?_) (fun hb1 => ?_)
    ·replace hK := ite_t hK hb1
     refine AWP_skip ?_
     with_reducible refine thenC_normal ?_
     refine AWP_seq ?_
     refine AWP_block ?_
     refine AWP_seq ?_
     refine AWP_rg tab_ok [1, 7, 8, 9, 18, 19] fun c st' hr => ?_
     simp only [go_sem] at hr
     obtain ⟨rfl, rfl⟩ := hr
     refine ⟨vc, ?_⟩
     with_reducible refine thenC_normal ?_
     refine AWP_seq ?_
     refine AWP_rl ?_
     refine AWPL_rn tab_ok 3 [1, 7, 8, 9, 18, 19, 22, 23, 24] fun c st' hr => ?_
     simp only [go_sem] at hr
     obtain ⟨rfl, rfl⟩ := hr
     refine ⟨vc, ?_⟩
     replace hK := bind_s hK
     obtain ⟨y2, hy, hK⟩ := hK
     refine AWPL_callK [1, 7, 8, 9, 18, 19, 25] (hkind _ _ _ hy) rfl rfl pcT rfl hkindf (.app (.cons (.ownI _ _ _ _ _ y1 rfl (by simp) (by first | (simp; done) | exact List.take_of_length_le (by simp))) (.cons (.atom _ rfl) .nil)) (.refl hkinda)) (hscG trivial) (of_decide_eq_true rfl) (by first | rfl | simp [nI, nI1, nI0]) (by first | rfl | simp [nIB, nI0]) fun st' hr => ?_
     simp only [go_sem] at hr
     subst hr
     clear hy
     refine AWPL_nil ?_
     with_reducible refine thenC_normal ?_
     refine AWP_condP (y2 = true) rfl bd (fun hb2 => ?_) (fun hb2 => ?_)
     ·replace hK := ite_t hK hb2
      replace hK := chk_some hK
      obtain ⟨h, hK⟩ := hK
      refine AWP_rg tab_ok [1, 7, 8, 18, 19] fun c st' hr => ?_
      simp only [go_sem] at hr
      obtain ⟨rfl, rfl⟩ := hr
      refine ⟨vc, ?_⟩
      with_reducible refine inBlockA_normal (thenC_normal ?_)
      refine AWP_facts (by simp) fun hfx => ?_
      simp only [factS, factV, fact1, fact0, factL0, lo, hi, maxLen, and_true, true_and] at hfx
      refine AWP_rg tab_ok [1, 7, 8, 18, 19] fun c st' hr => ?_
      simp only [go_sem] at hr
      obtain ⟨rfl, rfl⟩ := hr
      refine ⟨vc, ?_⟩
      clear hfx
      refine again_n (out0 ++ [v], v + 1) [0, 3] hK mkWk
     ·replace hK := ite_f hK hb2
      refine AWP_skip ?_
      with_reducible refine inBlockA_normal (thenC_normal ?_)
      refine AWP_facts (by simp) fun hfx => ?_
      simp only [factS, factV, fact1, fact0, factL0, lo, hi, maxLen, and_true, true_and] at hfx
      refine AWP_rg tab_ok [1, 7, 8, 18, 19] fun c st' hr => ?_
      simp only [go_sem] at hr
      obtain ⟨rfl, rfl⟩ := hr
      refine ⟨vc, ?_⟩
      clear hfx
      refine again_n (out0, v + 1) [0, 1] hK mkWk
    ·replace hK := ite_f hK hb1
     refine AWP_exit ?_
     with_reducible refine thenC_exit (again_x ?_)
     refine cutX_here out0 [1] (by have hq := hpost1 _ hK; exact hq) mkWk
   ·clear hK; rintro out01 hK
    try dsimp only at hK
    refine exS ⟨32, [(8, .own 0 out01.length)], [some (.ints 3 .i64 out01)]⟩ rfl ?_
    with_reducible refine inBlockA_exit (thenC_normal ?_)
    refine AWP_seq ?_
    refine AWP_rg tab_ok [4, 5] fun c st' hr => ?_
    simp only [go_sem] at hr
    obtain ⟨rfl, rfl⟩ := hr
    refine ⟨vc, ?_⟩
    with_reducible refine thenC_normal ?_
    refine AWP_ret ?_
    cases hK
    refine EndsRW [0] (.inl rfl) (of_decide_eq_true rfl) (by simp) rfl (fun c x hr => ?_) endH
    simp only [go_sem] at hr
    obtain ⟨rfl, rfl⟩ := hr
    exact ⟨rfl, endR⟩


theorem W_axioms_Flats {m_0 : Int} {m_1 : List Int} {r : List Int × Int} (hK : axioms_Flats m_0 m_1 = some r) : Pure Try.prog 136 [.agg [.int .i64 m_0, .ints .i64 m_1]] (.tup [.own 0 r.1.length, .int .i64 r.2]) [(.ints 3 .i64 r.1)] := by
  refine Pure_introF tab_ok (n := 9) (l := [.tmp 2, .tmp 3]) Try.func136 rfl rfl rfl (by simp) fun hfact w0 => ?_
  simp only [factL1, fact1, fact0, factL0, lo, hi, maxLen, and_true] at hfact
  unfold axioms_Flats at hK
  refine AWP_seq ?_
  refine AWP_rg tab_ok [1] fun c st' hr => ?_
  simp only [go_sem] at hr
  obtain ⟨rfl, rfl⟩ := hr
  refine ⟨vc, ?_⟩
  with_reducible refine thenC_normal ?_
  refine AWP_seq ?_
  refine AWP_rl ?_
  refine AWPL_rn tab_ok 2 [4, 5] fun c st' hr => ?_
  simp only [go_sem] at hr
  obtain ⟨rfl, rfl⟩ := hr
  refine ⟨vc, ?_⟩
  replace hK := bind_s hK
  obtain ⟨y, hy, hK⟩ := hK
  refine AWPL_callK [6] (W_axioms_family Try.call176 rfl (fun _ _ _ hh => by simpa using W_axioms_Flats_1 hh) hy) rfl rfl pcT rfl Try.call175 (.cons (.agg _ _ rfl (ArgsOk.get (.cons (.atom _ rfl) (.cons (.atom _ rfl) .nil))).2) (.cons (.funcOf (.cons (.ptrM _ _ _ _ _ _ _ rfl rfl rfl (ArgsOk.get (.cons (.atom _ rfl) (.cons (.atom _ rfl) .nil))).2) .nil)) .nil)) (hscG trivial) (of_decide_eq_true rfl) (by first | rfl | simp [nI, nI1, nI0]) (by first | rfl | simp [nIB, nI0]) fun st' hr => ?_
  simp only [go_sem] at hr
  subst hr
  clear hy
  refine AWPL_rn tab_ok 4 [2, 3] fun c st' hr => ?_
  simp only [go_sem] at hr
  obtain ⟨rfl, rfl⟩ := hr
  refine ⟨vc, ?_⟩
  refine AWPL_nil ?_
  with_reducible refine thenC_normal ?_
  refine AWP_ret ?_
  cases hK
  refine EndsRW [1] (.inl rfl) (of_decide_eq_true rfl) (by simp) rfl (fun c x hr => ?_) endH
  simp only [go_sem] at hr
  obtain ⟨rfl, rfl⟩ := hr
  exact ⟨rfl, endR⟩


theorem W_axioms_Ranks {m_0 : Int} {m_1 : List Int} {r : List Int × Int} (hK : axioms_Ranks m_0 m_1 = some r) : Pure Try.prog 116 [.agg [.int .i64 m_0, .ints .i64 m_1]] (.tup [.own 0 r.1.length, .int .i64 r.2]) [(.ints 3 .i64 r.1)] := by
  refine Pure_introF tab_ok (n := 12) (l := [.tmp 2, .tmp 3]) Try.func116 rfl rfl rfl (by simp) fun hfact w0 => ?_
  simp only [factL1, fact1, fact0, factL0, lo, hi, maxLen, and_true] at hfact
  unfold axioms_Ranks at hK
  refine AWP_seq ?_
  refine AWP_rg tab_ok [1] fun c st' hr => ?_
  simp only [go_sem] at hr
  obtain ⟨rfl, rfl⟩ := hr
  refine ⟨vc, ?_⟩
  with_reducible refine thenC_normal ?_
  refine AWP_seq ?_
  refine AWP_seq ?_
  refine AWP_rl ?_
  refine AWPL_rn tab_ok 1 [1, 5] fun c st' hr => ?_
  simp only [go_sem] at hr
  obtain ⟨rfl, rfl⟩ := hr
  refine ⟨vc, ?_⟩
  replace hK := bind_s hK
  obtain ⟨y, hy, hK⟩ := hK
  refine AWPL_callK [1, 6] (W_axioms_Check hy) rfl rfl pcT rfl Try.call112 (.cons (.agg _ _ rfl (ArgsOk.get (.cons (.atom _ rfl) (.cons (.atom _ rfl) .nil))).2) .nil) (hscG trivial) (of_decide_eq_true rfl) (by first | rfl | simp [nI, nI1, nI0]) (by first | rfl | simp [nIB, nI0]) fun st' hr => ?_
  simp only [go_sem] at hr
  subst hr
  clear hy
  refine AWPL_rn tab_ok 1 [1, 4] fun c st' hr => ?_
  simp only [go_sem] at hr
  obtain ⟨rfl, rfl⟩ := hr
  refine ⟨vc, ?_⟩
  refine AWPL_nil ?_
  with_reducible refine thenC_normal ?_
  refine AWP_seq ?_
  refine AWP_rg tab_ok [1, 4, 8] fun c st' hr => ?_
  simp only [go_sem] at hr
  obtain ⟨rfl, rfl⟩ := hr
  refine ⟨vc, ?_⟩
  with_reducible refine thenC_normal ?_
  refine AWP_condP (y ≠ 0) rfl bd (fun hb => ?_) (fun hb => ?_)
  ·replace hK := ite_t hK hb
   refine AWP_seq ?_
   refine AWP_rg tab_ok [2, 3] fun c st' hr => ?_
   simp only [go_sem] at hr
   obtain ⟨rfl, rfl⟩ := hr
   refine ⟨vc, ?_⟩
   with_reducible refine thenC_normal ?_
   refine AWP_own 2 (.ints 3 .i64 []) rfl rfl fun st' hr => ?_
   simp only [go_sem] at hr
   subst hr
   refine AWP_ret ?_
   with_reducible refine thenC_ret ?_
   cases hK
   refine EndsRW [1] (.inl rfl) (of_decide_eq_true rfl) (by simp) rfl (fun c x hr => ?_) endH
   simp only [go_sem] at hr
   obtain ⟨rfl, rfl⟩ := hr
   exact ⟨rfl, endR⟩
  ·replace hK := ite_f hK hb
   refine AWP_skip ?_
   with_reducible refine thenC_normal ?_
   refine AWP_seq ?_
   refine AWP_rl ?_
   refine AWPL_rn tab_ok 1 [10] fun c st' hr => ?_
   simp only [go_sem] at hr
   obtain ⟨rfl, rfl⟩ := hr
   refine ⟨vc, ?_⟩
   replace hK := bind_s hK
   obtain ⟨y1, hy, hK⟩ := hK
   refine AWPL_callK [11] (W_axioms_ranks hy) rfl rfl pcT rfl Try.call160 (.cons (.agg _ _ rfl (ArgsOk.get (.cons (.atom _ rfl) (.cons (.atom _ rfl) .nil))).2) .nil) (hscG trivial) (of_decide_eq_true rfl) (by first | rfl | simp [nI, nI1, nI0]) (by first | rfl | simp [nIB, nI0]) fun st' hr => ?_
   simp only [go_sem] at hr
   subst hr
   clear hy
   refine AWPL_rn tab_ok 2 [2, 3] fun c st' hr => ?_
   simp only [go_sem] at hr
   obtain ⟨rfl, rfl⟩ := hr
   refine ⟨vc, ?_⟩
   refine AWPL_nil ?_
   with_reducible refine thenC_normal ?_
   refine AWP_ret ?_
   cases hK
   refine EndsRW [1] (.inl rfl) (of_decide_eq_true rfl) (by simp) rfl (fun c x hr => ?_) endH
   simp only [go_sem] at hr
   obtain ⟨rfl, rfl⟩ := hr
   exact ⟨rfl, endR⟩

end Go.SH
