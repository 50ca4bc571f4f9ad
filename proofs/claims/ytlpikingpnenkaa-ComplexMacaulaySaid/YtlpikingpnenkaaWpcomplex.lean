/-
  That the code computes these functions: complex_Check, complex_size, complex_Shells, complex_faces_1, complex_faces, complex_count, complex_F, complex_choose, complex_H. By a program of mine (shal.py). Conditions: none.
-/
import Derived.Test.YtlpikingpnenkaaAxT
import Derived.Test.YtlpikingpnenkaaAxR
import Derived.Test.YtlpikingpnenkaaAxZ
import Derived.Test.YtlpikingpnenkaaAxP
import Derived.Test.YtlpikingpnenkaaShelf
import Derived.Test.YtlpikingpnenkaaSp
import Derived.Test.YtlpikingpnenkaaWpbits
import Derived.Test.YtlpikingpnenkaaWpsets
import Derived.Test.YtlpikingpnenkaaWpslices
set_option linter.unusedVariables false
set_option linter.unusedSimpArgs false
set_option maxRecDepth 8000
set_option maxHeartbeats 4000000
namespace Go.SH
open Go Go.AX Go.AX.Try Go.Proofs


theorem W_complex_Check {n : Int} {l : List Int} {r : Int} (hK : complex_Check n l = some r) : Pure Try.prog 90 [.int .i64 n, .ints .i64 l] (.int .i64 r) [] := by
  refine Pure_introF tab_ok (n := 43) (l := [.tmp 4]) Try.func90 rfl rfl rfl (by simp) fun hfact w0 => ?_
  simp only [factL1, fact1, fact0, factL0, lo, hi, maxLen, and_true] at hfact
  unfold complex_Check at hK
  refine AWP_seq ?_
  refine AWP_rg tab_ok [0, 1] fun c st' hr => ?_
  simp only [go_sem] at hr
  obtain ⟨rfl, rfl⟩ := hr
  refine ⟨vc, ?_⟩
  with_reducible refine thenC_normal ?_
  refine AWP_seq ?_
  refine AWP_seq ?_
  refine AWP_rl ?_
  refine AWPL_rn tab_ok 2 [1, 10, 11] fun c st' hr => ?_
  simp only [go_sem] at hr
  obtain ⟨rfl, rfl⟩ := hr
  refine ⟨vc, ?_⟩
  replace hK := bind_s hK
  obtain ⟨y, hy, hK⟩ := hK
  refine AWPL_callK [1, 12] (W_sets_Family hy) rfl rfl pcT rfl Try.call60 (.cons (.atom _ rfl) (.cons (.atom _ rfl) .nil)) (hscG trivial) (of_decide_eq_true rfl) (by first | rfl | simp [nI, nI1, nI0]) (by first | rfl | simp [nIB, nI0]) fun st' hr => ?_
  simp only [go_sem] at hr
  subst hr
  clear hy
  refine AWPL_rn tab_ok 1 [1, 5] fun c st' hr => ?_
  simp only [go_sem] at hr
  obtain ⟨rfl, rfl⟩ := hr
  refine ⟨vc, ?_⟩
  refine AWPL_nil ?_
  with_reducible refine thenC_normal ?_
  refine AWP_seq ?_
  refine AWP_rg tab_ok [1, 5, 14] fun c st' hr => ?_
  simp only [go_sem] at hr
  obtain ⟨rfl, rfl⟩ := hr
  refine ⟨vc, ?_⟩
  with_reducible refine thenC_normal ?_
  refine AWP_condP (y ≠ 0) rfl bd (fun hb => ?_) (fun hb => ?_)
  ·replace hK := ite_t hK hb
   refine AWP_seq ?_
   refine AWP_rg tab_ok [4] fun c st' hr => ?_
   simp only [go_sem] at hr
   obtain ⟨rfl, rfl⟩ := hr
   refine ⟨vc, ?_⟩
   with_reducible refine thenC_normal ?_
   refine AWP_ret ?_
   with_reducible refine thenC_ret ?_
   cases hK
   refine EndsRW [] (.inl rfl) (of_decide_eq_true rfl) (by simp) rfl (fun c x hr => ?_) trivial
   simp only [go_sem] at hr
   obtain ⟨rfl, rfl⟩ := hr
   exact ⟨rfl, endR⟩
  ·replace hK := ite_f hK hb
   refine AWP_skip ?_
   with_reducible refine thenC_normal ?_
   refine AWP_seq ?_
   refine AWP_seq ?_
   refine AWP_rg tab_ok [1, 18] fun c st' hr => ?_
   simp only [go_sem] at hr
   obtain ⟨rfl, rfl⟩ := hr
   refine ⟨vc, ?_⟩
   with_reducible refine thenC_normal ?_
   refine AWP_condP ((l.length : Int) = 0) rfl bd (fun hb1 => ?_) (fun hb1 => ?_)
   ·replace hK := ite_t hK hb1
    refine AWP_seq ?_
    refine AWP_rg tab_ok [4] fun c st' hr => ?_
    simp only [go_sem] at hr
    obtain ⟨rfl, rfl⟩ := hr
    refine ⟨vc, ?_⟩
    with_reducible refine thenC_normal ?_
    refine AWP_ret ?_
    with_reducible refine thenC_ret ?_
    cases hK
    refine EndsRW [] (.inl rfl) (of_decide_eq_true rfl) (by simp) rfl (fun c x hr => ?_) trivial
    simp only [go_sem] at hr
    obtain ⟨rfl, rfl⟩ := hr
    exact ⟨rfl, endR⟩
   ·replace hK := ite_f hK hb1
    refine AWP_skip ?_
    with_reducible refine thenC_normal ?_
    refine AWP_seq ?_
    refine AWP_seq ?_
    refine AWP_rg tab_ok [1, 19, 20, 21] fun c st' hr => ?_
    simp only [go_sem] at hr
    obtain ⟨rfl, rfl⟩ := hr
    refine ⟨vc, ?_⟩
    with_reducible refine thenC_normal ?_
    refine AWP_block ?_
    refine AWP_loopX 0 (fun (v : Int) => ⟨43, [(1, .ints .i64 l), (19, .ints .i64 l), (20, .int .i64 (l.length : Int)), (21, .int .i64 v)], []⟩) (fun (_ : Unit) => ⟨43, [], []⟩) Sum.inl 0 [] hK mkWk ?_ ?_
    ·clear hK; rintro v b hK hpost1
     try dsimp only at hK
     change AWP _ _ _ _ ⟨43, [(1, .ints .i64 l), (19, .ints .i64 l), (20, .int .i64 (l.length : Int)), (21, .int .i64 v)], []⟩
     refine AWP_seq ?_
     refine AWP_rg tab_ok [1, 19, 20, 21, 22] fun c st' hr => ?_
     simp only [go_sem] at hr
     obtain ⟨rfl, rfl⟩ := hr
     refine ⟨vc, ?_⟩
     with_reducible refine thenC_normal ?_
     refine AWP_seq ?_
     refine AWP_condP (v < (l.length : Int)) rfl bd (fun hb2 => ?_) (fun hb2 => ?_)
     ·replace hK := ite_t hK hb2
      refine AWP_skip ?_
      with_reducible refine thenC_normal ?_
      refine AWP_seq ?_
      refine AWP_block ?_
      refine AWP_seq ?_
      replace hK := chk_some hK
      obtain ⟨h, hK⟩ := hK
      refine AWP_rg tab_ok [1, 7, 19, 20, 21] fun c st' hr => ?_
      simp only [go_sem] at hr
      obtain ⟨rfl, rfl⟩ := hr
      refine ⟨vc, ?_⟩
      with_reducible refine thenC_normal ?_
      refine AWP_seq ?_
      refine AWP_rg tab_ok [1, 7, 19, 20, 21, 25, 26, 27] fun c st' hr => ?_
      simp only [go_sem] at hr
      obtain ⟨rfl, rfl⟩ := hr
      refine ⟨vc, ?_⟩
      with_reducible refine thenC_normal ?_
      refine AWP_block ?_
      refine AWP_loopX 2 (fun (v1 : Int) => ⟨43, [(1, .ints .i64 l), (7, .int .i64 (l.getD v.toNat 0)), (19, .ints .i64 l), (20, .int .i64 (l.length : Int)), (21, .int .i64 v), (25, .ints .i64 l), (26, .int .i64 (l.length : Int)), (27, .int .i64 v1)], []⟩) (fun (_ : Unit) => ⟨43, [(1, .ints .i64 l), (19, .ints .i64 l), (20, .int .i64 (l.length : Int)), (21, .int .i64 v)], []⟩) Sum.inl 0 [] hK mkWk ?_ ?_
      ·clear hK; rintro v1 b1 hK hpost2
       try dsimp only at hK
       change AWP _ _ _ _ ⟨43, [(1, .ints .i64 l), (7, .int .i64 (l.getD v.toNat 0)), (19, .ints .i64 l), (20, .int .i64 (l.length : Int)), (21, .int .i64 v), (25, .ints .i64 l), (26, .int .i64 (l.length : Int)), (27, .int .i64 v1)], []⟩
       refine AWP_seq ?_
       refine AWP_rg tab_ok [1, 7, 19, 20, 21, 25, 26, 27, 28] fun c st' hr => ?_
       simp only [go_sem] at hr
       obtain ⟨rfl, rfl⟩ := hr
       refine ⟨vc, ?_⟩
       with_reducible refine thenC_normal ?_
       refine AWP_seq ?_
       refine AWP_condP (v1 < (l.length : Int)) rfl bd (fun hb3 => ?_) (fun hb3 => ?_)
       ·replace hK := ite_t hK hb3
        refine AWP_skip ?_
        with_reducible refine thenC_normal ?_
        refine AWP_seq ?_
        refine AWP_block ?_
        refine AWP_seq ?_
        replace hK := chk_some hK
        obtain ⟨h1, hK⟩ := hK
        refine AWP_rg tab_ok [1, 7, 9, 19, 20, 21, 25, 26, 27] fun c st' hr => ?_
        simp only [go_sem] at hr
        obtain ⟨rfl, rfl⟩ := hr
        refine ⟨vc, ?_⟩
        with_reducible refine thenC_normal ?_
        refine AWP_seq ?_
        refine AWP_rg tab_ok [1, 7, 19, 20, 21, 25, 26, 27, 40] fun c st' hr => ?_
        simp only [go_sem] at hr
        obtain ⟨rfl, rfl⟩ := hr
        refine ⟨vc, ?_⟩
        with_reducible refine thenC_normal ?_
        refine AWP_condP ((l.getD v.toNat 0 ≠ l.getD v1.toNat 0 ∧ iand (l.getD v.toNat 0) (l.getD v1.toNat 0) = l.getD v.toNat 0)) rfl bd (fun hb4 => ?_) (fun hb4 => ?_)
        ·replace hK := ite_t hK hb4
         refine AWP_seq ?_
         refine AWP_rg tab_ok [4] fun c st' hr => ?_
         simp only [go_sem] at hr
         obtain ⟨rfl, rfl⟩ := hr
         refine ⟨vc, ?_⟩
         with_reducible refine thenC_normal ?_
         refine AWP_ret ?_
         with_reducible refine inBlockA_ret (thenC_ret (again_r (cutX_r (inBlockA_ret (inBlockA_ret (thenC_ret (again_r (cutX_r (inBlockA_ret (thenC_ret ?_))))))))))
         replace hK := hpost2 _ hK
         try dsimp only at hK
         replace hK := hpost1 _ hK
         try dsimp only at hK
         cases hK
         refine EndsRW [] (.inl rfl) (of_decide_eq_true rfl) (by simp) rfl (fun c x hr => ?_) trivial
         simp only [go_sem] at hr
         obtain ⟨rfl, rfl⟩ := hr
         exact ⟨rfl, endR⟩
        ·replace hK := ite_f hK hb4
         refine AWP_skip ?_
         with_reducible refine inBlockA_normal (thenC_normal ?_)
         refine AWP_facts (by simp) fun hfx => ?_
         simp only [factS, factV, fact1, fact0, factL0, lo, hi, maxLen, and_true, true_and] at hfx
         refine AWP_rg tab_ok [1, 7, 19, 20, 21, 25, 26, 27] fun c st' hr => ?_
         simp only [go_sem] at hr
         obtain ⟨rfl, rfl⟩ := hr
         refine ⟨vc, ?_⟩
         clear hfx
         refine again_n (v1 + 1) [] hK mkWk
       ·replace hK := ite_f hK hb3
        refine AWP_exit ?_
        with_reducible refine thenC_exit (again_x ?_)
        refine cutX_here () [] (by have hq := hpost2 _ hK; exact hq) mkWk
      ·clear hK; rintro _ hK
       try dsimp only at hK
       refine exS ⟨43, [(1, .ints .i64 l), (19, .ints .i64 l), (20, .int .i64 (l.length : Int)), (21, .int .i64 v)], []⟩ rfl ?_
       with_reducible refine inBlockA_exit (inBlockA_normal (thenC_normal ?_))
       refine AWP_facts (by simp) fun hfx => ?_
       simp only [factS, factV, fact1, fact0, factL0, lo, hi, maxLen, and_true, true_and] at hfx
       refine AWP_rg tab_ok [1, 19, 20, 21] fun c st' hr => ?_
       simp only [go_sem] at hr
       obtain ⟨rfl, rfl⟩ := hr
       refine ⟨vc, ?_⟩
       clear hfx
       refine again_n (v + 1) [] hK mkWk
     ·replace hK := ite_f hK hb2
      refine AWP_exit ?_
      with_reducible refine thenC_exit (again_x ?_)
      refine cutX_here () [] (by have hq := hpost1 _ hK; exact hq) mkWk
    ·clear hK; rintro _ hK
     try dsimp only at hK
     refine exS ⟨43, [], []⟩ rfl ?_
     with_reducible refine inBlockA_exit (thenC_normal ?_)
     refine AWP_seq ?_
     refine AWP_rg tab_ok [4] fun c st' hr => ?_
     simp only [go_sem] at hr
     obtain ⟨rfl, rfl⟩ := hr
     refine ⟨vc, ?_⟩
     with_reducible refine thenC_normal ?_
     refine AWP_ret ?_
     cases hK
     refine EndsRW [] (.inl rfl) (of_decide_eq_true rfl) (by simp) rfl (fun c x hr => ?_) trivial
     simp only [go_sem] at hr
     obtain ⟨rfl, rfl⟩ := hr
     exact ⟨rfl, endR⟩


theorem W_complex_size {s : Int} {r : Int} (hK : complex_size s = some r) : Pure Try.prog 93 [.int .i64 s] (.int .i64 r) [] := by
  refine Pure_introF tab_ok (n := 6) (l := [.tmp 2]) Try.func93 rfl rfl rfl (by simp) fun hfact w0 => ?_
  simp only [factL1, fact1, fact0, factL0, lo, hi, maxLen, and_true] at hfact
  unfold complex_size at hK
  refine AWP_seq ?_
  refine AWP_rg tab_ok [0] fun c st' hr => ?_
  simp only [go_sem] at hr
  obtain ⟨rfl, rfl⟩ := hr
  refine ⟨vc, ?_⟩
  with_reducible refine thenC_normal ?_
  refine AWP_seq ?_
  refine AWP_rl ?_
  replace hK := chk_some hK
  obtain ⟨h, hK⟩ := hK
  refine AWPL_rn tab_ok 2 [4] fun c st' hr => ?_
  simp only [go_sem] at hr
  obtain ⟨rfl, rfl⟩ := hr
  refine ⟨vc, ?_⟩
  replace hK := bind_s hK
  obtain ⟨y, hy, hK⟩ := hK
  refine AWPL_callK [5] (W_bits_OnesCount hy) rfl rfl pcT rfl Try.call135 (.cons (.atom _ rfl) .nil) (hscG trivial) (of_decide_eq_true rfl) (by first | rfl | simp [nI, nI1, nI0]) (by first | rfl | simp [nIB, nI0]) fun st' hr => ?_
  simp only [go_sem] at hr
  subst hr
  clear hy
  refine AWPL_rn tab_ok 1 [2] fun c st' hr => ?_
  simp only [go_sem] at hr
  obtain ⟨rfl, rfl⟩ := hr
  refine ⟨vc, ?_⟩
  refine AWPL_nil ?_
  with_reducible refine thenC_normal ?_
  refine AWP_ret ?_
  cases hK
  refine EndsRW [] (.inl rfl) (of_decide_eq_true rfl) (by simp) rfl (fun c x hr => ?_) trivial
  simp only [go_sem] at hr
  obtain ⟨rfl, rfl⟩ := hr
  exact ⟨rfl, endR⟩


theorem W_complex_Shells {n : Int} {a1 : List Int} {a2 : List Int} {r : Bool × Int} (hK : complex_Shells n a1 a2 = some r) : Pure Try.prog 39 [.int .i64 n, .ints .i64 a1, .ints .i64 a2] (.tup [.bool r.1, .int .i64 r.2]) [] := by
  refine Pure_introF tab_ok (n := 94) (l := [.tmp 6, .tmp 7]) Try.func39 rfl rfl rfl (by simp) fun hfact w0 => ?_
  simp only [factL1, fact1, fact0, factL0, lo, hi, maxLen, and_true] at hfact
  unfold complex_Shells at hK
  refine AWP_seq ?_
  refine AWP_rg tab_ok [0, 1, 2] fun c st' hr => ?_
  simp only [go_sem] at hr
  obtain ⟨rfl, rfl⟩ := hr
  refine ⟨vc, ?_⟩
  with_reducible refine thenC_normal ?_
  refine AWP_seq ?_
  refine AWP_seq ?_
  refine AWP_rl ?_
  refine AWPL_rn tab_ok 2 [1, 2, 19, 20] fun c st' hr => ?_
  simp only [go_sem] at hr
  obtain ⟨rfl, rfl⟩ := hr
  refine ⟨vc, ?_⟩
  replace hK := bind_s hK
  obtain ⟨y, hy, hK⟩ := hK
  refine AWPL_callK [1, 2, 21] (W_complex_Check hy) rfl rfl pcT rfl Try.call90 (.cons (.atom _ rfl) (.cons (.atom _ rfl) .nil)) (hscG trivial) (of_decide_eq_true rfl) (by first | rfl | simp [nI, nI1, nI0]) (by first | rfl | simp [nIB, nI0]) fun st' hr => ?_
  simp only [go_sem] at hr
  subst hr
  clear hy
  refine AWPL_rn tab_ok 1 [1, 2, 8] fun c st' hr => ?_
  simp only [go_sem] at hr
  obtain ⟨rfl, rfl⟩ := hr
  refine ⟨vc, ?_⟩
  refine AWPL_nil ?_
  with_reducible refine thenC_normal ?_
  refine AWP_seq ?_
  refine AWP_rg tab_ok [1, 2, 8, 23] fun c st' hr => ?_
  simp only [go_sem] at hr
  obtain ⟨rfl, rfl⟩ := hr
  refine ⟨vc, ?_⟩
  with_reducible refine thenC_normal ?_
  refine AWP_condP (y ≠ 0) rfl bd (fun hb => ?_) (fun hb => ?_)
  ·replace hK := ite_t hK hb
   refine AWP_seq ?_
   refine AWP_rg tab_ok [6, 7] fun c st' hr => ?_
   simp only [go_sem] at hr
   obtain ⟨rfl, rfl⟩ := hr
   refine ⟨vc, ?_⟩
   with_reducible refine thenC_normal ?_
   refine AWP_ret ?_
   with_reducible refine thenC_ret ?_
   cases hK
   refine EndsRW [] (.inl rfl) (of_decide_eq_true rfl) (by simp) rfl (fun c x hr => ?_) trivial
   simp only [go_sem] at hr
   obtain ⟨rfl, rfl⟩ := hr
   exact ⟨rfl, endR⟩
  ·replace hK := ite_f hK hb
   refine AWP_skip ?_
   with_reducible refine thenC_normal ?_
   refine AWP_seq ?_
   refine AWP_rl ?_
   refine AWPL_rn tab_ok 1 [1, 2, 25] fun c st' hr => ?_
   simp only [go_sem] at hr
   obtain ⟨rfl, rfl⟩ := hr
   refine ⟨vc, ?_⟩
   replace hK := chk_some hK
   obtain ⟨h, hK⟩ := hK
   refine AWPL_cloneI [1, 2, 26] 3 Try.laysNm215 rfl rfl pcT rfl Try.call75 (of_decide_eq_true rfl) rfl h rfl fun st' hr => ?_
   simp only [go_sem] at hr
   subst hr
   refine AWPL_rn tab_ok 1 [1, 2, 9] fun c st' hr => ?_
   simp only [go_sem] at hr
   obtain ⟨rfl, rfl⟩ := hr
   refine ⟨vc, ?_⟩
   refine AWPL_nil ?_
   with_reducible refine thenC_normal ?_
   refine AWP_seq ?_
   refine AWP_rl ?_
   refine AWPL_rn tab_ok 1 [1, 2, 9, 27] fun c st' hr => ?_
   simp only [go_sem] at hr
   obtain ⟨rfl, rfl⟩ := hr
   refine ⟨vc, ?_⟩
   replace hK := chk_some hK
   obtain ⟨h1, hK⟩ := hK
   refine AWPL_sort [1, 2, 9] Try.lays189 rfl rfl pcT rfl Try.call91 (of_decide_eq_true rfl) rfl rfl h1 fun st' hr => ?_
   simp only [go_sem] at hr
   subst hr
   refine AWPL_stP [(1, .ints .i64 a1), (2, .ints .i64 a2), (9, .own 0 ((sortL a2).length))] (by simp [SameS, AX.look, sortL_len]) ?_
   refine AWPL_nil ?_
   with_reducible refine thenC_normal ?_
   refine AWP_seq ?_
   refine AWP_seq ?_
   refine AWP_rl ?_
   refine AWPL_rn tab_ok 2 [1, 2, 29, 30] fun c st' hr => ?_
   simp only [go_sem] at hr
   obtain ⟨rfl, rfl⟩ := hr
   refine ⟨vc, ?_⟩
   replace hK := bind_s hK
   obtain ⟨y1, hy, hK⟩ := hK
   refine AWPL_callK [1, 2, 31] (W_slices_Equal_int_int hy) rfl rfl pcT rfl Try.call92 (.cons (.ownI _ _ _ _ _ (sortL a2) rfl (by simp) (by first | (simp; done) | exact List.take_of_length_le (by simp))) (.cons (.atom _ rfl) .nil)) (hscG trivial) (of_decide_eq_true rfl) (by first | rfl | simp [nI, nI1, nI0]) (by first | rfl | simp [nIB, nI0]) fun st' hr => ?_
   simp only [go_sem] at hr
   subst hr
   clear hy
   refine AWPL_rn tab_ok 1 [1, 2, 32] fun c st' hr => ?_
   simp only [go_sem] at hr
   obtain ⟨rfl, rfl⟩ := hr
   refine ⟨vc, ?_⟩
   refine AWPL_nil ?_
   with_reducible refine thenC_normal ?_
   refine AWP_condP (¬ (y1 = true)) rfl bd (fun hb1 => ?_) (fun hb1 => ?_)
   ·replace hK := ite_t hK hb1
    refine AWP_seq ?_
    refine AWP_rg tab_ok [6, 7] fun c st' hr => ?_
    simp only [go_sem] at hr
    obtain ⟨rfl, rfl⟩ := hr
    refine ⟨vc, ?_⟩
    with_reducible refine thenC_normal ?_
    refine AWP_ret ?_
    with_reducible refine thenC_ret ?_
    cases hK
    refine EndsRW [] (.inl rfl) (of_decide_eq_true rfl) (by simp) rfl (fun c x hr => ?_) trivial
    simp only [go_sem] at hr
    obtain ⟨rfl, rfl⟩ := hr
    exact ⟨rfl, endR⟩
   ·replace hK := ite_f hK hb1
    refine AWP_skip ?_
    with_reducible refine thenC_normal ?_
    refine AWP_seq ?_
    refine AWP_seq ?_
    refine AWP_rg tab_ok [1, 2, 33, 34, 35] fun c st' hr => ?_
    simp only [go_sem] at hr
    obtain ⟨rfl, rfl⟩ := hr
    refine ⟨vc, ?_⟩
    with_reducible refine thenC_normal ?_
    refine AWP_block ?_
    refine AWP_loopX 0 (fun (v : Int) => ⟨94, [(1, .ints .i64 a1), (2, .ints .i64 a2), (33, .ints .i64 a1), (34, .int .i64 (a1.length : Int)), (35, .int .i64 v)], []⟩) (fun (_ : Unit) => ⟨94, [(2, .ints .i64 a2)], []⟩) Sum.inl 0 [] hK mkWk ?_ ?_
    ·clear hK; rintro v b hK hpost1
     try dsimp only at hK
     change AWP _ _ _ _ ⟨94, [(1, .ints .i64 a1), (2, .ints .i64 a2), (33, .ints .i64 a1), (34, .int .i64 (a1.length : Int)), (35, .int .i64 v)], []⟩
     refine AWP_seq ?_
     refine AWP_rg tab_ok [1, 2, 33, 34, 35, 36] fun c st' hr => ?_
     simp only [go_sem] at hr
     obtain ⟨rfl, rfl⟩ := hr
     refine ⟨vc, ?_⟩
     with_reducible refine thenC_normal ?_
     refine AWP_seq ?_
     refine AWP_condP (v < (a1.length : Int)) rfl bd (fun hb2 => ?_) (fun hb2 => ?_)
     ·replace hK := ite_t hK hb2
      refine AWP_skip ?_
      with_reducible refine thenC_normal ?_
      refine AWP_seq ?_
      refine AWP_block ?_
      refine AWP_seq ?_
      replace hK := chk_some hK
      obtain ⟨h2, hK⟩ := hK
      refine AWP_rg tab_ok [1, 2, 11, 33, 34, 35] fun c st' hr => ?_
      simp only [go_sem] at hr
      obtain ⟨rfl, rfl⟩ := hr
      refine ⟨vc, ?_⟩
      with_reducible refine thenC_normal ?_
      refine AWP_seq ?_
      refine AWP_drawQ mixed (by kernel_rfl) ?_
      refine AWQL_rn tab_ok 1 [1, 2, 33, 34, 35, 39] fun c st' hr => ?_
      simp only [go_sem] at hr
      obtain ⟨rfl, rfl⟩ := hr
      refine ⟨vc, ?_⟩
      replace hK := bind_s hK
      obtain ⟨y2, hy, hK⟩ := hK
      refine AWQL_callK [1, 2, 33, 34, 35, 40] (W_complex_size hy) rfl rfl pcT rfl Try.call93 (.cons (.atom _ rfl) .nil) (hscG trivial) (of_decide_eq_true rfl) rfl fun st' hr => ?_
      simp only [go_sem] at hr
      subst hr
      clear hy
      replace hK := chk_some hK
      obtain ⟨h3, hK⟩ := hK
      refine AWQL_rn tab_ok 3 [1, 2, 33, 34, 35, 40, 43] fun c st' hr => ?_
      simp only [go_sem] at hr
      obtain ⟨rfl, rfl⟩ := hr
      refine ⟨vc, ?_⟩
      replace hK := bind_s hK
      obtain ⟨y3, hy, hK⟩ := hK
      refine AWQL_callK [1, 2, 33, 34, 35, 40, 44] (W_complex_size hy) rfl rfl pcT rfl Try.call93 (.cons (.atom _ rfl) .nil) (hscG trivial) (of_decide_eq_true rfl) rfl fun st' hr => ?_
      simp only [go_sem] at hr
      subst hr
      clear hy
      refine AWQL_rn tab_ok 1 [1, 2, 33, 34, 35, 45] fun c st' hr => ?_
      simp only [go_sem] at hr
      obtain ⟨rfl, rfl⟩ := hr
      refine ⟨vc, ?_⟩
      refine AWQL_nil ?_
      with_reducible refine thenC_normal ?_
      refine AWP_condP (y2 ≠ y3) rfl bd (fun hb3 => ?_) (fun hb3 => ?_)
      ·replace hK := ite_t hK hb3
       refine AWP_seq ?_
       refine AWP_rg tab_ok [6, 7] fun c st' hr => ?_
       simp only [go_sem] at hr
       obtain ⟨rfl, rfl⟩ := hr
       refine ⟨vc, ?_⟩
       with_reducible refine thenC_normal ?_
       refine AWP_ret ?_
       with_reducible refine inBlockA_ret (thenC_ret (again_r (cutX_r (inBlockA_ret (thenC_ret ?_)))))
       replace hK := hpost1 _ hK
       try dsimp only at hK
       cases hK
       refine EndsRW [] (.inl rfl) (of_decide_eq_true rfl) (by simp) rfl (fun c x hr => ?_) trivial
       simp only [go_sem] at hr
       obtain ⟨rfl, rfl⟩ := hr
       exact ⟨rfl, endR⟩
      ·replace hK := ite_f hK hb3
       refine AWP_skip ?_
       with_reducible refine inBlockA_normal (thenC_normal ?_)
       refine AWP_facts (by simp) fun hfx => ?_
       simp only [factS, factV, fact1, fact0, factL0, lo, hi, maxLen, and_true, true_and] at hfx
       refine AWP_rg tab_ok [1, 2, 33, 34, 35] fun c st' hr => ?_
       simp only [go_sem] at hr
       obtain ⟨rfl, rfl⟩ := hr
       refine ⟨vc, ?_⟩
       clear hfx
       refine again_n (v + 1) [] hK mkWk
     ·replace hK := ite_f hK hb2
      refine AWP_exit ?_
      with_reducible refine thenC_exit (again_x ?_)
      refine cutX_here () [] (by have hq := hpost1 _ hK; exact hq) mkWk
    ·clear hK; rintro _ hK
     try dsimp only at hK
     refine exS ⟨94, [(2, .ints .i64 a2)], []⟩ rfl ?_
     with_reducible refine inBlockA_exit (thenC_normal ?_)
     refine AWP_seq ?_
     refine AWP_seq ?_
     refine AWP_rg tab_ok [2, 47, 48, 49] fun c st' hr => ?_
     simp only [go_sem] at hr
     obtain ⟨rfl, rfl⟩ := hr
     refine ⟨vc, ?_⟩
     with_reducible refine thenC_normal ?_
     refine AWP_block ?_
     refine AWP_loopX 2 (fun (v1 : Int) => ⟨94, [(2, .ints .i64 a2), (47, .ints .i64 a2), (48, .int .i64 (a2.length : Int)), (49, .int .i64 v1)], []⟩) (fun (_ : Unit) => ⟨94, [], []⟩) Sum.inl 0 [] hK mkWk ?_ ?_
     ·clear hK; rintro v1 b1 hK hpost2
      try dsimp only at hK
      change AWP _ _ _ _ ⟨94, [(2, .ints .i64 a2), (47, .ints .i64 a2), (48, .int .i64 (a2.length : Int)), (49, .int .i64 v1)], []⟩
      refine AWP_seq ?_
      refine AWP_rg tab_ok [2, 47, 48, 49, 50] fun c st' hr => ?_
      simp only [go_sem] at hr
      obtain ⟨rfl, rfl⟩ := hr
      refine ⟨vc, ?_⟩
      with_reducible refine thenC_normal ?_
      refine AWP_seq ?_
      refine AWP_condP (v1 < (a2.length : Int)) rfl bd (fun hb4 => ?_) (fun hb4 => ?_)
      ·replace hK := ite_t hK hb4
       refine AWP_skip ?_
       with_reducible refine thenC_normal ?_
       refine AWP_seq ?_
       refine AWP_block ?_
       refine AWP_seq ?_
       replace hK := chk_some hK
       obtain ⟨h4, hK⟩ := hK
       refine AWP_rg tab_ok [2, 12, 13, 47, 48, 49] fun c st' hr => ?_
       simp only [go_sem] at hr
       obtain ⟨rfl, rfl⟩ := hr
       refine ⟨vc, ?_⟩
       with_reducible refine thenC_normal ?_
       refine AWP_seq ?_
       replace hK := chk_some hK
       obtain ⟨h5, hK⟩ := hK
       refine AWP_rg tab_ok [2, 12, 13, 47, 48, 49, 56, 57, 58] fun c st' hr => ?_
       simp only [go_sem] at hr
       obtain ⟨rfl, rfl⟩ := hr
       refine ⟨vc, ?_⟩
       with_reducible refine thenC_normal ?_
       refine AWP_block ?_
       refine AWP_loopX 4 (fun (v2 : Int) => ⟨94, [(2, .ints .i64 a2), (12, .int .i64 v1), (13, .int .i64 (a2.getD v1.toNat 0)), (47, .ints .i64 a2), (48, .int .i64 (a2.length : Int)), (49, .int .i64 v1), (56, .ints .i64 (a2.take v1.toNat)), (57, .int .i64 ((a2.take v1.toNat).length : Int)), (58, .int .i64 v2)], []⟩) (fun (_ : Unit) => ⟨94, [(2, .ints .i64 a2), (47, .ints .i64 a2), (48, .int .i64 (a2.length : Int)), (49, .int .i64 v1)], []⟩) Sum.inl 0 [] hK mkWk ?_ ?_
       ·clear hK; rintro v2 b2 hK hpost3
        try dsimp only at hK
        change AWP _ _ _ _ ⟨94, [(2, .ints .i64 a2), (12, .int .i64 v1), (13, .int .i64 (a2.getD v1.toNat 0)), (47, .ints .i64 a2), (48, .int .i64 (a2.length : Int)), (49, .int .i64 v1), (56, .ints .i64 (a2.take v1.toNat)), (57, .int .i64 ((a2.take v1.toNat).length : Int)), (58, .int .i64 v2)], []⟩
        refine AWP_seq ?_
        refine AWP_rg tab_ok [2, 12, 13, 47, 48, 49, 56, 57, 58, 59] fun c st' hr => ?_
        simp only [go_sem] at hr
        obtain ⟨rfl, rfl⟩ := hr
        refine ⟨vc, ?_⟩
        with_reducible refine thenC_normal ?_
        refine AWP_seq ?_
        refine AWP_condP (v2 < ((a2.take v1.toNat).length : Int)) rfl bd (fun hb5 => ?_) (fun hb5 => ?_)
        ·replace hK := ite_t hK hb5
         refine AWP_skip ?_
         with_reducible refine thenC_normal ?_
         refine AWP_seq ?_
         refine AWP_block ?_
         refine AWP_seq ?_
         replace hK := chk_some hK
         obtain ⟨h6, hK⟩ := hK
         refine AWP_rg tab_ok [2, 12, 13, 15, 47, 48, 49, 56, 57, 58] fun c st' hr => ?_
         simp only [go_sem] at hr
         obtain ⟨rfl, rfl⟩ := hr
         refine ⟨vc, ?_⟩
         with_reducible refine thenC_normal ?_
         refine AWP_seq ?_
         refine AWP_rg tab_ok [2, 12, 13, 15, 16, 47, 48, 49, 56, 57, 58] fun c st' hr => ?_
         simp only [go_sem] at hr
         obtain ⟨rfl, rfl⟩ := hr
         refine ⟨vc, ?_⟩
         with_reducible refine thenC_normal ?_
         refine AWP_seq ?_
         refine AWP_seq ?_
         replace hK := chk_some hK
         obtain ⟨h7, hK⟩ := hK
         refine AWP_rg tab_ok [2, 12, 13, 15, 16, 47, 48, 49, 56, 57, 58, 64, 65, 66] fun c st' hr => ?_
         simp only [go_sem] at hr
         obtain ⟨rfl, rfl⟩ := hr
         refine ⟨vc, ?_⟩
         with_reducible refine thenC_normal ?_
         refine AWP_block ?_
         refine AWP_loopX 6 (fun ((v3, v4) : Bool × Int) => ⟨94, [(2, .ints .i64 a2), (12, .int .i64 v1), (13, .int .i64 (a2.getD v1.toNat 0)), (15, .int .i64 ((a2.take v1.toNat).getD v2.toNat 0)), (16, .bool v3), (47, .ints .i64 a2), (48, .int .i64 (a2.length : Int)), (49, .int .i64 v1), (56, .ints .i64 (a2.take v1.toNat)), (57, .int .i64 ((a2.take v1.toNat).length : Int)), (58, .int .i64 v2), (64, .ints .i64 (a2.take v1.toNat)), (65, .int .i64 ((a2.take v1.toNat).length : Int)), (66, .int .i64 v4)], []⟩) (fun (v5 : Bool) => ⟨94, [(2, .ints .i64 a2), (12, .int .i64 v1), (13, .int .i64 (a2.getD v1.toNat 0)), (16, .bool v5), (47, .ints .i64 a2), (48, .int .i64 (a2.length : Int)), (49, .int .i64 v1), (56, .ints .i64 (a2.take v1.toNat)), (57, .int .i64 ((a2.take v1.toNat).length : Int)), (58, .int .i64 v2)], []⟩) (fun v => v) (false, 0) [] hK mkWk ?_ ?_
         ·clear hK; rintro ⟨v3, v4⟩ b3 hK hpost4
          try dsimp only at hK
          change AWP _ _ _ _ ⟨94, [(2, .ints .i64 a2), (12, .int .i64 v1), (13, .int .i64 (a2.getD v1.toNat 0)), (15, .int .i64 ((a2.take v1.toNat).getD v2.toNat 0)), (16, .bool v3), (47, .ints .i64 a2), (48, .int .i64 (a2.length : Int)), (49, .int .i64 v1), (56, .ints .i64 (a2.take v1.toNat)), (57, .int .i64 ((a2.take v1.toNat).length : Int)), (58, .int .i64 v2), (64, .ints .i64 (a2.take v1.toNat)), (65, .int .i64 ((a2.take v1.toNat).length : Int)), (66, .int .i64 v4)], []⟩
          refine AWP_seq ?_
          refine AWP_rg tab_ok [2, 12, 13, 15, 16, 47, 48, 49, 56, 57, 58, 64, 65, 66, 67] fun c st' hr => ?_
          simp only [go_sem] at hr
          obtain ⟨rfl, rfl⟩ := hr
          refine ⟨vc, ?_⟩
          with_reducible refine thenC_normal ?_
          refine AWP_seq ?_
          refine AWP_condP (v4 < ((a2.take v1.toNat).length : Int)) rfl bd (fun hb6 => ?_) (fun hb6 => ?_)
          ·replace hK := ite_t hK hb6
           refine AWP_skip ?_
           with_reducible refine thenC_normal ?_
           refine AWP_seq ?_
           refine AWP_block ?_
           refine AWP_seq ?_
           replace hK := chk_some hK
           obtain ⟨h8, hK⟩ := hK
           refine AWP_rg tab_ok [2, 12, 13, 15, 16, 18, 47, 48, 49, 56, 57, 58, 64, 65, 66] fun c st' hr => ?_
           simp only [go_sem] at hr
           obtain ⟨rfl, rfl⟩ := hr
           refine ⟨vc, ?_⟩
           with_reducible refine thenC_normal ?_
           refine AWP_rl ?_
           refine AWPL_rn tab_ok 5 [2, 12, 13, 15, 18, 47, 48, 49, 56, 57, 58, 64, 65, 66, 71, 74] fun c st' hr => ?_
           simp only [go_sem] at hr
           obtain ⟨rfl, rfl⟩ := hr
           refine ⟨vc, ?_⟩
           replace hK := bind_s hK
           obtain ⟨y4, hy, hK⟩ := hK
           refine AWPL_callGP [2, 12, 13, 15, 18, 47, 48, 49, 56, 57, 58, 64, 65, 66, 71, 75] (¬ (v3 = true)) (fun hg => (W_complex_size (ite_t hy hg))) rfl rfl pcG rfl Try.call93 (.cons (.atom _ rfl) .nil) (fun hg => hscG hg) (of_decide_eq_true rfl) (by first | rfl | simp [nI, nI1, nI0]) (by first | rfl | simp [sh, sh1, sh0]) fun st' hr => ?_
           simp only [go_sem] at hr
           subst hr
           clear hy
           refine AWPL_rn tab_ok 1 [2, 12, 13, 15, 18, 47, 48, 49, 56, 57, 58, 64, 65, 66, 71, 75, 76] fun c st' hr => ?_
           simp only [go_sem] at hr
           obtain ⟨rfl, rfl⟩ := hr
           refine ⟨vc, ?_⟩
           replace hK := bind_s hK
           obtain ⟨y5, hy, hK⟩ := hK
           refine AWPL_callGP [2, 12, 13, 15, 18, 47, 48, 49, 56, 57, 58, 64, 65, 66, 71, 75, 77] (¬ (v3 = true)) (fun hg => (W_complex_size (ite_t hy hg))) rfl rfl pcG rfl Try.call93 (.cons (.atom _ rfl) .nil) (fun hg => hscG hg) (of_decide_eq_true rfl) (by first | rfl | simp [nI, nI1, nI0]) (by first | rfl | simp [sh, sh1, sh0]) fun st' hr => ?_
           simp only [go_sem] at hr
           subst hr
           clear hy
           replace hK := chk_some hK
           obtain ⟨h9, hK⟩ := hK
           refine AWPL_rn tab_ok 12 [2, 12, 13, 15, 16, 47, 48, 49, 56, 57, 58, 64, 65, 66] fun c st' hr => ?_
           simp only [go_sem] at hr
           obtain ⟨rfl, rfl⟩ := hr
           refine ⟨(by first | exact vc | (clear hK; cases e1 : v3 <;> simp [e1] at h9 ⊢ <;> omega)), ?_⟩
           refine AWPL_nil ?_
           with_reducible refine inBlockA_normal (thenC_normal ?_)
           refine AWP_facts (by simp) fun hfx => ?_
           simp only [factS, factV, fact1, fact0, factL0, lo, hi, maxLen, and_true, true_and] at hfx
           refine AWP_rg tab_ok [2, 12, 13, 15, 16, 47, 48, 49, 56, 57, 58, 64, 65, 66] fun c st' hr => ?_
           simp only [go_sem] at hr
           obtain ⟨rfl, rfl⟩ := hr
           refine ⟨vc, ?_⟩
           clear hfx
           refine again_n (decide ((v3 = true ∨ (y4 = y5 - 1 ∧ iandnot (iand (a2.getD v1.toNat 0) ((a2.take v1.toNat).getD v2.toNat 0)) ((a2.take v1.toNat).getD v4.toNat 0) = 0))), v4 + 1) [] hK mkWk
          ·replace hK := ite_f hK hb6
           refine AWP_exit ?_
           with_reducible refine thenC_exit (again_x ?_)
           refine cutX_here v3 [] (by have hq := hpost4 _ hK; exact hq) mkWk
         ·clear hK; rintro v5 hK
          try dsimp only at hK
          refine exS ⟨94, [(2, .ints .i64 a2), (12, .int .i64 v1), (13, .int .i64 (a2.getD v1.toNat 0)), (16, .bool v5), (47, .ints .i64 a2), (48, .int .i64 (a2.length : Int)), (49, .int .i64 v1), (56, .ints .i64 (a2.take v1.toNat)), (57, .int .i64 ((a2.take v1.toNat).length : Int)), (58, .int .i64 v2)], []⟩ rfl ?_
          with_reducible refine inBlockA_exit (thenC_normal ?_)
          refine AWP_seq ?_
          refine AWP_rg tab_ok [2, 12, 13, 47, 48, 49, 56, 57, 58, 91] fun c st' hr => ?_
          simp only [go_sem] at hr
          obtain ⟨rfl, rfl⟩ := hr
          refine ⟨vc, ?_⟩
          with_reducible refine thenC_normal ?_
          refine AWP_condP (¬ (v5 = true)) rfl bd (fun hb7 => ?_) (fun hb7 => ?_)
          ·replace hK := ite_t hK hb7
           refine AWP_seq ?_
           refine AWP_rg tab_ok [6, 7] fun c st' hr => ?_
           simp only [go_sem] at hr
           obtain ⟨rfl, rfl⟩ := hr
           refine ⟨vc, ?_⟩
           with_reducible refine thenC_normal ?_
           refine AWP_ret ?_
           with_reducible refine inBlockA_ret (thenC_ret (again_r (cutX_r (inBlockA_ret (inBlockA_ret (thenC_ret (again_r (cutX_r (inBlockA_ret (thenC_ret ?_))))))))))
           replace hK := hpost3 _ hK
           try dsimp only at hK
           replace hK := hpost2 _ hK
           try dsimp only at hK
           cases hK
           refine EndsRW [] (.inl rfl) (of_decide_eq_true rfl) (by simp) rfl (fun c x hr => ?_) trivial
           simp only [go_sem] at hr
           obtain ⟨rfl, rfl⟩ := hr
           exact ⟨rfl, endR⟩
          ·replace hK := ite_f hK hb7
           refine AWP_skip ?_
           with_reducible refine inBlockA_normal (thenC_normal ?_)
           refine AWP_facts (by simp) fun hfx => ?_
           simp only [factS, factV, fact1, fact0, factL0, lo, hi, maxLen, and_true, true_and] at hfx
           refine AWP_rg tab_ok [2, 12, 13, 47, 48, 49, 56, 57, 58] fun c st' hr => ?_
           simp only [go_sem] at hr
           obtain ⟨rfl, rfl⟩ := hr
           refine ⟨vc, ?_⟩
           clear hfx
           refine again_n (v2 + 1) [] hK mkWk
        ·replace hK := ite_f hK hb5
         refine AWP_exit ?_
         with_reducible refine thenC_exit (again_x ?_)
         refine cutX_here () [] (by have hq := hpost3 _ hK; exact hq) mkWk
       ·clear hK; rintro _ hK
        try dsimp only at hK
        refine exS ⟨94, [(2, .ints .i64 a2), (47, .ints .i64 a2), (48, .int .i64 (a2.length : Int)), (49, .int .i64 v1)], []⟩ rfl ?_
        with_reducible refine inBlockA_exit (inBlockA_normal (thenC_normal ?_))
        refine AWP_facts (by simp) fun hfx => ?_
        simp only [factS, factV, fact1, fact0, factL0, lo, hi, maxLen, and_true, true_and] at hfx
        refine AWP_rg tab_ok [2, 47, 48, 49] fun c st' hr => ?_
        simp only [go_sem] at hr
        obtain ⟨rfl, rfl⟩ := hr
        refine ⟨vc, ?_⟩
        clear hfx
        refine again_n (v1 + 1) [] hK mkWk
      ·replace hK := ite_f hK hb4
       refine AWP_exit ?_
       with_reducible refine thenC_exit (again_x ?_)
       refine cutX_here () [] (by have hq := hpost2 _ hK; exact hq) mkWk
     ·clear hK; rintro _ hK
      try dsimp only at hK
      refine exS ⟨94, [], []⟩ rfl ?_
      with_reducible refine inBlockA_exit (thenC_normal ?_)
      refine AWP_seq ?_
      refine AWP_rg tab_ok [6, 7] fun c st' hr => ?_
      simp only [go_sem] at hr
      obtain ⟨rfl, rfl⟩ := hr
      refine ⟨vc, ?_⟩
      with_reducible refine thenC_normal ?_
      refine AWP_ret ?_
      cases hK
      refine EndsRW [] (.inl rfl) (of_decide_eq_true rfl) (by simp) rfl (fun c x hr => ?_) trivial
      simp only [go_sem] at hr
      obtain ⟨rfl, rfl⟩ := hr
      exact ⟨rfl, endR⟩


theorem W_complex_faces_1 {f : Int} {c0 : Int} {r : Bool} (hK : complex_faces_1 f c0 = some r) : Pure Try.prog 227 [.int .i64 f, .intp .i64 c0] (.bool r) [] := by
  refine Pure_introF tab_ok (n := 9) (l := [.tmp 3]) Try.func227 rfl rfl rfl (by simp) fun hfact w0 => ?_
  simp only [factL1, fact1, fact0, factL0, lo, hi, maxLen, and_true] at hfact
  unfold complex_faces_1 at hK
  refine AWP_seq ?_
  refine AWP_rg tab_ok [0, 1] fun c st' hr => ?_
  simp only [go_sem] at hr
  obtain ⟨rfl, rfl⟩ := hr
  refine ⟨vc, ?_⟩
  with_reducible refine thenC_normal ?_
  refine AWP_seq ?_
  refine AWP_rg tab_ok [3] fun c st' hr => ?_
  simp only [go_sem] at hr
  obtain ⟨rfl, rfl⟩ := hr
  refine ⟨vc, ?_⟩
  with_reducible refine thenC_normal ?_
  refine AWP_ret ?_
  cases hK
  refine EndsRW [] (.inl rfl) (of_decide_eq_true rfl) (by simp) rfl (fun c x hr => ?_) trivial
  simp only [go_sem] at hr
  obtain ⟨rfl, rfl⟩ := hr
  exact ⟨rfl, endR⟩


theorem W_complex_faces {n : Int} {l : List Int} {r : List Int} (hK : complex_faces n l = some r) : Pure Try.prog 191 [.int .i64 n, .ints .i64 l] (.own 0 r.length) [(.ints 3 .i64 r)] := by
  refine Pure_introF tab_ok (n := 21) (l := [.tmp 4]) Try.func191 rfl rfl rfl (by simp) fun hfact w0 => ?_
  simp only [factL1, fact1, fact0, factL0, lo, hi, maxLen, and_true] at hfact
  unfold complex_faces at hK
  refine AWP_seq ?_
  refine AWP_rg tab_ok [0, 1] fun c st' hr => ?_
  simp only [go_sem] at hr
  obtain ⟨rfl, rfl⟩ := hr
  refine ⟨vc, ?_⟩
  with_reducible refine thenC_normal ?_
  refine AWP_seq ?_
  refine AWP_rg tab_ok [0, 1, 5] fun c st' hr => ?_
  simp only [go_sem] at hr
  obtain ⟨rfl, rfl⟩ := hr
  refine ⟨vc, ?_⟩
  with_reducible refine thenC_normal ?_
  refine AWP_own 5 (.ints 3 .i64 []) rfl rfl fun st' hr => ?_
  simp only [go_sem] at hr
  subst hr
  refine AWP_seq ?_
  refine AWP_seq ?_
  replace hK := chk_some hK
  obtain ⟨h, hK⟩ := hK
  refine AWP_rg tab_ok [1, 5, 8, 9] fun c st' hr => ?_
  simp only [go_sem] at hr
  obtain ⟨rfl, rfl⟩ := hr
  refine ⟨vc, ?_⟩
  with_reducible refine thenC_normal ?_
  refine AWP_block ?_
  refine AWP_loopX 0 (fun ((out0, v) : List Int × Int) => ⟨21, [(1, .ints .i64 l), (5, .own 0 out0.length), (8, .int .i64 (2 ^ n.toNat : Int)), (9, .int .i64 v)], [some (.ints 3 .i64 out0)]⟩) (fun (out01 : List Int) => ⟨21, [(5, .own 0 out01.length)], [some (.ints 3 .i64 out01)]⟩) (fun v => v) ([], 0) [0] hK mkWk ?_ ?_
  ·clear hK; rintro ⟨out0, v⟩ b hK hpost1
   try dsimp only at hK
   change AWP _ _ _ _ ⟨21, [(1, .ints .i64 l), (5, .own 0 out0.length), (8, .int .i64 (2 ^ n.toNat : Int)), (9, .int .i64 v)], [some (.ints 3 .i64 out0)]⟩
   refine AWP_seq ?_
   refine AWP_rg tab_ok [1, 5, 8, 9, 10] fun c st' hr => ?_
   simp only [go_sem] at hr
   obtain ⟨rfl, rfl⟩ := hr
   refine ⟨vc, ?_⟩
   with_reducible refine thenC_normal ?_
   refine AWP_seq ?_
   refine AWP_condP (v < (2 ^ n.toNat : Int)) rfl bd (fun hb => ?_) (fun hb => ?_)
   ·replace hK := ite_t hK hb
    refine AWP_skip ?_
    with_reducible refine thenC_normal ?_
    refine AWP_seq ?_
    refine AWP_block ?_
    refine AWP_seq ?_
    refine AWP_rg tab_ok [1, 5, 6, 8, 9] fun c st' hr => ?_
    simp only [go_sem] at hr
    obtain ⟨rfl, rfl⟩ := hr
    refine ⟨vc, ?_⟩
    with_reducible refine thenC_normal ?_
    refine AWP_seq ?_
    refine AWP_rl ?_
    refine AWPL_rn tab_ok 2 [1, 5, 6, 8, 9, 12, 13] fun c st' hr => ?_
    simp only [go_sem] at hr
    obtain ⟨rfl, rfl⟩ := hr
    refine ⟨vc, ?_⟩
    replace hK := bind_s hK
    obtain ⟨y, hy, hK⟩ := hK
    refine AWPL_callK [1, 5, 6, 8, 9, 14] (W_slices_ContainsFunc_int_int Try.call227 rfl (fun _ _ hh => by simpa using W_complex_faces_1 hh) hy) rfl rfl pcT rfl Try.call61 (.cons (.atom _ rfl) (.cons (.funcOf (.cons (.ptrI _ _ _ _ _ _ rfl rfl) .nil)) .nil)) (hscG trivial) (of_decide_eq_true rfl) (by first | rfl | simp [nI, nI1, nI0]) (by first | rfl | simp [nIB, nI0]) fun st' hr => ?_
    simp only [go_sem] at hr
    subst hr
    clear hy
    refine AWPL_nil ?_
    with_reducible refine thenC_normal ?_
    refine AWP_condP (y = true) rfl bd (fun hb1 => ?_) (fun hb1 => ?_)
    ·replace hK := ite_t hK hb1
     replace hK := chk_some hK
     obtain ⟨h1, hK⟩ := hK
     refine AWP_rg tab_ok [1, 5, 8, 9] fun c st' hr => ?_
     simp only [go_sem] at hr
     obtain ⟨rfl, rfl⟩ := hr
     refine ⟨vc, ?_⟩
     with_reducible refine inBlockA_normal (thenC_normal ?_)
     refine AWP_facts (by simp) fun hfx => ?_
     simp only [factS, factV, fact1, fact0, factL0, lo, hi, maxLen, and_true, true_and] at hfx
     refine AWP_rg tab_ok [1, 5, 8, 9] fun c st' hr => ?_
     simp only [go_sem] at hr
     obtain ⟨rfl, rfl⟩ := hr
     refine ⟨vc, ?_⟩
     clear hfx
     refine again_n (out0 ++ [v], v + 1) [3] hK mkWk
    ·replace hK := ite_f hK hb1
     refine AWP_skip ?_
     with_reducible refine inBlockA_normal (thenC_normal ?_)
     refine AWP_facts (by simp) fun hfx => ?_
     simp only [factS, factV, fact1, fact0, factL0, lo, hi, maxLen, and_true, true_and] at hfx
     refine AWP_rg tab_ok [1, 5, 8, 9] fun c st' hr => ?_
     simp only [go_sem] at hr
     obtain ⟨rfl, rfl⟩ := hr
     refine ⟨vc, ?_⟩
     clear hfx
     refine again_n (out0, v + 1) [0] hK mkWk
   ·replace hK := ite_f hK hb
    refine AWP_exit ?_
    with_reducible refine thenC_exit (again_x ?_)
    refine cutX_here out0 [0] (by have hq := hpost1 _ hK; exact hq) mkWk
  ·clear hK; rintro out01 hK
   try dsimp only at hK
   refine exS ⟨21, [(5, .own 0 out01.length)], [some (.ints 3 .i64 out01)]⟩ rfl ?_
   with_reducible refine inBlockA_exit (thenC_normal ?_)
   refine AWP_seq ?_
   refine AWP_rg tab_ok [4] fun c st' hr => ?_
   simp only [go_sem] at hr
   obtain ⟨rfl, rfl⟩ := hr
   refine ⟨vc, ?_⟩
   with_reducible refine thenC_normal ?_
   refine AWP_ret ?_
   cases hK
   refine EndsRW [0] (.inl rfl) (of_decide_eq_true rfl) (by simp) rfl (fun c x hr => ?_) endH
   simp only [go_sem] at hr
   obtain ⟨rfl, rfl⟩ := hr
   exact ⟨rfl, endR⟩


theorem W_complex_count {n : Int} {l : List Int} {r : List Int} (hK : complex_count n l = some r) : Pure Try.prog 142 [.int .i64 n, .ints .i64 l] (.own 0 r.length) [(.ints 3 .i64 r)] := by
  refine Pure_introF tab_ok (n := 42) (l := [.tmp 4]) Try.func142 rfl rfl rfl (by simp) fun hfact w0 => ?_
  simp only [factL1, fact1, fact0, factL0, lo, hi, maxLen, and_true] at hfact
  unfold complex_count at hK
  refine AWP_seq ?_
  refine AWP_rg tab_ok [0, 1] fun c st' hr => ?_
  simp only [go_sem] at hr
  obtain ⟨rfl, rfl⟩ := hr
  refine ⟨vc, ?_⟩
  with_reducible refine thenC_normal ?_
  refine AWP_seq ?_
  refine AWP_rg tab_ok [0, 1, 5] fun c st' hr => ?_
  simp only [go_sem] at hr
  obtain ⟨rfl, rfl⟩ := hr
  refine ⟨vc, ?_⟩
  with_reducible refine thenC_normal ?_
  refine AWP_seq ?_
  refine AWP_seq ?_
  refine AWP_rg tab_ok [0, 1, 5, 11, 12, 13] fun c st' hr => ?_
  simp only [go_sem] at hr
  obtain ⟨rfl, rfl⟩ := hr
  refine ⟨vc, ?_⟩
  with_reducible refine thenC_normal ?_
  refine AWP_block ?_
  refine AWP_loopX 0 (fun ((most, v) : Int × Int) => ⟨42, [(0, .int .i64 n), (1, .ints .i64 l), (5, .int .i64 most), (11, .ints .i64 l), (12, .int .i64 (l.length : Int)), (13, .int .i64 v)], []⟩) (fun (most1 : Int) => ⟨42, [(0, .int .i64 n), (1, .ints .i64 l), (5, .int .i64 most1)], []⟩) (fun v => v) (0, 0) [] hK mkWk ?_ ?_
  ·clear hK; rintro ⟨most, v⟩ b hK hpost1
   try dsimp only at hK
   change AWP _ _ _ _ ⟨42, [(0, .int .i64 n), (1, .ints .i64 l), (5, .int .i64 most), (11, .ints .i64 l), (12, .int .i64 (l.length : Int)), (13, .int .i64 v)], []⟩
   refine AWP_seq ?_
   refine AWP_rg tab_ok [0, 1, 5, 11, 12, 13, 14] fun c st' hr => ?_
   simp only [go_sem] at hr
   obtain ⟨rfl, rfl⟩ := hr
   refine ⟨vc, ?_⟩
   with_reducible refine thenC_normal ?_
   refine AWP_seq ?_
   refine AWP_condP (v < (l.length : Int)) rfl bd (fun hb => ?_) (fun hb => ?_)
   ·replace hK := ite_t hK hb
    refine AWP_skip ?_
    with_reducible refine thenC_normal ?_
    refine AWP_seq ?_
    refine AWP_block ?_
    refine AWP_seq ?_
    replace hK := chk_some hK
    obtain ⟨h, hK⟩ := hK
    refine AWP_rg tab_ok [0, 1, 5, 7, 11, 12, 13] fun c st' hr => ?_
    simp only [go_sem] at hr
    obtain ⟨rfl, rfl⟩ := hr
    refine ⟨vc, ?_⟩
    with_reducible refine thenC_normal ?_
    refine AWP_rl ?_
    refine AWPL_rn tab_ok 2 [0, 1, 11, 12, 13, 17, 18] fun c st' hr => ?_
    simp only [go_sem] at hr
    obtain ⟨rfl, rfl⟩ := hr
    refine ⟨vc, ?_⟩
    replace hK := bind_s hK
    obtain ⟨y, hy, hK⟩ := hK
    refine AWPL_callK [0, 1, 11, 12, 13, 17, 19] (W_complex_size hy) rfl rfl pcT rfl Try.call93 (.cons (.atom _ rfl) .nil) (hscG trivial) (of_decide_eq_true rfl) (by first | rfl | simp [nI, nI1, nI0]) (by first | rfl | simp [nIB, nI0]) fun st' hr => ?_
    simp only [go_sem] at hr
    subst hr
    clear hy
    refine AWPL_rn tab_ok 2 [0, 1, 5, 11, 12, 13] fun c st' hr => ?_
    simp only [go_sem] at hr
    obtain ⟨rfl, rfl⟩ := hr
    refine ⟨vc, ?_⟩
    refine AWPL_nil ?_
    with_reducible refine inBlockA_normal (thenC_normal ?_)
    refine AWP_facts (by simp) fun hfx => ?_
    simp only [factS, factV, fact1, fact0, factL0, lo, hi, maxLen, and_true, true_and] at hfx
    refine AWP_rg tab_ok [0, 1, 5, 11, 12, 13] fun c st' hr => ?_
    simp only [go_sem] at hr
    obtain ⟨rfl, rfl⟩ := hr
    refine ⟨vc, ?_⟩
    clear hfx
    refine again_n (max most y, v + 1) [] hK mkWk
   ·replace hK := ite_f hK hb
    refine AWP_exit ?_
    with_reducible refine thenC_exit (again_x ?_)
    refine cutX_here most [] (by have hq := hpost1 _ hK; exact hq) mkWk
  ·clear hK; rintro most1 hK
   try dsimp only at hK
   refine exS ⟨42, [(0, .int .i64 n), (1, .ints .i64 l), (5, .int .i64 most1)], []⟩ rfl ?_
   with_reducible refine inBlockA_exit (thenC_normal ?_)
   refine AWP_seq ?_
   replace hK := chk_some hK
   obtain ⟨h1, hK⟩ := hK
   refine AWP_rg tab_ok [0, 1, 8] fun c st' hr => ?_
   simp only [go_sem] at hr
   obtain ⟨rfl, rfl⟩ := hr
   refine ⟨vc, ?_⟩
   with_reducible refine thenC_normal ?_
   refine AWP_seq ?_
   refine AWP_seq ?_
   refine AWP_rl ?_
   refine AWPL_rn tab_ok 2 [8, 25, 26] fun c st' hr => ?_
   simp only [go_sem] at hr
   obtain ⟨rfl, rfl⟩ := hr
   refine ⟨vc, ?_⟩
   replace hK := bind_s hK
   obtain ⟨y1, hy, hK⟩ := hK
   refine AWPL_callK [8, 27] (W_complex_faces hy) rfl rfl pcT rfl Try.call191 (.cons (.atom _ rfl) (.cons (.atom _ rfl) .nil)) (hscG trivial) (of_decide_eq_true rfl) (by first | rfl | simp [nI, nI1, nI0]) (by first | rfl | simp [nIB, nI0]) fun st' hr => ?_
   simp only [go_sem] at hr
   subst hr
   clear hy
   refine AWPL_rn tab_ok 2 [8, 27, 28, 29] fun c st' hr => ?_
   simp only [go_sem] at hr
   obtain ⟨rfl, rfl⟩ := hr
   refine ⟨vc, ?_⟩
   refine AWPL_nil ?_
   with_reducible refine thenC_normal ?_
   refine AWP_block ?_
   refine AWP_loopX 2 (fun ((out0, v1) : List Int × Int) => ⟨42, [(8, .own 0 out0.length), (27, .own 1 y1.length), (28, .int .i64 (y1.length : Int)), (29, .int .i64 v1)], [some (.ints 3 .i64 out0), some (.ints 3 .i64 y1)]⟩) (fun (out01 : List Int) => ⟨42, [(8, .own 0 out01.length)], [some (.ints 3 .i64 out01)]⟩) (fun v => v) (List.replicate (most1 + 1).toNat 0, 0) [0, 1] hK mkWk ?_ ?_
   ·clear hK; rintro ⟨out0, v1⟩ b1 hK hpost2
    try dsimp only at hK
    change AWP _ _ _ _ ⟨42, [(8, .own 0 out0.length), (27, .own 1 y1.length), (28, .int .i64 (y1.length : Int)), (29, .int .i64 v1)], [some (.ints 3 .i64 out0), some (.ints 3 .i64 y1)]⟩
    refine AWP_seq ?_
    refine AWP_rg tab_ok [8, 27, 28, 29, 30] fun c st' hr => ?_
    simp only [go_sem] at hr
    obtain ⟨rfl, rfl⟩ := hr
    refine ⟨vc, ?_⟩
    with_reducible refine thenC_normal ?_
    refine AWP_seq ?_
    refine AWP_condP (v1 < (y1.length : Int)) rfl bd (fun hb1 => ?_) (fun hb1 => ?_)
    ·replace hK := ite_t hK hb1
     refine AWP_skip ?_
     with_reducible refine thenC_normal ?_
     refine AWP_seq ?_
     refine AWP_block ?_
     refine AWP_seq ?_
     replace hK := chk_some hK
     obtain ⟨h2, hK⟩ := hK
     refine AWP_rg tab_ok [8, 10, 27, 28, 29] fun c st' hr => ?_
     simp only [go_sem] at hr
     obtain ⟨rfl, rfl⟩ := hr
     refine ⟨vc, ?_⟩
     with_reducible refine thenC_normal ?_
     refine AWP_rl ?_
     refine AWPL_rn tab_ok 2 [8, 27, 28, 29, 33, 34] fun c st' hr => ?_
     simp only [go_sem] at hr
     obtain ⟨rfl, rfl⟩ := hr
     refine ⟨vc, ?_⟩
     replace hK := bind_s hK
     obtain ⟨y2, hy, hK⟩ := hK
     refine AWPL_callK [8, 27, 28, 29, 33, 35] (W_complex_size hy) rfl rfl pcT rfl Try.call93 (.cons (.atom _ rfl) .nil) (hscG trivial) (of_decide_eq_true rfl) (by first | rfl | simp [nI, nI1, nI0]) (by first | rfl | simp [nIB, nI0]) fun st' hr => ?_
     simp only [go_sem] at hr
     subst hr
     clear hy
     replace hK := chk_some hK
     obtain ⟨h3, hK⟩ := hK
     refine AWPL_rn tab_ok 5 [8, 27, 28, 29] fun c st' hr => ?_
     simp only [go_sem] at hr
     obtain ⟨rfl, rfl⟩ := hr
     refine ⟨vc, ?_⟩
     refine AWPL_nil ?_
     with_reducible refine inBlockA_normal (thenC_normal ?_)
     refine AWP_facts (by simp) fun hfx => ?_
     simp only [factS, factV, fact1, fact0, factL0, lo, hi, maxLen, and_true, true_and] at hfx
     refine AWP_rg tab_ok [8, 27, 28, 29] fun c st' hr => ?_
     simp only [go_sem] at hr
     obtain ⟨rfl, rfl⟩ := hr
     refine ⟨vc, ?_⟩
     clear hfx
     refine again_n (out0.set y2.toNat ((out0.getD y2.toNat 0) + 1), v1 + 1) [0, 1] hK mkWk
    ·replace hK := ite_f hK hb1
     refine AWP_exit ?_
     with_reducible refine thenC_exit (again_x ?_)
     refine cutX_here out0 [0] (by have hq := hpost2 _ hK; exact hq) mkWk
   ·clear hK; rintro out01 hK
    try dsimp only at hK
    refine exS ⟨42, [(8, .own 0 out01.length)], [some (.ints 3 .i64 out01)]⟩ rfl ?_
    with_reducible refine inBlockA_exit (thenC_normal ?_)
    refine AWP_seq ?_
    refine AWP_rg tab_ok [4] fun c st' hr => ?_
    simp only [go_sem] at hr
    obtain ⟨rfl, rfl⟩ := hr
    refine ⟨vc, ?_⟩
    with_reducible refine thenC_normal ?_
    refine AWP_ret ?_
    cases hK
    refine EndsRW [0] (.inl rfl) (of_decide_eq_true rfl) (by simp) rfl (fun c x hr => ?_) endH
    simp only [go_sem] at hr
    obtain ⟨rfl, rfl⟩ := hr
    exact ⟨rfl, endR⟩


theorem W_complex_F {n : Int} {l : List Int} {r : List Int × Int} (hK : complex_F n l = some r) : Pure Try.prog 94 [.int .i64 n, .ints .i64 l] (.tup [.own 0 r.1.length, .int .i64 r.2]) [(.ints 3 .i64 r.1)] := by
  refine Pure_introF tab_ok (n := 16) (l := [.tmp 4, .tmp 5]) Try.func94 rfl rfl rfl (by simp) fun hfact w0 => ?_
  simp only [factL1, fact1, fact0, factL0, lo, hi, maxLen, and_true] at hfact
  unfold complex_F at hK
  refine AWP_seq ?_
  refine AWP_rg tab_ok [0, 1] fun c st' hr => ?_
  simp only [go_sem] at hr
  obtain ⟨rfl, rfl⟩ := hr
  refine ⟨vc, ?_⟩
  with_reducible refine thenC_normal ?_
  refine AWP_seq ?_
  refine AWP_seq ?_
  refine AWP_rl ?_
  refine AWPL_rn tab_ok 2 [0, 1, 7, 8] fun c st' hr => ?_
  simp only [go_sem] at hr
  obtain ⟨rfl, rfl⟩ := hr
  refine ⟨vc, ?_⟩
  replace hK := bind_s hK
  obtain ⟨y, hy, hK⟩ := hK
  refine AWPL_callK [0, 1, 9] (W_complex_Check hy) rfl rfl pcT rfl Try.call90 (.cons (.atom _ rfl) (.cons (.atom _ rfl) .nil)) (hscG trivial) (of_decide_eq_true rfl) (by first | rfl | simp [nI, nI1, nI0]) (by first | rfl | simp [nIB, nI0]) fun st' hr => ?_
  simp only [go_sem] at hr
  subst hr
  clear hy
  refine AWPL_rn tab_ok 1 [0, 1, 6] fun c st' hr => ?_
  simp only [go_sem] at hr
  obtain ⟨rfl, rfl⟩ := hr
  refine ⟨vc, ?_⟩
  refine AWPL_nil ?_
  with_reducible refine thenC_normal ?_
  refine AWP_seq ?_
  refine AWP_rg tab_ok [0, 1, 6, 11] fun c st' hr => ?_
  simp only [go_sem] at hr
  obtain ⟨rfl, rfl⟩ := hr
  refine ⟨vc, ?_⟩
  with_reducible refine thenC_normal ?_
  refine AWP_condP (y ≠ 0) rfl bd (fun hb => ?_) (fun hb => ?_)
  ·replace hK := ite_t hK hb
   refine AWP_seq ?_
   refine AWP_rg tab_ok [4, 5] fun c st' hr => ?_
   simp only [go_sem] at hr
   obtain ⟨rfl, rfl⟩ := hr
   refine ⟨vc, ?_⟩
   with_reducible refine thenC_normal ?_
   refine AWP_own 4 (.ints 3 .i64 []) rfl rfl fun st' hr => ?_
   simp only [go_sem] at hr
   subst hr
   refine AWP_ret ?_
   with_reducible refine thenC_ret ?_
   cases hK
   refine EndsRW [0] (.inl rfl) (of_decide_eq_true rfl) (by simp) rfl (fun c x hr => ?_) endH
   simp only [go_sem] at hr
   obtain ⟨rfl, rfl⟩ := hr
   exact ⟨rfl, endR⟩
  ·replace hK := ite_f hK hb
   refine AWP_skip ?_
   with_reducible refine thenC_normal ?_
   refine AWP_seq ?_
   refine AWP_rl ?_
   refine AWPL_rn tab_ok 2 [13, 14] fun c st' hr => ?_
   simp only [go_sem] at hr
   obtain ⟨rfl, rfl⟩ := hr
   refine ⟨vc, ?_⟩
   replace hK := bind_s hK
   obtain ⟨y1, hy, hK⟩ := hK
   refine AWPL_callK [15] (W_complex_count hy) rfl rfl pcT rfl Try.call142 (.cons (.atom _ rfl) (.cons (.atom _ rfl) .nil)) (hscG trivial) (of_decide_eq_true rfl) (by first | rfl | simp [nI, nI1, nI0]) (by first | rfl | simp [nIB, nI0]) fun st' hr => ?_
   simp only [go_sem] at hr
   subst hr
   clear hy
   refine AWPL_rn tab_ok 2 [4, 5] fun c st' hr => ?_
   simp only [go_sem] at hr
   obtain ⟨rfl, rfl⟩ := hr
   refine ⟨vc, ?_⟩
   refine AWPL_nil ?_
   with_reducible refine thenC_normal ?_
   refine AWP_ret ?_
   cases hK
   refine EndsRW [0] (.inl rfl) (of_decide_eq_true rfl) (by simp) rfl (fun c x hr => ?_) endH
   simp only [go_sem] at hr
   obtain ⟨rfl, rfl⟩ := hr
   exact ⟨rfl, endR⟩


theorem W_complex_choose {n : Int} {k : Int} {r : Int} (hK : complex_choose n k = some r) : Pure Try.prog 95 [.int .i64 n, .int .i64 k] (.int .i64 r) [] := by
  refine Pure_introF tab_ok (n := 21) (l := [.tmp 4]) Try.func95 rfl rfl rfl (by simp) fun hfact w0 => ?_
  simp only [factL1, fact1, fact0, factL0, lo, hi, maxLen, and_true] at hfact
  unfold complex_choose at hK
  refine AWP_seq ?_
  refine AWP_rg tab_ok [0, 1] fun c st' hr => ?_
  simp only [go_sem] at hr
  obtain ⟨rfl, rfl⟩ := hr
  refine ⟨vc, ?_⟩
  with_reducible refine thenC_normal ?_
  refine AWP_seq ?_
  refine AWP_rg tab_ok [0, 1, 5] fun c st' hr => ?_
  simp only [go_sem] at hr
  obtain ⟨rfl, rfl⟩ := hr
  refine ⟨vc, ?_⟩
  with_reducible refine thenC_normal ?_
  refine AWP_seq ?_
  refine AWP_seq ?_
  refine AWP_rg tab_ok [0, 5, 7, 8] fun c st' hr => ?_
  simp only [go_sem] at hr
  obtain ⟨rfl, rfl⟩ := hr
  refine ⟨vc, ?_⟩
  with_reducible refine thenC_normal ?_
  refine AWP_block ?_
  refine AWP_loopX 0 (fun ((out0, v) : Int × Int) => ⟨21, [(0, .int .i64 n), (5, .int .i64 out0), (7, .int .i64 k), (8, .int .i64 v)], []⟩) (fun (out01 : Int) => ⟨21, [(5, .int .i64 out01)], []⟩) (fun v => v) (1, 0) [] hK mkWk ?_ ?_
  ·clear hK; rintro ⟨out0, v⟩ b hK hpost1
   try dsimp only at hK
   change AWP _ _ _ _ ⟨21, [(0, .int .i64 n), (5, .int .i64 out0), (7, .int .i64 k), (8, .int .i64 v)], []⟩
   refine AWP_seq ?_
   refine AWP_rg tab_ok [0, 5, 7, 8, 9] fun c st' hr => ?_
   simp only [go_sem] at hr
   obtain ⟨rfl, rfl⟩ := hr
   refine ⟨vc, ?_⟩
   with_reducible refine thenC_normal ?_
   refine AWP_seq ?_
   refine AWP_condP (v < k) rfl bd (fun hb => ?_) (fun hb => ?_)
   ·replace hK := ite_t hK hb
    refine AWP_skip ?_
    with_reducible refine thenC_normal ?_
    refine AWP_seq ?_
    refine AWP_block ?_
    refine AWP_seq ?_
    refine AWP_rg tab_ok [0, 5, 6, 7, 8] fun c st' hr => ?_
    simp only [go_sem] at hr
    obtain ⟨rfl, rfl⟩ := hr
    refine ⟨vc, ?_⟩
    with_reducible refine thenC_normal ?_
    refine AWP_facts (by simp) fun hfx => ?_
    simp only [factS, factV, fact1, fact0, factL0, lo, hi, maxLen, and_true, true_and] at hfx
    replace hK := chk_some hK
    obtain ⟨h, hK⟩ := hK
    refine AWP_rg tab_ok [0, 5, 7, 8] fun c st' hr => ?_
    simp only [go_sem] at hr
    obtain ⟨rfl, rfl⟩ := hr
    refine ⟨vc, ?_⟩
    clear hfx
    with_reducible refine inBlockA_normal (thenC_normal ?_)
    refine AWP_facts (by simp) fun hfx => ?_
    simp only [factS, factV, fact1, fact0, factL0, lo, hi, maxLen, and_true, true_and] at hfx
    refine AWP_rg tab_ok [0, 5, 7, 8] fun c st' hr => ?_
    simp only [go_sem] at hr
    obtain ⟨rfl, rfl⟩ := hr
    refine ⟨vc, ?_⟩
    clear hfx
    refine again_n (Int.tdiv (out0 * (n - v)) (v + 1), v + 1) [] hK mkWk
   ·replace hK := ite_f hK hb
    refine AWP_exit ?_
    with_reducible refine thenC_exit (again_x ?_)
    refine cutX_here out0 [] (by have hq := hpost1 _ hK; exact hq) mkWk
  ·clear hK; rintro out01 hK
   try dsimp only at hK
   refine exS ⟨21, [(5, .int .i64 out01)], []⟩ rfl ?_
   with_reducible refine inBlockA_exit (thenC_normal ?_)
   refine AWP_seq ?_
   refine AWP_rg tab_ok [4] fun c st' hr => ?_
   simp only [go_sem] at hr
   obtain ⟨rfl, rfl⟩ := hr
   refine ⟨vc, ?_⟩
   with_reducible refine thenC_normal ?_
   refine AWP_ret ?_
   cases hK
   refine EndsRW [] (.inl rfl) (of_decide_eq_true rfl) (by simp) rfl (fun c x hr => ?_) trivial
   simp only [go_sem] at hr
   obtain ⟨rfl, rfl⟩ := hr
   exact ⟨rfl, endR⟩


theorem W_complex_H {n : Int} {a1 : List Int} {r : List Int × Int} (hK : complex_H n a1 = some r) : Pure Try.prog 40 [.int .i64 n, .ints .i64 a1] (.tup [.own 0 r.1.length, .int .i64 r.2]) [(.ints 3 .i64 r.1)] := by
  refine Pure_introF tab_ok (n := 67) (l := [.tmp 4, .tmp 5]) Try.func40 rfl rfl rfl (by simp) fun hfact w0 => ?_
  simp only [factL1, fact1, fact0, factL0, lo, hi, maxLen, and_true] at hfact
  unfold complex_H at hK
  refine AWP_seq ?_
  refine AWP_rg tab_ok [0, 1] fun c st' hr => ?_
  simp only [go_sem] at hr
  obtain ⟨rfl, rfl⟩ := hr
  refine ⟨vc, ?_⟩
  with_reducible refine thenC_normal ?_
  refine AWP_seq ?_
  refine AWP_rl ?_
  refine AWPL_rn tab_ok 2 [14, 15] fun c st' hr => ?_
  simp only [go_sem] at hr
  obtain ⟨rfl, rfl⟩ := hr
  refine ⟨vc, ?_⟩
  replace hK := bind_s hK
  obtain ⟨y, hy, hK⟩ := hK
  refine AWPL_callK [16] (W_complex_F hy) rfl rfl pcT rfl Try.call94 (.cons (.atom _ rfl) (.cons (.atom _ rfl) .nil)) (hscG trivial) (of_decide_eq_true rfl) (by first | rfl | simp [nI, nI1, nI0]) (by first | rfl | simp [nIB, nI0]) fun st' hr => ?_
  simp only [go_sem] at hr
  subst hr
  clear hy
  refine AWPL_rn tab_ok 5 [6, 7] fun c st' hr => ?_
  simp only [go_sem] at hr
  obtain ⟨rfl, rfl⟩ := hr
  refine ⟨vc, ?_⟩
  refine AWPL_nil ?_
  with_reducible refine thenC_normal ?_
  refine AWP_seq ?_
  refine AWP_seq ?_
  refine AWP_rg tab_ok [6, 7, 20] fun c st' hr => ?_
  simp only [go_sem] at hr
  obtain ⟨rfl, rfl⟩ := hr
  refine ⟨vc, ?_⟩
  with_reducible refine thenC_normal ?_
  refine AWP_condP (y.2 ≠ 0) rfl bd (fun hb => ?_) (fun hb => ?_)
  ·replace hK := ite_t hK hb
   refine AWP_seq ?_
   refine AWP_rg tab_ok [4, 5] fun c st' hr => ?_
   simp only [go_sem] at hr
   obtain ⟨rfl, rfl⟩ := hr
   refine ⟨vc, ?_⟩
   with_reducible refine thenC_normal ?_
   refine AWP_own 4 (.ints 3 .i64 []) rfl rfl fun st' hr => ?_
   simp only [go_sem] at hr
   subst hr
   refine AWP_ret ?_
   with_reducible refine thenC_ret ?_
   cases hK
   refine EndsRW [1] (.inl rfl) (of_decide_eq_true rfl) (by simp) rfl (fun c x hr => ?_) endH
   simp only [go_sem] at hr
   obtain ⟨rfl, rfl⟩ := hr
   exact ⟨rfl, endR⟩
  ·replace hK := ite_f hK hb
   refine AWP_skip ?_
   with_reducible refine thenC_normal ?_
   refine AWP_seq ?_
   replace hK := chk_some hK
   obtain ⟨h, hK⟩ := hK
   refine AWP_rg tab_ok [6, 8] fun c st' hr => ?_
   simp only [go_sem] at hr
   obtain ⟨rfl, rfl⟩ := hr
   refine ⟨vc, ?_⟩
   with_reducible refine thenC_normal ?_
   refine AWP_seq ?_
   replace hK := chk_some hK
   obtain ⟨h1, hK⟩ := hK
   refine AWP_rg tab_ok [6, 8, 9] fun c st' hr => ?_
   simp only [go_sem] at hr
   obtain ⟨rfl, rfl⟩ := hr
   refine ⟨vc, ?_⟩
   with_reducible refine thenC_normal ?_
   refine AWP_seq ?_
   refine AWP_seq ?_
   refine AWP_rg tab_ok [6, 8, 9, 29, 30] fun c st' hr => ?_
   simp only [go_sem] at hr
   obtain ⟨rfl, rfl⟩ := hr
   refine ⟨vc, ?_⟩
   with_reducible refine thenC_normal ?_
   refine AWP_block ?_
   refine AWP_loopX 0 (fun ((v, v1) : List Int × Int) => ⟨67, [(6, .own 0 y.1.length), (8, .int .i64 ((y.1.length : Int) - 1)), (9, .own 1 v.length), (29, .int .i64 ((List.replicate (((y.1.length : Int) - 1) + 1).toNat 0).length : Int)), (30, .int .i64 v1)], [some (.ints 3 .i64 y.1), some (.ints 3 .i64 v)]⟩) (fun (v2 : List Int) => ⟨67, [(9, .own 0 v2.length)], [some (.ints 3 .i64 v2)]⟩) (fun v => v) (List.replicate (((y.1.length : Int) - 1) + 1).toNat 0, 0) [0, 1] hK mkWk ?_ ?_
   ·clear hK; rintro ⟨v, v1⟩ b hK hpost1
    try dsimp only at hK
    change AWP _ _ _ _ ⟨67, [(6, .own 0 y.1.length), (8, .int .i64 ((y.1.length : Int) - 1)), (9, .own 1 v.length), (29, .int .i64 ((List.replicate (((y.1.length : Int) - 1) + 1).toNat 0).length : Int)), (30, .int .i64 v1)], [some (.ints 3 .i64 y.1), some (.ints 3 .i64 v)]⟩
    refine AWP_seq ?_
    refine AWP_rg tab_ok [6, 8, 9, 29, 30, 31] fun c st' hr => ?_
    simp only [go_sem] at hr
    obtain ⟨rfl, rfl⟩ := hr
    refine ⟨vc, ?_⟩
    with_reducible refine thenC_normal ?_
    refine AWP_seq ?_
    refine AWP_condP (v1 < ((List.replicate (((y.1.length : Int) - 1) + 1).toNat 0).length : Int)) rfl bd (fun hb1 => ?_) (fun hb1 => ?_)
    ·replace hK := ite_t hK hb1
     refine AWP_skip ?_
     with_reducible refine thenC_normal ?_
     refine AWP_seq ?_
     refine AWP_block ?_
     refine AWP_seq ?_
     refine AWP_rg tab_ok [6, 8, 9, 10, 29, 30] fun c st' hr => ?_
     simp only [go_sem] at hr
     obtain ⟨rfl, rfl⟩ := hr
     refine ⟨vc, ?_⟩
     with_reducible refine thenC_normal ?_
     refine AWP_seq ?_
     refine AWP_facts (by simp) fun hfx => ?_
     simp only [factS, factV, fact1, fact0, factL0, lo, hi, maxLen, and_true, true_and] at hfx
     refine AWP_rg tab_ok [6, 8, 9, 10, 29, 30, 34, 35] fun c st' hr => ?_
     simp only [go_sem] at hr
     obtain ⟨rfl, rfl⟩ := hr
     refine ⟨vc, ?_⟩
     clear hfx
     with_reducible refine thenC_normal ?_
     refine AWP_block ?_
     refine AWP_loopX 2 (fun ((v3, v4) : List Int × Int) => ⟨67, [(6, .own 0 y.1.length), (8, .int .i64 ((y.1.length : Int) - 1)), (9, .own 1 v3.length), (10, .int .i64 v1), (29, .int .i64 ((List.replicate (((y.1.length : Int) - 1) + 1).toNat 0).length : Int)), (30, .int .i64 v1), (34, .int .i64 (v1 + 1)), (35, .int .i64 v4)], [some (.ints 3 .i64 y.1), some (.ints 3 .i64 v3)]⟩) (fun (v5 : List Int) => ⟨67, [(6, .own 0 y.1.length), (8, .int .i64 ((y.1.length : Int) - 1)), (9, .own 1 v5.length), (29, .int .i64 ((List.replicate (((y.1.length : Int) - 1) + 1).toNat 0).length : Int)), (30, .int .i64 v1)], [some (.ints 3 .i64 y.1), some (.ints 3 .i64 v5)]⟩) (fun v => v) (v, 0) [0, 1] hK mkWk ?_ ?_
     ·clear hK; rintro ⟨v3, v4⟩ b1 hK hpost2
      try dsimp only at hK
      change AWP _ _ _ _ ⟨67, [(6, .own 0 y.1.length), (8, .int .i64 ((y.1.length : Int) - 1)), (9, .own 1 v3.length), (10, .int .i64 v1), (29, .int .i64 ((List.replicate (((y.1.length : Int) - 1) + 1).toNat 0).length : Int)), (30, .int .i64 v1), (34, .int .i64 (v1 + 1)), (35, .int .i64 v4)], [some (.ints 3 .i64 y.1), some (.ints 3 .i64 v3)]⟩
      refine AWP_seq ?_
      refine AWP_rg tab_ok [6, 8, 9, 10, 29, 30, 34, 35, 36] fun c st' hr => ?_
      simp only [go_sem] at hr
      obtain ⟨rfl, rfl⟩ := hr
      refine ⟨vc, ?_⟩
      with_reducible refine thenC_normal ?_
      refine AWP_seq ?_
      refine AWP_condP (v4 < v1 + 1) rfl bd (fun hb2 => ?_) (fun hb2 => ?_)
      ·replace hK := ite_t hK hb2
       refine AWP_skip ?_
       with_reducible refine thenC_normal ?_
       refine AWP_seq ?_
       refine AWP_block ?_
       refine AWP_seq ?_
       refine AWP_rg tab_ok [6, 8, 9, 10, 11, 29, 30, 34, 35] fun c st' hr => ?_
       simp only [go_sem] at hr
       obtain ⟨rfl, rfl⟩ := hr
       refine ⟨vc, ?_⟩
       with_reducible refine thenC_normal ?_
       refine AWP_seq ?_
       refine AWP_drawQ mixed (by kernel_rfl) ?_
       replace hK := chk_some hK
       obtain ⟨h2, hK⟩ := hK
       refine AWQL_rn tab_ok 10 [6, 8, 9, 10, 11, 29, 30, 34, 35, 41, 44, 47] fun c st' hr => ?_
       simp only [go_sem] at hr
       obtain ⟨rfl, rfl⟩ := hr
       refine ⟨vc, ?_⟩
       replace hK := bind_s hK
       obtain ⟨y1, hy, hK⟩ := hK
       refine AWQL_callK [6, 8, 9, 10, 11, 29, 30, 34, 35, 41, 48] (W_complex_choose hy) rfl rfl pcT rfl Try.call95 (.cons (.atom _ rfl) (.cons (.atom _ rfl) .nil)) (hscG trivial) (of_decide_eq_true rfl) rfl fun st' hr => ?_
       simp only [go_sem] at hr
       subst hr
       clear hy
       replace hK := chk_some hK
       obtain ⟨h3, hK⟩ := hK
       refine AWQL_rn tab_ok 2 [6, 8, 9, 10, 11, 12, 29, 30, 34, 35] fun c st' hr => ?_
       simp only [go_sem] at hr
       obtain ⟨rfl, rfl⟩ := hr
       refine ⟨vc, ?_⟩
       refine AWQL_nil ?_
       with_reducible refine thenC_normal ?_
       refine AWP_seq ?_
       refine AWP_seq ?_
       replace hK := chk_some hK
       obtain ⟨h4, hK⟩ := hK
       refine AWP_rg tab_ok [6, 8, 9, 10, 12, 29, 30, 34, 35, 54] fun c st' hr => ?_
       simp only [go_sem] at hr
       obtain ⟨rfl, rfl⟩ := hr
       refine ⟨vc, ?_⟩
       with_reducible refine thenC_normal ?_
       refine AWP_condP (Int.tmod (v1 - v4) 2 = 1) rfl bd (fun hb3 => ?_) (fun hb3 => ?_)
       ·replace hK := ite_t hK hb3
        replace hK := chk_some hK
        obtain ⟨h5, hK⟩ := hK
        refine AWP_rg tab_ok [6, 8, 9, 10, 12, 29, 30, 34, 35] fun c st' hr => ?_
        simp only [go_sem] at hr
        obtain ⟨rfl, rfl⟩ := hr
        refine ⟨vc, ?_⟩
        with_reducible refine thenC_normal ?_
        replace hK := chk_some hK
        obtain ⟨h6, hK⟩ := hK
        refine AWP_rg tab_ok [6, 8, 9, 10, 29, 30, 34, 35] fun c st' hr => ?_
        simp only [go_sem] at hr
        obtain ⟨rfl, rfl⟩ := hr
        refine ⟨vc, ?_⟩
        with_reducible refine inBlockA_normal (thenC_normal ?_)
        refine AWP_facts (by simp) fun hfx => ?_
        simp only [factS, factV, fact1, fact0, factL0, lo, hi, maxLen, and_true, true_and] at hfx
        refine AWP_rg tab_ok [6, 8, 9, 10, 29, 30, 34, 35] fun c st' hr => ?_
        simp only [go_sem] at hr
        obtain ⟨rfl, rfl⟩ := hr
        refine ⟨vc, ?_⟩
        clear hfx
        refine again_n (v3.set v1.toNat ((v3.getD v1.toNat 0) + (-((y.1.getD v4.toNat 0) * y1))), v4 + 1) [0, 1] hK mkWk
       ·replace hK := ite_f hK hb3
        refine AWP_skip ?_
        with_reducible refine thenC_normal ?_
        replace hK := chk_some hK
        obtain ⟨h7, hK⟩ := hK
        refine AWP_rg tab_ok [6, 8, 9, 10, 29, 30, 34, 35] fun c st' hr => ?_
        simp only [go_sem] at hr
        obtain ⟨rfl, rfl⟩ := hr
        refine ⟨vc, ?_⟩
        with_reducible refine inBlockA_normal (thenC_normal ?_)
        refine AWP_facts (by simp) fun hfx => ?_
        simp only [factS, factV, fact1, fact0, factL0, lo, hi, maxLen, and_true, true_and] at hfx
        refine AWP_rg tab_ok [6, 8, 9, 10, 29, 30, 34, 35] fun c st' hr => ?_
        simp only [go_sem] at hr
        obtain ⟨rfl, rfl⟩ := hr
        refine ⟨vc, ?_⟩
        clear hfx
        refine again_n (v3.set v1.toNat ((v3.getD v1.toNat 0) + ((y.1.getD v4.toNat 0) * y1)), v4 + 1) [0, 1] hK mkWk
      ·replace hK := ite_f hK hb2
       refine AWP_exit ?_
       with_reducible refine thenC_exit (again_x ?_)
       refine cutX_here v3 [0, 1] (by have hq := hpost2 _ hK; exact hq) mkWk
     ·clear hK; rintro v5 hK
      try dsimp only at hK
      refine exS ⟨67, [(6, .own 0 y.1.length), (8, .int .i64 ((y.1.length : Int) - 1)), (9, .own 1 v5.length), (29, .int .i64 ((List.replicate (((y.1.length : Int) - 1) + 1).toNat 0).length : Int)), (30, .int .i64 v1)], [some (.ints 3 .i64 y.1), some (.ints 3 .i64 v5)]⟩ rfl ?_
      with_reducible refine inBlockA_exit (inBlockA_normal (thenC_normal ?_))
      refine AWP_facts (by simp) fun hfx => ?_
      simp only [factS, factV, fact1, fact0, factL0, lo, hi, maxLen, and_true, true_and] at hfx
      refine AWP_rg tab_ok [6, 8, 9, 29, 30] fun c st' hr => ?_
      simp only [go_sem] at hr
      obtain ⟨rfl, rfl⟩ := hr
      refine ⟨vc, ?_⟩
      clear hfx
      refine again_n (v5, v1 + 1) [0, 1] hK mkWk
    ·replace hK := ite_f hK hb1
     refine AWP_exit ?_
     with_reducible refine thenC_exit (again_x ?_)
     refine cutX_here v [1] (by have hq := hpost1 _ hK; exact hq) mkWk
   ·clear hK; rintro v2 hK
    try dsimp only at hK
    refine exS ⟨67, [(9, .own 0 v2.length)], [some (.ints 3 .i64 v2)]⟩ rfl ?_
    with_reducible refine inBlockA_exit (thenC_normal ?_)
    refine AWP_seq ?_
    refine AWP_rg tab_ok [4, 5] fun c st' hr => ?_
    simp only [go_sem] at hr
    obtain ⟨rfl, rfl⟩ := hr
    refine ⟨vc, ?_⟩
    with_reducible refine thenC_normal ?_
    refine AWP_ret ?_
    cases hK
    refine EndsRW [0] (.inl rfl) (of_decide_eq_true rfl) (by simp) rfl (fun c x hr => ?_) endH
    simp only [go_sem] at hr
    obtain ⟨rfl, rfl⟩ := hr
    exact ⟨rfl, endR⟩

end Go.SH
