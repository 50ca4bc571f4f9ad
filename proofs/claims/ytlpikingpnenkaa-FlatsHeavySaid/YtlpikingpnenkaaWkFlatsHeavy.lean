/-
  That the code computes these functions: rotakeep_FlatsHeavy. By a program of mine (shal.py). Conditions: none.
-/
import Derived.Test.YtlpikingpnenkaaAxT
import Derived.Test.YtlpikingpnenkaaAxR
import Derived.Test.YtlpikingpnenkaaSkFlatsHeavy
import Derived.Test.YtlpikingpnenkaaWpflats
import Derived.Test.YtlpikingpnenkaaWprotakeep
import Derived.Test.YtlpikingpnenkaaWprotalaw
set_option linter.unusedVariables false
set_option linter.unusedSimpArgs false
set_option maxRecDepth 8000
set_option maxHeartbeats 4000000
namespace Go.SH
open Go Go.AX Go.AX.Try Go.Proofs


theorem W_rotakeep_FlatsHeavy {m_0 : Int} {m_1 : List Int} {r : Bool} (hK : rotakeep_FlatsHeavy m_0 m_1 = some r) : Pure Try.prog 5 [.agg [.int .i64 m_0, .ints .i64 m_1]] (.bool r) [] := by
  refine Pure_introF tab_ok (n := 58) (l := [.tmp 2]) Try.func5 rfl rfl rfl (by simp) fun hfact w0 => ?_
  simp only [factL1, fact1, fact0, factL0, lo, hi, maxLen, and_true] at hfact
  unfold rotakeep_FlatsHeavy at hK
  refine AWP_seq ?_
  refine AWP_rg tab_ok [1] fun c st' hr => ?_
  simp only [go_sem] at hr
  obtain ⟨rfl, rfl⟩ := hr
  refine ⟨vc, ?_⟩
  with_reducible refine thenC_normal ?_
  refine AWP_seq ?_
  refine AWP_seq ?_
  refine AWP_rl ?_
  replace hK := bind_s hK
  obtain ⟨y, hy, hK⟩ := hK
  refine AWPL_callK [1, 11] (W_rotakeep_two hy) rfl rfl pcT rfl Try.call29 .nil (hscG trivial) (of_decide_eq_true rfl) (by first | rfl | simp [nI, nI1, nI0]) (by first | rfl | simp [nIB, nI0]) fun st' hr => ?_
  simp only [go_sem] at hr
  subst hr
  clear hy
  replace hK := bind_s hK
  obtain ⟨y1, hy, hK⟩ := hK
  refine AWPL_callK [1, 12] (W_flats_Levels hy) rfl rfl pcT rfl Try.call28 (.cons (.agg _ _ rfl (ArgsOk.get (.cons (.atom _ rfl) (.cons (.ownI _ _ _ _ _ y.2 rfl (by simp) (by first | (simp; done) | exact List.take_of_length_le (by simp))) .nil))).2) .nil) (hscG trivial) (of_decide_eq_true rfl) (by first | rfl | simp [nI, nI1, nI0]) (by first | rfl | simp [nIB, nI0]) fun st' hr => ?_
  simp only [go_sem] at hr
  subst hr
  clear hy
  refine AWPL_rn tab_ok 5 [1, 3, 4] fun c st' hr => ?_
  simp only [go_sem] at hr
  obtain ⟨rfl, rfl⟩ := hr
  refine ⟨vc, ?_⟩
  refine AWPL_nil ?_
  with_reducible refine thenC_normal ?_
  refine AWP_seq ?_
  refine AWP_rl ?_
  refine AWPL_rn tab_ok 4 [1, 17, 18] fun c st' hr => ?_
  simp only [go_sem] at hr
  obtain ⟨rfl, rfl⟩ := hr
  refine ⟨vc, ?_⟩
  by_cases hg : ¬ (y1.2 ≠ 0)
  ·replace hK := ite_t hK hg
   refine AWPL_stP [(1, .ptr 0 0 0), (17, .bool false), (18, .opt true (.own 2 y1.1.length))] (by first | (simp [SameS, AX.look, hg]; done) | (simp at hg ⊢; simp [SameS, AX.look, hg]; done) | (simp_all [SameS, AX.look]; done)) ?_
   refine AWPL_effT tab_ok [1, 17, 18, 19] pcT fun c st' hr => ?_
   simp only [go_sem] at hr
   obtain ⟨rfl, rfl⟩ := hr
   refine ⟨vc, ?_⟩
   replace hK := bind_s hK
   obtain ⟨y2, hy, hK⟩ := hK
   refine AWPL_callK [1, 17, 20] (W_rotalaw_Same_int hy) rfl rfl pcT rfl Try.call14 (.cons (.ownI _ _ _ _ _ y1.1 rfl (by simp) (by first | (simp; done) | exact List.take_of_length_le (by simp))) (.cons (.ownI _ _ _ _ _ [1, 4, 1] rfl (by simp) (by first | (simp; done) | exact List.take_of_length_le (by simp))) .nil)) (hscG trivial) (of_decide_eq_true rfl) (by first | rfl | simp [nI, nI1, nI0]) (by first | rfl | simp [nIB, nI0]) fun st' hr => ?_
   simp only [go_sem] at hr
   subst hr
   clear hy
   refine AWPL_rn tab_ok 2 [1, 22] fun c st' hr => ?_
   simp only [go_sem] at hr
   obtain ⟨rfl, rfl⟩ := hr
   refine ⟨vc, ?_⟩
   refine AWPL_nil ?_
   with_reducible refine thenC_normal ?_
   refine AWP_condP (¬ (y2 = true)) rfl bd (fun hb => ?_) (fun hb => ?_)
   ·replace hK := ite_t hK hb
    refine AWP_seq ?_
    refine AWP_rg tab_ok [2] fun c st' hr => ?_
    simp only [go_sem] at hr
    obtain ⟨rfl, rfl⟩ := hr
    refine ⟨vc, ?_⟩
    with_reducible refine thenC_normal ?_
    refine AWP_ret ?_
    with_reducible refine thenC_ret ?_
    cases hK
    refine EndsRW [] (.inl rfl) (of_decide_eq_true rfl) (by simp) rfl (fun c x hr => ?_) trivial
    simp only [go_sem] at hr
    obtain ⟨rfl, rfl⟩ := hr
    exact ⟨rfl, endR⟩
   ·replace hK := ite_f hK hb
    refine AWP_skip ?_
    with_reducible refine thenC_normal ?_
    refine AWP_seq ?_
    refine AWP_rl ?_
    refine AWPL_rn tab_ok 1 [24] fun c st' hr => ?_
    simp only [go_sem] at hr
    obtain ⟨rfl, rfl⟩ := hr
    refine ⟨vc, ?_⟩
    replace hK := bind_s hK
    obtain ⟨y3, hy, hK⟩ := hK
    refine AWPL_callK [25] (W_flats_Levels hy) rfl rfl pcT rfl Try.call28 (.cons (.agg _ _ rfl (ArgsOk.get (.cons (.atom _ rfl) (.cons (.atom _ rfl) .nil))).2) .nil) (hscG trivial) (of_decide_eq_true rfl) (by first | rfl | simp [nI, nI1, nI0]) (by first | rfl | simp [nIB, nI0]) fun st' hr => ?_
    simp only [go_sem] at hr
    subst hr
    clear hy
    refine AWPL_rn tab_ok 5 [5, 6] fun c st' hr => ?_
    simp only [go_sem] at hr
    obtain ⟨rfl, rfl⟩ := hr
    refine ⟨vc, ?_⟩
    refine AWPL_nil ?_
    with_reducible refine thenC_normal ?_
    refine AWP_seq ?_
    refine AWP_seq ?_
    refine AWP_rg tab_ok [5, 29] fun c st' hr => ?_
    simp only [go_sem] at hr
    obtain ⟨rfl, rfl⟩ := hr
    refine ⟨vc, ?_⟩
    with_reducible refine thenC_normal ?_
    refine AWP_condP (y3.2 ≠ 0) rfl bd (fun hb1 => ?_) (fun hb1 => ?_)
    ·replace hK := ite_t hK hb1
     refine AWP_seq ?_
     refine AWP_rg tab_ok [2] fun c st' hr => ?_
     simp only [go_sem] at hr
     obtain ⟨rfl, rfl⟩ := hr
     refine ⟨vc, ?_⟩
     with_reducible refine thenC_normal ?_
     refine AWP_ret ?_
     with_reducible refine thenC_ret ?_
     cases hK
     refine EndsRW [] (.inl rfl) (of_decide_eq_true rfl) (by simp) rfl (fun c x hr => ?_) trivial
     simp only [go_sem] at hr
     obtain ⟨rfl, rfl⟩ := hr
     exact ⟨rfl, endR⟩
    ·replace hK := ite_f hK hb1
     refine AWP_skip ?_
     with_reducible refine thenC_normal ?_
     refine AWP_seq ?_
     replace hK := chk_some hK
     obtain ⟨h, hK⟩ := hK
     refine AWP_rg tab_ok [5, 7] fun c st' hr => ?_
     simp only [go_sem] at hr
     obtain ⟨rfl, rfl⟩ := hr
     refine ⟨vc, ?_⟩
     with_reducible refine thenC_normal ?_
     refine AWP_seq ?_
     refine AWP_seq ?_
     refine AWP_rg tab_ok [5, 7, 8] fun c st' hr => ?_
     simp only [go_sem] at hr
     obtain ⟨rfl, rfl⟩ := hr
     refine ⟨vc, ?_⟩
     with_reducible refine thenC_normal ?_
     refine AWP_block ?_
     refine AWP_loopX 0 (fun (i : Int) => ⟨58, [(5, .own 0 y3.1.length), (7, .int .i64 ((y3.1.length : Int) - 1)), (8, .int .i64 i)], [some (.ints 3 .i64 y3.1)]⟩) (fun (_ : Unit) => ⟨58, [], []⟩) Sum.inl 0 [4] hK mkWk ?_ ?_
     ·clear hK; rintro i b hK hpost1
      try dsimp only at hK
      change AWP _ _ _ _ ⟨58, [(5, .own 0 y3.1.length), (7, .int .i64 ((y3.1.length : Int) - 1)), (8, .int .i64 i)], [some (.ints 3 .i64 y3.1)]⟩
      refine AWP_seq ?_
      refine AWP_seq ?_
      refine AWP_rg tab_ok [5, 7, 8, 38] fun c st' hr => ?_
      simp only [go_sem] at hr
      obtain ⟨rfl, rfl⟩ := hr
      refine ⟨vc, ?_⟩
      with_reducible refine thenC_normal ?_
      refine AWP_condP (i ≤ (y3.1.length : Int) - 1) rfl bd (fun hb2 => ?_) (fun hb2 => ?_)
      ·replace hK := ite_t hK hb2
       refine AWP_skip ?_
       with_reducible refine thenC_normal ?_
       refine AWP_seq ?_
       refine AWP_block ?_
       refine AWP_seq ?_
       refine AWP_rg tab_ok [5, 7, 8, 9] fun c st' hr => ?_
       simp only [go_sem] at hr
       obtain ⟨rfl, rfl⟩ := hr
       refine ⟨vc, ?_⟩
       with_reducible refine thenC_normal ?_
       refine AWP_block ?_
       refine AWP_loopX 2 (fun (j : Int) => ⟨58, [(5, .own 0 y3.1.length), (7, .int .i64 ((y3.1.length : Int) - 1)), (8, .int .i64 i), (9, .int .i64 j)], [some (.ints 3 .i64 y3.1)]⟩) (fun (_ : Unit) => ⟨58, [(5, .own 0 y3.1.length), (7, .int .i64 ((y3.1.length : Int) - 1)), (8, .int .i64 i)], [some (.ints 3 .i64 y3.1)]⟩) Sum.inl i [0] hK mkWk ?_ ?_
       ·clear hK; rintro j b1 hK hpost2
        try dsimp only at hK
        change AWP _ _ _ _ ⟨58, [(5, .own 0 y3.1.length), (7, .int .i64 ((y3.1.length : Int) - 1)), (8, .int .i64 i), (9, .int .i64 j)], [some (.ints 3 .i64 y3.1)]⟩
        refine AWP_seq ?_
        refine AWP_seq ?_
        replace hK := chk_some hK
        obtain ⟨h1, hK⟩ := hK
        refine AWP_rg tab_ok [5, 7, 8, 9, 46] fun c st' hr => ?_
        simp only [go_sem] at hr
        obtain ⟨rfl, rfl⟩ := hr
        refine ⟨vc, ?_⟩
        with_reducible refine thenC_normal ?_
        refine AWP_condP (j ≤ ((y3.1.length : Int) - 1) - i) rfl bd (fun hb3 => ?_) (fun hb3 => ?_)
        ·replace hK := ite_t hK hb3
         refine AWP_skip ?_
         with_reducible refine thenC_normal ?_
         refine AWP_seq ?_
         refine AWP_block ?_
         refine AWP_seq ?_
         replace hK := chk_some hK
         obtain ⟨h2, hK⟩ := hK
         refine AWP_dr tab_ok [5, 7, 8, 9, 57] mixed (by kernel_rfl) fun c st' hr => ?_
         simp only [go_sem] at hr
         obtain ⟨rfl, rfl⟩ := hr
         refine ⟨vc, ?_⟩
         with_reducible refine thenC_normal ?_
         refine AWP_condP (y3.1.getD j.toNat 0 < y3.1.getD i.toNat 0) rfl bd (fun hb4 => ?_) (fun hb4 => ?_)
         ·replace hK := ite_t hK hb4
          refine AWP_seq ?_
          refine AWP_rg tab_ok [2] fun c st' hr => ?_
          simp only [go_sem] at hr
          obtain ⟨rfl, rfl⟩ := hr
          refine ⟨vc, ?_⟩
          with_reducible refine thenC_normal ?_
          refine AWP_ret ?_
          with_reducible refine inBlockA_ret (thenC_ret (again_r (cutX_r (inBlockA_ret (inBlockA_ret (thenC_ret (again_r (cutX_r (inBlockA_ret (thenC_ret ?_))))))))))
          replace hK := hpost2 _ hK
          try dsimp only at hK
          replace hK := hpost1 _ hK
          try dsimp only at hK
          cases hK
          refine EndsRW [] (.inl rfl) (of_decide_eq_true rfl) (by simp) rfl (fun c x hr => ?_) trivial
          simp only [go_sem] at hr
          obtain ⟨rfl, rfl⟩ := hr
          exact ⟨rfl, endR⟩
         ·replace hK := ite_f hK hb4
          refine AWP_skip ?_
          with_reducible refine inBlockA_normal (thenC_normal ?_)
          replace hK := chk_some hK
          obtain ⟨h3, hK⟩ := hK
          refine AWP_rg tab_ok [5, 7, 8, 9] fun c st' hr => ?_
          simp only [go_sem] at hr
          obtain ⟨rfl, rfl⟩ := hr
          refine ⟨vc, ?_⟩
          refine again_n (j + 1) [0] hK mkWk
        ·replace hK := ite_f hK hb3
         refine AWP_exit ?_
         with_reducible refine thenC_exit (again_x ?_)
         refine cutX_here () [0] (by have hq := hpost2 _ hK; exact hq) mkWk
       ·clear hK; rintro _ hK
        try dsimp only at hK
        refine exS ⟨58, [(5, .own 0 y3.1.length), (7, .int .i64 ((y3.1.length : Int) - 1)), (8, .int .i64 i)], [some (.ints 3 .i64 y3.1)]⟩ rfl ?_
        with_reducible refine inBlockA_exit (inBlockA_normal (thenC_normal ?_))
        replace hK := chk_some hK
        obtain ⟨h4, hK⟩ := hK
        refine AWP_rg tab_ok [5, 7, 8] fun c st' hr => ?_
        simp only [go_sem] at hr
        obtain ⟨rfl, rfl⟩ := hr
        refine ⟨vc, ?_⟩
        refine again_n (i + 1) [0] hK mkWk
      ·replace hK := ite_f hK hb2
       refine AWP_exit ?_
       with_reducible refine thenC_exit (again_x ?_)
       refine cutX_here () [] (by have hq := hpost1 _ hK; exact hq) mkWk
     ·clear hK; rintro _ hK
      try dsimp only at hK
      refine exS ⟨58, [], []⟩ rfl ?_
      with_reducible refine inBlockA_exit (thenC_normal ?_)
      refine AWP_seq ?_
      refine AWP_rg tab_ok [2] fun c st' hr => ?_
      simp only [go_sem] at hr
      obtain ⟨rfl, rfl⟩ := hr
      refine ⟨vc, ?_⟩
      with_reducible refine thenC_normal ?_
      refine AWP_ret ?_
      cases hK
      refine EndsRW [] (.inl rfl) (of_decide_eq_true rfl) (by simp) rfl (fun c x hr => ?_) trivial
      simp only [go_sem] at hr
      obtain ⟨rfl, rfl⟩ := hr
      exact ⟨rfl, endR⟩
  ·replace hK := ite_f hK hg
   refine AWPL_stP [(1, .ptr 0 0 0), (17, .bool true), (18, .opt false (.own 2 y1.1.length))] (by first | (simp [SameS, AX.look, hg]; done) | (simp at hg ⊢; simp [SameS, AX.look, hg]; done) | (simp_all [SameS, AX.look]; done)) ?_
   refine AWPL_skipV [1, 17, 18, 19] (.junk) rfl pcF (of_decide_eq_true rfl) fun st' hr => ?_
   simp only [go_sem] at hr
   subst hr
   refine AWPL_skipV [1, 17, 20] (.bool false) rfl pcF (of_decide_eq_true rfl) fun st' hr => ?_
   simp only [go_sem] at hr
   subst hr
   refine AWPL_rn tab_ok 2 [1, 22] fun c st' hr => ?_
   simp only [go_sem] at hr
   obtain ⟨rfl, rfl⟩ := hr
   refine ⟨vc, ?_⟩
   refine AWPL_nil ?_
   with_reducible refine thenC_normal ?_
   refine AWP_condP (True) rfl bd (fun hb5 => ?_) (fun hb5 => ?_)
   rotate_left 1
   ·exact absurd trivial hb5
   clear hb5
   refine AWP_seq ?_
   refine AWP_rg tab_ok [2] fun c st' hr => ?_
   simp only [go_sem] at hr
   obtain ⟨rfl, rfl⟩ := hr
   refine ⟨vc, ?_⟩
   with_reducible refine thenC_normal ?_
   refine AWP_ret ?_
   with_reducible refine thenC_ret ?_
   cases hK
   refine EndsRW [] (.inl rfl) (of_decide_eq_true rfl) (by simp) rfl (fun c x hr => ?_) trivial
   simp only [go_sem] at hr
   obtain ⟨rfl, rfl⟩ := hr
   exact ⟨rfl, endR⟩

end Go.SH
