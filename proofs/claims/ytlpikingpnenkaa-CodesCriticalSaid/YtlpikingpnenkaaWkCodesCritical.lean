/-
  That the code computes these functions: rotakeep_CodesCritical. By a program of mine (shal.py). Conditions: none.
-/
import Derived.Test.YtlpikingpnenkaaAxT
import Derived.Test.YtlpikingpnenkaaAxR
import Derived.Test.YtlpikingpnenkaaSkCodesCritical
import Derived.Test.YtlpikingpnenkaaWpcodes
import Derived.Test.YtlpikingpnenkaaWpflats
import Derived.Test.YtlpikingpnenkaaWpkinds
import Derived.Test.YtlpikingpnenkaaWprotabig
import Derived.Test.YtlpikingpnenkaaWprotakeep
import Derived.Test.YtlpikingpnenkaaWpslices
set_option linter.unusedVariables false
set_option linter.unusedSimpArgs false
set_option maxRecDepth 8000
set_option maxHeartbeats 4000000
namespace Go.SH
open Go Go.AX Go.AX.Try Go.Proofs


theorem W_rotakeep_CodesCritical {x_0 : Int} {x_1 : Int} {x_2 : List (List Int)} {r : Bool} (hK : rotakeep_CodesCritical x_0 x_1 x_2 = some r) : Pure Try.prog 7 [.agg [.int .i64 x_0, .int .i64 x_1, .fn 1 x_2.length (fun i => [.ints .i64 (x_2.getD i [])])]] (.bool r) [] := by
  refine Pure_introF tab_ok (n := 80) (l := [.tmp 2]) Try.func7 rfl rfl rfl (by simp) fun hfact w0 => ?_
  simp only [factL1, fact1, fact0, factL0, lo, hi, maxLen, and_true] at hfact
  unfold rotakeep_CodesCritical at hK
  refine AWP_seq ?_
  refine AWP_rg tab_ok [1] fun c st' hr => ?_
  simp only [go_sem, idO_app, lenO_app, lenO_app2, lenO_eta] at hr
  obtain ⟨rfl, rfl⟩ := hr
  refine ⟨vc, ?_⟩
  with_reducible refine thenC_normal ?_
  refine AWP_seq ?_
  refine AWP_seq ?_
  refine AWP_rl ?_
  refine AWPL_rn tab_ok 1 [1, 14] fun c st' hr => ?_
  simp only [go_sem, idO_app, lenO_app, lenO_app2, lenO_eta] at hr
  obtain ⟨rfl, rfl⟩ := hr
  refine ⟨vc, ?_⟩
  refine AWPL_freeze 14 1 (y := .ints .i64 [1]) rfl (.one (.ownI _ _ _ _ _ [1] rfl (by simp) (by first | simp | exact List.take_of_length_le (by simp)))) fun st' hr => ?_
  simp only [go_sem, idO_app, lenO_app, lenO_app2, lenO_eta, List.set_cons_zero, List.set_cons_succ] at hr
  subst hr
  refine AWPL_rn tab_ok 2 [1, 16] fun c st' hr => ?_
  simp only [go_sem, idO_app, lenO_app, lenO_app2, lenO_eta] at hr
  obtain ⟨rfl, rfl⟩ := hr
  refine ⟨vc, ?_⟩
  replace hK := bind_s hK
  obtain ⟨y, hy, hK⟩ := hK
  refine AWPL_callK [1, 17] (W_codes_Critical hy) rfl rfl pcT rfl Try.call33 (.cons (.agg _ _ rfl (ArgsOk.get (.cons (.atom _ rfl) (.cons (.atom _ rfl) (.cons (.ownEnc (fun e => [.ints .i64 e]) [] [[1]] (by first | rfl | (simp; done)) (by first | rfl | (simp; done)) (fun _ => rfl) (fun _ => rfl)) .nil)))).2) .nil) (hscG trivial) (of_decide_eq_true rfl) (by first | rfl | simp [nI, nI1, nI0]) (by first | rfl | simp [nIB, nI0]) fun st' hr => ?_
  simp only [go_sem, idO_app, lenO_app, lenO_app2, lenO_eta] at hr
  subst hr
  clear hy
  refine AWPL_rn tab_ok 5 [1, 3, 4] fun c st' hr => ?_
  simp only [go_sem, idO_app, lenO_app, lenO_app2, lenO_eta] at hr
  obtain ⟨rfl, rfl⟩ := hr
  refine ⟨vc, ?_⟩
  refine AWPL_nil ?_
  with_reducible refine thenC_normal ?_
  refine AWP_seq ?_
  refine AWP_rg tab_ok [1, 25] fun c st' hr => ?_
  simp only [go_sem, idO_app, lenO_app, lenO_app2, lenO_eta] at hr
  obtain ⟨rfl, rfl⟩ := hr
  refine ⟨vc, ?_⟩
  with_reducible refine thenC_normal ?_
  refine AWP_condP ((y.2 ≠ 0 ∨ y.1 ≠ 1)) rfl bd (fun hb => ?_) (fun hb => ?_)
  ·replace hK := ite_t hK hb
   refine AWP_seq ?_
   refine AWP_rg tab_ok [2] fun c st' hr => ?_
   simp only [go_sem, idO_app, lenO_app, lenO_app2, lenO_eta] at hr
   obtain ⟨rfl, rfl⟩ := hr
   refine ⟨vc, ?_⟩
   with_reducible refine thenC_normal ?_
   refine AWP_ret ?_
   with_reducible refine thenC_ret ?_
   cases hK
   refine EndsRW [] (.inl rfl) (of_decide_eq_true rfl) (by simp) rfl (fun c x hr => ?_) trivial
   simp only [go_sem, idO_app, lenO_app, lenO_app2, lenO_eta] at hr
   obtain ⟨rfl, rfl⟩ := hr
   exact ⟨rfl, endR⟩
  ·replace hK := ite_f hK hb
   refine AWP_skip ?_
   with_reducible refine thenC_normal ?_
   refine AWP_seq ?_
   refine AWP_rl ?_
   refine AWPL_rn tab_ok 1 [1, 27] fun c st' hr => ?_
   simp only [go_sem, idO_app, lenO_app, lenO_app2, lenO_eta] at hr
   obtain ⟨rfl, rfl⟩ := hr
   refine ⟨vc, ?_⟩
   replace hK := bind_s hK
   obtain ⟨y1, hy, hK⟩ := hK
   refine AWPL_callK [1, 28] (W_codes_Critical hy) rfl rfl pcT rfl Try.call33 (.cons (.agg _ _ rfl (ArgsOk.get (.cons (.atom _ rfl) (.cons (.atom _ rfl) (.cons (.atom _ rfl) .nil)))).2) .nil) (hscG trivial) (of_decide_eq_true rfl) (by first | rfl | simp [nI, nI1, nI0]) (by first | rfl | simp [nIB, nI0]) fun st' hr => ?_
   simp only [go_sem, idO_app, lenO_app, lenO_app2, lenO_eta] at hr
   subst hr
   clear hy
   refine AWPL_rn tab_ok 5 [1, 5, 6] fun c st' hr => ?_
   simp only [go_sem, idO_app, lenO_app, lenO_app2, lenO_eta] at hr
   obtain ⟨rfl, rfl⟩ := hr
   refine ⟨vc, ?_⟩
   refine AWPL_nil ?_
   with_reducible refine thenC_normal ?_
   refine AWP_seq ?_
   refine AWP_rl ?_
   refine AWPL_rn tab_ok 1 [1, 5, 6, 32] fun c st' hr => ?_
   simp only [go_sem, idO_app, lenO_app, lenO_app2, lenO_eta] at hr
   obtain ⟨rfl, rfl⟩ := hr
   refine ⟨vc, ?_⟩
   replace hK := bind_s hK
   obtain ⟨y2, hy, hK⟩ := hK
   refine AWPL_callK [1, 5, 6, 33] (W_kinds_Linear hy) rfl rfl pcT rfl Try.call34 (.cons (.agg _ _ rfl (ArgsOk.get (.cons (.atom _ rfl) (.cons (.atom _ rfl) (.cons (.atom _ rfl) .nil)))).2) .nil) (hscG trivial) (of_decide_eq_true rfl) (by first | rfl | simp [nI, nI1, nI0]) (by first | rfl | simp [nIB, nI0]) fun st' hr => ?_
   simp only [go_sem, idO_app, lenO_app, lenO_app2, lenO_eta] at hr
   subst hr
   clear hy
   refine AWPL_rn tab_ok 6 [1, 5, 6, 7, 8] fun c st' hr => ?_
   simp only [go_sem, idO_app, lenO_app, lenO_app2, lenO_eta] at hr
   obtain ⟨rfl, rfl⟩ := hr
   refine ⟨vc, ?_⟩
   refine AWPL_nil ?_
   with_reducible refine thenC_normal ?_
   refine AWP_seq ?_
   refine AWP_seq ?_
   refine AWP_rg tab_ok [1, 5, 6, 7, 41] fun c st' hr => ?_
   simp only [go_sem, idO_app, lenO_app, lenO_app2, lenO_eta] at hr
   obtain ⟨rfl, rfl⟩ := hr
   refine ⟨vc, ?_⟩
   with_reducible refine thenC_normal ?_
   refine AWP_condP ((y2.2.2 ≠ 0 ∨ y1.2 = 2)) rfl bd (fun hb1 => ?_) (fun hb1 => ?_)
   ·replace hK := ite_t hK hb1
    refine AWP_seq ?_
    refine AWP_rg tab_ok [2] fun c st' hr => ?_
    simp only [go_sem, idO_app, lenO_app, lenO_app2, lenO_eta] at hr
    obtain ⟨rfl, rfl⟩ := hr
    refine ⟨vc, ?_⟩
    with_reducible refine thenC_normal ?_
    refine AWP_ret ?_
    with_reducible refine thenC_ret ?_
    cases hK
    refine EndsRW [] (.inl rfl) (of_decide_eq_true rfl) (by simp) rfl (fun c x hr => ?_) trivial
    simp only [go_sem, idO_app, lenO_app, lenO_app2, lenO_eta] at hr
    obtain ⟨rfl, rfl⟩ := hr
    exact ⟨rfl, endR⟩
   ·replace hK := ite_f hK hb1
    refine AWP_skip ?_
    with_reducible refine thenC_normal ?_
    refine AWP_seq ?_
    refine AWP_rl ?_
    refine AWPL_rn tab_ok 1 [1, 5, 6, 45] fun c st' hr => ?_
    simp only [go_sem, idO_app, lenO_app, lenO_app2, lenO_eta] at hr
    obtain ⟨rfl, rfl⟩ := hr
    refine ⟨vc, ?_⟩
    replace hK := bind_s hK
    obtain ⟨y3, hy, hK⟩ := hK
    refine AWPL_callK [1, 5, 6, 46] (W_flats_Characteristic hy) rfl rfl pcT rfl Try.call31 (.cons (.agg _ _ rfl (ArgsOk.get (.cons (.atom _ rfl) (.cons (.ownI _ _ _ _ _ y2.2.1 rfl (by simp) (by first | simp | exact List.take_of_length_le (by simp))) .nil))).2) .nil) (hscG trivial) (of_decide_eq_true rfl) (by first | rfl | simp [nI, nI1, nI0]) (by first | rfl | simp [nIB, nI0]) fun st' hr => ?_
    simp only [go_sem, idO_app, lenO_app, lenO_app2, lenO_eta] at hr
    subst hr
    clear hy
    refine AWPL_rn tab_ok 5 [1, 5, 6, 9, 10] fun c st' hr => ?_
    simp only [go_sem, idO_app, lenO_app, lenO_app2, lenO_eta] at hr
    obtain ⟨rfl, rfl⟩ := hr
    refine ⟨vc, ?_⟩
    refine AWPL_nil ?_
    with_reducible refine thenC_normal ?_
    refine AWP_seq ?_
    refine AWP_seq ?_
    refine AWP_rg tab_ok [1, 5, 6, 9, 50] fun c st' hr => ?_
    simp only [go_sem, idO_app, lenO_app, lenO_app2, lenO_eta] at hr
    obtain ⟨rfl, rfl⟩ := hr
    refine ⟨vc, ?_⟩
    with_reducible refine thenC_normal ?_
    refine AWP_condP (y3.2 ≠ 0) rfl bd (fun hb2 => ?_) (fun hb2 => ?_)
    ·replace hK := ite_t hK hb2
     refine AWP_seq ?_
     refine AWP_rg tab_ok [2] fun c st' hr => ?_
     simp only [go_sem, idO_app, lenO_app, lenO_app2, lenO_eta] at hr
     obtain ⟨rfl, rfl⟩ := hr
     refine ⟨vc, ?_⟩
     with_reducible refine thenC_normal ?_
     refine AWP_ret ?_
     with_reducible refine thenC_ret ?_
     cases hK
     refine EndsRW [] (.inl rfl) (of_decide_eq_true rfl) (by simp) rfl (fun c x hr => ?_) trivial
     simp only [go_sem, idO_app, lenO_app, lenO_app2, lenO_eta] at hr
     obtain ⟨rfl, rfl⟩ := hr
     exact ⟨rfl, endR⟩
    ·replace hK := ite_f hK hb2
     refine AWP_skip ?_
     with_reducible refine thenC_normal ?_
     refine AWP_seq ?_
     refine AWP_seq ?_
     refine AWP_rg tab_ok [1, 5, 6, 9, 52] fun c st' hr => ?_
     simp only [go_sem, idO_app, lenO_app, lenO_app2, lenO_eta] at hr
     obtain ⟨rfl, rfl⟩ := hr
     refine ⟨vc, ?_⟩
     with_reducible refine thenC_normal ?_
     refine AWP_condP (y1.2 = 5) rfl bd (fun hb3 => ?_) (fun hb3 => ?_)
     ·replace hK := ite_t hK hb3
      refine AWP_seq ?_
      refine AWP_rl ?_
      refine AWPL_rn tab_ok 1 [5, 53] fun c st' hr => ?_
      simp only [go_sem, idO_app, lenO_app, lenO_app2, lenO_eta] at hr
      obtain ⟨rfl, rfl⟩ := hr
      refine ⟨vc, ?_⟩
      replace hK := bind_s hK
      obtain ⟨y4, hy, hK⟩ := hK
      refine AWPL_callK [5, 54] (W_slices_ContainsFunc_int64_int64 Try.call36 rfl (fun _ _ hh => by simpa using W_rotakeep_CodesCritical_1 hh) hy) rfl rfl pcT rfl Try.call35 (.cons (.ownI _ _ _ _ _ y3.1 rfl (by simp) (by first | simp | exact List.take_of_length_le (by simp))) (.cons (.funcOf .nil) .nil)) (hscG trivial) (of_decide_eq_true rfl) (by first | rfl | simp [nI, nI1, nI0]) (by first | rfl | simp [nIB, nI0]) fun st' hr => ?_
      simp only [go_sem, idO_app, lenO_app, lenO_app2, lenO_eta] at hr
      subst hr
      clear hy
      refine AWPL_rn tab_ok 6 [2] fun c st' hr => ?_
      simp only [go_sem, idO_app, lenO_app, lenO_app2, lenO_eta] at hr
      obtain ⟨rfl, rfl⟩ := hr
      refine ⟨vc, ?_⟩
      refine AWPL_nil ?_
      with_reducible refine thenC_normal ?_
      refine AWP_ret ?_
      with_reducible refine thenC_ret ?_
      cases hK
      refine EndsRW [] (.inl rfl) (of_decide_eq_true rfl) (by simp) rfl (fun c x hr => ?_) trivial
      simp only [go_sem, idO_app, lenO_app, lenO_app2, lenO_eta] at hr
      obtain ⟨rfl, rfl⟩ := hr
      exact ⟨rfl, endR⟩
     ·replace hK := ite_f hK hb3
      refine AWP_skip ?_
      with_reducible refine thenC_normal ?_
      refine AWP_seq ?_
      refine AWP_rg tab_ok [1, 5, 6, 9, 11] fun c st' hr => ?_
      simp only [go_sem, idO_app, lenO_app, lenO_app2, lenO_eta] at hr
      obtain ⟨rfl, rfl⟩ := hr
      refine ⟨vc, ?_⟩
      with_reducible refine thenC_normal ?_
      refine AWP_seq ?_
      refine AWP_seq ?_
      refine AWP_rg tab_ok [1, 5, 6, 9, 11, 12] fun c st' hr => ?_
      simp only [go_sem, idO_app, lenO_app, lenO_app2, lenO_eta] at hr
      obtain ⟨rfl, rfl⟩ := hr
      refine ⟨vc, ?_⟩
      with_reducible refine thenC_normal ?_
      refine AWP_block ?_
      refine AWP_loopX 0 (fun ((v, v1) : Int × Int) => ⟨80, [(1, .ptr 0 0 0), (5, .int .i64 y1.1), (6, .int .i64 y1.2), (9, .own 1 y3.1.length), (11, .int .i64 v), (12, .int .i64 v1)], [some (.gen 65 3 [[.int .i64 x_0, .int .i64 x_1, .fn 1 x_2.length (fun i => [.ints .i64 (x_2.getD i [])])]]), some (.ints 2 .i64 y3.1)]⟩) (fun (_ : Unit) => ⟨80, [(6, .int .i64 y1.2)], []⟩) Sum.inl (1, 0) [0, 5] hK mkWkR ?_ ?_
      ·clear hK; rintro ⟨v, v1⟩ b hK hpost1
       try dsimp only at hK
       change AWP _ _ _ _ ⟨80, [(1, .ptr 0 0 0), (5, .int .i64 y1.1), (6, .int .i64 y1.2), (9, .own 1 y3.1.length), (11, .int .i64 v), (12, .int .i64 v1)], [some (.gen 65 3 [[.int .i64 x_0, .int .i64 x_1, .fn 1 x_2.length (fun i => [.ints .i64 (x_2.getD i [])])]]), some (.ints 2 .i64 y3.1)]⟩
       refine AWP_seq ?_
       refine AWP_seq ?_
       refine AWP_rg tab_ok [1, 5, 6, 9, 11, 12, 62] fun c st' hr => ?_
       simp only [go_sem, idO_app, lenO_app, lenO_app2, lenO_eta] at hr
       obtain ⟨rfl, rfl⟩ := hr
       refine ⟨vc, ?_⟩
       with_reducible refine thenC_normal ?_
       refine AWP_condP (v1 ≤ y1.1) rfl bd (fun hb4 => ?_) (fun hb4 => ?_)
       ·replace hK := ite_t hK hb4
        refine AWP_skip ?_
        with_reducible refine thenC_normal ?_
        refine AWP_seq ?_
        refine AWP_block ?_
        refine AWP_seq ?_
        refine AWP_seq ?_
        refine AWP_rl ?_
        refine AWPL_rn tab_ok 2 [1, 5, 6, 9, 11, 12, 65, 66] fun c st' hr => ?_
        simp only [go_sem, idO_app, lenO_app, lenO_app2, lenO_eta] at hr
        obtain ⟨rfl, rfl⟩ := hr
        refine ⟨vc, ?_⟩
        replace hK := bind_s hK
        obtain ⟨y5, hy, hK⟩ := hK
        refine AWPL_callK [1, 5, 6, 9, 11, 12, 67] (W_rotakeep_value hy) rfl rfl pcT rfl Try.call37 (.cons (.ownI _ _ _ _ _ y3.1 rfl (by simp) (by first | simp | exact List.take_of_length_le (by simp))) (.cons (.atom _ rfl) .nil)) (hscG trivial) (of_decide_eq_true rfl) (by first | rfl | simp [nI, nI1, nI0]) (by first | rfl | simp [nIB, nI0]) fun st' hr => ?_
        simp only [go_sem, idO_app, lenO_app, lenO_app2, lenO_eta] at hr
        subst hr
        clear hy
        replace hK := bind_s hK
        obtain ⟨y6, hy, hK⟩ := hK
        refine AWPL_callK [1, 5, 6, 9, 11, 12, 68] (W_rotabig_Int_Sign hy) rfl rfl pcT rfl Try.call38 (.cons (.ptrM _ _ _ _ _ _ _ rfl rfl rfl (ArgsOk.get (.cons (.atom _ rfl) (.cons (.ownI _ _ _ _ _ y5.2 rfl (by simp) (by first | simp | exact List.take_of_length_le (by simp))) .nil))).2) .nil) (hscG trivial) (of_decide_eq_true rfl) (by first | rfl | simp [nI, nI1, nI0]) (by first | rfl | simp [nIB, nI0]) fun st' hr => ?_
        simp only [go_sem, idO_app, lenO_app, lenO_app2, lenO_eta] at hr
        subst hr
        clear hy
        refine AWPL_rn tab_ok 5 [1, 5, 6, 9, 11, 12, 73] fun c st' hr => ?_
        simp only [go_sem, idO_app, lenO_app, lenO_app2, lenO_eta] at hr
        obtain ⟨rfl, rfl⟩ := hr
        refine ⟨vc, ?_⟩
        refine AWPL_nil ?_
        with_reducible refine thenC_normal ?_
        refine AWP_condP (¬ (y6 ≠ 0 ↔ v1 = y1.1)) rfl bd (fun hb5 => ?_) (fun hb5 => ?_)
        ·replace hK := ite_t hK hb5
         refine AWP_seq ?_
         refine AWP_rg tab_ok [2] fun c st' hr => ?_
         simp only [go_sem, idO_app, lenO_app, lenO_app2, lenO_eta] at hr
         obtain ⟨rfl, rfl⟩ := hr
         refine ⟨vc, ?_⟩
         with_reducible refine thenC_normal ?_
         refine AWP_ret ?_
         with_reducible refine thenC_ret (inBlockA_ret (thenC_ret (again_r (cutX_r (inBlockA_ret (thenC_ret ?_))))))
         replace hK := hpost1 _ hK
         try dsimp only at hK
         cases hK
         refine EndsRW [] (.inl rfl) (of_decide_eq_true rfl) (by simp) rfl (fun c x hr => ?_) trivial
         simp only [go_sem, idO_app, lenO_app, lenO_app2, lenO_eta] at hr
         obtain ⟨rfl, rfl⟩ := hr
         exact ⟨rfl, endR⟩
        ·replace hK := ite_f hK hb5
         refine AWP_skip ?_
         with_reducible refine thenC_normal ?_
         replace hK := chk_some hK
         obtain ⟨h, hK⟩ := hK
         refine AWP_rg tab_ok [1, 5, 6, 9, 11, 12] fun c st' hr => ?_
         simp only [go_sem, idO_app, lenO_app, lenO_app2, lenO_eta] at hr
         obtain ⟨rfl, rfl⟩ := hr
         refine ⟨vc, ?_⟩
         with_reducible refine inBlockA_normal (thenC_normal ?_)
         replace hK := chk_some hK
         obtain ⟨h1, hK⟩ := hK
         refine AWP_rg tab_ok [1, 5, 6, 9, 11, 12] fun c st' hr => ?_
         simp only [go_sem, idO_app, lenO_app, lenO_app2, lenO_eta] at hr
         obtain ⟨rfl, rfl⟩ := hr
         refine ⟨vc, ?_⟩
         refine again_n (v * x_0, v1 + 1) [0, 1] hK mkWkR
       ·replace hK := ite_f hK hb4
        refine AWP_exit ?_
        with_reducible refine thenC_exit (again_x ?_)
        refine cutX_here () [] (by have hq := hpost1 _ hK; exact hq) mkWkR
      ·clear hK; rintro _ hK
       try dsimp only at hK
       refine exS ⟨80, [(6, .int .i64 y1.2)], []⟩ rfl ?_
       with_reducible refine inBlockA_exit (thenC_normal ?_)
       refine AWP_seq ?_
       refine AWP_rg tab_ok [2] fun c st' hr => ?_
       simp only [go_sem, idO_app, lenO_app, lenO_app2, lenO_eta] at hr
       obtain ⟨rfl, rfl⟩ := hr
       refine ⟨vc, ?_⟩
       with_reducible refine thenC_normal ?_
       refine AWP_ret ?_
       cases hK
       refine EndsRW [] (.inl rfl) (of_decide_eq_true rfl) (by simp) rfl (fun c x hr => ?_) trivial
       simp only [go_sem, idO_app, lenO_app, lenO_app2, lenO_eta] at hr
       obtain ⟨rfl, rfl⟩ := hr
       exact ⟨rfl, endR⟩

end Go.SH
