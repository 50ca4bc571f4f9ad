/-
  That the code computes these functions: rotakeep_LinksMenger. By a program of mine (shal.py). Conditions: none.
-/
import Derived.Test.YtlpikingpnenkaaAxT
import Derived.Test.YtlpikingpnenkaaAxR
import Derived.Test.YtlpikingpnenkaaAxBg
import Derived.Test.YtlpikingpnenkaaAxBk
import Derived.Test.YtlpikingpnenkaaSkLinksMenger
import Derived.Test.YtlpikingpnenkaaWplinks
import Derived.Test.YtlpikingpnenkaaWprotaref
import Derived.Test.YtlpikingpnenkaaWpslices
set_option linter.unusedVariables false
set_option linter.unusedSimpArgs false
set_option maxRecDepth 8000
set_option maxHeartbeats 4000000
namespace Go.SH
open Go Go.AX Go.AX.Try Go.Proofs


theorem W_rotakeep_LinksMenger {g_0 : Int} {g_1 : List (Int × Int)} {a1 : Int} {a2 : Int} {r : Bool} (hK : rotakeep_LinksMenger g_0 g_1 a1 a2 = some r) : Pure Try.prog 4 [.agg [.int .i64 g_0, .fn 2 g_1.length (fun i => [.int .i64 ((g_1.getD i (0, 0)).1), .int .i64 ((g_1.getD i (0, 0)).2)])], .int .i64 a1, .int .i64 a2] (.bool r) [] := by
  refine Pure_introF tab_ok (n := 180) (l := [.tmp 6]) Try.func4 rfl rfl rfl (by simp) fun hfact w0 => ?_
  simp only [factL1, fact1, fact0, factL0, lo, hi, maxLen, and_true] at hfact
  unfold rotakeep_LinksMenger at hK
  refine AWP_seq ?_
  refine AWP_rg tab_ok [1, 2, 3] fun c st' hr => ?_
  simp only [go_sem] at hr
  obtain ⟨rfl, rfl⟩ := hr
  refine ⟨vc, ?_⟩
  with_reducible refine thenC_normal ?_
  refine AWP_seq ?_
  refine AWP_seq ?_
  refine AWP_rl ?_
  refine AWPL_rn tab_ok 3 [1, 2, 3, 24] fun c st' hr => ?_
  simp only [go_sem] at hr
  obtain ⟨rfl, rfl⟩ := hr
  refine ⟨vc, ?_⟩
  replace hK := bind_s hK
  obtain ⟨y, hy, hK⟩ := hK
  refine AWPL_callK [1, 2, 3, 25] (W_links_Most hy) rfl rfl pcT rfl Try.call21 (.cons (.agg _ _ rfl (ArgsOk.get (.cons (.atom _ rfl) (.cons (.ownEnc (fun e => [.int .i64 e.1, .int .i64 e.2]) (0, 0) [(0, 1)] (by first | rfl | (simp; done)) (by first | rfl | (simp; done)) (fun _ => rfl) (fun _ => rfl)) .nil))).2) (.cons (.atom _ rfl) (.cons (.atom _ rfl) .nil))) (hscG trivial) (of_decide_eq_true rfl) (by first | rfl | simp [nI, nI1, nI0]) (by first | rfl | simp [nIB, nI0]) fun st' hr => ?_
  simp only [go_sem] at hr
  subst hr
  clear hy
  refine AWPL_rn tab_ok 5 [1, 2, 3, 7, 8] fun c st' hr => ?_
  simp only [go_sem] at hr
  obtain ⟨rfl, rfl⟩ := hr
  refine ⟨vc, ?_⟩
  refine AWPL_nil ?_
  with_reducible refine thenC_normal ?_
  refine AWP_seq ?_
  refine AWP_rg tab_ok [1, 2, 3, 33] fun c st' hr => ?_
  simp only [go_sem] at hr
  obtain ⟨rfl, rfl⟩ := hr
  refine ⟨vc, ?_⟩
  with_reducible refine thenC_normal ?_
  refine AWP_condP ((y.2 ≠ 0 ∨ y.1 ≠ 1)) rfl bd (fun hb => ?_) (fun hb => ?_)
  ·replace hK := ite_t hK hb
   refine AWP_seq ?_
   refine AWP_rg tab_ok [6] fun c st' hr => ?_
   simp only [go_sem] at hr
   obtain ⟨rfl, rfl⟩ := hr
   refine ⟨vc, ?_⟩
   with_reducible refine thenC_normal ?_
   refine AWP_ret ?_
   with_reducible refine thenC_ret ?_
   cases hK
   refine EndsRW [] (.inl rfl) (of_decide_eq_true rfl) (by simp) rfl (fun c x hr => ?_) trivial
   simp only [go_sem] at hr
   obtain ⟨rfl, rfl⟩ := hr
   exact ⟨rfl, endR⟩
  ·replace hK := ite_f hK hb
   refine AWP_skip ?_
   with_reducible refine thenC_normal ?_
   refine AWP_seq ?_
   refine AWP_rl ?_
   refine AWPL_rn tab_ok 3 [1, 2, 3, 35, 36, 37] fun c st' hr => ?_
   simp only [go_sem] at hr
   obtain ⟨rfl, rfl⟩ := hr
   refine ⟨vc, ?_⟩
   replace hK := bind_s hK
   obtain ⟨y1, hy, hK⟩ := hK
   refine AWPL_callK [1, 2, 3, 38] (W_links_Most hy) rfl rfl pcT rfl Try.call21 (.cons (.agg _ _ rfl (ArgsOk.get (.cons (.atom _ rfl) (.cons (.atom _ rfl) .nil))).2) (.cons (.atom _ rfl) (.cons (.atom _ rfl) .nil))) (hscG trivial) (of_decide_eq_true rfl) (by first | rfl | simp [nI, nI1, nI0]) (by first | rfl | simp [nIB, nI0]) fun st' hr => ?_
   simp only [go_sem] at hr
   subst hr
   clear hy
   refine AWPL_rn tab_ok 5 [1, 2, 3, 9, 10] fun c st' hr => ?_
   simp only [go_sem] at hr
   obtain ⟨rfl, rfl⟩ := hr
   refine ⟨vc, ?_⟩
   refine AWPL_nil ?_
   with_reducible refine thenC_normal ?_
   refine AWP_seq ?_
   refine AWP_rl ?_
   refine AWPL_rn tab_ok 3 [1, 2, 3, 9, 10, 42, 43, 44] fun c st' hr => ?_
   simp only [go_sem] at hr
   obtain ⟨rfl, rfl⟩ := hr
   refine ⟨vc, ?_⟩
   replace hK := bind_s hK
   obtain ⟨y2, hy, hK⟩ := hK
   refine AWPL_callK [1, 2, 3, 9, 10, 45] (W_links_Cut hy) rfl rfl pcT rfl Try.call22 (.cons (.agg _ _ rfl (ArgsOk.get (.cons (.atom _ rfl) (.cons (.atom _ rfl) .nil))).2) (.cons (.atom _ rfl) (.cons (.atom _ rfl) .nil))) (hscG trivial) (of_decide_eq_true rfl) (by first | rfl | simp [nI, nI1, nI0]) (by first | rfl | simp [nIB, nI0]) fun st' hr => ?_
   simp only [go_sem] at hr
   subst hr
   clear hy
   refine AWPL_rn tab_ok 5 [1, 2, 3, 9, 10, 11, 12] fun c st' hr => ?_
   simp only [go_sem] at hr
   obtain ⟨rfl, rfl⟩ := hr
   refine ⟨vc, ?_⟩
   refine AWPL_nil ?_
   with_reducible refine thenC_normal ?_
   refine AWP_seq ?_
   refine AWP_rl ?_
   refine AWPL_rn tab_ok 3 [1, 2, 3, 9, 10, 11, 12, 49, 50, 51] fun c st' hr => ?_
   simp only [go_sem] at hr
   obtain ⟨rfl, rfl⟩ := hr
   refine ⟨vc, ?_⟩
   replace hK := bind_s hK
   obtain ⟨y3, hy, hK⟩ := hK
   refine AWPL_callI [1, 2, 3, 9, 10, 11, 12, 52] (W_links_Ways hy) rfl rfl pcT rfl Try.call23 (by first | rfl | simp) rfl (hscG trivial) (of_decide_eq_true rfl) (by first | rfl | simp [nI, nI1, nI0]) (by first | rfl | simp [nAB, nI0, atomB]) fun st' hr => ?_
   simp only [go_sem] at hr
   subst hr
   clear hy
   refine AWPL_rn tab_ok 5 [1, 2, 3, 9, 10, 11, 12, 13, 14] fun c st' hr => ?_
   simp only [go_sem] at hr
   obtain ⟨rfl, rfl⟩ := hr
   refine ⟨vc, ?_⟩
   refine AWPL_nil ?_
   with_reducible refine thenC_normal ?_
   refine AWP_seq ?_
   refine AWP_seq ?_
   refine AWP_rg tab_ok [1, 2, 3, 9, 10, 11, 12, 13, 14, 56] fun c st' hr => ?_
   simp only [go_sem] at hr
   obtain ⟨rfl, rfl⟩ := hr
   refine ⟨vc, ?_⟩
   with_reducible refine thenC_normal ?_
   refine AWP_condP (y1.2 ≠ 0) rfl bd (fun hb1 => ?_) (fun hb1 => ?_)
   ·replace hK := ite_t hK hb1
    refine AWP_seq ?_
    refine AWP_rg tab_ok [6] fun c st' hr => ?_
    simp only [go_sem] at hr
    obtain ⟨rfl, rfl⟩ := hr
    refine ⟨vc, ?_⟩
    with_reducible refine thenC_normal ?_
    refine AWP_ret ?_
    with_reducible refine thenC_ret ?_
    cases hK
    refine EndsRW [] (.inl rfl) (of_decide_eq_true rfl) (by simp) rfl (fun c x hr => ?_) trivial
    simp only [go_sem] at hr
    obtain ⟨rfl, rfl⟩ := hr
    exact ⟨rfl, endR⟩
   ·replace hK := ite_f hK hb1
    refine AWP_skip ?_
    with_reducible refine thenC_normal ?_
    refine AWP_seq ?_
    refine AWP_seq ?_
    refine AWP_rl ?_
    refine AWPL_rn tab_ok 5 [1, 2, 3, 9, 11, 13, 14, 80, 81, 82] fun c st' hr => ?_
    simp only [go_sem] at hr
    obtain ⟨rfl, rfl⟩ := hr
    refine ⟨vc, ?_⟩
    replace hK := bind_s hK
    obtain ⟨y4, hy, hK⟩ := hK
    refine AWPL_callGP [1, 2, 3, 9, 11, 13, 14, 80, 81, 83] (¬ (y2.2 ≠ 0)) (fun hg => (W_rotaref_Size (ite_t hy hg))) rfl rfl pcG rfl Try.call19 (.cons (.atom _ rfl) .nil) (fun hg => hscG hg) (of_decide_eq_true rfl) (by first | rfl | simp [nI, nI1, nI0]) (by first | rfl | simp [sh, sh1, sh0]) fun st' hr => ?_
    simp only [go_sem] at hr
    subst hr
    clear hy
    refine AWPL_rn tab_ok 6 [1, 2, 3, 9, 13, 14, 86, 87, 88, 89] fun c st' hr => ?_
    simp only [go_sem] at hr
    obtain ⟨rfl, rfl⟩ := hr
    refine ⟨vc, ?_⟩
    replace hK := bind_s hK
    obtain ⟨y5, hy, hK⟩ := hK
    refine AWPL_callGP [1, 2, 3, 9, 13, 14, 86, 90] (¬ ((y2.2 ≠ 0 ∨ y1.1 ≠ y4))) (fun hg => (W_rotaref_Paths (ite_t hy hg))) rfl rfl pcG rfl Try.call24 (.cons (.agg _ _ rfl (ArgsOk.get (.cons (.atom _ rfl) (.cons (.atom _ rfl) .nil))).2) (.cons (.atom _ rfl) (.cons (.atom _ rfl) .nil))) (fun hg => hscG hg) (of_decide_eq_true rfl) (by first | rfl | simp [nI, nI1, nI0]) (by first | rfl | simp [sh, sh1, sh0]) fun st' hr => ?_
    simp only [go_sem] at hr
    subst hr
    clear hy
    refine AWPL_rn tab_ok 9 [1, 2, 3, 13, 95, 97, 98, 99] fun c st' hr => ?_
    simp only [go_sem] at hr
    obtain ⟨rfl, rfl⟩ := hr
    refine ⟨vc, ?_⟩
    replace hK := bind_s hK
    obtain ⟨y6, hy, hK⟩ := hK
    refine AWPL_callGP [1, 2, 3, 13, 95, 97, 98, 100] (¬ (((y2.2 ≠ 0 ∨ y1.1 ≠ y4) ∨ iand y5 a2 ≠ 0))) (fun hg => (W_rotaref_Size (ite_t hy hg))) rfl rfl pcG rfl Try.call19 (.cons (.atom _ rfl) .nil) (fun hg => hscG hg) (of_decide_eq_true rfl) (by first | rfl | simp [nI, nI1, nI0]) (by first | rfl | simp [sh, sh1, sh0]) fun st' hr => ?_
    simp only [go_sem] at hr
    subst hr
    clear hy
    refine AWPL_rn tab_ok 3 [1, 2, 3, 13, 103] fun c st' hr => ?_
    simp only [go_sem] at hr
    obtain ⟨rfl, rfl⟩ := hr
    refine ⟨vc, ?_⟩
    refine AWPL_nil ?_
    with_reducible refine thenC_normal ?_
    refine AWP_condP ((((y2.2 ≠ 0 ∨ y1.1 ≠ y4) ∨ iand y5 a2 ≠ 0) ∨ ¬ (y3.2 = 0 ↔ y1.1 = y6))) rfl bd (fun hb2 => ?_) (fun hb2 => ?_)
    ·replace hK := ite_t hK hb2
     refine AWP_seq ?_
     refine AWP_rg tab_ok [6] fun c st' hr => ?_
     simp only [go_sem] at hr
     obtain ⟨rfl, rfl⟩ := hr
     refine ⟨vc, ?_⟩
     with_reducible refine thenC_normal ?_
     refine AWP_ret ?_
     with_reducible refine thenC_ret ?_
     cases hK
     refine EndsRW [] (.inl rfl) (of_decide_eq_true rfl) (by simp) rfl (fun c x hr => ?_) trivial
     simp only [go_sem] at hr
     obtain ⟨rfl, rfl⟩ := hr
     exact ⟨rfl, endR⟩
    ·replace hK := ite_f hK hb2
     refine AWP_skip ?_
     with_reducible refine thenC_normal ?_
     refine AWP_seq ?_
     refine AWP_rl ?_
     refine AWPL_rn tab_ok 1 [2, 3, 13, 104] fun c st' hr => ?_
     simp only [go_sem] at hr
     obtain ⟨rfl, rfl⟩ := hr
     refine ⟨vc, ?_⟩
     replace hK := bind_s hK
     obtain ⟨y7, hy, hK⟩ := hK
     refine AWPL_callK [2, 3, 13, 105] (W_rotaref_Elements hy) rfl rfl pcT rfl Try.call25 (.cons (.atom _ rfl) .nil) (hscG trivial) (of_decide_eq_true rfl) (by first | rfl | simp [nI, nI1, nI0]) (by first | rfl | simp [nIB, nI0]) fun st' hr => ?_
     simp only [go_sem] at hr
     subst hr
     clear hy
     refine AWPL_rn tab_ok 2 [2, 3, 13, 15, 16] fun c st' hr => ?_
     simp only [go_sem] at hr
     obtain ⟨rfl, rfl⟩ := hr
     refine ⟨vc, ?_⟩
     refine AWPL_nil ?_
     with_reducible refine thenC_normal ?_
     refine AWP_seq ?_
     refine AWP_seq ?_
     refine AWP_rg tab_ok [2, 3, 15, 16, 106, 107, 108] fun c st' hr => ?_
     simp only [go_sem] at hr
     obtain ⟨rfl, rfl⟩ := hr
     refine ⟨vc, ?_⟩
     with_reducible refine thenC_normal ?_
     refine AWP_block ?_
     refine AWP_loopX 0 (fun ((v, v1) : Int × Int) => ⟨180, [(2, .int .i64 a2), (3, .ptr 0 0 0), (15, .int .i64 v), (16, .own 1 y7.length), (106, .own 2 y3.1.length), (107, .int .i64 (y3.1.length : Int)), (108, .int .i64 v1)], [some (.gen 42 2 [[.int .i64 g_0, .fn 2 g_1.length (fun i => [.int .i64 ((g_1.getD i (0, 0)).1), .int .i64 ((g_1.getD i (0, 0)).2)])]]), some (.ints 3 .i64 y7), some (.gen 22 1 (List.map (fun e => [.ints .i64 e]) y3.1))]⟩) (fun (_ : Unit) => ⟨180, [], []⟩) Sum.inl (0, 0) [0, 3, 2] hK mkWk ?_ ?_
     ·clear hK; rintro ⟨v, v1⟩ b hK hpost1
      try dsimp only at hK
      change AWP _ _ _ _ ⟨180, [(2, .int .i64 a2), (3, .ptr 0 0 0), (15, .int .i64 v), (16, .own 1 y7.length), (106, .own 2 y3.1.length), (107, .int .i64 (y3.1.length : Int)), (108, .int .i64 v1)], [some (.gen 42 2 [[.int .i64 g_0, .fn 2 g_1.length (fun i => [.int .i64 ((g_1.getD i (0, 0)).1), .int .i64 ((g_1.getD i (0, 0)).2)])]]), some (.ints 3 .i64 y7), some (.gen 22 1 (List.map (fun e => [.ints .i64 e]) y3.1))]⟩
      refine AWP_seq ?_
      refine AWP_rg tab_ok [2, 3, 15, 16, 106, 107, 108, 109] fun c st' hr => ?_
      simp only [go_sem] at hr
      obtain ⟨rfl, rfl⟩ := hr
      refine ⟨vc, ?_⟩
      with_reducible refine thenC_normal ?_
      refine AWP_seq ?_
      refine AWP_condP (v1 < (y3.1.length : Int)) rfl bd (fun hb3 => ?_) (fun hb3 => ?_)
      ·replace hK := ite_t hK hb3
       refine AWP_skip ?_
       with_reducible refine thenC_normal ?_
       refine AWP_seq ?_
       refine AWP_block ?_
       refine AWP_seq ?_
       refine AWP_rl ?_
       replace hK := chk_some hK
       obtain ⟨h, hK⟩ := hK
       refine AWPL_rn tab_ok 5 [2, 3, 15, 16, 17, 18, 106, 107, 108] fun c st' hr => ?_
       have hlb := ldE (fun e => [.ints .i64 e]) ([]) (y3.1) (v1.toNat) (by first | omega | (simp only [List.length_set, List.length_replicate]; omega))
       simp only [go_sem, List.take_zero, List.nil_append, List.append_nil, List.drop_zero, List.length_replicate, List.length_set, hlb] at hr
       obtain ⟨rfl, rfl⟩ := hr
       refine ⟨vc, ?_⟩
       first | refine AWPL_stP [(2, .int .i64 a2), (3, .ptr 0 0 0), (15, .int .i64 v), (16, .own 1 y7.length), (17, .int .i64 v1), (18, .ints .i64 (y3.1.getD v1.toNat [])), (106, .own 2 y3.1.length), (107, .int .i64 (y3.1.length : Int)), (108, .int .i64 v1)] (by first | rfl | (simp [SameS, AX.look]; done)) ?_ | refine AWPL_stE ⟨180, [(2, .int .i64 a2), (3, .ptr 0 0 0), (15, .int .i64 v), (16, .own 1 y7.length), (17, .int .i64 v1), (18, .ints .i64 (y3.1.getD v1.toNat [])), (106, .own 2 y3.1.length), (107, .int .i64 (y3.1.length : Int)), (108, .int .i64 v1)], [some (.gen 42 2 [[.int .i64 g_0, .fn 2 g_1.length (fun i => [.int .i64 ((g_1.getD i (0, 0)).1), .int .i64 ((g_1.getD i (0, 0)).2)])]]), some (.ints 3 .i64 y7), some (.gen 22 1 (List.map (fun e => [.ints .i64 e]) y3.1))]⟩ (by first | rfl | (simp; done) | (congr 3 <;> simp; done)) ?_
       refine AWPL_nil ?_
       with_reducible refine thenC_normal ?_
       refine AWP_seq ?_
       refine AWP_seq ?_
       refine AWP_drawQ mixed (by kernel_rfl) ?_
       replace hK := chk_some hK
       obtain ⟨h1, hK⟩ := hK
       refine AWQL_rn tab_ok 21 [2, 3, 15, 16, 18, 106, 107, 108, 126, 127, 133] fun c st' hr => ?_
       simp only [go_sem] at hr
       obtain ⟨rfl, rfl⟩ := hr
       refine ⟨vc, ?_⟩
       replace hK := bind_s hK
       obtain ⟨y8, hy, hK⟩ := hK
       refine AWQL_callGP [2, 3, 15, 16, 18, 106, 107, 108, 126, 134] (¬ ((((y3.1.getD v1.toNat []).length : Int) = 0 ∨ (y3.1.getD v1.toNat []).getD 0 0 ≠ y7.getD v1.toNat 0))) (fun hg => (W_rotaref_In (ite_t hy hg))) rfl rfl pcG rfl Try.call26 (.cons (.atom _ rfl) (.cons (.atom _ rfl) .nil)) (fun hg => hscG hg) (of_decide_eq_true rfl) rfl fun st' hr => ?_
       simp only [go_sem] at hr
       subst hr
       clear hy
       refine AWQL_rn tab_ok 2 [2, 3, 15, 16, 18, 106, 107, 108, 136] fun c st' hr => ?_
       simp only [go_sem] at hr
       obtain ⟨rfl, rfl⟩ := hr
       refine ⟨vc, ?_⟩
       refine AWQL_nil ?_
       with_reducible refine thenC_normal ?_
       refine AWP_condP (((((y3.1.getD v1.toNat []).length : Int) = 0 ∨ (y3.1.getD v1.toNat []).getD 0 0 ≠ y7.getD v1.toNat 0) ∨ ¬ (y8 = true))) rfl bd (fun hb4 => ?_) (fun hb4 => ?_)
       ·replace hK := ite_t hK hb4
        refine AWP_seq ?_
        refine AWP_rg tab_ok [6] fun c st' hr => ?_
        simp only [go_sem] at hr
        obtain ⟨rfl, rfl⟩ := hr
        refine ⟨vc, ?_⟩
        with_reducible refine thenC_normal ?_
        refine AWP_ret ?_
        with_reducible refine thenC_ret (inBlockA_ret (thenC_ret (again_r (cutX_r (inBlockA_ret (thenC_ret ?_))))))
        replace hK := hpost1 _ hK
        try dsimp only at hK
        cases hK
        refine EndsRW [] (.inl rfl) (of_decide_eq_true rfl) (by simp) rfl (fun c x hr => ?_) trivial
        simp only [go_sem] at hr
        obtain ⟨rfl, rfl⟩ := hr
        exact ⟨rfl, endR⟩
       ·replace hK := ite_f hK hb4
        refine AWP_skip ?_
        with_reducible refine thenC_normal ?_
        refine AWP_seq ?_
        refine AWP_rg tab_ok [2, 3, 15, 16, 18, 106, 107, 108, 137, 138, 139] fun c st' hr => ?_
        simp only [go_sem] at hr
        obtain ⟨rfl, rfl⟩ := hr
        refine ⟨vc, ?_⟩
        with_reducible refine thenC_normal ?_
        refine AWP_block ?_
        refine AWP_loopX 2 (fun ((v2, v3) : Int × Int) => ⟨180, [(2, .int .i64 a2), (3, .ptr 0 0 0), (15, .int .i64 v2), (16, .own 1 y7.length), (18, .ints .i64 (y3.1.getD v1.toNat [])), (106, .own 2 y3.1.length), (107, .int .i64 (y3.1.length : Int)), (108, .int .i64 v1), (137, .ints .i64 (y3.1.getD v1.toNat [])), (138, .int .i64 ((y3.1.getD v1.toNat []).length : Int)), (139, .int .i64 v3)], [some (.gen 42 2 [[.int .i64 g_0, .fn 2 g_1.length (fun i => [.int .i64 ((g_1.getD i (0, 0)).1), .int .i64 ((g_1.getD i (0, 0)).2)])]]), some (.ints 3 .i64 y7), some (.gen 22 1 (List.map (fun e => [.ints .i64 e]) y3.1))]⟩) (fun (v4 : Int) => ⟨180, [(2, .int .i64 a2), (3, .ptr 0 0 0), (15, .int .i64 v4), (16, .own 1 y7.length), (106, .own 2 y3.1.length), (107, .int .i64 (y3.1.length : Int)), (108, .int .i64 v1)], [some (.gen 42 2 [[.int .i64 g_0, .fn 2 g_1.length (fun i => [.int .i64 ((g_1.getD i (0, 0)).1), .int .i64 ((g_1.getD i (0, 0)).2)])]]), some (.ints 3 .i64 y7), some (.gen 22 1 (List.map (fun e => [.ints .i64 e]) y3.1))]⟩) Sum.inl (v, 0) [0, 1, 2] hK mkWk ?_ ?_
        ·clear hK; rintro ⟨v2, v3⟩ b1 hK hpost2
         try dsimp only at hK
         change AWP _ _ _ _ ⟨180, [(2, .int .i64 a2), (3, .ptr 0 0 0), (15, .int .i64 v2), (16, .own 1 y7.length), (18, .ints .i64 (y3.1.getD v1.toNat [])), (106, .own 2 y3.1.length), (107, .int .i64 (y3.1.length : Int)), (108, .int .i64 v1), (137, .ints .i64 (y3.1.getD v1.toNat [])), (138, .int .i64 ((y3.1.getD v1.toNat []).length : Int)), (139, .int .i64 v3)], [some (.gen 42 2 [[.int .i64 g_0, .fn 2 g_1.length (fun i => [.int .i64 ((g_1.getD i (0, 0)).1), .int .i64 ((g_1.getD i (0, 0)).2)])]]), some (.ints 3 .i64 y7), some (.gen 22 1 (List.map (fun e => [.ints .i64 e]) y3.1))]⟩
         refine AWP_seq ?_
         refine AWP_rg tab_ok [2, 3, 15, 16, 18, 106, 107, 108, 137, 138, 139, 140] fun c st' hr => ?_
         simp only [go_sem] at hr
         obtain ⟨rfl, rfl⟩ := hr
         refine ⟨vc, ?_⟩
         with_reducible refine thenC_normal ?_
         refine AWP_seq ?_
         refine AWP_condP (v3 < ((y3.1.getD v1.toNat []).length : Int)) rfl bd (fun hb5 => ?_) (fun hb5 => ?_)
         ·replace hK := ite_t hK hb5
          refine AWP_skip ?_
          with_reducible refine thenC_normal ?_
          refine AWP_seq ?_
          refine AWP_block ?_
          refine AWP_seq ?_
          replace hK := chk_some hK
          obtain ⟨h2, hK⟩ := hK
          refine AWP_rg tab_ok [2, 3, 15, 16, 18, 19, 20, 106, 107, 108, 137, 138, 139] fun c st' hr => ?_
          simp only [go_sem] at hr
          obtain ⟨rfl, rfl⟩ := hr
          refine ⟨vc, ?_⟩
          with_reducible refine thenC_normal ?_
          refine AWP_seq ?_
          refine AWP_seq ?_
          refine AWP_drawQ mixed (by kernel_rfl) ?_
          refine AWQL_rn tab_ok 11 [2, 3, 15, 16, 18, 19, 20, 106, 107, 108, 137, 138, 139, 152, 153, 154] fun c st' hr => ?_
          simp only [go_sem] at hr
          obtain ⟨rfl, rfl⟩ := hr
          refine ⟨vc, ?_⟩
          replace hK := bind_s hK
          obtain ⟨y9, hy, hK⟩ := hK
          refine AWQL_callGP [2, 3, 15, 16, 18, 19, 20, 106, 107, 108, 137, 138, 139, 152, 155] (¬ (((y3.1.getD v1.toNat []).getD v3.toNat 0 < 0 ∨ g_0 ≤ (y3.1.getD v1.toNat []).getD v3.toNat 0))) (fun hg => (W_rotaref_In (ite_t hy hg))) rfl rfl pcG rfl Try.call26 (.cons (.atom _ rfl) (.cons (.atom _ rfl) .nil)) (fun hg => hscG hg) (of_decide_eq_true rfl) rfl fun st' hr => ?_
          simp only [go_sem] at hr
          subst hr
          clear hy
          replace hK := chk_some hK
          obtain ⟨h3, hK⟩ := hK
          refine AWQL_rn tab_ok 14 [2, 3, 15, 16, 18, 20, 106, 107, 108, 137, 138, 139, 157, 160, 162, 169] fun c st' hr => ?_
          simp only [go_sem] at hr
          obtain ⟨rfl, rfl⟩ := hr
          refine ⟨vc, ?_⟩
          replace hK := bind_s hK
          obtain ⟨y10, hy, hK⟩ := hK
          refine AWQL_callGP [2, 3, 15, 16, 18, 20, 106, 107, 108, 137, 138, 139, 157, 160, 170] (((¬ ((((y3.1.getD v1.toNat []).getD v3.toNat 0 < 0 ∨ g_0 ≤ (y3.1.getD v1.toNat []).getD v3.toNat 0) ∨ y9 = true))) ∧ 0 < v3)) (fun hg => (W_slices_Contains_api_Edge_api_Edge (ite_t hy hg))) rfl rfl pcG rfl Try.call27 (.cons (.atom _ rfl) (.cons (.agg _ _ rfl (ArgsOk.get (.cons (.atom _ rfl) (.cons (.atom _ rfl) .nil))).2) .nil)) (fun hg => hscG hg) (of_decide_eq_true rfl) rfl fun st' hr => ?_
          simp only [go_sem] at hr
          subst hr
          clear hy
          refine AWQL_rn tab_ok 3 [2, 3, 15, 16, 18, 20, 106, 107, 108, 137, 138, 139, 173] fun c st' hr => ?_
          simp only [go_sem] at hr
          obtain ⟨rfl, rfl⟩ := hr
          refine ⟨vc, ?_⟩
          refine AWQL_nil ?_
          with_reducible refine thenC_normal ?_
          refine AWP_condP (((((y3.1.getD v1.toNat []).getD v3.toNat 0 < 0 ∨ g_0 ≤ (y3.1.getD v1.toNat []).getD v3.toNat 0) ∨ y9 = true) ∨ (0 < v3 ∧ ¬ (y10 = true)))) rfl bd (fun hb6 => ?_) (fun hb6 => ?_)
          ·replace hK := ite_t hK hb6
           refine AWP_seq ?_
           refine AWP_rg tab_ok [6] fun c st' hr => ?_
           simp only [go_sem] at hr
           obtain ⟨rfl, rfl⟩ := hr
           refine ⟨vc, ?_⟩
           with_reducible refine thenC_normal ?_
           refine AWP_ret ?_
           with_reducible refine thenC_ret (inBlockA_ret (thenC_ret (again_r (cutX_r (inBlockA_ret (inBlockA_ret (thenC_ret (again_r (cutX_r (inBlockA_ret (thenC_ret ?_)))))))))))
           replace hK := hpost2 _ hK
           try dsimp only at hK
           replace hK := hpost1 _ hK
           try dsimp only at hK
           cases hK
           refine EndsRW [] (.inl rfl) (of_decide_eq_true rfl) (by simp) rfl (fun c x hr => ?_) trivial
           simp only [go_sem] at hr
           obtain ⟨rfl, rfl⟩ := hr
           exact ⟨rfl, endR⟩
          ·replace hK := ite_f hK hb6
           refine AWP_skip ?_
           with_reducible refine thenC_normal ?_
           replace hK := chk_some hK
           obtain ⟨h4, hK⟩ := hK
           refine AWP_rg tab_ok [2, 3, 15, 16, 18, 106, 107, 108, 137, 138, 139] fun c st' hr => ?_
           simp only [go_sem] at hr
           obtain ⟨rfl, rfl⟩ := hr
           refine ⟨vc, ?_⟩
           with_reducible refine inBlockA_normal (thenC_normal ?_)
           refine AWP_facts (by simp) fun hfx => ?_
           simp only [factS, factV, fact1, fact0, factL0, lo, hi, maxLen, and_true, true_and] at hfx
           refine AWP_rg tab_ok [2, 3, 15, 16, 18, 106, 107, 108, 137, 138, 139] fun c st' hr => ?_
           simp only [go_sem] at hr
           obtain ⟨rfl, rfl⟩ := hr
           refine ⟨vc, ?_⟩
           clear hfx
           refine again_n (ior v2 (2 ^ ((y3.1.getD v1.toNat []).getD v3.toNat 0).toNat : Int), v3 + 1) [0, 1, 2] hK mkWk
         ·replace hK := ite_f hK hb5
          refine AWP_exit ?_
          with_reducible refine thenC_exit (again_x ?_)
          refine cutX_here v2 [0, 1, 2] (by have hq := hpost2 _ hK; exact hq) mkWk
        ·clear hK; rintro v4 hK
         try dsimp only at hK
         refine exS ⟨180, [(2, .int .i64 a2), (3, .ptr 0 0 0), (15, .int .i64 v4), (16, .own 1 y7.length), (106, .own 2 y3.1.length), (107, .int .i64 (y3.1.length : Int)), (108, .int .i64 v1)], [some (.gen 42 2 [[.int .i64 g_0, .fn 2 g_1.length (fun i => [.int .i64 ((g_1.getD i (0, 0)).1), .int .i64 ((g_1.getD i (0, 0)).2)])]]), some (.ints 3 .i64 y7), some (.gen 22 1 (List.map (fun e => [.ints .i64 e]) y3.1))]⟩ rfl ?_
         with_reducible refine inBlockA_exit (inBlockA_normal (thenC_normal ?_))
         refine AWP_facts (by simp) fun hfx => ?_
         simp only [factS, factV, fact1, fact0, factL0, lo, hi, maxLen, and_true, true_and] at hfx
         refine AWP_rg tab_ok [2, 3, 15, 16, 106, 107, 108] fun c st' hr => ?_
         simp only [go_sem] at hr
         obtain ⟨rfl, rfl⟩ := hr
         refine ⟨vc, ?_⟩
         clear hfx
         refine again_n (v4, v1 + 1) [0, 1, 2] hK mkWk
      ·replace hK := ite_f hK hb3
       refine AWP_exit ?_
       with_reducible refine thenC_exit (again_x ?_)
       refine cutX_here () [] (by have hq := hpost1 _ hK; exact hq) mkWk
     ·clear hK; rintro _ hK
      try dsimp only at hK
      refine exS ⟨180, [], []⟩ rfl ?_
      with_reducible refine inBlockA_exit (thenC_normal ?_)
      refine AWP_seq ?_
      refine AWP_rg tab_ok [6] fun c st' hr => ?_
      simp only [go_sem] at hr
      obtain ⟨rfl, rfl⟩ := hr
      refine ⟨vc, ?_⟩
      with_reducible refine thenC_normal ?_
      refine AWP_ret ?_
      cases hK
      refine EndsRW [] (.inl rfl) (of_decide_eq_true rfl) (by simp) rfl (fun c x hr => ?_) trivial
      simp only [go_sem] at hr
      obtain ⟨rfl, rfl⟩ := hr
      exact ⟨rfl, endR⟩

end Go.SH
