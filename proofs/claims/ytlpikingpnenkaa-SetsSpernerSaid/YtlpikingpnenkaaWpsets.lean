/-
  That the code computes these functions: sets_Family, sets_Most_1, sets_Most, sets_least_1, sets_least, sets_Least. By a program of mine (shal.py). Conditions: none.
-/
import Derived.Test.YtlpikingpnenkaaAxT
import Derived.Test.YtlpikingpnenkaaAxR
import Derived.Test.YtlpikingpnenkaaSp
import Derived.Test.YtlpikingpnenkaaWpslices
set_option linter.unusedVariables false
set_option linter.unusedSimpArgs false
set_option maxRecDepth 8000
set_option maxHeartbeats 4000000
namespace Go.SH
open Go Go.AX Go.AX.Try Go.Proofs


theorem W_sets_Family {n : Int} {l : List Int} {r : Int} (hK : sets_Family n l = some r) : Pure Try.prog 60 [.int .i64 n, .ints .i64 l] (.int .i64 r) [] := by
  refine Pure_introF tab_ok (n := 42) (l := [.tmp 4]) Try.func60 rfl rfl rfl (by simp) fun hfact w0 => ?_
  simp only [factL1, fact1, fact0, factL0, lo, hi, maxLen, and_true] at hfact
  unfold sets_Family at hK
  refine AWP_seq ?_
  refine AWP_rg tab_ok [0, 1] fun c st' hr => ?_
  simp only [go_sem] at hr
  obtain ⟨rfl, rfl⟩ := hr
  refine ⟨vc, ?_⟩
  with_reducible refine thenC_normal ?_
  refine AWP_seq ?_
  refine AWP_seq ?_
  refine AWP_rg tab_ok [0, 1, 12] fun c st' hr => ?_
  simp only [go_sem] at hr
  obtain ⟨rfl, rfl⟩ := hr
  refine ⟨vc, ?_⟩
  with_reducible refine thenC_normal ?_
  refine AWP_condP ((n < 0 ∨ 8 < n)) rfl bd (fun hb => ?_) (fun hb => ?_)
  ·replace hK := ite_t hK hb
   refine AWP_seq ?_
   refine AWP_rg tab_ok [4] fun c st' hr => ?_
   simp only [go_sem] at hr
   obtain ⟨rfl, rfl⟩ := hr
   refine ⟨vc, ?_⟩
   with_reducible refine thenC_normal ?_
   refine AWP_ret ?_
   with_reducible refine thenC_ret ?_
   cases hK
   refine EndsRW [] (.inl rfl) (of_decide_eq_true rfl) (by simp) rfl (fun c x hr => ?_) trivial
   simp only [go_sem] at hr
   obtain ⟨rfl, rfl⟩ := hr
   exact ⟨rfl, endR⟩
  ·replace hK := ite_f hK hb
   refine AWP_skip ?_
   with_reducible refine thenC_normal ?_
   refine AWP_seq ?_
   refine AWP_seq ?_
   refine AWP_rg tab_ok [0, 1, 13, 14, 15] fun c st' hr => ?_
   simp only [go_sem] at hr
   obtain ⟨rfl, rfl⟩ := hr
   refine ⟨vc, ?_⟩
   with_reducible refine thenC_normal ?_
   refine AWP_block ?_
   refine AWP_loopX 0 (fun (v : Int) => ⟨42, [(0, .int .i64 n), (1, .ints .i64 l), (13, .ints .i64 l), (14, .int .i64 (l.length : Int)), (15, .int .i64 v)], []⟩) (fun (_ : Unit) => ⟨42, [], []⟩) Sum.inl 0 [] hK mkWk ?_ ?_
   ·clear hK; rintro v b hK hpost1
    try dsimp only at hK
    change AWP _ _ _ _ ⟨42, [(0, .int .i64 n), (1, .ints .i64 l), (13, .ints .i64 l), (14, .int .i64 (l.length : Int)), (15, .int .i64 v)], []⟩
    refine AWP_seq ?_
    refine AWP_rg tab_ok [0, 1, 13, 14, 15, 16] fun c st' hr => ?_
    simp only [go_sem] at hr
    obtain ⟨rfl, rfl⟩ := hr
    refine ⟨vc, ?_⟩
    with_reducible refine thenC_normal ?_
    refine AWP_seq ?_
    refine AWP_condP (v < (l.length : Int)) rfl bd (fun hb1 => ?_) (fun hb1 => ?_)
    ·replace hK := ite_t hK hb1
     refine AWP_skip ?_
     with_reducible refine thenC_normal ?_
     refine AWP_seq ?_
     refine AWP_block ?_
     refine AWP_seq ?_
     replace hK := chk_some hK
     obtain ⟨h, hK⟩ := hK
     refine AWP_rg tab_ok [0, 1, 5, 6, 13, 14, 15] fun c st' hr => ?_
     simp only [go_sem] at hr
     obtain ⟨rfl, rfl⟩ := hr
     refine ⟨vc, ?_⟩
     with_reducible refine thenC_normal ?_
     refine AWP_seq ?_
     replace hK := chk_some hK
     obtain ⟨h1, hK⟩ := hK
     refine AWP_rg tab_ok [0, 1, 13, 14, 15, 40] fun c st' hr => ?_
     simp only [go_sem] at hr
     obtain ⟨rfl, rfl⟩ := hr
     refine ⟨vc, ?_⟩
     with_reducible refine thenC_normal ?_
     refine AWP_condP (((l.getD v.toNat 0 < 0 ∨ (2 ^ n.toNat : Int) ≤ l.getD v.toNat 0) ∨ (0 < v ∧ l.getD v.toNat 0 ≤ l.getD (v - 1).toNat 0))) rfl bd (fun hb2 => ?_) (fun hb2 => ?_)
     ·replace hK := ite_t hK hb2
      refine AWP_seq ?_
      refine AWP_rg tab_ok [4] fun c st' hr => ?_
      simp only [go_sem] at hr
      obtain ⟨rfl, rfl⟩ := hr
      refine ⟨vc, ?_⟩
      with_reducible refine thenC_normal ?_
      refine AWP_ret ?_
      with_reducible refine inBlockA_ret (thenC_ret (again_r (cutX_r (inBlockA_ret (thenC_ret ?_)))))
      replace hK := hpost1 _ hK
      try dsimp only at hK
      cases hK
      refine EndsRW [] (.inl rfl) (of_decide_eq_true rfl) (by simp) rfl (fun c x hr => ?_) trivial
      simp only [go_sem] at hr
      obtain ⟨rfl, rfl⟩ := hr
      exact ⟨rfl, endR⟩
     ·replace hK := ite_f hK hb2
      refine AWP_skip ?_
      with_reducible refine inBlockA_normal (thenC_normal ?_)
      refine AWP_facts (by simp) fun hfx => ?_
      simp only [factS, factV, fact1, fact0, factL0, lo, hi, maxLen, and_true, true_and] at hfx
      refine AWP_rg tab_ok [0, 1, 13, 14, 15] fun c st' hr => ?_
      simp only [go_sem] at hr
      obtain ⟨rfl, rfl⟩ := hr
      refine ⟨vc, ?_⟩
      clear hfx
      refine again_n (v + 1) [] hK mkWk
    ·replace hK := ite_f hK hb1
     refine AWP_exit ?_
     with_reducible refine thenC_exit (again_x ?_)
     refine cutX_here () [] (by have hq := hpost1 _ hK; exact hq) mkWk
   ·clear hK; rintro _ hK
    try dsimp only at hK
    refine exS ⟨42, [], []⟩ rfl ?_
    with_reducible refine inBlockA_exit (thenC_normal ?_)
    refine AWP_seq ?_
    refine AWP_rg tab_ok [4] fun c st' hr => ?_
    simp only [go_sem] at hr
    obtain ⟨rfl, rfl⟩ := hr
    refine ⟨vc, ?_⟩
    with_reducible refine thenC_normal ?_
    refine AWP_ret ?_
    cases hK
    refine EndsRW [] (.inl rfl) (of_decide_eq_true rfl) (by simp) rfl (fun c x hr => ?_) trivial
    simp only [go_sem] at hr
    obtain ⟨rfl, rfl⟩ := hr
    exact ⟨rfl, endR⟩


theorem W_sets_Most_1 {t : Int} {c0 : Int} {r : Bool} (hK : sets_Most_1 t c0 = some r) : Pure Try.prog 62 [.int .i64 t, .intp .i64 c0] (.bool r) [] := by
  refine Pure_introF tab_ok (n := 14) (l := [.tmp 3]) Try.func62 rfl rfl rfl (by simp) fun hfact w0 => ?_
  simp only [factL1, fact1, fact0, factL0, lo, hi, maxLen, and_true] at hfact
  unfold sets_Most_1 at hK
  refine AWP_seq ?_
  refine AWP_rg tab_ok [0, 1] fun c st' hr => ?_
  simp only [go_sem] at hr
  obtain ⟨rfl, rfl⟩ := hr
  refine ⟨vc, ?_⟩
  with_reducible refine thenC_normal ?_
  refine AWP_seq ?_
  refine AWP_rg tab_ok [3] fun c st' hr => ?_
  simp only [go_sem] at hr
  obtain ⟨rfl, rfl⟩ := hr
  refine ⟨vc, ?_⟩
  with_reducible refine thenC_normal ?_
  refine AWP_ret ?_
  cases hK
  refine EndsRW [] (.inl rfl) (of_decide_eq_true rfl) (by simp) rfl (fun c x hr => ?_) trivial
  simp only [go_sem] at hr
  obtain ⟨rfl, rfl⟩ := hr
  exact ⟨rfl, endR⟩


theorem W_sets_Most {n : Int} {l : List Int} {r : List Int × Int} (hK : sets_Most n l = some r) : Pure Try.prog 13 [.int .i64 n, .ints .i64 l] (.tup [.own 0 r.1.length, .int .i64 r.2]) [(.ints 3 .i64 r.1)] := by
  refine Pure_introF tab_ok (n := 32) (l := [.tmp 4, .tmp 5]) Try.func13 rfl rfl rfl (by simp) fun hfact w0 => ?_
  simp only [factL1, fact1, fact0, factL0, lo, hi, maxLen, and_true] at hfact
  unfold sets_Most at hK
  refine AWP_seq ?_
  refine AWP_rg tab_ok [0, 1] fun c st' hr => ?_
  simp only [go_sem] at hr
  obtain ⟨rfl, rfl⟩ := hr
  refine ⟨vc, ?_⟩
  with_reducible refine thenC_normal ?_
  refine AWP_seq ?_
  refine AWP_seq ?_
  refine AWP_rl ?_
  refine AWPL_rn tab_ok 2 [1, 10, 11] fun c st' hr => ?_
  simp only [go_sem] at hr
  obtain ⟨rfl, rfl⟩ := hr
  refine ⟨vc, ?_⟩
  replace hK := bind_s hK
  obtain ⟨y, hy, hK⟩ := hK
  refine AWPL_callK [1, 12] (W_sets_Family hy) rfl rfl pcT rfl Try.call60 (.cons (.atom _ rfl) (.cons (.atom _ rfl) .nil)) (hscG trivial) (of_decide_eq_true rfl) (by first | rfl | simp [nI, nI1, nI0]) (by first | rfl | simp [nIB, nI0]) fun st' hr => ?_
  simp only [go_sem] at hr
  subst hr
  clear hy
  refine AWPL_rn tab_ok 1 [1, 6] fun c st' hr => ?_
  simp only [go_sem] at hr
  obtain ⟨rfl, rfl⟩ := hr
  refine ⟨vc, ?_⟩
  refine AWPL_nil ?_
  with_reducible refine thenC_normal ?_
  refine AWP_seq ?_
  refine AWP_rg tab_ok [1, 6, 14] fun c st' hr => ?_
  simp only [go_sem] at hr
  obtain ⟨rfl, rfl⟩ := hr
  refine ⟨vc, ?_⟩
  with_reducible refine thenC_normal ?_
  refine AWP_condP (y ≠ 0) rfl bd (fun hb => ?_) (fun hb => ?_)
  ·replace hK := ite_t hK hb
   refine AWP_seq ?_
   refine AWP_rg tab_ok [4, 5] fun c st' hr => ?_
   simp only [go_sem] at hr
   obtain ⟨rfl, rfl⟩ := hr
   refine ⟨vc, ?_⟩
   with_reducible refine thenC_normal ?_
   refine AWP_own 4 (.ints 3 .i64 []) rfl rfl fun st' hr => ?_
   simp only [go_sem] at hr
   subst hr
   refine AWP_ret ?_
   with_reducible refine thenC_ret ?_
   cases hK
   refine EndsRW [0] (.inl rfl) (of_decide_eq_true rfl) (by simp) rfl (fun c x hr => ?_) endH
   simp only [go_sem] at hr
   obtain ⟨rfl, rfl⟩ := hr
   exact ⟨rfl, endR⟩
  ·replace hK := ite_f hK hb
   refine AWP_skip ?_
   with_reducible refine thenC_normal ?_
   refine AWP_seq ?_
   refine AWP_rg tab_ok [1, 7] fun c st' hr => ?_
   simp only [go_sem] at hr
   obtain ⟨rfl, rfl⟩ := hr
   refine ⟨vc, ?_⟩
   with_reducible refine thenC_normal ?_
   refine AWP_own 7 (.ints 3 .i64 []) rfl rfl fun st' hr => ?_
   simp only [go_sem] at hr
   subst hr
   refine AWP_seq ?_
   refine AWP_seq ?_
   refine AWP_rg tab_ok [1, 7, 16, 17, 18] fun c st' hr => ?_
   simp only [go_sem] at hr
   obtain ⟨rfl, rfl⟩ := hr
   refine ⟨vc, ?_⟩
   with_reducible refine thenC_normal ?_
   refine AWP_block ?_
   refine AWP_loopX 0 (fun ((out0, v) : List Int × Int) => ⟨32, [(1, .ints .i64 l), (7, .own 0 out0.length), (16, .ints .i64 l), (17, .int .i64 (l.length : Int)), (18, .int .i64 v)], [some (.ints 3 .i64 out0)]⟩) (fun (out01 : List Int) => ⟨32, [(7, .own 0 out01.length)], [some (.ints 3 .i64 out01)]⟩) (fun v => v) ([], 0) [0] hK mkWk ?_ ?_
   ·clear hK; rintro ⟨out0, v⟩ b hK hpost1
    try dsimp only at hK
    change AWP _ _ _ _ ⟨32, [(1, .ints .i64 l), (7, .own 0 out0.length), (16, .ints .i64 l), (17, .int .i64 (l.length : Int)), (18, .int .i64 v)], [some (.ints 3 .i64 out0)]⟩
    refine AWP_seq ?_
    refine AWP_rg tab_ok [1, 7, 16, 17, 18, 19] fun c st' hr => ?_
    simp only [go_sem] at hr
    obtain ⟨rfl, rfl⟩ := hr
    refine ⟨vc, ?_⟩
    with_reducible refine thenC_normal ?_
    refine AWP_seq ?_
    refine AWP_condP (v < (l.length : Int)) rfl bd (fun hb1 => ?_) (fun hb1 => ?_)
    ·replace hK := ite_t hK hb1
     refine AWP_skip ?_
     with_reducible refine thenC_normal ?_
     refine AWP_seq ?_
     refine AWP_block ?_
     refine AWP_seq ?_
     replace hK := chk_some hK
     obtain ⟨h, hK⟩ := hK
     refine AWP_rg tab_ok [1, 7, 9, 16, 17, 18] fun c st' hr => ?_
     simp only [go_sem] at hr
     obtain ⟨rfl, rfl⟩ := hr
     refine ⟨vc, ?_⟩
     with_reducible refine thenC_normal ?_
     refine AWP_seq ?_
     refine AWP_rl ?_
     refine AWPL_rn tab_ok 2 [1, 7, 9, 16, 17, 18, 22, 23] fun c st' hr => ?_
     simp only [go_sem] at hr
     obtain ⟨rfl, rfl⟩ := hr
     refine ⟨vc, ?_⟩
     replace hK := bind_s hK
     obtain ⟨y1, hy, hK⟩ := hK
     refine AWPL_callK [1, 7, 9, 16, 17, 18, 24] (W_slices_ContainsFunc_int_int Try.call62 rfl (fun _ _ hh => by simpa using W_sets_Most_1 hh) hy) rfl rfl pcT rfl Try.call61 (.cons (.atom _ rfl) (.cons (.funcOf (.cons (.ptrI _ _ _ _ _ _ rfl rfl) .nil)) .nil)) (hscG trivial) (of_decide_eq_true rfl) (by first | rfl | simp [nI, nI1, nI0]) (by first | rfl | simp [nIB, nI0]) fun st' hr => ?_
     simp only [go_sem] at hr
     subst hr
     clear hy
     refine AWPL_rn tab_ok 1 [1, 7, 9, 16, 17, 18, 25] fun c st' hr => ?_
     simp only [go_sem] at hr
     obtain ⟨rfl, rfl⟩ := hr
     refine ⟨vc, ?_⟩
     refine AWPL_nil ?_
     with_reducible refine thenC_normal ?_
     refine AWP_condP (¬ (y1 = true)) rfl bd (fun hb2 => ?_) (fun hb2 => ?_)
     ·replace hK := ite_t hK hb2
      replace hK := chk_some hK
      obtain ⟨h1, hK⟩ := hK
      refine AWP_rg tab_ok [1, 7, 16, 17, 18] fun c st' hr => ?_
      simp only [go_sem] at hr
      obtain ⟨rfl, rfl⟩ := hr
      refine ⟨vc, ?_⟩
      with_reducible refine inBlockA_normal (thenC_normal ?_)
      refine AWP_facts (by simp) fun hfx => ?_
      simp only [factS, factV, fact1, fact0, factL0, lo, hi, maxLen, and_true, true_and] at hfx
      refine AWP_rg tab_ok [1, 7, 16, 17, 18] fun c st' hr => ?_
      simp only [go_sem] at hr
      obtain ⟨rfl, rfl⟩ := hr
      refine ⟨vc, ?_⟩
      clear hfx
      refine again_n (out0 ++ [l.getD v.toNat 0], v + 1) [3] hK mkWk
     ·replace hK := ite_f hK hb2
      refine AWP_skip ?_
      with_reducible refine inBlockA_normal (thenC_normal ?_)
      refine AWP_facts (by simp) fun hfx => ?_
      simp only [factS, factV, fact1, fact0, factL0, lo, hi, maxLen, and_true, true_and] at hfx
      refine AWP_rg tab_ok [1, 7, 16, 17, 18] fun c st' hr => ?_
      simp only [go_sem] at hr
      obtain ⟨rfl, rfl⟩ := hr
      refine ⟨vc, ?_⟩
      clear hfx
      refine again_n (out0, v + 1) [0] hK mkWk
    ·replace hK := ite_f hK hb1
     refine AWP_exit ?_
     with_reducible refine thenC_exit (again_x ?_)
     refine cutX_here out0 [0] (by have hq := hpost1 _ hK; exact hq) mkWk
   ·clear hK; rintro out01 hK
    try dsimp only at hK
    refine exS ⟨32, [(7, .own 0 out01.length)], [some (.ints 3 .i64 out01)]⟩ rfl ?_
    with_reducible refine inBlockA_exit (thenC_normal ?_)
    refine AWP_seq ?_
    refine AWP_rg tab_ok [4, 5] fun c st' hr => ?_
    simp only [go_sem] at hr
    obtain ⟨rfl, rfl⟩ := hr
    refine ⟨vc, ?_⟩
    with_reducible refine thenC_normal ?_
    refine AWP_ret ?_
    cases hK
    refine EndsRW [0] (.inl rfl) (of_decide_eq_true rfl) (by simp) rfl (fun c x hr => ?_) endH
    simp only [go_sem] at hr
    obtain ⟨rfl, rfl⟩ := hr
    exact ⟨rfl, endR⟩


theorem W_sets_least_1 {t : Int} {c0 : Int} {r : Bool} (hK : sets_least_1 t c0 = some r) : Pure Try.prog 124 [.int .i64 t, .intp .i64 c0] (.bool r) [] := by
  refine Pure_introF tab_ok (n := 14) (l := [.tmp 3]) Try.func124 rfl rfl rfl (by simp) fun hfact w0 => ?_
  simp only [factL1, fact1, fact0, factL0, lo, hi, maxLen, and_true] at hfact
  unfold sets_least_1 at hK
  refine AWP_seq ?_
  refine AWP_rg tab_ok [0, 1] fun c st' hr => ?_
  simp only [go_sem] at hr
  obtain ⟨rfl, rfl⟩ := hr
  refine ⟨vc, ?_⟩
  with_reducible refine thenC_normal ?_
  refine AWP_seq ?_
  refine AWP_rg tab_ok [3] fun c st' hr => ?_
  simp only [go_sem] at hr
  obtain ⟨rfl, rfl⟩ := hr
  refine ⟨vc, ?_⟩
  with_reducible refine thenC_normal ?_
  refine AWP_ret ?_
  cases hK
  refine EndsRW [] (.inl rfl) (of_decide_eq_true rfl) (by simp) rfl (fun c x hr => ?_) trivial
  simp only [go_sem] at hr
  obtain ⟨rfl, rfl⟩ := hr
  exact ⟨rfl, endR⟩


theorem W_sets_least {l : List Int} {r : List Int} (hK : sets_least l = some r) : Pure Try.prog 63 [.ints .i64 l] (.own 0 r.length) [(.ints 3 .i64 r)] := by
  refine Pure_introF tab_ok (n := 22) (l := [.tmp 2]) Try.func63 rfl rfl rfl (by simp) fun hfact w0 => ?_
  simp only [factL1, fact1, fact0, factL0, lo, hi, maxLen, and_true] at hfact
  unfold sets_least at hK
  refine AWP_seq ?_
  refine AWP_rg tab_ok [0] fun c st' hr => ?_
  simp only [go_sem] at hr
  obtain ⟨rfl, rfl⟩ := hr
  refine ⟨vc, ?_⟩
  with_reducible refine thenC_normal ?_
  refine AWP_seq ?_
  refine AWP_rg tab_ok [0, 3] fun c st' hr => ?_
  simp only [go_sem] at hr
  obtain ⟨rfl, rfl⟩ := hr
  refine ⟨vc, ?_⟩
  with_reducible refine thenC_normal ?_
  refine AWP_own 3 (.ints 3 .i64 []) rfl rfl fun st' hr => ?_
  simp only [go_sem] at hr
  subst hr
  refine AWP_seq ?_
  refine AWP_seq ?_
  refine AWP_rg tab_ok [0, 3, 6, 7, 8] fun c st' hr => ?_
  simp only [go_sem] at hr
  obtain ⟨rfl, rfl⟩ := hr
  refine ⟨vc, ?_⟩
  with_reducible refine thenC_normal ?_
  refine AWP_block ?_
  refine AWP_loopX 0 (fun ((out0, v) : List Int × Int) => ⟨22, [(0, .ints .i64 l), (3, .own 0 out0.length), (6, .ints .i64 l), (7, .int .i64 (l.length : Int)), (8, .int .i64 v)], [some (.ints 3 .i64 out0)]⟩) (fun (out01 : List Int) => ⟨22, [(3, .own 0 out01.length)], [some (.ints 3 .i64 out01)]⟩) (fun v => v) ([], 0) [0] hK mkWk ?_ ?_
  ·clear hK; rintro ⟨out0, v⟩ b hK hpost1
   try dsimp only at hK
   change AWP _ _ _ _ ⟨22, [(0, .ints .i64 l), (3, .own 0 out0.length), (6, .ints .i64 l), (7, .int .i64 (l.length : Int)), (8, .int .i64 v)], [some (.ints 3 .i64 out0)]⟩
   refine AWP_seq ?_
   refine AWP_rg tab_ok [0, 3, 6, 7, 8, 9] fun c st' hr => ?_
   simp only [go_sem] at hr
   obtain ⟨rfl, rfl⟩ := hr
   refine ⟨vc, ?_⟩
   with_reducible refine thenC_normal ?_
   refine AWP_seq ?_
   refine AWP_condP (v < (l.length : Int)) rfl bd (fun hb => ?_) (fun hb => ?_)
   ·replace hK := ite_t hK hb
    refine AWP_skip ?_
    with_reducible refine thenC_normal ?_
    refine AWP_seq ?_
    refine AWP_block ?_
    refine AWP_seq ?_
    replace hK := chk_some hK
    obtain ⟨h, hK⟩ := hK
    refine AWP_rg tab_ok [0, 3, 5, 6, 7, 8] fun c st' hr => ?_
    simp only [go_sem] at hr
    obtain ⟨rfl, rfl⟩ := hr
    refine ⟨vc, ?_⟩
    with_reducible refine thenC_normal ?_
    refine AWP_seq ?_
    refine AWP_rl ?_
    refine AWPL_rn tab_ok 2 [0, 3, 5, 6, 7, 8, 12, 13] fun c st' hr => ?_
    simp only [go_sem] at hr
    obtain ⟨rfl, rfl⟩ := hr
    refine ⟨vc, ?_⟩
    replace hK := bind_s hK
    obtain ⟨y, hy, hK⟩ := hK
    refine AWPL_callK [0, 3, 5, 6, 7, 8, 14] (W_slices_ContainsFunc_int_int Try.call124 rfl (fun _ _ hh => by simpa using W_sets_least_1 hh) hy) rfl rfl pcT rfl Try.call61 (.cons (.atom _ rfl) (.cons (.funcOf (.cons (.ptrI _ _ _ _ _ _ rfl rfl) .nil)) .nil)) (hscG trivial) (of_decide_eq_true rfl) (by first | rfl | simp [nI, nI1, nI0]) (by first | rfl | simp [nIB, nI0]) fun st' hr => ?_
    simp only [go_sem] at hr
    subst hr
    clear hy
    refine AWPL_rn tab_ok 1 [0, 3, 5, 6, 7, 8, 15] fun c st' hr => ?_
    simp only [go_sem] at hr
    obtain ⟨rfl, rfl⟩ := hr
    refine ⟨vc, ?_⟩
    refine AWPL_nil ?_
    with_reducible refine thenC_normal ?_
    refine AWP_condP (¬ (y = true)) rfl bd (fun hb1 => ?_) (fun hb1 => ?_)
    ·replace hK := ite_t hK hb1
     replace hK := chk_some hK
     obtain ⟨h1, hK⟩ := hK
     refine AWP_rg tab_ok [0, 3, 6, 7, 8] fun c st' hr => ?_
     simp only [go_sem] at hr
     obtain ⟨rfl, rfl⟩ := hr
     refine ⟨vc, ?_⟩
     with_reducible refine inBlockA_normal (thenC_normal ?_)
     refine AWP_facts (by simp) fun hfx => ?_
     simp only [factS, factV, fact1, fact0, factL0, lo, hi, maxLen, and_true, true_and] at hfx
     refine AWP_rg tab_ok [0, 3, 6, 7, 8] fun c st' hr => ?_
     simp only [go_sem] at hr
     obtain ⟨rfl, rfl⟩ := hr
     refine ⟨vc, ?_⟩
     clear hfx
     refine again_n (out0 ++ [l.getD v.toNat 0], v + 1) [3] hK mkWk
    ·replace hK := ite_f hK hb1
     refine AWP_skip ?_
     with_reducible refine inBlockA_normal (thenC_normal ?_)
     refine AWP_facts (by simp) fun hfx => ?_
     simp only [factS, factV, fact1, fact0, factL0, lo, hi, maxLen, and_true, true_and] at hfx
     refine AWP_rg tab_ok [0, 3, 6, 7, 8] fun c st' hr => ?_
     simp only [go_sem] at hr
     obtain ⟨rfl, rfl⟩ := hr
     refine ⟨vc, ?_⟩
     clear hfx
     refine again_n (out0, v + 1) [0] hK mkWk
   ·replace hK := ite_f hK hb
    refine AWP_exit ?_
    with_reducible refine thenC_exit (again_x ?_)
    refine cutX_here out0 [0] (by have hq := hpost1 _ hK; exact hq) mkWk
  ·clear hK; rintro out01 hK
   try dsimp only at hK
   refine exS ⟨22, [(3, .own 0 out01.length)], [some (.ints 3 .i64 out01)]⟩ rfl ?_
   with_reducible refine inBlockA_exit (thenC_normal ?_)
   refine AWP_seq ?_
   refine AWP_rg tab_ok [2] fun c st' hr => ?_
   simp only [go_sem] at hr
   obtain ⟨rfl, rfl⟩ := hr
   refine ⟨vc, ?_⟩
   with_reducible refine thenC_normal ?_
   refine AWP_ret ?_
   cases hK
   refine EndsRW [0] (.inl rfl) (of_decide_eq_true rfl) (by simp) rfl (fun c x hr => ?_) endH
   simp only [go_sem] at hr
   obtain ⟨rfl, rfl⟩ := hr
   exact ⟨rfl, endR⟩


theorem W_sets_Least {n : Int} {l : List Int} {r : List Int × Int} (hK : sets_Least n l = some r) : Pure Try.prog 15 [.int .i64 n, .ints .i64 l] (.tup [.own 0 r.1.length, .int .i64 r.2]) [(.ints 3 .i64 r.1)] := by
  refine Pure_introF tab_ok (n := 15) (l := [.tmp 4, .tmp 5]) Try.func15 rfl rfl rfl (by simp) fun hfact w0 => ?_
  simp only [factL1, fact1, fact0, factL0, lo, hi, maxLen, and_true] at hfact
  unfold sets_Least at hK
  refine AWP_seq ?_
  refine AWP_rg tab_ok [0, 1] fun c st' hr => ?_
  simp only [go_sem] at hr
  obtain ⟨rfl, rfl⟩ := hr
  refine ⟨vc, ?_⟩
  with_reducible refine thenC_normal ?_
  refine AWP_seq ?_
  refine AWP_seq ?_
  refine AWP_rl ?_
  refine AWPL_rn tab_ok 2 [1, 7, 8] fun c st' hr => ?_
  simp only [go_sem] at hr
  obtain ⟨rfl, rfl⟩ := hr
  refine ⟨vc, ?_⟩
  replace hK := bind_s hK
  obtain ⟨y, hy, hK⟩ := hK
  refine AWPL_callK [1, 9] (W_sets_Family hy) rfl rfl pcT rfl Try.call60 (.cons (.atom _ rfl) (.cons (.atom _ rfl) .nil)) (hscG trivial) (of_decide_eq_true rfl) (by first | rfl | simp [nI, nI1, nI0]) (by first | rfl | simp [nIB, nI0]) fun st' hr => ?_
  simp only [go_sem] at hr
  subst hr
  clear hy
  refine AWPL_rn tab_ok 1 [1, 6] fun c st' hr => ?_
  simp only [go_sem] at hr
  obtain ⟨rfl, rfl⟩ := hr
  refine ⟨vc, ?_⟩
  refine AWPL_nil ?_
  with_reducible refine thenC_normal ?_
  refine AWP_seq ?_
  refine AWP_rg tab_ok [1, 6, 11] fun c st' hr => ?_
  simp only [go_sem] at hr
  obtain ⟨rfl, rfl⟩ := hr
  refine ⟨vc, ?_⟩
  with_reducible refine thenC_normal ?_
  refine AWP_condP (y ≠ 0) rfl bd (fun hb => ?_) (fun hb => ?_)
  ·replace hK := ite_t hK hb
   refine AWP_seq ?_
   refine AWP_rg tab_ok [4, 5] fun c st' hr => ?_
   simp only [go_sem] at hr
   obtain ⟨rfl, rfl⟩ := hr
   refine ⟨vc, ?_⟩
   with_reducible refine thenC_normal ?_
   refine AWP_own 4 (.ints 3 .i64 []) rfl rfl fun st' hr => ?_
   simp only [go_sem] at hr
   subst hr
   refine AWP_ret ?_
   with_reducible refine thenC_ret ?_
   cases hK
   refine EndsRW [0] (.inl rfl) (of_decide_eq_true rfl) (by simp) rfl (fun c x hr => ?_) endH
   simp only [go_sem] at hr
   obtain ⟨rfl, rfl⟩ := hr
   exact ⟨rfl, endR⟩
  ·replace hK := ite_f hK hb
   refine AWP_skip ?_
   with_reducible refine thenC_normal ?_
   refine AWP_seq ?_
   refine AWP_rl ?_
   refine AWPL_rn tab_ok 1 [13] fun c st' hr => ?_
   simp only [go_sem] at hr
   obtain ⟨rfl, rfl⟩ := hr
   refine ⟨vc, ?_⟩
   replace hK := bind_s hK
   obtain ⟨y1, hy, hK⟩ := hK
   refine AWPL_callK [14] (W_sets_least hy) rfl rfl pcT rfl Try.call63 (.cons (.atom _ rfl) .nil) (hscG trivial) (of_decide_eq_true rfl) (by first | rfl | simp [nI, nI1, nI0]) (by first | rfl | simp [nIB, nI0]) fun st' hr => ?_
   simp only [go_sem] at hr
   subst hr
   clear hy
   refine AWPL_rn tab_ok 2 [4, 5] fun c st' hr => ?_
   simp only [go_sem] at hr
   obtain ⟨rfl, rfl⟩ := hr
   refine ⟨vc, ?_⟩
   refine AWPL_nil ?_
   with_reducible refine thenC_normal ?_
   refine AWP_ret ?_
   cases hK
   refine EndsRW [0] (.inl rfl) (of_decide_eq_true rfl) (by simp) rfl (fun c x hr => ?_) endH
   simp only [go_sem] at hr
   obtain ⟨rfl, rfl⟩ := hr
   exact ⟨rfl, endR⟩

end Go.SH
