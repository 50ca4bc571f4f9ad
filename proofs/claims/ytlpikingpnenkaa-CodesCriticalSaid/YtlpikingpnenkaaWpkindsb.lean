/-
  That the code computes these functions: kinds_size, kinds_greatest. By a program of mine (shal.py). Conditions: none.
-/
import Derived.Test.YtlpikingpnenkaaAxT
import Derived.Test.YtlpikingpnenkaaAxR
import Derived.Test.YtlpikingpnenkaaSp
import Derived.Test.YtlpikingpnenkaaWpbits
set_option linter.unusedVariables false
set_option linter.unusedSimpArgs false
set_option maxRecDepth 8000
set_option maxHeartbeats 4000000
namespace Go.SH
open Go Go.AX Go.AX.Try Go.Proofs


theorem W_kinds_size {s : Int} {r : Int} (hK : kinds_size s = some r) : Pure Try.prog 88 [.int .i64 s] (.int .i64 r) [] := by
  refine Pure_introF tab_ok (n := 6) (l := [.tmp 2]) Try.func88 rfl rfl rfl (by simp) fun hfact w0 => ?_
  simp only [factL1, fact1, fact0, factL0, lo, hi, maxLen, and_true] at hfact
  unfold kinds_size at hK
  refine AWP_seq ?_
  refine AWP_rg tab_ok [0] fun c st' hr => ?_
  simp only [go_sem] at hr
  obtain ⟨rfl, rfl⟩ := hr
  refine ⟨vc, ?_⟩
  with_reducible refine thenC_normal ?_
  refine AWP_seq ?_
  refine AWP_rl ?_
  replace hK := chk_some hK
  obtain ⟨h, hK⟩ := hK
  refine AWPL_rn tab_ok 2 [4] fun c st' hr => ?_
  simp only [go_sem] at hr
  obtain ⟨rfl, rfl⟩ := hr
  refine ⟨vc, ?_⟩
  replace hK := bind_s hK
  obtain ⟨y, hy, hK⟩ := hK
  refine AWPL_callK [5] (W_bits_OnesCount hy) rfl rfl pcT rfl Try.call135 (.cons (.atom _ rfl) .nil) (hscG trivial) (of_decide_eq_true rfl) (by first | rfl | simp [nI, nI1, nI0]) (by first | rfl | simp [nIB, nI0]) fun st' hr => ?_
  simp only [go_sem] at hr
  subst hr
  clear hy
  refine AWPL_rn tab_ok 1 [2] fun c st' hr => ?_
  simp only [go_sem] at hr
  obtain ⟨rfl, rfl⟩ := hr
  refine ⟨vc, ?_⟩
  refine AWPL_nil ?_
  with_reducible refine thenC_normal ?_
  refine AWP_ret ?_
  cases hK
  refine EndsRW [] (.inl rfl) (of_decide_eq_true rfl) (by simp) rfl (fun c x hr => ?_) trivial
  simp only [go_sem] at hr
  obtain ⟨rfl, rfl⟩ := hr
  exact ⟨rfl, endR⟩


theorem W_kinds_greatest {n : Int} {independent : Int → Option (Bool)} {independentP : Nat} {independentC : List AVal} (hindependentf : ∀ args w, (callFunc independentP args).run Try.prog w = .ok (.enter independentP args) w) (hindependenta : independentC.all atomB = true) (hindependent : ∀ x0 r, independent x0 = some r → Pure Try.prog independentP ([.int .i64 x0] ++ independentC) (.bool r) []) {r : Int × List Int} (hK : kinds_greatest n independent = some r) : Pure Try.prog 85 [.int .i64 n, .func independentP independentC] (.agg [.int .i64 r.1, .own 0 r.2.length]) [(.ints 3 .i64 r.2)] := by
  refine Pure_introF tab_ok (n := 40) (l := [.cell 4 56]) Try.func85 rfl rfl rfl (by simp) fun hfact w0 => ?_
  have hindependentr : ∀ ρ, List.map (ren0 ρ) independentC = independentC := fun ρ => ren_atoms ρ hindependenta
  simp only [factL1, fact1, fact0, factL0, lo, hi, maxLen, and_true] at hfact
  unfold kinds_greatest at hK
  refine AWP_seq ?_
  refine AWP_rg tab_ok [0, 1, 4] fun c st' hr => ?_
  simp only [go_sem] at hr
  obtain ⟨rfl, rfl⟩ := hr
  refine ⟨vc, ?_⟩
  with_reducible refine thenC_normal ?_
  refine AWP_ownH 0 1 (.ints 3 .i64 []) rfl rfl rfl fun st' hr => ?_
  simp only [go_sem] at hr
  subst hr
  refine AWP_seq ?_
  refine AWP_rg tab_ok [0, 1, 4, 5] fun c st' hr => ?_
  simp only [go_sem] at hr
  obtain ⟨rfl, rfl⟩ := hr
  refine ⟨vc, ?_⟩
  with_reducible refine thenC_normal ?_
  refine AWP_ownH 2 1 (.ints 3 .i64 []) rfl rfl rfl fun st' hr => ?_
  simp only [go_sem] at hr
  subst hr
  refine AWP_seq ?_
  refine AWP_rg tab_ok [0, 1, 4, 5, 6] fun c st' hr => ?_
  simp only [go_sem] at hr
  obtain ⟨rfl, rfl⟩ := hr
  refine ⟨vc, ?_⟩
  with_reducible refine thenC_normal ?_
  refine AWP_seq ?_
  refine AWP_seq ?_
  replace hK := chk_some hK
  obtain ⟨h, hK⟩ := hK
  refine AWP_rg tab_ok [1, 4, 5, 6, 11, 12] fun c st' hr => ?_
  simp only [go_sem] at hr
  obtain ⟨rfl, rfl⟩ := hr
  refine ⟨vc, ?_⟩
  with_reducible refine thenC_normal ?_
  refine AWP_block ?_
  refine AWP_loopX 0 (fun ((m, most, v) : List Int × Int × Int) => ⟨40, [(1, .func independentP independentC), (4, .ptr 0 0 0), (5, .ptr 2 0 0), (6, .int .i64 most), (11, .int .i64 (2 ^ n.toNat : Int)), (12, .int .i64 v)], [some (.gen 56 2 [[.int .i64 0, .own 1 0]]), some (.ints 3 .i64 []), some (.gen 56 2 [[.int .i64 n, .own 3 m.length]]), some (.ints 3 .i64 m)]⟩) (fun (m1 : List Int) => ⟨40, [(4, .ptr 0 0 0), (5, .ptr 2 0 0)], [some (.gen 56 2 [[.int .i64 0, .own 1 0]]), some (.ints 3 .i64 []), some (.gen 56 2 [[.int .i64 n, .own 3 m1.length]]), some (.ints 3 .i64 m1)]⟩) (fun v => v) ([], (-1), 0) [0, 1, 2, 3] hK mkWk ?_ ?_
  ·clear hK; rintro ⟨m, most, v⟩ b hK hpost1
   try dsimp only at hK
   change AWP _ _ _ _ ⟨40, [(1, .func independentP independentC), (4, .ptr 0 0 0), (5, .ptr 2 0 0), (6, .int .i64 most), (11, .int .i64 (2 ^ n.toNat : Int)), (12, .int .i64 v)], [some (.gen 56 2 [[.int .i64 0, .own 1 0]]), some (.ints 3 .i64 []), some (.gen 56 2 [[.int .i64 n, .own 3 m.length]]), some (.ints 3 .i64 m)]⟩
   refine AWP_seq ?_
   refine AWP_rg tab_ok [1, 4, 5, 6, 11, 12, 13] fun c st' hr => ?_
   simp only [go_sem] at hr
   obtain ⟨rfl, rfl⟩ := hr
   refine ⟨vc, ?_⟩
   with_reducible refine thenC_normal ?_
   refine AWP_seq ?_
   refine AWP_condP (v < (2 ^ n.toNat : Int)) rfl bd (fun hb => ?_) (fun hb => ?_)
   ·replace hK := ite_t hK hb
    refine AWP_skip ?_
    with_reducible refine thenC_normal ?_
    refine AWP_seq ?_
    refine AWP_block ?_
    refine AWP_seq ?_
    refine AWP_rg tab_ok [1, 4, 5, 6, 7, 11, 12] fun c st' hr => ?_
    simp only [go_sem] at hr
    obtain ⟨rfl, rfl⟩ := hr
    refine ⟨vc, ?_⟩
    with_reducible refine thenC_normal ?_
    refine AWP_seq ?_
    refine AWP_seq ?_
    refine AWP_rl ?_
    refine AWPL_rn tab_ok 1 [1, 4, 5, 6, 7, 11, 12, 15] fun c st' hr => ?_
    simp only [go_sem] at hr
    obtain ⟨rfl, rfl⟩ := hr
    refine ⟨vc, ?_⟩
    replace hK := bind_s hK
    obtain ⟨y, hy, hK⟩ := hK
    refine AWPL_callK [1, 4, 5, 6, 7, 11, 12, 16] (W_kinds_size hy) rfl rfl pcT rfl Try.call88 (.cons (.atom _ rfl) .nil) (hscG trivial) (of_decide_eq_true rfl) (by first | rfl | simp [nI, nI1, nI0]) (by first | rfl | simp [nIB, nI0]) fun st' hr => ?_
    simp only [go_sem] at hr
    subst hr
    clear hy
    refine AWPL_rn tab_ok 5 [1, 4, 5, 6, 7, 11, 12, 19, 20, 21] fun c st' hr => ?_
    simp only [go_sem] at hr
    obtain ⟨rfl, rfl⟩ := hr
    refine ⟨vc, ?_⟩
    by_cases hg : ¬ (y < most)
    ·replace hK := ite_t hK hg
     refine AWPL_stP [(1, .func independentP independentC), (4, .ptr 0 0 0), (5, .ptr 2 0 0), (6, .int .i64 most), (7, .int .i64 v), (11, .int .i64 (2 ^ n.toNat : Int)), (12, .int .i64 v), (19, .bool false), (20, .opt true (.func independentP independentC)), (21, .opt true (.int .i64 v))] (by first | (simp [SameS, AX.look, hg]; done) | (simp at hg ⊢; simp [SameS, AX.look, hg]; done) | (simp_all [SameS, AX.look]; done)) ?_
     refine AWPL_unopt 20 (.func independentP independentC) rfl fun st' hr => ?_
     simp only [go_sem] at hr
     subst hr
     replace hK := bind_s hK
     obtain ⟨y1, hy, hK⟩ := hK
     refine AWPL_callK [1, 4, 5, 6, 7, 11, 12, 19, 22] (hindependent _ _ hy) rfl rfl pcT rfl hindependentf (.app (.cons (.atom _ rfl) .nil) (.refl hindependenta)) (hscG trivial) (of_decide_eq_true rfl) (by first | rfl | simp [nI, nI1, nI0]) (by first | rfl | simp [nIB, nI0]) fun st' hr => ?_
     simp only [go_sem] at hr
     subst hr
     clear hy
     refine AWPL_rn tab_ok 2 [1, 4, 5, 6, 7, 11, 12, 24] fun c st' hr => ?_
     simp only [go_sem] at hr
     obtain ⟨rfl, rfl⟩ := hr
     refine ⟨vc, ?_⟩
     refine AWPL_nil ?_
     with_reducible refine thenC_normal ?_
     refine AWP_condP (¬ (y1 = true)) rfl bd (fun hb1 => ?_) (fun hb1 => ?_)
     ·replace hK := ite_t hK hb1
      refine AWP_exit ?_
      with_reducible refine thenC_exit (inBlockA_exit (thenC_normal ?_))
      refine AWP_facts (by simp) fun hfx => ?_
      simp only [factS, factV, fact1, fact0, factL0, lo, hi, maxLen, and_true, true_and] at hfx
      refine AWP_rg tab_ok [1, 4, 5, 6, 11, 12] fun c st' hr => ?_
      simp only [go_sem] at hr
      obtain ⟨rfl, rfl⟩ := hr
      refine ⟨vc, ?_⟩
      clear hfx
      refine again_n (m, most, v + 1) [0, 1, 2, 3] hK mkWk
     ·replace hK := ite_f hK hb1
      refine AWP_skip ?_
      with_reducible refine thenC_normal ?_
      refine AWP_seq ?_
      refine AWP_seq ?_
      refine AWP_rl ?_
      refine AWPL_rn tab_ok 1 [1, 4, 5, 6, 7, 11, 12, 25] fun c st' hr => ?_
      simp only [go_sem] at hr
      obtain ⟨rfl, rfl⟩ := hr
      refine ⟨vc, ?_⟩
      replace hK := bind_s hK
      obtain ⟨y2, hy, hK⟩ := hK
      refine AWPL_callK [1, 4, 5, 6, 7, 11, 12, 26] (W_kinds_size hy) rfl rfl pcT rfl Try.call88 (.cons (.atom _ rfl) .nil) (hscG trivial) (of_decide_eq_true rfl) (by first | rfl | simp [nI, nI1, nI0]) (by first | rfl | simp [nIB, nI0]) fun st' hr => ?_
      simp only [go_sem] at hr
      subst hr
      clear hy
      refine AWPL_rn tab_ok 2 [1, 4, 5, 6, 7, 11, 12, 28] fun c st' hr => ?_
      simp only [go_sem] at hr
      obtain ⟨rfl, rfl⟩ := hr
      refine ⟨vc, ?_⟩
      refine AWPL_nil ?_
      with_reducible refine thenC_normal ?_
      refine AWP_condP (most < y2) rfl bd (fun hb2 => ?_) (fun hb2 => ?_)
      ·replace hK := ite_t hK hb2
       refine AWP_rl ?_
       refine AWPL_rn tab_ok 1 [1, 4, 5, 7, 11, 12, 29] fun c st' hr => ?_
       simp only [go_sem] at hr
       obtain ⟨rfl, rfl⟩ := hr
       refine ⟨vc, ?_⟩
       replace hK := bind_s hK
       obtain ⟨y3, hy, hK⟩ := hK
       refine AWPL_callK [1, 4, 5, 7, 11, 12, 30] (W_kinds_size hy) rfl rfl pcT rfl Try.call88 (.cons (.atom _ rfl) .nil) (hscG trivial) (of_decide_eq_true rfl) (by first | rfl | simp [nI, nI1, nI0]) (by first | rfl | simp [nIB, nI0]) fun st' hr => ?_
       simp only [go_sem] at hr
       subst hr
       clear hy
       refine AWPL_rn tab_ok 3 [1, 4, 5, 6, 7, 11, 12] fun c st' hr => ?_
       simp only [go_sem] at hr
       obtain ⟨rfl, rfl⟩ := hr
       refine ⟨vc, ?_⟩
       refine AWPL_nil ?_
       with_reducible refine thenC_normal ?_
       refine AWP_ownH 2 1 (.ints 3 .i64 []) rfl rfl rfl fun st' hr => ?_
       simp only [go_sem] at hr
       subst hr
       replace hK := chk_some hK
       obtain ⟨h1, hK⟩ := hK
       refine AWP_rg tab_ok [1, 4, 5, 6, 11, 12] fun c st' hr => ?_
       simp only [go_sem] at hr
       obtain ⟨rfl, rfl⟩ := hr
       refine ⟨vc, ?_⟩
       with_reducible refine inBlockA_normal (thenC_normal ?_)
       refine AWP_facts (by simp) fun hfx => ?_
       simp only [factS, factV, fact1, fact0, factL0, lo, hi, maxLen, and_true, true_and] at hfx
       refine AWP_rg tab_ok [1, 4, 5, 6, 11, 12] fun c st' hr => ?_
       simp only [go_sem] at hr
       obtain ⟨rfl, rfl⟩ := hr
       refine ⟨vc, ?_⟩
       clear hfx
       refine again_n ([v], y3, v + 1) [0, 1, 2, 6] hK mkWk
      ·replace hK := ite_f hK hb2
       refine AWP_skip ?_
       with_reducible refine thenC_normal ?_
       replace hK := chk_some hK
       obtain ⟨h2, hK⟩ := hK
       refine AWP_rg tab_ok [1, 4, 5, 6, 11, 12] fun c st' hr => ?_
       simp only [go_sem] at hr
       obtain ⟨rfl, rfl⟩ := hr
       refine ⟨vc, ?_⟩
       with_reducible refine inBlockA_normal (thenC_normal ?_)
       refine AWP_facts (by simp) fun hfx => ?_
       simp only [factS, factV, fact1, fact0, factL0, lo, hi, maxLen, and_true, true_and] at hfx
       refine AWP_rg tab_ok [1, 4, 5, 6, 11, 12] fun c st' hr => ?_
       simp only [go_sem] at hr
       obtain ⟨rfl, rfl⟩ := hr
       refine ⟨vc, ?_⟩
       clear hfx
       refine again_n (m ++ [v], most, v + 1) [0, 1, 2, 5] hK mkWk
    ·replace hK := ite_f hK hg
     refine AWPL_stP [(1, .func independentP independentC), (4, .ptr 0 0 0), (5, .ptr 2 0 0), (6, .int .i64 most), (7, .int .i64 v), (11, .int .i64 (2 ^ n.toNat : Int)), (12, .int .i64 v), (19, .bool true), (20, .opt false (.func independentP independentC)), (21, .opt false (.int .i64 v))] (by first | (simp [SameS, AX.look, hg]; done) | (simp at hg ⊢; simp [SameS, AX.look, hg]; done) | (simp_all [SameS, AX.look]; done)) ?_
     refine AWPL_skipV [1, 4, 5, 6, 7, 11, 12, 19, 22] (.bool false) rfl pcF (of_decide_eq_true rfl) fun st' hr => ?_
     simp only [go_sem] at hr
     subst hr
     refine AWPL_rn tab_ok 2 [1, 4, 5, 6, 7, 11, 12, 24] fun c st' hr => ?_
     simp only [go_sem] at hr
     obtain ⟨rfl, rfl⟩ := hr
     refine ⟨vc, ?_⟩
     refine AWPL_nil ?_
     with_reducible refine thenC_normal ?_
     refine AWP_condP (True) rfl bd (fun hb3 => ?_) (fun hb3 => ?_)
     rotate_left 1
     ·exact absurd trivial hb3
     clear hb3
     refine AWP_exit ?_
     with_reducible refine thenC_exit (inBlockA_exit (thenC_normal ?_))
     refine AWP_facts (by simp) fun hfx => ?_
     simp only [factS, factV, fact1, fact0, factL0, lo, hi, maxLen, and_true, true_and] at hfx
     refine AWP_rg tab_ok [1, 4, 5, 6, 11, 12] fun c st' hr => ?_
     simp only [go_sem] at hr
     obtain ⟨rfl, rfl⟩ := hr
     refine ⟨vc, ?_⟩
     clear hfx
     refine again_n (m, most, v + 1) [0, 1, 2, 3] hK mkWk
   ·replace hK := ite_f hK hb
    refine AWP_exit ?_
    with_reducible refine thenC_exit (again_x ?_)
    refine cutX_here m [0, 1, 2, 3] (by have hq := hpost1 _ hK; exact hq) mkWk
  ·clear hK; rintro m1 hK
   try dsimp only at hK
   refine exS ⟨40, [(4, .ptr 0 0 0), (5, .ptr 2 0 0)], [some (.gen 56 2 [[.int .i64 0, .own 1 0]]), some (.ints 3 .i64 []), some (.gen 56 2 [[.int .i64 n, .own 3 m1.length]]), some (.ints 3 .i64 m1)]⟩ rfl ?_
   with_reducible refine inBlockA_exit (thenC_normal ?_)
   refine AWP_seq ?_
   refine AWP_rg tab_ok [4] fun c st' hr => ?_
   simp only [go_sem] at hr
   obtain ⟨rfl, rfl⟩ := hr
   refine ⟨vc, ?_⟩
   with_reducible refine thenC_normal ?_
   refine AWP_ret ?_
   cases hK
   refine EndsRW [3] (.inl rfl) (of_decide_eq_true rfl) (by simp) rfl (fun c x hr => ?_) endH
   simp only [go_sem] at hr
   obtain ⟨rfl, rfl⟩ := hr
   exact ⟨rfl, endR⟩

end Go.SH
