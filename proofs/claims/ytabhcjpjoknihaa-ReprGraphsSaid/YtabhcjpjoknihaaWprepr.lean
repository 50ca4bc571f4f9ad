/-
  That the code computes these functions: repr_search_from, repr_Represent, repr_uniform, repr_has, repr_Regular. By a program of mine (shal.py). Conditions: none.
-/
import Derived.Test.YtabhcjpjoknihaaAxT
import Derived.Test.YtabhcjpjoknihaaAxR
import Derived.Test.YtabhcjpjoknihaaAxFj
import Derived.Test.YtabhcjpjoknihaaAxRx
import Derived.Test.YtabhcjpjoknihaaAxUn
import Derived.Test.YtabhcjpjoknihaaAxOp
import Derived.Test.YtabhcjpjoknihaaAxJm
import Derived.Test.YtabhcjpjoknihaaAxW
import Derived.Test.YtabhcjpjoknihaaSp
import Derived.Test.YtabhcjpjoknihaaWpaxioms
import Derived.Test.YtabhcjpjoknihaaWpkinds
import Derived.Test.YtabhcjpjoknihaaWpkindsu
import Derived.Test.YtabhcjpjoknihaaWpminors
import Derived.Test.YtabhcjpjoknihaaWpsame
set_option linter.unusedVariables false
set_option linter.unusedSimpArgs false
namespace Go.SH
open Go Go.AX Go.AX.Try Go.Proofs

set_option maxRecDepth 8000 in
set_option maxHeartbeats 4000000 in
theorem W_repr_search_from {s_0 : Int} {s_1 : List Int} {s_2 : List Int} {s_3 : Int} {s_4 : Int} {s_5 : List (List Int)} {s_6 : List Int} {s_7 : List Int} {a1 : Int} {a2 : Int} {a3 : Int} {r : Bool} (hK : repr_search_from s_0 s_1 s_2 s_3 s_4 s_5 s_6 s_7 a1 a2 a3 = some r) : Pure Try.prog 124 [.immp [.int .i64 s_0, .ints .i64 s_1, .ints .i64 s_2, .int .i64 s_3, .int .i64 s_4, .fn 1 s_5.length (fun i => [.ints .i64 (s_5.getD i [])]), .ints .i64 s_6, .ints .i64 s_7], .int .i64 a1, .int .i64 a2, .int .i64 a3] (.bool r) [] := by
  refine Pure_introF tab_ok (n := 129) (l := [.tmp 8]) Try.func124 rfl rfl rfl (by simp) fun hfact w0 => ?_
  simp only [factL1, fact1, fact0, factL0, lo, hi, maxLen, and_true] at hfact
  unfold repr_search_from at hK
  refine AWP_seq ?_
  refine AWP_rg tab_ok [0, 1, 2, 3] fun c st' hr => ?_
  simp only [go_sem, reduceIte, reduceCtorEq, Nat.reduceEqDiff, Nat.reduceLT, Nat.reduceLeDiff, Nat.reduceBEq, Nat.reduceAdd, Int.reduceLE, Int.reduceLT] at hr
  obtain ⟨rfl, rfl⟩ := hr
  refine ⟨vc, ?_⟩
  with_reducible refine thenC_normal ?_
  refine AWP_seq ?_
  refine AWP_seq ?_
  refine AWP_rg tab_ok [0, 1, 2, 3, 18] fun c st' hr => ?_
  simp only [go_sem, reduceIte, reduceCtorEq, Nat.reduceEqDiff, Nat.reduceLT, Nat.reduceLeDiff, Nat.reduceBEq, Nat.reduceAdd, Int.reduceLE, Int.reduceLT] at hr
  obtain ⟨rfl, rfl⟩ := hr
  refine ⟨vc, ?_⟩
  with_reducible refine thenC_normal ?_
  refine AWP_condP (a1 = (s_7.length : Int)) rfl bd (fun hb => ?_) (fun hb => ?_)
  · replace hK := ite_t hK hb
    refine AWP_seq ?_
    refine AWP_rg tab_ok [8] fun c st' hr => ?_
    simp only [go_sem, reduceIte, reduceCtorEq, Nat.reduceEqDiff, Nat.reduceLT, Nat.reduceLeDiff, Nat.reduceBEq, Nat.reduceAdd, Int.reduceLE, Int.reduceLT] at hr
    obtain ⟨rfl, rfl⟩ := hr
    refine ⟨vc, ?_⟩
    with_reducible refine thenC_normal ?_
    refine AWP_ret ?_
    with_reducible refine thenC_ret ?_
    cases hK
    refine EndsRW [] (.inl rfl) (of_decide_eq_true rfl) (by simp) rfl (fun c x hr => ?_) trivial
    simp only [go_sem, reduceIte, reduceCtorEq, Nat.reduceEqDiff, Nat.reduceLT, Nat.reduceLeDiff, Nat.reduceBEq, Nat.reduceAdd, Int.reduceLE, Int.reduceLT] at hr
    obtain ⟨rfl, rfl⟩ := hr
    exact ⟨rfl, endR⟩
  · replace hK := ite_f hK hb
    refine AWP_skip ?_
    with_reducible refine thenC_normal ?_
    refine AWP_seq ?_
    cases hK

set_option maxRecDepth 8000 in
set_option maxHeartbeats 4000000 in
theorem W_repr_Represent {m_0 : Int} {m_1 : List Int} {a1 : Int} {r : Int × Int × List (List Int) × Int} (hK : repr_Represent m_0 m_1 a1 = some r) : Pure Try.prog 57 [.agg [.int .i64 m_0, .ints .i64 m_1], .int .i64 a1] (.tup [.agg [.int .i64 r.1, .int .i64 r.2.1, .own 0 r.2.2.1.length], .int .i64 r.2.2.2]) [(.outs 35 1 r.2.2.1.length idO (lenO r.2.2.1)), (.rows 3 .i64 r.2.2.1)] := by
  refine Pure_introF tab_ok (n := 110) (l := [.cell 4 41, .tmp 5]) Try.func57 rfl rfl rfl (by simp) fun hfact w0 => ?_
  simp only [factL1, fact1, fact0, factL0, lo, hi, maxLen, and_true] at hfact
  unfold repr_Represent at hK
  refine AWP_seq ?_
  refine AWP_rg tab_ok [1, 2, 4] fun c st' hr => ?_
  simp only [go_sem, reduceIte, reduceCtorEq, Nat.reduceEqDiff, Nat.reduceLT, Nat.reduceLeDiff, Nat.reduceBEq, Nat.reduceAdd, Int.reduceLE, Int.reduceLT, idO_app, lenO_app, lenO_app2, lenO_eta] at hr
  obtain ⟨rfl, rfl⟩ := hr
  refine ⟨vc, ?_⟩
  with_reducible refine thenC_normal ?_
  refine AWP_gs' (gs_rows0 3 .i64) fun st' hr => ?_
  simp only [go_sem, reduceIte, reduceCtorEq, Nat.reduceEqDiff, Nat.reduceLT, Nat.reduceLeDiff, Nat.reduceBEq, Nat.reduceAdd, Int.reduceLE, Int.reduceLT, idO_app, lenO_app, lenO_app2, lenO_eta, List.cons_append, List.nil_append] at hr
  subst hr
  refine AWP_ownH 1 2 (.outs 35 2 0 idO (lenO [])) rfl rfl rfl fun st' hr => ?_
  simp only [go_sem, reduceIte, reduceCtorEq, Nat.reduceEqDiff, Nat.reduceLT, Nat.reduceLeDiff, Nat.reduceBEq, Nat.reduceAdd, Int.reduceLE, Int.reduceLT, idO_app, lenO_app, lenO_app2, lenO_eta] at hr
  subst hr
  refine AWP_seq ?_
  refine AWP_seq ?_
  refine AWP_rl ?_
  refine AWPL_rn tab_ok 1 [1, 2, 4, 12] fun c st' hr => ?_
  simp only [go_sem, reduceIte, reduceCtorEq, Nat.reduceEqDiff, Nat.reduceLT, Nat.reduceLeDiff, Nat.reduceBEq, Nat.reduceAdd, Int.reduceLE, Int.reduceLT, idO_app, lenO_app, lenO_app2, lenO_eta] at hr
  obtain ⟨rfl, rfl⟩ := hr
  refine ⟨vc, ?_⟩
  replace hK := bind_s hK
  obtain ⟨y, hy, hK⟩ := hK
  refine AWPL_callK [1, 2, 4, 13] (W_axioms_Check hy) rfl rfl pcT rfl Try.call95 (.cons (.agg _ _ rfl (ArgsOk.get (.cons (.atom _ rfl) (.cons (.atom _ rfl) .nil))).2) .nil) (hscG trivial) (of_decide_eq_true rfl) (by first | rfl | simp [nI, nI1, nI0]) (by first | rfl | simp [nIB, nI0]) fun st' hr => ?_
  simp only [go_sem, reduceIte, reduceCtorEq, Nat.reduceEqDiff, Nat.reduceLT, Nat.reduceLeDiff, Nat.reduceBEq, Nat.reduceAdd, Int.reduceLE, Int.reduceLT, idO_app, lenO_app, lenO_app2, lenO_eta] at hr
  subst hr
  clear hy
  refine AWPL_rn tab_ok 1 [1, 2, 4, 6] fun c st' hr => ?_
  simp only [go_sem, reduceIte, reduceCtorEq, Nat.reduceEqDiff, Nat.reduceLT, Nat.reduceLeDiff, Nat.reduceBEq, Nat.reduceAdd, Int.reduceLE, Int.reduceLT, idO_app, lenO_app, lenO_app2, lenO_eta] at hr
  obtain ⟨rfl, rfl⟩ := hr
  refine ⟨vc, ?_⟩
  refine AWPL_nil ?_
  with_reducible refine thenC_normal ?_
  refine AWP_seq ?_
  refine AWP_rg tab_ok [1, 2, 4, 6, 15] fun c st' hr => ?_
  simp only [go_sem, reduceIte, reduceCtorEq, Nat.reduceEqDiff, Nat.reduceLT, Nat.reduceLeDiff, Nat.reduceBEq, Nat.reduceAdd, Int.reduceLE, Int.reduceLT, idO_app, lenO_app, lenO_app2, lenO_eta] at hr
  obtain ⟨rfl, rfl⟩ := hr
  refine ⟨vc, ?_⟩
  with_reducible refine thenC_normal ?_
  refine AWP_condP (y ≠ 0) rfl bd (fun hb => ?_) (fun hb => ?_)
  · replace hK := ite_t hK hb
    refine AWP_seq ?_
    refine AWP_rg tab_ok [4, 5] fun c st' hr => ?_
    simp only [go_sem, reduceIte, reduceCtorEq, Nat.reduceEqDiff, Nat.reduceLT, Nat.reduceLeDiff, Nat.reduceBEq, Nat.reduceAdd, Int.reduceLE, Int.reduceLT, idO_app, lenO_app, lenO_app2, lenO_eta] at hr
    obtain ⟨rfl, rfl⟩ := hr
    refine ⟨vc, ?_⟩
    with_reducible refine thenC_normal ?_
    refine AWP_gs' (gs_rows0 3 .i64) fun st' hr => ?_
    simp only [go_sem, reduceIte, reduceCtorEq, Nat.reduceEqDiff, Nat.reduceLT, Nat.reduceLeDiff, Nat.reduceBEq, Nat.reduceAdd, Int.reduceLE, Int.reduceLT, idO_app, lenO_app, lenO_app2, lenO_eta, List.cons_append, List.nil_append] at hr
    subst hr
    refine AWP_ownH 1 2 (.outs 35 4 0 idO (lenO [])) rfl rfl rfl fun st' hr => ?_
    simp only [go_sem, reduceIte, reduceCtorEq, Nat.reduceEqDiff, Nat.reduceLT, Nat.reduceLeDiff, Nat.reduceBEq, Nat.reduceAdd, Int.reduceLE, Int.reduceLT, idO_app, lenO_app, lenO_app2, lenO_eta] at hr
    subst hr
    refine AWP_ret ?_
    with_reducible refine thenC_ret ?_
    cases hK
    refine EndsRW [5, 4] (.inl rfl) (of_decide_eq_true rfl) (by simp) rfl (fun c x hr => ?_) endHR
    simp only [go_sem, reduceIte, reduceCtorEq, Nat.reduceEqDiff, Nat.reduceLT, Nat.reduceLeDiff, Nat.reduceBEq, Nat.reduceAdd, Int.reduceLE, Int.reduceLT, idO_app, lenO_app, lenO_app2, lenO_eta] at hr
    obtain ⟨rfl, rfl⟩ := hr
    exact ⟨rfl, endR⟩
  · replace hK := ite_f hK hb
    refine AWP_skip ?_
    with_reducible refine thenC_normal ?_
    refine AWP_seq ?_
    refine AWP_seq ?_
    refine AWP_rg tab_ok [1, 2, 4, 23] fun c st' hr => ?_
    simp only [go_sem, reduceIte, reduceCtorEq, Nat.reduceEqDiff, Nat.reduceLT, Nat.reduceLeDiff, Nat.reduceBEq, Nat.reduceAdd, Int.reduceLE, Int.reduceLT, idO_app, lenO_app, lenO_app2, lenO_eta] at hr
    obtain ⟨rfl, rfl⟩ := hr
    refine ⟨vc, ?_⟩
    with_reducible refine thenC_normal ?_
    refine AWP_condP ((a1 ≠ 2 ∧ a1 ≠ 3)) rfl bd (fun hb1 => ?_) (fun hb1 => ?_)
    · replace hK := ite_t hK hb1
      refine AWP_seq ?_
      refine AWP_rg tab_ok [4, 5] fun c st' hr => ?_
      simp only [go_sem, reduceIte, reduceCtorEq, Nat.reduceEqDiff, Nat.reduceLT, Nat.reduceLeDiff, Nat.reduceBEq, Nat.reduceAdd, Int.reduceLE, Int.reduceLT, idO_app, lenO_app, lenO_app2, lenO_eta] at hr
      obtain ⟨rfl, rfl⟩ := hr
      refine ⟨vc, ?_⟩
      with_reducible refine thenC_normal ?_
      refine AWP_gs' (gs_rows0 3 .i64) fun st' hr => ?_
      simp only [go_sem, reduceIte, reduceCtorEq, Nat.reduceEqDiff, Nat.reduceLT, Nat.reduceLeDiff, Nat.reduceBEq, Nat.reduceAdd, Int.reduceLE, Int.reduceLT, idO_app, lenO_app, lenO_app2, lenO_eta, List.cons_append, List.nil_append] at hr
      subst hr
      refine AWP_ownH 1 2 (.outs 35 4 0 idO (lenO [])) rfl rfl rfl fun st' hr => ?_
      simp only [go_sem, reduceIte, reduceCtorEq, Nat.reduceEqDiff, Nat.reduceLT, Nat.reduceLeDiff, Nat.reduceBEq, Nat.reduceAdd, Int.reduceLE, Int.reduceLT, idO_app, lenO_app, lenO_app2, lenO_eta] at hr
      subst hr
      refine AWP_ret ?_
      with_reducible refine thenC_ret ?_
      cases hK
      refine EndsRW [5, 4] (.inl rfl) (of_decide_eq_true rfl) (by simp) rfl (fun c x hr => ?_) endHR
      simp only [go_sem, reduceIte, reduceCtorEq, Nat.reduceEqDiff, Nat.reduceLT, Nat.reduceLeDiff, Nat.reduceBEq, Nat.reduceAdd, Int.reduceLE, Int.reduceLT, idO_app, lenO_app, lenO_app2, lenO_eta] at hr
      obtain ⟨rfl, rfl⟩ := hr
      exact ⟨rfl, endR⟩
    · replace hK := ite_f hK hb1
      refine AWP_skip ?_
      with_reducible refine thenC_normal ?_
      refine AWP_seq ?_
      refine AWP_rl ?_
      refine AWPL_rn tab_ok 1 [1, 2, 4, 26] fun c st' hr => ?_
      simp only [go_sem, reduceIte, reduceCtorEq, Nat.reduceEqDiff, Nat.reduceLT, Nat.reduceLeDiff, Nat.reduceBEq, Nat.reduceAdd, Int.reduceLE, Int.reduceLT, idO_app, lenO_app, lenO_app2, lenO_eta] at hr
      obtain ⟨rfl, rfl⟩ := hr
      refine ⟨vc, ?_⟩
      replace hK := bind_s hK
      obtain ⟨y1, hy, hK⟩ := hK
      refine AWPL_callK [1, 2, 4, 27] (W_axioms_Ranks hy) rfl rfl pcT rfl Try.call123 (.cons (.agg _ _ rfl (ArgsOk.get (.cons (.atom _ rfl) (.cons (.atom _ rfl) .nil))).2) .nil) (hscG trivial) (of_decide_eq_true rfl) (by first | rfl | simp [nI, nI1, nI0]) (by first | rfl | simp [nIB, nI0]) fun st' hr => ?_
      simp only [go_sem, reduceIte, reduceCtorEq, Nat.reduceEqDiff, Nat.reduceLT, Nat.reduceLeDiff, Nat.reduceBEq, Nat.reduceAdd, Int.reduceLE, Int.reduceLT, idO_app, lenO_app, lenO_app2, lenO_eta] at hr
      subst hr
      clear hy
      refine AWPL_rn tab_ok 5 [1, 2, 4, 7] fun c st' hr => ?_
      simp only [go_sem, reduceIte, reduceCtorEq, Nat.reduceEqDiff, Nat.reduceLT, Nat.reduceLeDiff, Nat.reduceBEq, Nat.reduceAdd, Int.reduceLE, Int.reduceLT, idO_app, lenO_app, lenO_app2, lenO_eta] at hr
      obtain ⟨rfl, rfl⟩ := hr
      refine ⟨vc, ?_⟩
      refine AWPL_nil ?_
      with_reducible refine thenC_normal ?_
      refine AWP_seq ?_
      refine AWP_seq ?_
      replace hK := chk_some hK
      obtain ⟨h, hK⟩ := hK
      refine AWP_rg tab_ok [1, 2, 4, 7, 36] fun c st' hr => ?_
      simp only [go_sem, reduceIte, reduceCtorEq, Nat.reduceEqDiff, Nat.reduceLT, Nat.reduceLeDiff, Nat.reduceBEq, Nat.reduceAdd, Int.reduceLE, Int.reduceLT, idO_app, lenO_app, lenO_app2, lenO_eta] at hr
      obtain ⟨rfl, rfl⟩ := hr
      refine ⟨vc, ?_⟩
      with_reducible refine thenC_normal ?_
      refine AWP_condP (6 < y1.1.getD ((y1.1.length : Int) - 1).toNat 0) rfl bd (fun hb2 => ?_) (fun hb2 => ?_)
      · replace hK := ite_t hK hb2
        refine AWP_seq ?_
        refine AWP_rg tab_ok [4, 5] fun c st' hr => ?_
        simp only [go_sem, reduceIte, reduceCtorEq, Nat.reduceEqDiff, Nat.reduceLT, Nat.reduceLeDiff, Nat.reduceBEq, Nat.reduceAdd, Int.reduceLE, Int.reduceLT, idO_app, lenO_app, lenO_app2, lenO_eta] at hr
        obtain ⟨rfl, rfl⟩ := hr
        refine ⟨vc, ?_⟩
        with_reducible refine thenC_normal ?_
        refine AWP_gs' (gs_rows0 3 .i64) fun st' hr => ?_
        simp only [go_sem, reduceIte, reduceCtorEq, Nat.reduceEqDiff, Nat.reduceLT, Nat.reduceLeDiff, Nat.reduceBEq, Nat.reduceAdd, Int.reduceLE, Int.reduceLT, idO_app, lenO_app, lenO_app2, lenO_eta, List.cons_append, List.nil_append] at hr
        subst hr
        refine AWP_ownH 1 2 (.outs 35 5 0 idO (lenO [])) rfl rfl rfl fun st' hr => ?_
        simp only [go_sem, reduceIte, reduceCtorEq, Nat.reduceEqDiff, Nat.reduceLT, Nat.reduceLeDiff, Nat.reduceBEq, Nat.reduceAdd, Int.reduceLE, Int.reduceLT, idO_app, lenO_app, lenO_app2, lenO_eta] at hr
        subst hr
        refine AWP_ret ?_
        with_reducible refine thenC_ret ?_
        cases hK
        refine EndsRW [6, 5] (.inl rfl) (of_decide_eq_true rfl) (by simp) rfl (fun c x hr => ?_) endHR
        simp only [go_sem, reduceIte, reduceCtorEq, Nat.reduceEqDiff, Nat.reduceLT, Nat.reduceLeDiff, Nat.reduceBEq, Nat.reduceAdd, Int.reduceLE, Int.reduceLT, idO_app, lenO_app, lenO_app2, lenO_eta] at hr
        obtain ⟨rfl, rfl⟩ := hr
        exact ⟨rfl, endR⟩
      · replace hK := ite_f hK hb2
        refine AWP_skip ?_
        with_reducible refine thenC_normal ?_
        refine AWP_seq ?_
        refine AWP_rg tab_ok [2, 4, 9] fun c st' hr => ?_
        simp only [go_sem, reduceIte, reduceCtorEq, Nat.reduceEqDiff, Nat.reduceLT, Nat.reduceLeDiff, Nat.reduceBEq, Nat.reduceAdd, Int.reduceLE, Int.reduceLT, idO_app, lenO_app, lenO_app2, lenO_eta] at hr
        obtain ⟨rfl, rfl⟩ := hr
        refine ⟨vc, ?_⟩
        with_reducible refine thenC_normal ?_
        refine AWP_gs' (gs_rows0 3 .i64) fun st' hr => ?_
        simp only [go_sem, reduceIte, reduceCtorEq, Nat.reduceEqDiff, Nat.reduceLT, Nat.reduceLeDiff, Nat.reduceBEq, Nat.reduceAdd, Int.reduceLE, Int.reduceLT, idO_app, lenO_app, lenO_app2, lenO_eta, List.cons_append, List.nil_append] at hr
        subst hr
        refine AWP_ownH 5 5 (.outs 35 6 0 idO (lenO [])) rfl rfl rfl fun st' hr => ?_
        simp only [go_sem, reduceIte, reduceCtorEq, Nat.reduceEqDiff, Nat.reduceLT, Nat.reduceLeDiff, Nat.reduceBEq, Nat.reduceAdd, Int.reduceLE, Int.reduceLT, idO_app, lenO_app, lenO_app2, lenO_eta] at hr
        subst hr
        refine AWP_ownH 5 6 (.ints 3 .i64 []) rfl rfl rfl fun st' hr => ?_
        simp only [go_sem, reduceIte, reduceCtorEq, Nat.reduceEqDiff, Nat.reduceLT, Nat.reduceLeDiff, Nat.reduceBEq, Nat.reduceAdd, Int.reduceLE, Int.reduceLT, idO_app, lenO_app, lenO_app2, lenO_eta] at hr
        subst hr
        refine AWP_ownH 5 7 (.ints 3 .i64 []) rfl rfl rfl fun st' hr => ?_
        simp only [go_sem, reduceIte, reduceCtorEq, Nat.reduceEqDiff, Nat.reduceLT, Nat.reduceLeDiff, Nat.reduceBEq, Nat.reduceAdd, Int.reduceLE, Int.reduceLT, idO_app, lenO_app, lenO_app2, lenO_eta] at hr
        subst hr
        refine AWP_seq ?_
        refine AWP_seq ?_
        refine AWP_rg tab_ok [2, 4, 9, 47, 48] fun c st' hr => ?_
        simp only [go_sem, reduceIte, reduceCtorEq, Nat.reduceEqDiff, Nat.reduceLT, Nat.reduceLeDiff, Nat.reduceBEq, Nat.reduceAdd, Int.reduceLE, Int.reduceLT, idO_app, lenO_app, lenO_app2, lenO_eta] at hr
        obtain ⟨rfl, rfl⟩ := hr
        refine ⟨vc, ?_⟩
        with_reducible refine thenC_normal ?_
        refine AWP_block ?_
        refine AWP_loopX 0 (fun ((v, v1, v2, v3) : List (List Int) × List Int × List Int × Int) => ⟨110, [(2, .ptr 0 0 0), (4, .ptr 1 0 0), (9, .ptr 4 0 0), (47, .int .i64 m_0), (48, .int .i64 v3)], [some (.gen 46 2 [[.int .i64 m_0, .ints .i64 m_1]]), some (.gen 41 3 [[.int .i64 0, .int .i64 0, .own 2 0]]), some (.outs 35 3 0 idO (lenO ([] : List (List Int)))), some (.rows 3 .i64 ([] : List (List Int))), some (.gen 150 8 [[.int .i64 m_0, .ints .i64 m_1, .own 5 y1.1.length, .int .i64 a1, .int .i64 m_0, .own 6 v.length, .own 8 v1.length, .own 9 v2.length]]), some (.ints 3 .i64 y1.1), some (.outs 35 7 v.length idO (lenO v)), some (.rows 3 .i64 v), some (.ints 3 .i64 v1), some (.ints 3 .i64 v2)]⟩) (fun ((v4, v5, v6) : List (List Int) × List Int × List Int) => ⟨110, [(2, .ptr 0 0 0), (4, .ptr 1 0 0), (9, .ptr 4 0 0)], [some (.gen 46 2 [[.int .i64 m_0, .ints .i64 m_1]]), some (.gen 41 3 [[.int .i64 0, .int .i64 0, .own 2 0]]), some (.outs 35 3 0 idO (lenO ([] : List (List Int)))), some (.rows 3 .i64 ([] : List (List Int))), some (.gen 150 8 [[.int .i64 m_0, .ints .i64 m_1, .own 5 y1.1.length, .int .i64 a1, .int .i64 m_0, .own 6 v4.length, .own 8 v5.length, .own 9 v6.length]]), some (.ints 3 .i64 y1.1), some (.outs 35 7 v4.length idO (lenO v4)), some (.rows 3 .i64 v4), some (.ints 3 .i64 v5), some (.ints 3 .i64 v6)]⟩) (fun v => v) (([] : List (List Int)), [], [], 0) [0, 1, 3, 2, 5, 4, 7, 6, 8, 9] hK mkWkR ?_ ?_
        · clear hK; rintro ⟨v, v1, v2, v3⟩ b hK hpost1
          try dsimp only at hK
          change AWP _ _ _ _ ⟨110, [(2, .ptr 0 0 0), (4, .ptr 1 0 0), (9, .ptr 4 0 0), (47, .int .i64 m_0), (48, .int .i64 v3)], [some (.gen 46 2 [[.int .i64 m_0, .ints .i64 m_1]]), some (.gen 41 3 [[.int .i64 0, .int .i64 0, .own 2 0]]), some (.outs 35 3 0 idO (lenO ([] : List (List Int)))), some (.rows 3 .i64 ([] : List (List Int))), some (.gen 150 8 [[.int .i64 m_0, .ints .i64 m_1, .own 5 y1.1.length, .int .i64 a1, .int .i64 m_0, .own 6 v.length, .own 8 v1.length, .own 9 v2.length]]), some (.ints 3 .i64 y1.1), some (.outs 35 7 v.length idO (lenO v)), some (.rows 3 .i64 v), some (.ints 3 .i64 v1), some (.ints 3 .i64 v2)]⟩
          refine AWP_seq ?_
          refine AWP_rg tab_ok [2, 4, 9, 47, 48, 49] fun c st' hr => ?_
          simp only [go_sem, reduceIte, reduceCtorEq, Nat.reduceEqDiff, Nat.reduceLT, Nat.reduceLeDiff, Nat.reduceBEq, Nat.reduceAdd, Int.reduceLE, Int.reduceLT, idO_app, lenO_app, lenO_app2, lenO_eta] at hr
          obtain ⟨rfl, rfl⟩ := hr
          refine ⟨vc, ?_⟩
          with_reducible refine thenC_normal ?_
          refine AWP_seq ?_
          refine AWP_condP (v3 < m_0) rfl bd (fun hb3 => ?_) (fun hb3 => ?_)
          · replace hK := ite_t hK hb3
            refine AWP_skip ?_
            with_reducible refine thenC_normal ?_
            refine AWP_seq ?_
            refine AWP_block ?_
            refine AWP_seq ?_
            refine AWP_rg tab_ok [2, 4, 9, 10, 47, 48] fun c st' hr => ?_
            simp only [go_sem, reduceIte, reduceCtorEq, Nat.reduceEqDiff, Nat.reduceLT, Nat.reduceLeDiff, Nat.reduceBEq, Nat.reduceAdd, Int.reduceLE, Int.reduceLT, idO_app, lenO_app, lenO_app2, lenO_eta] at hr
            obtain ⟨rfl, rfl⟩ := hr
            refine ⟨vc, ?_⟩
            with_reducible refine thenC_normal ?_
            refine AWP_seq ?_
            refine AWP_seq ?_
            replace hK := chk_some hK
            obtain ⟨h1, hK⟩ := hK
            refine AWP_rg tab_ok [2, 4, 9, 10, 47, 48, 58] fun c st' hr => ?_
            simp only [go_sem, reduceIte, reduceCtorEq, Nat.reduceEqDiff, Nat.reduceLT, Nat.reduceLeDiff, Nat.reduceBEq, Nat.reduceAdd, Int.reduceLE, Int.reduceLT, idO_app, lenO_app, lenO_app2, lenO_eta] at hr
            obtain ⟨rfl, rfl⟩ := hr
            refine ⟨vc, ?_⟩
            with_reducible refine thenC_normal ?_
            refine AWP_condP (iand ((m_1.getD 0 0) / 2 ^ v3.toNat) 1 = 0) rfl bd (fun hb4 => ?_) (fun hb4 => ?_)
            · replace hK := ite_t hK hb4
              refine AWP_seq ?_
              replace hK := chk_some hK
              obtain ⟨h2, hK⟩ := hK
              refine AWP_rg tab_ok [2, 4, 9, 47, 48] fun c st' hr => ?_
              simp only [go_sem, reduceIte, reduceCtorEq, Nat.reduceEqDiff, Nat.reduceLT, Nat.reduceLeDiff, Nat.reduceBEq, Nat.reduceAdd, Int.reduceLE, Int.reduceLT, idO_app, lenO_app, lenO_app2, lenO_eta] at hr
              obtain ⟨rfl, rfl⟩ := hr
              refine ⟨vc, ?_⟩
              with_reducible refine thenC_normal ?_
              refine AWP_exit ?_
              with_reducible refine thenC_exit (inBlockA_exit (thenC_normal ?_))
              replace hK := chk_some hK
              obtain ⟨h3, hK⟩ := hK
              refine AWP_rg tab_ok [2, 4, 9, 47, 48] fun c st' hr => ?_
              simp only [go_sem, reduceIte, reduceCtorEq, Nat.reduceEqDiff, Nat.reduceLT, Nat.reduceLeDiff, Nat.reduceBEq, Nat.reduceAdd, Int.reduceLE, Int.reduceLT, idO_app, lenO_app, lenO_app2, lenO_eta] at hr
              obtain ⟨rfl, rfl⟩ := hr
              refine ⟨vc, ?_⟩
              refine again_n (v, v1, v2 ++ [v3], v3 + 1) [0, 1, 2, 3, 4, 5, 6, 7, 8, 11] hK mkWkR
            · replace hK := ite_f hK hb4
              refine AWP_skip ?_
              with_reducible refine thenC_normal ?_
              refine AWP_seq ?_
              replace hK := chk_some hK
              obtain ⟨h4, hK⟩ := hK
              refine AWP_rg tab_ok [2, 4, 9, 10, 11, 47, 48] fun c st' hr => ?_
              simp only [go_sem, reduceIte, reduceCtorEq, Nat.reduceEqDiff, Nat.reduceLT, Nat.reduceLeDiff, Nat.reduceBEq, Nat.reduceAdd, Int.reduceLE, Int.reduceLT, idO_app, lenO_app, lenO_app2, lenO_eta] at hr
              obtain ⟨rfl, rfl⟩ := hr
              refine ⟨vc, ?_⟩
              with_reducible refine thenC_normal ?_
              refine AWP_seq ?_
              replace hK := chk_some hK
              obtain ⟨h5, hK⟩ := hK
              refine AWP_rg tab_ok [2, 4, 9, 10, 11, 47, 48] fun c st' hr => ?_
              simp only [go_sem, reduceIte, reduceCtorEq, Nat.reduceEqDiff, Nat.reduceLT, Nat.reduceLeDiff, Nat.reduceBEq, Nat.reduceAdd, Int.reduceLE, Int.reduceLT, idO_app, lenO_app, lenO_app2, lenO_eta] at hr
              obtain ⟨rfl, rfl⟩ := hr
              refine ⟨vc, ?_⟩
              with_reducible refine thenC_normal ?_
              refine AWP_seq ?_
              replace hK := chk_some hK
              obtain ⟨h6, hK⟩ := hK
              refine AWP_rg tab_ok [2, 4, 9, 11, 47, 48] fun c st' hr => ?_
              simp only [go_sem, reduceIte, reduceCtorEq, Nat.reduceEqDiff, Nat.reduceLT, Nat.reduceLeDiff, Nat.reduceBEq, Nat.reduceAdd, Int.reduceLE, Int.reduceLT, idO_app, lenO_app, lenO_app2, lenO_eta] at hr
              obtain ⟨rfl, rfl⟩ := hr
              refine ⟨vc, ?_⟩
              with_reducible refine thenC_normal ?_
              refine AWP_rl ?_
              refine AWPL_rn tab_ok 7 [2, 4, 9, 47, 48, 85, 90, 91] fun c st' hr => ?_
              simp only [go_sem, reduceIte, reduceCtorEq, Nat.reduceEqDiff, Nat.reduceLT, Nat.reduceLeDiff, Nat.reduceBEq, Nat.reduceAdd, Int.reduceLE, Int.reduceLT, idO_app, lenO_app, lenO_app2, lenO_eta] at hr
              obtain ⟨rfl, rfl⟩ := hr
              refine ⟨vc, ?_⟩
              refine AWPL_gs' (gs_adopt 91 7 rfl (by first | rfl | (simp; done)) rfl rfl (by first | rfl | (simp [noPin]; done))) fun st' hr => ?_
              simp only [go_sem, reduceIte, reduceCtorEq, Nat.reduceEqDiff, Nat.reduceLT, Nat.reduceLeDiff, Nat.reduceBEq, Nat.reduceAdd, Int.reduceLE, Int.reduceLT, idO_app, lenO_app, lenO_app2, lenO_eta, List.set_cons_zero, List.set_cons_succ] at hr
              subst hr
              replace hK := chk_some hK
              obtain ⟨h7, hK⟩ := hK
              refine AWPL_rn tab_ok 6 [2, 4, 9, 47, 48] fun c st' hr => ?_
              simp only [go_sem, reduceIte, reduceCtorEq, Nat.reduceEqDiff, Nat.reduceLT, Nat.reduceLeDiff, Nat.reduceBEq, Nat.reduceAdd, Int.reduceLE, Int.reduceLT, idO_app, lenO_app, lenO_app2, lenO_eta] at hr
              obtain ⟨rfl, rfl⟩ := hr
              refine ⟨vc, ?_⟩
              refine AWPL_nil ?_
              with_reducible refine inBlockA_normal (thenC_normal ?_)
              replace hK := chk_some hK
              obtain ⟨h8, hK⟩ := hK
              refine AWP_rg tab_ok [2, 4, 9, 47, 48] fun c st' hr => ?_
              simp only [go_sem, reduceIte, reduceCtorEq, Nat.reduceEqDiff, Nat.reduceLT, Nat.reduceLeDiff, Nat.reduceBEq, Nat.reduceAdd, Int.reduceLE, Int.reduceLT, idO_app, lenO_app, lenO_app2, lenO_eta] at hr
              obtain ⟨rfl, rfl⟩ := hr
              refine ⟨vc, ?_⟩
              refine again_n (v ++ [(List.replicate m_0.toNat 0).set v3.toNat 1], v1 ++ [v3], v2, v3 + 1) [0, 1, 2, 3, 4, 5, 14, 7, 12, 9] hK mkWkR
          · replace hK := ite_f hK hb3
            refine AWP_exit ?_
            with_reducible refine thenC_exit (again_x ?_)
            refine cutX_here (v, v1, v2) [0, 1, 2, 3, 4, 5, 6, 7, 8, 9] (by have hq := hpost1 _ hK; exact hq) mkWkR
        · clear hK; rintro ⟨v4, v5, v6⟩ hK
          try dsimp only at hK
          refine exS ⟨110, [(2, .ptr 0 0 0), (4, .ptr 1 0 0), (9, .ptr 4 0 0)], [some (.gen 46 2 [[.int .i64 m_0, .ints .i64 m_1]]), some (.gen 41 3 [[.int .i64 0, .int .i64 0, .own 2 0]]), some (.outs 35 3 0 idO (lenO ([] : List (List Int)))), some (.rows 3 .i64 ([] : List (List Int))), some (.gen 150 8 [[.int .i64 m_0, .ints .i64 m_1, .own 5 y1.1.length, .int .i64 a1, .int .i64 m_0, .own 6 v4.length, .own 8 v5.length, .own 9 v6.length]]), some (.ints 3 .i64 y1.1), some (.outs 35 7 v4.length idO (lenO v4)), some (.rows 3 .i64 v4), some (.ints 3 .i64 v5), some (.ints 3 .i64 v6)]⟩ rfl ?_
          with_reducible refine inBlockA_exit (thenC_normal ?_)
          refine AWP_seq ?_
          refine AWP_seq ?_
          refine AWP_rl ?_
          replace hK := chk_some hK
          obtain ⟨h9, hK⟩ := hK
          refine AWPL_rn tab_ok 5 [4, 9, 98, 102] fun c st' hr => ?_
          simp only [go_sem, reduceIte, reduceCtorEq, Nat.reduceEqDiff, Nat.reduceLT, Nat.reduceLeDiff, Nat.reduceBEq, Nat.reduceAdd, Int.reduceLE, Int.reduceLT, idO_app, lenO_app, lenO_app2, lenO_eta] at hr
          obtain ⟨rfl, rfl⟩ := hr
          refine ⟨vc, ?_⟩
          replace hK := bind_s hK
          obtain ⟨y2, hy, hK⟩ := hK
          refine AWPL_callK [4, 9, 103] (W_repr_search_from hy) rfl rfl pcT rfl Try.call124 (.cons (.ptrM _ _ _ _ _ _ _ rfl rfl rfl (ArgsOk.get (.cons (.atom _ rfl) (.cons (.atom _ rfl) (.cons (.ownI _ _ _ _ _ y1.1 rfl (by simp) (by first | simp | exact List.take_of_length_le (by simp))) (.cons (.atom _ rfl) (.cons (.atom _ rfl) (.cons (matArg (X := v4) (by first | rfl | (simp [getB, lenO_set]; done)) (by first | rfl | (simp [getB]; done)) (by first | rfl | (simp; done))) (.cons (.ownI _ _ _ _ _ v5 rfl (by simp) (by first | simp | exact List.take_of_length_le (by simp))) (.cons (.ownI _ _ _ _ _ v6 rfl (by simp) (by first | simp | exact List.take_of_length_le (by simp))) .nil))))))))).2) (.cons (.atom _ rfl) (.cons (.atom _ rfl) (.cons (.atom _ rfl) .nil)))) (hscG trivial) (of_decide_eq_true rfl) (by first | rfl | simp [nI, nI1, nI0]) (by first | rfl | simp [nIB, nI0]) fun st' hr => ?_
          simp only [go_sem, reduceIte, reduceCtorEq, Nat.reduceEqDiff, Nat.reduceLT, Nat.reduceLeDiff, Nat.reduceBEq, Nat.reduceAdd, Int.reduceLE, Int.reduceLT, idO_app, lenO_app, lenO_app2, lenO_eta] at hr
          subst hr
          clear hy
          refine AWPL_rn tab_ok 1 [4, 9, 104] fun c st' hr => ?_
          simp only [go_sem, reduceIte, reduceCtorEq, Nat.reduceEqDiff, Nat.reduceLT, Nat.reduceLeDiff, Nat.reduceBEq, Nat.reduceAdd, Int.reduceLE, Int.reduceLT, idO_app, lenO_app, lenO_app2, lenO_eta] at hr
          obtain ⟨rfl, rfl⟩ := hr
          refine ⟨vc, ?_⟩
          refine AWPL_nil ?_
          with_reducible refine thenC_normal ?_
          refine AWP_condP (¬ (y2 = true)) rfl bd (fun hb5 => ?_) (fun hb5 => ?_)
          · replace hK := ite_t hK hb5
            refine AWP_seq ?_
            refine AWP_rg tab_ok [4, 5] fun c st' hr => ?_
            simp only [go_sem, reduceIte, reduceCtorEq, Nat.reduceEqDiff, Nat.reduceLT, Nat.reduceLeDiff, Nat.reduceBEq, Nat.reduceAdd, Int.reduceLE, Int.reduceLT, idO_app, lenO_app, lenO_app2, lenO_eta] at hr
            obtain ⟨rfl, rfl⟩ := hr
            refine ⟨vc, ?_⟩
            with_reducible refine thenC_normal ?_
            refine AWP_gs' (gs_rows0 3 .i64) fun st' hr => ?_
            simp only [go_sem, reduceIte, reduceCtorEq, Nat.reduceEqDiff, Nat.reduceLT, Nat.reduceLeDiff, Nat.reduceBEq, Nat.reduceAdd, Int.reduceLE, Int.reduceLT, idO_app, lenO_app, lenO_app2, lenO_eta, List.cons_append, List.nil_append] at hr
            subst hr
            refine AWP_ownH 1 2 (.outs 35 10 0 idO (lenO [])) rfl rfl rfl fun st' hr => ?_
            simp only [go_sem, reduceIte, reduceCtorEq, Nat.reduceEqDiff, Nat.reduceLT, Nat.reduceLeDiff, Nat.reduceBEq, Nat.reduceAdd, Int.reduceLE, Int.reduceLT, idO_app, lenO_app, lenO_app2, lenO_eta] at hr
            subst hr
            refine AWP_ret ?_
            with_reducible refine thenC_ret ?_
            cases hK
            refine EndsRW [11, 10] (.inl rfl) (of_decide_eq_true rfl) (by simp) rfl (fun c x hr => ?_) endHR
            simp only [go_sem, reduceIte, reduceCtorEq, Nat.reduceEqDiff, Nat.reduceLT, Nat.reduceLeDiff, Nat.reduceBEq, Nat.reduceAdd, Int.reduceLE, Int.reduceLT, idO_app, lenO_app, lenO_app2, lenO_eta] at hr
            obtain ⟨rfl, rfl⟩ := hr
            exact ⟨rfl, endR⟩
          · replace hK := ite_f hK hb5
            refine AWP_skip ?_
            with_reducible refine thenC_normal ?_
            refine AWP_seq ?_
            refine AWP_rg tab_ok [4, 5] fun c st' hr => ?_
            simp only [go_sem, reduceIte, reduceCtorEq, Nat.reduceEqDiff, Nat.reduceLT, Nat.reduceLeDiff, Nat.reduceBEq, Nat.reduceAdd, Int.reduceLE, Int.reduceLT, idO_app, lenO_app, lenO_app2, lenO_eta] at hr
            obtain ⟨rfl, rfl⟩ := hr
            refine ⟨vc, ?_⟩
            with_reducible refine thenC_normal ?_
            refine AWP_ret ?_
            cases hK
            refine EndsRW [6, 7] (.inl rfl) (of_decide_eq_true rfl) (by simp) rfl (fun c x hr => ?_) endHR
            simp only [go_sem, reduceIte, reduceCtorEq, Nat.reduceEqDiff, Nat.reduceLT, Nat.reduceLeDiff, Nat.reduceBEq, Nat.reduceAdd, Int.reduceLE, Int.reduceLT, idO_app, lenO_app, lenO_app2, lenO_eta] at hr
            obtain ⟨rfl, rfl⟩ := hr
            exact ⟨rfl, endR⟩

set_option maxRecDepth 8000 in
set_option maxHeartbeats 4000000 in
theorem W_repr_uniform {rank : Int} {n : Int} {r : Int × List Int} (hK : repr_uniform rank n = some r) : Pure Try.prog 130 [.int .i64 rank, .int .i64 n] (.agg [.int .i64 r.1, .ints .i64 r.2]) [] := by
  refine Pure_introF tab_ok (n := 14) (l := [.cell 4 46]) Try.func130 rfl rfl rfl (by simp) fun hfact w0 => ?_
  simp only [factL1, fact1, fact0, factL0, lo, hi, maxLen, and_true] at hfact
  unfold repr_uniform at hK
  refine AWP_seq ?_
  refine AWP_rg tab_ok [0, 1, 4] fun c st' hr => ?_
  simp only [go_sem, reduceIte, reduceCtorEq, Nat.reduceEqDiff, Nat.reduceLT, Nat.reduceLeDiff, Nat.reduceBEq, Nat.reduceAdd, Int.reduceLE, Int.reduceLT] at hr
  obtain ⟨rfl, rfl⟩ := hr
  refine ⟨vc, ?_⟩
  with_reducible refine thenC_normal ?_
  refine AWP_ownH 0 1 (.ints 3 .i64 []) rfl rfl rfl fun st' hr => ?_
  simp only [go_sem, reduceIte, reduceCtorEq, Nat.reduceEqDiff, Nat.reduceLT, Nat.reduceLeDiff, Nat.reduceBEq, Nat.reduceAdd, Int.reduceLE, Int.reduceLT] at hr
  subst hr
  refine AWP_seq ?_
  refine AWP_rl ?_
  refine AWPL_rn tab_ok 2 [4, 8, 9] fun c st' hr => ?_
  simp only [go_sem, reduceIte, reduceCtorEq, Nat.reduceEqDiff, Nat.reduceLT, Nat.reduceLeDiff, Nat.reduceBEq, Nat.reduceAdd, Int.reduceLE, Int.reduceLT] at hr
  obtain ⟨rfl, rfl⟩ := hr
  refine ⟨vc, ?_⟩
  replace hK := bind_s hK
  obtain ⟨y, hy, hK⟩ := hK
  refine AWPL_callK [4, 10] (W_kinds_Uniform hy) rfl rfl pcT rfl Try.call185 (.cons (.atom _ rfl) (.cons (.atom _ rfl) .nil)) (hscG trivial) (of_decide_eq_true rfl) (by first | rfl | simp [nI, nI1, nI0]) (by first | rfl | simp [nIB, nI0]) fun st' hr => ?_
  simp only [go_sem, reduceIte, reduceCtorEq, Nat.reduceEqDiff, Nat.reduceLT, Nat.reduceLeDiff, Nat.reduceBEq, Nat.reduceAdd, Int.reduceLE, Int.reduceLT] at hr
  subst hr
  clear hy
  refine AWPL_freeze 10 2 (y := .tup [.agg [.int .i64 y.1, .ints .i64 y.2.1], .int .i64 y.2.2]) rfl (.tup (.cons (.agg _ _ rfl (ArgsOk.get (.cons (.atom _ rfl) (.cons (.ownI _ _ _ _ _ y.2.1 rfl (by simp) (by first | simp | exact List.take_of_length_le (by simp))) .nil))).2) (.cons (.atom _ rfl) .nil))) fun st' hr => ?_
  simp only [go_sem, reduceIte, reduceCtorEq, Nat.reduceEqDiff, Nat.reduceLT, Nat.reduceLeDiff, Nat.reduceBEq, Nat.reduceAdd, Int.reduceLE, Int.reduceLT, List.set_cons_zero, List.set_cons_succ] at hr
  subst hr
  refine AWPL_rn tab_ok 6 [4, 5] fun c st' hr => ?_
  simp only [go_sem, reduceIte, reduceCtorEq, Nat.reduceEqDiff, Nat.reduceLT, Nat.reduceLeDiff, Nat.reduceBEq, Nat.reduceAdd, Int.reduceLE, Int.reduceLT] at hr
  obtain ⟨rfl, rfl⟩ := hr
  refine ⟨vc, ?_⟩
  refine AWPL_nil ?_
  with_reducible refine thenC_normal ?_
  refine AWP_seq ?_
  refine AWP_rg tab_ok [4] fun c st' hr => ?_
  simp only [go_sem, reduceIte, reduceCtorEq, Nat.reduceEqDiff, Nat.reduceLT, Nat.reduceLeDiff, Nat.reduceBEq, Nat.reduceAdd, Int.reduceLE, Int.reduceLT] at hr
  obtain ⟨rfl, rfl⟩ := hr
  refine ⟨vc, ?_⟩
  with_reducible refine thenC_normal ?_
  refine AWP_ret ?_
  cases hK
  refine EndsRW [] (.inl rfl) (of_decide_eq_true rfl) (by simp) rfl (fun c x hr => ?_) trivial
  simp only [go_sem, reduceIte, reduceCtorEq, Nat.reduceEqDiff, Nat.reduceLT, Nat.reduceLeDiff, Nat.reduceBEq, Nat.reduceAdd, Int.reduceLE, Int.reduceLT] at hr
  obtain ⟨rfl, rfl⟩ := hr
  exact ⟨rfl, endR⟩

set_option maxRecDepth 8000 in
set_option maxHeartbeats 4000000 in
theorem W_repr_has {m_0 : Int} {m_1 : List Int} {l : List (Int × List Int)} {r : Bool} (hK : repr_has m_0 m_1 l = some r) : Pure Try.prog 129 [.agg [.int .i64 m_0, .ints .i64 m_1], .fn 2 l.length (fun i => [.int .i64 ((l.getD i (0, [])).1), .ints .i64 ((l.getD i (0, [])).2)])] (.bool r) [] := by
  refine Pure_introF tab_ok (n := 26) (l := [.tmp 4]) Try.func129 rfl rfl rfl (by simp) fun hfact w0 => ?_
  simp only [factL1, fact1, fact0, factL0, lo, hi, maxLen, and_true] at hfact
  unfold repr_has at hK
  refine AWP_seq ?_
  refine AWP_rg tab_ok [1, 2] fun c st' hr => ?_
  simp only [go_sem, reduceIte, reduceCtorEq, Nat.reduceEqDiff, Nat.reduceLT, Nat.reduceLeDiff, Nat.reduceBEq, Nat.reduceAdd, Int.reduceLE, Int.reduceLT] at hr
  obtain ⟨rfl, rfl⟩ := hr
  refine ⟨vc, ?_⟩
  with_reducible refine thenC_normal ?_
  refine AWP_seq ?_
  refine AWP_seq ?_
  refine AWP_rg tab_ok [2, 10, 11, 12] fun c st' hr => ?_
  simp only [go_sem, reduceIte, reduceCtorEq, Nat.reduceEqDiff, Nat.reduceLT, Nat.reduceLeDiff, Nat.reduceBEq, Nat.reduceAdd, Int.reduceLE, Int.reduceLT] at hr
  obtain ⟨rfl, rfl⟩ := hr
  refine ⟨vc, ?_⟩
  with_reducible refine thenC_normal ?_
  refine AWP_block ?_
  refine AWP_loopX 0 (fun (v : Int) => ⟨26, [(2, .ptr 0 0 0), (10, .fn 2 l.length (fun i => [.int .i64 ((l.getD i (0, [])).1), .ints .i64 ((l.getD i (0, [])).2)])), (11, .int .i64 (l.length : Int)), (12, .int .i64 v)], [some (.gen 46 2 [[.int .i64 m_0, .ints .i64 m_1]])]⟩) (fun (_ : Unit) => ⟨26, [], []⟩) Sum.inl 0 [0] hK mkWk ?_ ?_
  · clear hK; rintro v b hK hpost1
    try dsimp only at hK
    change AWP _ _ _ _ ⟨26, [(2, .ptr 0 0 0), (10, .fn 2 l.length (fun i => [.int .i64 ((l.getD i (0, [])).1), .ints .i64 ((l.getD i (0, [])).2)])), (11, .int .i64 (l.length : Int)), (12, .int .i64 v)], [some (.gen 46 2 [[.int .i64 m_0, .ints .i64 m_1]])]⟩
    refine AWP_seq ?_
    refine AWP_rg tab_ok [2, 10, 11, 12, 13] fun c st' hr => ?_
    simp only [go_sem, reduceIte, reduceCtorEq, Nat.reduceEqDiff, Nat.reduceLT, Nat.reduceLeDiff, Nat.reduceBEq, Nat.reduceAdd, Int.reduceLE, Int.reduceLT] at hr
    obtain ⟨rfl, rfl⟩ := hr
    refine ⟨vc, ?_⟩
    with_reducible refine thenC_normal ?_
    refine AWP_seq ?_
    refine AWP_condP (v < (l.length : Int)) rfl bd (fun hb => ?_) (fun hb => ?_)
    · replace hK := ite_t hK hb
      refine AWP_skip ?_
      with_reducible refine thenC_normal ?_
      refine AWP_seq ?_
      refine AWP_block ?_
      refine AWP_seq ?_
      replace hK := chk_some hK
      obtain ⟨h, hK⟩ := hK
      refine AWP_rg tab_ok [2, 6, 10, 11, 12] fun c st' hr => ?_
      simp only [go_sem, reduceIte, reduceCtorEq, Nat.reduceEqDiff, Nat.reduceLT, Nat.reduceLeDiff, Nat.reduceBEq, Nat.reduceAdd, Int.reduceLE, Int.reduceLT] at hr
      obtain ⟨rfl, rfl⟩ := hr
      refine ⟨vc, ?_⟩
      with_reducible refine thenC_normal ?_
      refine AWP_seq ?_
      refine AWP_rl ?_
      refine AWPL_rn tab_ok 2 [2, 10, 11, 12, 17, 18] fun c st' hr => ?_
      simp only [go_sem, reduceIte, reduceCtorEq, Nat.reduceEqDiff, Nat.reduceLT, Nat.reduceLeDiff, Nat.reduceBEq, Nat.reduceAdd, Int.reduceLE, Int.reduceLT] at hr
      obtain ⟨rfl, rfl⟩ := hr
      refine ⟨vc, ?_⟩
      replace hK := bind_s hK
      obtain ⟨y, hy, hK⟩ := hK
      refine AWPL_callK [2, 10, 11, 12, 19] (W_same_Minor hy) rfl rfl pcT rfl Try.call44 (.cons (.agg _ _ rfl (ArgsOk.get (.cons (.atom _ rfl) (.cons (.atom _ rfl) .nil))).2) (.cons (.agg _ _ rfl (ArgsOk.get (.cons (.atom _ rfl) (.cons (.atom _ rfl) .nil))).2) .nil)) (hscG trivial) (of_decide_eq_true rfl) (by first | rfl | simp [nI, nI1, nI0]) (by first | rfl | simp [nIB, nI0]) fun st' hr => ?_
      simp only [go_sem, reduceIte, reduceCtorEq, Nat.reduceEqDiff, Nat.reduceLT, Nat.reduceLeDiff, Nat.reduceBEq, Nat.reduceAdd, Int.reduceLE, Int.reduceLT] at hr
      subst hr
      clear hy
      refine AWPL_rn tab_ok 7 [2, 9, 10, 11, 12] fun c st' hr => ?_
      simp only [go_sem, reduceIte, reduceCtorEq, Nat.reduceEqDiff, Nat.reduceLT, Nat.reduceLeDiff, Nat.reduceBEq, Nat.reduceAdd, Int.reduceLE, Int.reduceLT] at hr
      obtain ⟨rfl, rfl⟩ := hr
      refine ⟨vc, ?_⟩
      refine AWPL_nil ?_
      with_reducible refine thenC_normal ?_
      refine AWP_seq ?_
      refine AWP_rg tab_ok [2, 10, 11, 12, 24] fun c st' hr => ?_
      simp only [go_sem, reduceIte, reduceCtorEq, Nat.reduceEqDiff, Nat.reduceLT, Nat.reduceLeDiff, Nat.reduceBEq, Nat.reduceAdd, Int.reduceLE, Int.reduceLT] at hr
      obtain ⟨rfl, rfl⟩ := hr
      refine ⟨vc, ?_⟩
      with_reducible refine thenC_normal ?_
      refine AWP_condP (y.2.2 = 0) rfl bd (fun hb1 => ?_) (fun hb1 => ?_)
      · replace hK := ite_t hK hb1
        refine AWP_seq ?_
        refine AWP_rg tab_ok [4] fun c st' hr => ?_
        simp only [go_sem, reduceIte, reduceCtorEq, Nat.reduceEqDiff, Nat.reduceLT, Nat.reduceLeDiff, Nat.reduceBEq, Nat.reduceAdd, Int.reduceLE, Int.reduceLT] at hr
        obtain ⟨rfl, rfl⟩ := hr
        refine ⟨vc, ?_⟩
        with_reducible refine thenC_normal ?_
        refine AWP_ret ?_
        with_reducible refine inBlockA_ret (thenC_ret (again_r (cutX_r (inBlockA_ret (thenC_ret ?_)))))
        replace hK := hpost1 _ hK
        try dsimp only at hK
        cases hK
        refine EndsRW [] (.inl rfl) (of_decide_eq_true rfl) (by simp) rfl (fun c x hr => ?_) trivial
        simp only [go_sem, reduceIte, reduceCtorEq, Nat.reduceEqDiff, Nat.reduceLT, Nat.reduceLeDiff, Nat.reduceBEq, Nat.reduceAdd, Int.reduceLE, Int.reduceLT] at hr
        obtain ⟨rfl, rfl⟩ := hr
        exact ⟨rfl, endR⟩
      · replace hK := ite_f hK hb1
        refine AWP_skip ?_
        with_reducible refine inBlockA_normal (thenC_normal ?_)
        refine AWP_facts (by simp) fun hfx => ?_
        simp only [factS, factV, fact1, fact0, factL0, lo, hi, maxLen, and_true, true_and] at hfx
        refine AWP_rg tab_ok [2, 10, 11, 12] fun c st' hr => ?_
        simp only [go_sem, reduceIte, reduceCtorEq, Nat.reduceEqDiff, Nat.reduceLT, Nat.reduceLeDiff, Nat.reduceBEq, Nat.reduceAdd, Int.reduceLE, Int.reduceLT] at hr
        obtain ⟨rfl, rfl⟩ := hr
        refine ⟨vc, ?_⟩
        clear hfx
        refine again_n (v + 1) [0] hK mkWk
    · replace hK := ite_f hK hb
      refine AWP_exit ?_
      with_reducible refine thenC_exit (again_x ?_)
      refine cutX_here () [] (by have hq := hpost1 _ hK; exact hq) mkWk
  · clear hK; rintro _ hK
    try dsimp only at hK
    refine exS ⟨26, [], []⟩ rfl ?_
    with_reducible refine inBlockA_exit (thenC_normal ?_)
    refine AWP_seq ?_
    refine AWP_rg tab_ok [4] fun c st' hr => ?_
    simp only [go_sem, reduceIte, reduceCtorEq, Nat.reduceEqDiff, Nat.reduceLT, Nat.reduceLeDiff, Nat.reduceBEq, Nat.reduceAdd, Int.reduceLE, Int.reduceLT] at hr
    obtain ⟨rfl, rfl⟩ := hr
    refine ⟨vc, ?_⟩
    with_reducible refine thenC_normal ?_
    refine AWP_ret ?_
    cases hK
    refine EndsRW [] (.inl rfl) (of_decide_eq_true rfl) (by simp) rfl (fun c x hr => ?_) trivial
    simp only [go_sem, reduceIte, reduceCtorEq, Nat.reduceEqDiff, Nat.reduceLT, Nat.reduceLeDiff, Nat.reduceBEq, Nat.reduceAdd, Int.reduceLE, Int.reduceLT] at hr
    obtain ⟨rfl, rfl⟩ := hr
    exact ⟨rfl, endR⟩

set_option maxRecDepth 8000 in
set_option maxHeartbeats 4000000 in
theorem W_repr_Regular {m_0 : Int} {m_1 : List Int} {r : Bool × Int} (hK : repr_Regular m_0 m_1 = some r) : Pure Try.prog 60 [.agg [.int .i64 m_0, .ints .i64 m_1]] (.tup [.bool r.1, .int .i64 r.2]) [] := by
  refine Pure_introF tab_ok (n := 30) (l := [.tmp 2, .tmp 3]) Try.func60 rfl rfl rfl (by simp) fun hfact w0 => ?_
  simp only [factL1, fact1, fact0, factL0, lo, hi, maxLen, and_true] at hfact
  unfold repr_Regular at hK
  refine AWP_seq ?_
  refine AWP_rg tab_ok [1] fun c st' hr => ?_
  simp only [go_sem, reduceIte, reduceCtorEq, Nat.reduceEqDiff, Nat.reduceLT, Nat.reduceLeDiff, Nat.reduceBEq, Nat.reduceAdd, Int.reduceLE, Int.reduceLT] at hr
  obtain ⟨rfl, rfl⟩ := hr
  refine ⟨vc, ?_⟩
  with_reducible refine thenC_normal ?_
  refine AWP_seq ?_
  refine AWP_seq ?_
  refine AWP_rl ?_
  refine AWPL_rn tab_ok 1 [1, 9] fun c st' hr => ?_
  simp only [go_sem, reduceIte, reduceCtorEq, Nat.reduceEqDiff, Nat.reduceLT, Nat.reduceLeDiff, Nat.reduceBEq, Nat.reduceAdd, Int.reduceLE, Int.reduceLT] at hr
  obtain ⟨rfl, rfl⟩ := hr
  refine ⟨vc, ?_⟩
  replace hK := bind_s hK
  obtain ⟨y, hy, hK⟩ := hK
  refine AWPL_callK [1, 10] (W_axioms_Check hy) rfl rfl pcT rfl Try.call95 (.cons (.agg _ _ rfl (ArgsOk.get (.cons (.atom _ rfl) (.cons (.atom _ rfl) .nil))).2) .nil) (hscG trivial) (of_decide_eq_true rfl) (by first | rfl | simp [nI, nI1, nI0]) (by first | rfl | simp [nIB, nI0]) fun st' hr => ?_
  simp only [go_sem, reduceIte, reduceCtorEq, Nat.reduceEqDiff, Nat.reduceLT, Nat.reduceLeDiff, Nat.reduceBEq, Nat.reduceAdd, Int.reduceLE, Int.reduceLT] at hr
  subst hr
  clear hy
  refine AWPL_rn tab_ok 1 [1, 4] fun c st' hr => ?_
  simp only [go_sem, reduceIte, reduceCtorEq, Nat.reduceEqDiff, Nat.reduceLT, Nat.reduceLeDiff, Nat.reduceBEq, Nat.reduceAdd, Int.reduceLE, Int.reduceLT] at hr
  obtain ⟨rfl, rfl⟩ := hr
  refine ⟨vc, ?_⟩
  refine AWPL_nil ?_
  with_reducible refine thenC_normal ?_
  refine AWP_seq ?_
  refine AWP_rg tab_ok [1, 4, 12] fun c st' hr => ?_
  simp only [go_sem, reduceIte, reduceCtorEq, Nat.reduceEqDiff, Nat.reduceLT, Nat.reduceLeDiff, Nat.reduceBEq, Nat.reduceAdd, Int.reduceLE, Int.reduceLT] at hr
  obtain ⟨rfl, rfl⟩ := hr
  refine ⟨vc, ?_⟩
  with_reducible refine thenC_normal ?_
  refine AWP_condP (y ≠ 0) rfl bd (fun hb => ?_) (fun hb => ?_)
  · replace hK := ite_t hK hb
    refine AWP_seq ?_
    refine AWP_rg tab_ok [2, 3] fun c st' hr => ?_
    simp only [go_sem, reduceIte, reduceCtorEq, Nat.reduceEqDiff, Nat.reduceLT, Nat.reduceLeDiff, Nat.reduceBEq, Nat.reduceAdd, Int.reduceLE, Int.reduceLT] at hr
    obtain ⟨rfl, rfl⟩ := hr
    refine ⟨vc, ?_⟩
    with_reducible refine thenC_normal ?_
    refine AWP_ret ?_
    with_reducible refine thenC_ret ?_
    cases hK
    refine EndsRW [] (.inl rfl) (of_decide_eq_true rfl) (by simp) rfl (fun c x hr => ?_) trivial
    simp only [go_sem, reduceIte, reduceCtorEq, Nat.reduceEqDiff, Nat.reduceLT, Nat.reduceLeDiff, Nat.reduceBEq, Nat.reduceAdd, Int.reduceLE, Int.reduceLT] at hr
    obtain ⟨rfl, rfl⟩ := hr
    exact ⟨rfl, endR⟩
  · replace hK := ite_f hK hb
    refine AWP_skip ?_
    with_reducible refine thenC_normal ?_
    refine AWP_seq ?_
    refine AWP_rl ?_
    replace hK := bind_s hK
    obtain ⟨y1, hy, hK⟩ := hK
    refine AWPL_callK [1, 15] (W_kinds_Named hy) rfl rfl pcT rfl Try.call43 (.cons (.atom _ rfl) .nil) (hscG trivial) (of_decide_eq_true rfl) (by first | rfl | simp [nI, nI1, nI0]) (by first | rfl | simp [nIB, nI0]) fun st' hr => ?_
    simp only [go_sem, reduceIte, reduceCtorEq, Nat.reduceEqDiff, Nat.reduceLT, Nat.reduceLeDiff, Nat.reduceBEq, Nat.reduceAdd, Int.reduceLE, Int.reduceLT] at hr
    subst hr
    clear hy
    refine AWPL_rn tab_ok 6 [1, 5] fun c st' hr => ?_
    simp only [go_sem, reduceIte, reduceCtorEq, Nat.reduceEqDiff, Nat.reduceLT, Nat.reduceLeDiff, Nat.reduceBEq, Nat.reduceAdd, Int.reduceLE, Int.reduceLT] at hr
    obtain ⟨rfl, rfl⟩ := hr
    refine ⟨vc, ?_⟩
    refine AWPL_nil ?_
    with_reducible refine thenC_normal ?_
    refine AWP_seq ?_
    refine AWP_rl ?_
    refine AWPL_rn tab_ok 1 [1, 5, 19] fun c st' hr => ?_
    simp only [go_sem, reduceIte, reduceCtorEq, Nat.reduceEqDiff, Nat.reduceLT, Nat.reduceLeDiff, Nat.reduceBEq, Nat.reduceAdd, Int.reduceLE, Int.reduceLT] at hr
    obtain ⟨rfl, rfl⟩ := hr
    refine ⟨vc, ?_⟩
    replace hK := bind_s hK
    obtain ⟨y2, hy, hK⟩ := hK
    refine AWPL_callK [1, 5, 20] (W_minors_Dual hy) rfl rfl pcT rfl Try.call59 (.cons (.agg _ _ rfl (ArgsOk.get (.cons (.atom _ rfl) (.cons (.ownI _ _ _ _ _ y1.2.1 rfl (by simp) (by first | simp | exact List.take_of_length_le (by simp))) .nil))).2) .nil) (hscG trivial) (of_decide_eq_true rfl) (by first | rfl | simp [nI, nI1, nI0]) (by first | rfl | simp [nIB, nI0]) fun st' hr => ?_
    simp only [go_sem, reduceIte, reduceCtorEq, Nat.reduceEqDiff, Nat.reduceLT, Nat.reduceLeDiff, Nat.reduceBEq, Nat.reduceAdd, Int.reduceLE, Int.reduceLT] at hr
    subst hr
    clear hy
    refine AWPL_rn tab_ok 6 [1, 5, 7] fun c st' hr => ?_
    simp only [go_sem, reduceIte, reduceCtorEq, Nat.reduceEqDiff, Nat.reduceLT, Nat.reduceLeDiff, Nat.reduceBEq, Nat.reduceAdd, Int.reduceLE, Int.reduceLT] at hr
    obtain ⟨rfl, rfl⟩ := hr
    refine ⟨vc, ?_⟩
    refine AWPL_nil ?_
    with_reducible refine thenC_normal ?_
    refine AWP_seq ?_
    refine AWP_freeze 1 0 (y := .immp [.int .i64 m_0, .ints .i64 m_1]) rfl (.one (.ptrM _ _ _ _ _ _ _ rfl rfl rfl (ArgsOk.get (.cons (.atom _ rfl) (.cons (.atom _ rfl) .nil))).2)) fun st' hr => ?_
    simp only [go_sem, reduceIte, reduceCtorEq, Nat.reduceEqDiff, Nat.reduceLT, Nat.reduceLeDiff, Nat.reduceBEq, Nat.reduceAdd, Int.reduceLE, Int.reduceLT, List.set_cons_zero, List.set_cons_succ] at hr
    subst hr
    refine AWP_freezeJ 5 [2, 1] (y := .immp [.int .i64 y1.1, .ints .i64 y1.2.1]) (.one (.ptrM _ _ _ _ _ _ _ rfl rfl rfl (ArgsOk.get (.cons (.atom _ rfl) (.cons (.ownI _ _ _ _ _ y1.2.1 rfl (by simp) (by first | simp | exact List.take_of_length_le (by simp))) .nil))).2)) fun st' hr => ?_
    refine AWP_stE ⟨_, [(1, .immp [.int .i64 m_0, .ints .i64 m_1]), (5, .immp [.int .i64 y1.1, .ints .i64 y1.2.1]), (7, .ptr 4 0 0)], [none, none, none, some (.ints 3 .i64 y2.2.1), some (.gen 46 2 [[.int .i64 y2.1, .own 3 y2.2.1.length]])]⟩ (by rw [← hr]; rfl) ?_
    clear hr
    refine AWP_freezeJ 7 [4, 3] (y := .immp [.int .i64 y2.1, .ints .i64 y2.2.1]) (.one (.ptrM _ _ _ _ _ _ _ rfl rfl rfl (ArgsOk.get (.cons (.atom _ rfl) (.cons (.ownI _ _ _ _ _ y2.2.1 rfl (by simp) (by first | simp | exact List.take_of_length_le (by simp))) .nil))).2)) fun st' hr => ?_
    refine AWP_stE ⟨_, [(1, .immp [.int .i64 m_0, .ints .i64 m_1]), (5, .immp [.int .i64 y1.1, .ints .i64 y1.2.1]), (7, .immp [.int .i64 y2.1, .ints .i64 y2.2.1])], [none, none, none, none, none]⟩ (by rw [← hr]; rfl) ?_
    clear hr
    replace hK := bind_s hK
    obtain ⟨y3, hy, hK⟩ := hK
    replace hK := bind_s hK
    obtain ⟨y4, hy1, hK⟩ := hK
    refine AWP_drawJ ⟨30, [(2, .bool (decide (¬ (y4 = true)))), (3, .int .i64 0)], [none, none, none, none, none, some (.gen 46 2 (List.map (fun e => [.int .i64 e.1, .ints .i64 e.2]) [(y3.1, y3.2), (y1.1, y1.2.1), (y2.1, y2.2.1)]))]⟩ mixed ?_ ?_
    · refine AWPB_memo fun AA hAA => ?_
      have hn : AA 0 #[true, true, true, true, true, true, true, true, true] ⟨30, [(2, .bool (decide (¬ (y4 = true)))), (3, .int .i64 0)], [none, none, none, none, none, some (.gen 46 2 (List.map (fun e => [.int .i64 e.1, .ints .i64 e.2]) [(y3.1, y3.2), (y1.1, y1.2.1), (y2.1, y2.2.1)]))]⟩ := (hAA _ _ _).2 (by
        exact AWPB_end [0, 1, 2, 3, 4, 5] (by kernel_rfl) mkWk)
      have hn1 : AA 1 #[true, true, true, true, true, true, true, true, false] ⟨30, [(2, .bool (decide (¬ (y4 = true))))], [none, none, none, none, none, some (.gen 46 2 (List.map (fun e => [.int .i64 e.1, .ints .i64 e.2]) [(y3.1, y3.2), (y1.1, y1.2.1), (y2.1, y2.2.1)]))]⟩ := (hAA _ _ _).2 (by
        refine AWPB_take tab_ok [2, 3] 8 _ rfl rfl (by kernel_rfl) fun c st' hr => ?_
        simp only [go_sem, reduceIte, reduceCtorEq, Nat.reduceEqDiff, Nat.reduceLT, Nat.reduceLeDiff, Nat.reduceBEq, Nat.reduceAdd, Int.reduceLE, Int.reduceLT] at hr
        obtain ⟨rfl, rfl⟩ := hr
        refine ⟨vc, ?_⟩
        exact AWPB_wk [0, 1, 2, 3, 4, 5] mkWk ((hAA _ _ _).1 hn))
      have hn2 : AA 2 #[true, true, true, true, true, true, true, false, false] ⟨30, [(29, .bool (decide (¬ (y4 = true))))], [none, none, none, none, none, some (.gen 46 2 (List.map (fun e => [.int .i64 e.1, .ints .i64 e.2]) [(y3.1, y3.2), (y1.1, y1.2.1), (y2.1, y2.2.1)]))]⟩ := (hAA _ _ _).2 (by
        refine AWPB_take tab_ok [2, 3] 7 _ rfl rfl (by kernel_rfl) fun c st' hr => ?_
        simp only [go_sem, reduceIte, reduceCtorEq, Nat.reduceEqDiff, Nat.reduceLT, Nat.reduceLeDiff, Nat.reduceBEq, Nat.reduceAdd, Int.reduceLE, Int.reduceLT] at hr
        obtain ⟨rfl, rfl⟩ := hr
        refine ⟨vc, ?_⟩
        exact AWPB_wk [0, 1, 2, 3, 4, 5] mkWk ((hAA _ _ _).1 hn1))
      have hn3 : AA 3 #[true, true, true, true, true, true, false, false, false] ⟨30, [(28, .bool y4)], [none, none, none, none, none, some (.gen 46 2 (List.map (fun e => [.int .i64 e.1, .ints .i64 e.2]) [(y3.1, y3.2), (y1.1, y1.2.1), (y2.1, y2.2.1)]))]⟩ := (hAA _ _ _).2 (by
        refine AWPB_one 6 _ (by kernel_rfl) rfl ?_
        refine AWPL_rn tab_ok 1 [2, 3, 29] fun c st' hr => ?_
        simp only [go_sem, reduceIte, reduceCtorEq, Nat.reduceEqDiff, Nat.reduceLT, Nat.reduceLeDiff, Nat.reduceBEq, Nat.reduceAdd, Int.reduceLE, Int.reduceLT] at hr
        obtain ⟨rfl, rfl⟩ := hr
        refine ⟨vc, ?_⟩
        refine AWPL_nil ?_
        refine QB_normal ?_
        exact AWPB_wk [0, 1, 2, 3, 4, 5] mkWk ((hAA _ _ _).1 hn2))
      have hn4 : AA 4 #[true, true, true, true, true, false, false, false, false] ⟨30, [(23, .agg [.int .i64 m_0, .ints .i64 m_1]), (27, .own 5 3)], [none, none, none, none, none, some (.gen 46 2 (List.map (fun e => [.int .i64 e.1, .ints .i64 e.2]) [(y3.1, y3.2), (y1.1, y1.2.1), (y2.1, y2.2.1)]))]⟩ := (hAA _ _ _).2 (by
        refine AWPB_one 5 _ (by kernel_rfl) rfl ?_
        refine AWPL_callK [2, 3, 28, 29] (W_repr_has hy1) rfl rfl pcT rfl Try.call129 (.cons (.agg _ _ rfl (ArgsOk.get (.cons (.atom _ rfl) (.cons (.atom _ rfl) .nil))).2) (.cons (.ownEnc (fun e => [.int .i64 e.1, .ints .i64 e.2]) (0, []) [(y3.1, y3.2), (y1.1, y1.2.1), (y2.1, y2.2.1)] (by first | rfl | (simp; done)) (by first | rfl | (simp; done)) (fun _ => rfl) (fun _ => rfl)) .nil)) (hscG trivial) (of_decide_eq_true rfl) (by first | rfl | simp [nI, nI1, nI0]) (by first | rfl | simp [nIB, nI0]) fun st' hr => ?_
        simp only [go_sem, reduceIte, reduceCtorEq, Nat.reduceEqDiff, Nat.reduceLT, Nat.reduceLeDiff, Nat.reduceBEq, Nat.reduceAdd, Int.reduceLE, Int.reduceLT] at hr
        subst hr
        refine AWPL_nil ?_
        refine QB_normal ?_
        exact AWPB_wk [0, 1, 2, 3, 4, 5] mkWk ((hAA _ _ _).1 hn3))
      have hn5 : AA 5 #[true, true, true, true, false, false, false, false, false] ⟨30, [(23, .agg [.int .i64 m_0, .ints .i64 m_1]), (24, .agg [.int .i64 y3.1, .ints .i64 y3.2]), (25, .agg [.int .i64 y1.1, .ints .i64 y1.2.1]), (26, .agg [.int .i64 y2.1, .ints .i64 y2.2.1])], [none, none, none, none, none]⟩ := (hAA _ _ _).2 (by
        refine AWPB_one 4 _ (by kernel_rfl) rfl ?_
        refine AWPL_rn tab_ok 1 [2, 3, 23, 27, 28, 29] fun c st' hr => ?_
        simp only [go_sem, reduceIte, reduceCtorEq, Nat.reduceEqDiff, Nat.reduceLT, Nat.reduceLeDiff, Nat.reduceBEq, Nat.reduceAdd, Int.reduceLE, Int.reduceLT] at hr
        obtain ⟨rfl, rfl⟩ := hr
        refine ⟨vc, ?_⟩
        refine AWPL_nil ?_
        refine QB_normal ?_
        exact AWPB_wk [0, 1, 2, 3, 4, 5] mkWk ((hAA _ _ _).1 hn4))
      have hn6 : AA 6 #[true, true, true, false, false, false, false, false, false] ⟨30, [(7, .immp [.int .i64 y2.1, .ints .i64 y2.2.1]), (23, .agg [.int .i64 m_0, .ints .i64 m_1]), (24, .agg [.int .i64 y3.1, .ints .i64 y3.2]), (25, .agg [.int .i64 y1.1, .ints .i64 y1.2.1])], [none, none, none, none, none]⟩ := (hAA _ _ _).2 (by
        refine AWPB_one 3 _ (by kernel_rfl) rfl ?_
        refine AWPL_rn tab_ok 1 [2, 3, 23, 24, 25, 26, 27, 28, 29] fun c st' hr => ?_
        simp only [go_sem, reduceIte, reduceCtorEq, Nat.reduceEqDiff, Nat.reduceLT, Nat.reduceLeDiff, Nat.reduceBEq, Nat.reduceAdd, Int.reduceLE, Int.reduceLT] at hr
        obtain ⟨rfl, rfl⟩ := hr
        refine ⟨vc, ?_⟩
        refine AWPL_nil ?_
        refine QB_normal ?_
        exact AWPB_wk [0, 1, 2, 3, 4] mkWk ((hAA _ _ _).1 hn5))
      have hn7 : AA 6 #[true, true, false, true, false, false, false, false, false] ⟨30, [(5, .immp [.int .i64 y1.1, .ints .i64 y1.2.1]), (23, .agg [.int .i64 m_0, .ints .i64 m_1]), (24, .agg [.int .i64 y3.1, .ints .i64 y3.2]), (26, .agg [.int .i64 y2.1, .ints .i64 y2.2.1])], [none, none, none, none, none]⟩ := (hAA _ _ _).2 (by
        refine AWPB_one 2 _ (by kernel_rfl) rfl ?_
        refine AWPL_rn tab_ok 1 [2, 3, 23, 24, 25, 26, 27, 28, 29] fun c st' hr => ?_
        simp only [go_sem, reduceIte, reduceCtorEq, Nat.reduceEqDiff, Nat.reduceLT, Nat.reduceLeDiff, Nat.reduceBEq, Nat.reduceAdd, Int.reduceLE, Int.reduceLT] at hr
        obtain ⟨rfl, rfl⟩ := hr
        refine ⟨vc, ?_⟩
        refine AWPL_nil ?_
        refine QB_normal ?_
        exact AWPB_wk [0, 1, 2, 3, 4] mkWk ((hAA _ _ _).1 hn5))
      have hn8 : AA 7 #[true, true, false, false, false, false, false, false, false] ⟨30, [(5, .immp [.int .i64 y1.1, .ints .i64 y1.2.1]), (7, .immp [.int .i64 y2.1, .ints .i64 y2.2.1]), (23, .agg [.int .i64 m_0, .ints .i64 m_1]), (24, .agg [.int .i64 y3.1, .ints .i64 y3.2])], [none, none, none, none, none]⟩ := (hAA _ _ _).2 (by
        refine AWPB_two 2 3 _ _ (by kernel_rfl) rfl rfl ?_ ?_
        · skip
          refine AWPL_rn tab_ok 1 [2, 3, 7, 23, 24, 25, 26, 27, 28, 29] fun c st' hr => ?_
          simp only [go_sem, reduceIte, reduceCtorEq, Nat.reduceEqDiff, Nat.reduceLT, Nat.reduceLeDiff, Nat.reduceBEq, Nat.reduceAdd, Int.reduceLE, Int.reduceLT] at hr
          obtain ⟨rfl, rfl⟩ := hr
          refine ⟨vc, ?_⟩
          refine AWPL_nil ?_
          refine QB_normal ?_
          exact AWPB_wk [0, 1, 2, 3, 4] mkWk ((hAA _ _ _).1 hn6)
        · skip
          refine AWPL_rn tab_ok 1 [2, 3, 5, 23, 24, 25, 26, 27, 28, 29] fun c st' hr => ?_
          simp only [go_sem, reduceIte, reduceCtorEq, Nat.reduceEqDiff, Nat.reduceLT, Nat.reduceLeDiff, Nat.reduceBEq, Nat.reduceAdd, Int.reduceLE, Int.reduceLT] at hr
          obtain ⟨rfl, rfl⟩ := hr
          refine ⟨vc, ?_⟩
          refine AWPL_nil ?_
          refine QB_normal ?_
          exact AWPB_wk [0, 1, 2, 3, 4] mkWk ((hAA _ _ _).1 hn7))
      have hn9 : AA 6 #[true, false, true, true, false, false, false, false, false] ⟨30, [(23, .agg [.int .i64 m_0, .ints .i64 m_1]), (25, .agg [.int .i64 y1.1, .ints .i64 y1.2.1]), (26, .agg [.int .i64 y2.1, .ints .i64 y2.2.1])], [none, none, none, none, none]⟩ := (hAA _ _ _).2 (by
        refine AWPB_one 1 _ (by kernel_rfl) rfl ?_
        refine AWPL_callFA [2, 3, 23, 24, 25, 26, 27, 28, 29] (W_repr_uniform hy) rfl rfl pcT rfl Try.call130 (.cons (.atom _ rfl) (.cons (.atom _ rfl) .nil)) (hscG trivial) (of_decide_eq_true rfl) rfl rfl fun st' hr => ?_
        simp only [go_sem, reduceIte, reduceCtorEq, Nat.reduceEqDiff, Nat.reduceLT, Nat.reduceLeDiff, Nat.reduceBEq, Nat.reduceAdd, Int.reduceLE, Int.reduceLT] at hr
        subst hr
        refine AWPL_nil ?_
        refine QB_normal ?_
        exact AWPB_wk [0, 1, 2, 3, 4] mkWk ((hAA _ _ _).1 hn5))
      have hn10 : AA 7 #[true, false, true, false, false, false, false, false, false] ⟨30, [(7, .immp [.int .i64 y2.1, .ints .i64 y2.2.1]), (23, .agg [.int .i64 m_0, .ints .i64 m_1]), (25, .agg [.int .i64 y1.1, .ints .i64 y1.2.1])], [none, none, none, none, none]⟩ := (hAA _ _ _).2 (by
        refine AWPB_two 1 3 _ _ (by kernel_rfl) rfl rfl ?_ ?_
        · skip
          refine AWPL_callFA [2, 3, 7, 23, 24, 25, 26, 27, 28, 29] (W_repr_uniform hy) rfl rfl pcT rfl Try.call130 (.cons (.atom _ rfl) (.cons (.atom _ rfl) .nil)) (hscG trivial) (of_decide_eq_true rfl) rfl rfl fun st' hr => ?_
          simp only [go_sem, reduceIte, reduceCtorEq, Nat.reduceEqDiff, Nat.reduceLT, Nat.reduceLeDiff, Nat.reduceBEq, Nat.reduceAdd, Int.reduceLE, Int.reduceLT] at hr
          subst hr
          refine AWPL_nil ?_
          refine QB_normal ?_
          exact AWPB_wk [0, 1, 2, 3, 4] mkWk ((hAA _ _ _).1 hn6)
        · skip
          refine AWPL_rn tab_ok 1 [2, 3, 23, 24, 25, 26, 27, 28, 29] fun c st' hr => ?_
          simp only [go_sem, reduceIte, reduceCtorEq, Nat.reduceEqDiff, Nat.reduceLT, Nat.reduceLeDiff, Nat.reduceBEq, Nat.reduceAdd, Int.reduceLE, Int.reduceLT] at hr
          obtain ⟨rfl, rfl⟩ := hr
          refine ⟨vc, ?_⟩
          refine AWPL_nil ?_
          refine QB_normal ?_
          exact AWPB_wk [0, 1, 2, 3, 4] mkWk ((hAA _ _ _).1 hn9))
      have hn11 : AA 7 #[true, false, false, true, false, false, false, false, false] ⟨30, [(5, .immp [.int .i64 y1.1, .ints .i64 y1.2.1]), (23, .agg [.int .i64 m_0, .ints .i64 m_1]), (26, .agg [.int .i64 y2.1, .ints .i64 y2.2.1])], [none, none, none, none, none]⟩ := (hAA _ _ _).2 (by
        refine AWPB_two 1 2 _ _ (by kernel_rfl) rfl rfl ?_ ?_
        · skip
          refine AWPL_callFA [2, 3, 5, 23, 24, 25, 26, 27, 28, 29] (W_repr_uniform hy) rfl rfl pcT rfl Try.call130 (.cons (.atom _ rfl) (.cons (.atom _ rfl) .nil)) (hscG trivial) (of_decide_eq_true rfl) rfl rfl fun st' hr => ?_
          simp only [go_sem, reduceIte, reduceCtorEq, Nat.reduceEqDiff, Nat.reduceLT, Nat.reduceLeDiff, Nat.reduceBEq, Nat.reduceAdd, Int.reduceLE, Int.reduceLT] at hr
          subst hr
          refine AWPL_nil ?_
          refine QB_normal ?_
          exact AWPB_wk [0, 1, 2, 3, 4] mkWk ((hAA _ _ _).1 hn7)
        · skip
          refine AWPL_rn tab_ok 1 [2, 3, 23, 24, 25, 26, 27, 28, 29] fun c st' hr => ?_
          simp only [go_sem, reduceIte, reduceCtorEq, Nat.reduceEqDiff, Nat.reduceLT, Nat.reduceLeDiff, Nat.reduceBEq, Nat.reduceAdd, Int.reduceLE, Int.reduceLT] at hr
          obtain ⟨rfl, rfl⟩ := hr
          refine ⟨vc, ?_⟩
          refine AWPL_nil ?_
          refine QB_normal ?_
          exact AWPB_wk [0, 1, 2, 3, 4] mkWk ((hAA _ _ _).1 hn9))
      have hn12 : AA 8 #[true, false, false, false, false, false, false, false, false] ⟨30, [(5, .immp [.int .i64 y1.1, .ints .i64 y1.2.1]), (7, .immp [.int .i64 y2.1, .ints .i64 y2.2.1]), (23, .agg [.int .i64 m_0, .ints .i64 m_1])], [none, none, none, none, none]⟩ := (hAA _ _ _).2 (by
        refine AWPB_three 1 2 3 _ _ _ (by kernel_rfl) rfl rfl rfl ?_ ?_ ?_
        · skip
          refine AWPL_callFA [2, 3, 5, 7, 23, 24, 25, 26, 27, 28, 29] (W_repr_uniform hy) rfl rfl pcT rfl Try.call130 (.cons (.atom _ rfl) (.cons (.atom _ rfl) .nil)) (hscG trivial) (of_decide_eq_true rfl) rfl rfl fun st' hr => ?_
          simp only [go_sem, reduceIte, reduceCtorEq, Nat.reduceEqDiff, Nat.reduceLT, Nat.reduceLeDiff, Nat.reduceBEq, Nat.reduceAdd, Int.reduceLE, Int.reduceLT] at hr
          subst hr
          refine AWPL_nil ?_
          refine QB_normal ?_
          exact AWPB_wk [0, 1, 2, 3, 4] mkWk ((hAA _ _ _).1 hn8)
        · skip
          refine AWPL_rn tab_ok 1 [2, 3, 7, 23, 24, 25, 26, 27, 28, 29] fun c st' hr => ?_
          simp only [go_sem, reduceIte, reduceCtorEq, Nat.reduceEqDiff, Nat.reduceLT, Nat.reduceLeDiff, Nat.reduceBEq, Nat.reduceAdd, Int.reduceLE, Int.reduceLT] at hr
          obtain ⟨rfl, rfl⟩ := hr
          refine ⟨vc, ?_⟩
          refine AWPL_nil ?_
          refine QB_normal ?_
          exact AWPB_wk [0, 1, 2, 3, 4] mkWk ((hAA _ _ _).1 hn10)
        · skip
          refine AWPL_rn tab_ok 1 [2, 3, 5, 23, 24, 25, 26, 27, 28, 29] fun c st' hr => ?_
          simp only [go_sem, reduceIte, reduceCtorEq, Nat.reduceEqDiff, Nat.reduceLT, Nat.reduceLeDiff, Nat.reduceBEq, Nat.reduceAdd, Int.reduceLE, Int.reduceLT] at hr
          obtain ⟨rfl, rfl⟩ := hr
          refine ⟨vc, ?_⟩
          refine AWPL_nil ?_
          refine QB_normal ?_
          exact AWPB_wk [0, 1, 2, 3, 4] mkWk ((hAA _ _ _).1 hn11))
      have hn13 : AA 5 #[false, true, true, true, true, false, false, false, false] ⟨30, [(1, .immp [.int .i64 m_0, .ints .i64 m_1]), (27, .own 5 3)], [none, none, none, none, none, some (.gen 46 2 (List.map (fun e => [.int .i64 e.1, .ints .i64 e.2]) [(y3.1, y3.2), (y1.1, y1.2.1), (y2.1, y2.2.1)]))]⟩ := (hAA _ _ _).2 (by
        refine AWPB_one 0 _ (by kernel_rfl) rfl ?_
        refine AWPL_rn tab_ok 1 [2, 3, 23, 27, 28, 29] fun c st' hr => ?_
        simp only [go_sem, reduceIte, reduceCtorEq, Nat.reduceEqDiff, Nat.reduceLT, Nat.reduceLeDiff, Nat.reduceBEq, Nat.reduceAdd, Int.reduceLE, Int.reduceLT] at hr
        obtain ⟨rfl, rfl⟩ := hr
        refine ⟨vc, ?_⟩
        refine AWPL_nil ?_
        refine QB_normal ?_
        exact AWPB_wk [0, 1, 2, 3, 4, 5] mkWk ((hAA _ _ _).1 hn4))
      have hn14 : AA 6 #[false, true, true, true, false, false, false, false, false] ⟨30, [(1, .immp [.int .i64 m_0, .ints .i64 m_1]), (24, .agg [.int .i64 y3.1, .ints .i64 y3.2]), (25, .agg [.int .i64 y1.1, .ints .i64 y1.2.1]), (26, .agg [.int .i64 y2.1, .ints .i64 y2.2.1])], [none, none, none, none, none]⟩ := (hAA _ _ _).2 (by
        refine AWPB_two 0 4 _ _ (by kernel_rfl) rfl rfl ?_ ?_
        · skip
          refine AWPL_rn tab_ok 1 [2, 3, 23, 24, 25, 26, 27, 28, 29] fun c st' hr => ?_
          simp only [go_sem, reduceIte, reduceCtorEq, Nat.reduceEqDiff, Nat.reduceLT, Nat.reduceLeDiff, Nat.reduceBEq, Nat.reduceAdd, Int.reduceLE, Int.reduceLT] at hr
          obtain ⟨rfl, rfl⟩ := hr
          refine ⟨vc, ?_⟩
          refine AWPL_nil ?_
          refine QB_normal ?_
          exact AWPB_wk [0, 1, 2, 3, 4] mkWk ((hAA _ _ _).1 hn5)
        · skip
          refine AWPL_rn tab_ok 1 [1, 2, 3, 23, 27, 28, 29] fun c st' hr => ?_
          simp only [go_sem, reduceIte, reduceCtorEq, Nat.reduceEqDiff, Nat.reduceLT, Nat.reduceLeDiff, Nat.reduceBEq, Nat.reduceAdd, Int.reduceLE, Int.reduceLT] at hr
          obtain ⟨rfl, rfl⟩ := hr
          refine ⟨vc, ?_⟩
          refine AWPL_nil ?_
          refine QB_normal ?_
          exact AWPB_wk [0, 1, 2, 3, 4, 5] mkWk ((hAA _ _ _).1 hn13))
      have hn15 : AA 7 #[false, true, true, false, false, false, false, false, false] ⟨30, [(1, .immp [.int .i64 m_0, .ints .i64 m_1]), (7, .immp [.int .i64 y2.1, .ints .i64 y2.2.1]), (24, .agg [.int .i64 y3.1, .ints .i64 y3.2]), (25, .agg [.int .i64 y1.1, .ints .i64 y1.2.1])], [none, none, none, none, none]⟩ := (hAA _ _ _).2 (by
        refine AWPB_two 0 3 _ _ (by kernel_rfl) rfl rfl ?_ ?_
        · skip
          refine AWPL_rn tab_ok 1 [2, 3, 7, 23, 24, 25, 26, 27, 28, 29] fun c st' hr => ?_
          simp only [go_sem, reduceIte, reduceCtorEq, Nat.reduceEqDiff, Nat.reduceLT, Nat.reduceLeDiff, Nat.reduceBEq, Nat.reduceAdd, Int.reduceLE, Int.reduceLT] at hr
          obtain ⟨rfl, rfl⟩ := hr
          refine ⟨vc, ?_⟩
          refine AWPL_nil ?_
          refine QB_normal ?_
          exact AWPB_wk [0, 1, 2, 3, 4] mkWk ((hAA _ _ _).1 hn6)
        · skip
          refine AWPL_rn tab_ok 1 [1, 2, 3, 23, 24, 25, 26, 27, 28, 29] fun c st' hr => ?_
          simp only [go_sem, reduceIte, reduceCtorEq, Nat.reduceEqDiff, Nat.reduceLT, Nat.reduceLeDiff, Nat.reduceBEq, Nat.reduceAdd, Int.reduceLE, Int.reduceLT] at hr
          obtain ⟨rfl, rfl⟩ := hr
          refine ⟨vc, ?_⟩
          refine AWPL_nil ?_
          refine QB_normal ?_
          exact AWPB_wk [0, 1, 2, 3, 4] mkWk ((hAA _ _ _).1 hn14))
      have hn16 : AA 7 #[false, true, false, true, false, false, false, false, false] ⟨30, [(1, .immp [.int .i64 m_0, .ints .i64 m_1]), (5, .immp [.int .i64 y1.1, .ints .i64 y1.2.1]), (24, .agg [.int .i64 y3.1, .ints .i64 y3.2]), (26, .agg [.int .i64 y2.1, .ints .i64 y2.2.1])], [none, none, none, none, none]⟩ := (hAA _ _ _).2 (by
        refine AWPB_two 0 2 _ _ (by kernel_rfl) rfl rfl ?_ ?_
        · skip
          refine AWPL_rn tab_ok 1 [2, 3, 5, 23, 24, 25, 26, 27, 28, 29] fun c st' hr => ?_
          simp only [go_sem, reduceIte, reduceCtorEq, Nat.reduceEqDiff, Nat.reduceLT, Nat.reduceLeDiff, Nat.reduceBEq, Nat.reduceAdd, Int.reduceLE, Int.reduceLT] at hr
          obtain ⟨rfl, rfl⟩ := hr
          refine ⟨vc, ?_⟩
          refine AWPL_nil ?_
          refine QB_normal ?_
          exact AWPB_wk [0, 1, 2, 3, 4] mkWk ((hAA _ _ _).1 hn7)
        · skip
          refine AWPL_rn tab_ok 1 [1, 2, 3, 23, 24, 25, 26, 27, 28, 29] fun c st' hr => ?_
          simp only [go_sem, reduceIte, reduceCtorEq, Nat.reduceEqDiff, Nat.reduceLT, Nat.reduceLeDiff, Nat.reduceBEq, Nat.reduceAdd, Int.reduceLE, Int.reduceLT] at hr
          obtain ⟨rfl, rfl⟩ := hr
          refine ⟨vc, ?_⟩
          refine AWPL_nil ?_
          refine QB_normal ?_
          exact AWPB_wk [0, 1, 2, 3, 4] mkWk ((hAA _ _ _).1 hn14))
      have hn17 : AA 8 #[false, true, false, false, false, false, false, false, false] ⟨30, [(1, .immp [.int .i64 m_0, .ints .i64 m_1]), (5, .immp [.int .i64 y1.1, .ints .i64 y1.2.1]), (7, .immp [.int .i64 y2.1, .ints .i64 y2.2.1]), (24, .agg [.int .i64 y3.1, .ints .i64 y3.2])], [none, none, none, none, none]⟩ := (hAA _ _ _).2 (by
        refine AWPB_three 0 2 3 _ _ _ (by kernel_rfl) rfl rfl rfl ?_ ?_ ?_
        · skip
          refine AWPL_rn tab_ok 1 [2, 3, 5, 7, 23, 24, 25, 26, 27, 28, 29] fun c st' hr => ?_
          simp only [go_sem, reduceIte, reduceCtorEq, Nat.reduceEqDiff, Nat.reduceLT, Nat.reduceLeDiff, Nat.reduceBEq, Nat.reduceAdd, Int.reduceLE, Int.reduceLT] at hr
          obtain ⟨rfl, rfl⟩ := hr
          refine ⟨vc, ?_⟩
          refine AWPL_nil ?_
          refine QB_normal ?_
          exact AWPB_wk [0, 1, 2, 3, 4] mkWk ((hAA _ _ _).1 hn8)
        · skip
          refine AWPL_rn tab_ok 1 [1, 2, 3, 7, 23, 24, 25, 26, 27, 28, 29] fun c st' hr => ?_
          simp only [go_sem, reduceIte, reduceCtorEq, Nat.reduceEqDiff, Nat.reduceLT, Nat.reduceLeDiff, Nat.reduceBEq, Nat.reduceAdd, Int.reduceLE, Int.reduceLT] at hr
          obtain ⟨rfl, rfl⟩ := hr
          refine ⟨vc, ?_⟩
          refine AWPL_nil ?_
          refine QB_normal ?_
          exact AWPB_wk [0, 1, 2, 3, 4] mkWk ((hAA _ _ _).1 hn15)
        · skip
          refine AWPL_rn tab_ok 1 [1, 2, 3, 5, 23, 24, 25, 26, 27, 28, 29] fun c st' hr => ?_
          simp only [go_sem, reduceIte, reduceCtorEq, Nat.reduceEqDiff, Nat.reduceLT, Nat.reduceLeDiff, Nat.reduceBEq, Nat.reduceAdd, Int.reduceLE, Int.reduceLT] at hr
          obtain ⟨rfl, rfl⟩ := hr
          refine ⟨vc, ?_⟩
          refine AWPL_nil ?_
          refine QB_normal ?_
          exact AWPB_wk [0, 1, 2, 3, 4] mkWk ((hAA _ _ _).1 hn16))
      have hn18 : AA 7 #[false, false, true, true, false, false, false, false, false] ⟨30, [(1, .immp [.int .i64 m_0, .ints .i64 m_1]), (25, .agg [.int .i64 y1.1, .ints .i64 y1.2.1]), (26, .agg [.int .i64 y2.1, .ints .i64 y2.2.1])], [none, none, none, none, none]⟩ := (hAA _ _ _).2 (by
        refine AWPB_two 0 1 _ _ (by kernel_rfl) rfl rfl ?_ ?_
        · skip
          refine AWPL_rn tab_ok 1 [2, 3, 23, 24, 25, 26, 27, 28, 29] fun c st' hr => ?_
          simp only [go_sem, reduceIte, reduceCtorEq, Nat.reduceEqDiff, Nat.reduceLT, Nat.reduceLeDiff, Nat.reduceBEq, Nat.reduceAdd, Int.reduceLE, Int.reduceLT] at hr
          obtain ⟨rfl, rfl⟩ := hr
          refine ⟨vc, ?_⟩
          refine AWPL_nil ?_
          refine QB_normal ?_
          exact AWPB_wk [0, 1, 2, 3, 4] mkWk ((hAA _ _ _).1 hn9)
        · skip
          refine AWPL_callFA [1, 2, 3, 23, 24, 25, 26, 27, 28, 29] (W_repr_uniform hy) rfl rfl pcT rfl Try.call130 (.cons (.atom _ rfl) (.cons (.atom _ rfl) .nil)) (hscG trivial) (of_decide_eq_true rfl) rfl rfl fun st' hr => ?_
          simp only [go_sem, reduceIte, reduceCtorEq, Nat.reduceEqDiff, Nat.reduceLT, Nat.reduceLeDiff, Nat.reduceBEq, Nat.reduceAdd, Int.reduceLE, Int.reduceLT] at hr
          subst hr
          refine AWPL_nil ?_
          refine QB_normal ?_
          exact AWPB_wk [0, 1, 2, 3, 4] mkWk ((hAA _ _ _).1 hn14))
      have hn19 : AA 8 #[false, false, true, false, false, false, false, false, false] ⟨30, [(1, .immp [.int .i64 m_0, .ints .i64 m_1]), (7, .immp [.int .i64 y2.1, .ints .i64 y2.2.1]), (25, .agg [.int .i64 y1.1, .ints .i64 y1.2.1])], [none, none, none, none, none]⟩ := (hAA _ _ _).2 (by
        refine AWPB_three 0 1 3 _ _ _ (by kernel_rfl) rfl rfl rfl ?_ ?_ ?_
        · skip
          refine AWPL_rn tab_ok 1 [2, 3, 7, 23, 24, 25, 26, 27, 28, 29] fun c st' hr => ?_
          simp only [go_sem, reduceIte, reduceCtorEq, Nat.reduceEqDiff, Nat.reduceLT, Nat.reduceLeDiff, Nat.reduceBEq, Nat.reduceAdd, Int.reduceLE, Int.reduceLT] at hr
          obtain ⟨rfl, rfl⟩ := hr
          refine ⟨vc, ?_⟩
          refine AWPL_nil ?_
          refine QB_normal ?_
          exact AWPB_wk [0, 1, 2, 3, 4] mkWk ((hAA _ _ _).1 hn10)
        · skip
          refine AWPL_callFA [1, 2, 3, 7, 23, 24, 25, 26, 27, 28, 29] (W_repr_uniform hy) rfl rfl pcT rfl Try.call130 (.cons (.atom _ rfl) (.cons (.atom _ rfl) .nil)) (hscG trivial) (of_decide_eq_true rfl) rfl rfl fun st' hr => ?_
          simp only [go_sem, reduceIte, reduceCtorEq, Nat.reduceEqDiff, Nat.reduceLT, Nat.reduceLeDiff, Nat.reduceBEq, Nat.reduceAdd, Int.reduceLE, Int.reduceLT] at hr
          subst hr
          refine AWPL_nil ?_
          refine QB_normal ?_
          exact AWPB_wk [0, 1, 2, 3, 4] mkWk ((hAA _ _ _).1 hn15)
        · skip
          refine AWPL_rn tab_ok 1 [1, 2, 3, 23, 24, 25, 26, 27, 28, 29] fun c st' hr => ?_
          simp only [go_sem, reduceIte, reduceCtorEq, Nat.reduceEqDiff, Nat.reduceLT, Nat.reduceLeDiff, Nat.reduceBEq, Nat.reduceAdd, Int.reduceLE, Int.reduceLT] at hr
          obtain ⟨rfl, rfl⟩ := hr
          refine ⟨vc, ?_⟩
          refine AWPL_nil ?_
          refine QB_normal ?_
          exact AWPB_wk [0, 1, 2, 3, 4] mkWk ((hAA _ _ _).1 hn18))
      have hn20 : AA 8 #[false, false, false, true, false, false, false, false, false] ⟨30, [(1, .immp [.int .i64 m_0, .ints .i64 m_1]), (5, .immp [.int .i64 y1.1, .ints .i64 y1.2.1]), (26, .agg [.int .i64 y2.1, .ints .i64 y2.2.1])], [none, none, none, none, none]⟩ := (hAA _ _ _).2 (by
        refine AWPB_three 0 1 2 _ _ _ (by kernel_rfl) rfl rfl rfl ?_ ?_ ?_
        · skip
          refine AWPL_rn tab_ok 1 [2, 3, 5, 23, 24, 25, 26, 27, 28, 29] fun c st' hr => ?_
          simp only [go_sem, reduceIte, reduceCtorEq, Nat.reduceEqDiff, Nat.reduceLT, Nat.reduceLeDiff, Nat.reduceBEq, Nat.reduceAdd, Int.reduceLE, Int.reduceLT] at hr
          obtain ⟨rfl, rfl⟩ := hr
          refine ⟨vc, ?_⟩
          refine AWPL_nil ?_
          refine QB_normal ?_
          exact AWPB_wk [0, 1, 2, 3, 4] mkWk ((hAA _ _ _).1 hn11)
        · skip
          refine AWPL_callFA [1, 2, 3, 5, 23, 24, 25, 26, 27, 28, 29] (W_repr_uniform hy) rfl rfl pcT rfl Try.call130 (.cons (.atom _ rfl) (.cons (.atom _ rfl) .nil)) (hscG trivial) (of_decide_eq_true rfl) rfl rfl fun st' hr => ?_
          simp only [go_sem, reduceIte, reduceCtorEq, Nat.reduceEqDiff, Nat.reduceLT, Nat.reduceLeDiff, Nat.reduceBEq, Nat.reduceAdd, Int.reduceLE, Int.reduceLT] at hr
          subst hr
          refine AWPL_nil ?_
          refine QB_normal ?_
          exact AWPB_wk [0, 1, 2, 3, 4] mkWk ((hAA _ _ _).1 hn16)
        · skip
          refine AWPL_rn tab_ok 1 [1, 2, 3, 23, 24, 25, 26, 27, 28, 29] fun c st' hr => ?_
          simp only [go_sem, reduceIte, reduceCtorEq, Nat.reduceEqDiff, Nat.reduceLT, Nat.reduceLeDiff, Nat.reduceBEq, Nat.reduceAdd, Int.reduceLE, Int.reduceLT] at hr
          obtain ⟨rfl, rfl⟩ := hr
          refine ⟨vc, ?_⟩
          refine AWPL_nil ?_
          refine QB_normal ?_
          exact AWPB_wk [0, 1, 2, 3, 4] mkWk ((hAA _ _ _).1 hn18))
      have hn21 : AA 9 #[false, false, false, false, false, false, false, false, false] ⟨30, [(1, .immp [.int .i64 m_0, .ints .i64 m_1]), (5, .immp [.int .i64 y1.1, .ints .i64 y1.2.1]), (7, .immp [.int .i64 y2.1, .ints .i64 y2.2.1])], [none, none, none, none, none]⟩ := (hAA _ _ _).2 (by
        refine AWPB_four 0 1 2 3 _ _ _ _ (by kernel_rfl) rfl rfl rfl rfl ?_ ?_ ?_ ?_
        · skip
          refine AWPL_rn tab_ok 1 [2, 3, 5, 7, 23, 24, 25, 26, 27, 28, 29] fun c st' hr => ?_
          simp only [go_sem, reduceIte, reduceCtorEq, Nat.reduceEqDiff, Nat.reduceLT, Nat.reduceLeDiff, Nat.reduceBEq, Nat.reduceAdd, Int.reduceLE, Int.reduceLT] at hr
          obtain ⟨rfl, rfl⟩ := hr
          refine ⟨vc, ?_⟩
          refine AWPL_nil ?_
          refine QB_normal ?_
          exact AWPB_wk [0, 1, 2, 3, 4] mkWk ((hAA _ _ _).1 hn12)
        · skip
          refine AWPL_callFA [1, 2, 3, 5, 7, 23, 24, 25, 26, 27, 28, 29] (W_repr_uniform hy) rfl rfl pcT rfl Try.call130 (.cons (.atom _ rfl) (.cons (.atom _ rfl) .nil)) (hscG trivial) (of_decide_eq_true rfl) rfl rfl fun st' hr => ?_
          simp only [go_sem, reduceIte, reduceCtorEq, Nat.reduceEqDiff, Nat.reduceLT, Nat.reduceLeDiff, Nat.reduceBEq, Nat.reduceAdd, Int.reduceLE, Int.reduceLT] at hr
          subst hr
          refine AWPL_nil ?_
          refine QB_normal ?_
          exact AWPB_wk [0, 1, 2, 3, 4] mkWk ((hAA _ _ _).1 hn17)
        · skip
          refine AWPL_rn tab_ok 1 [1, 2, 3, 7, 23, 24, 25, 26, 27, 28, 29] fun c st' hr => ?_
          simp only [go_sem, reduceIte, reduceCtorEq, Nat.reduceEqDiff, Nat.reduceLT, Nat.reduceLeDiff, Nat.reduceBEq, Nat.reduceAdd, Int.reduceLE, Int.reduceLT] at hr
          obtain ⟨rfl, rfl⟩ := hr
          refine ⟨vc, ?_⟩
          refine AWPL_nil ?_
          refine QB_normal ?_
          exact AWPB_wk [0, 1, 2, 3, 4] mkWk ((hAA _ _ _).1 hn19)
        · skip
          refine AWPL_rn tab_ok 1 [1, 2, 3, 5, 23, 24, 25, 26, 27, 28, 29] fun c st' hr => ?_
          simp only [go_sem, reduceIte, reduceCtorEq, Nat.reduceEqDiff, Nat.reduceLT, Nat.reduceLeDiff, Nat.reduceBEq, Nat.reduceAdd, Int.reduceLE, Int.reduceLT] at hr
          obtain ⟨rfl, rfl⟩ := hr
          refine ⟨vc, ?_⟩
          refine AWPL_nil ?_
          refine QB_normal ?_
          exact AWPB_wk [0, 1, 2, 3, 4] mkWk ((hAA _ _ _).1 hn20))
      exact (hAA _ _ _).2 (AWPB_wk [0, 1, 2, 3, 4] mkWk ((hAA _ _ _).1 hn21))
    with_reducible refine thenC_normal ?_
    refine AWP_ret ?_
    cases hK
    refine EndsRW [] (.inl rfl) (of_decide_eq_true rfl) (by simp) rfl (fun c x hr => ?_) trivial
    simp only [go_sem, reduceIte, reduceCtorEq, Nat.reduceEqDiff, Nat.reduceLT, Nat.reduceLeDiff, Nat.reduceBEq, Nat.reduceAdd, Int.reduceLE, Int.reduceLT] at hr
    obtain ⟨rfl, rfl⟩ := hr
    exact ⟨rfl, endR⟩

end Go.SH
