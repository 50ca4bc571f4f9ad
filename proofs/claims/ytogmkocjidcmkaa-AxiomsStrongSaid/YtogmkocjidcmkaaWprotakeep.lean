/-
  That the code computes these functions: rotakeep_two, rotakeep_AxiomsStrong_1. By a program of mine (shal.py). Conditions: none.
-/
import Derived.Test.YtogmkocjidcmkaaAxT
import Derived.Test.YtogmkocjidcmkaaAxQ
import Derived.Test.YtogmkocjidcmkaaSprotakeep
import Derived.Test.YtogmkocjidcmkaaWprotaref
set_option linter.unusedVariables false
set_option linter.unusedSimpArgs false
namespace Go.SH
open Go Go.AX Go.AX.Try Go.Proofs

set_option maxRecDepth 8000 in
set_option maxHeartbeats 4000000 in
theorem W_rotakeep_two  {r : Int × List Int} (hK : rotakeep_two  = some r) : Pure Try.prog 28 [] (.agg [.int .i64 r.1, .own 0 r.2.length]) [(.ints 3 .i64 r.2)] := by
  refine Pure_introF tab_ok (n := 3) (l := [.cell 0 45]) Try.func28 rfl rfl rfl (by simp) fun hfact w0 => ?_
  simp only [factL1, fact1, fact0, factL0, lo, hi, maxLen, and_true] at hfact
  unfold rotakeep_two at hK
  refine AWP_seq ?_
  -- region 0
  refine AWP_rg tab_ok [0] fun c st' hr => ?_
  simp only [go_sem, reduceIte, reduceCtorEq, Nat.reduceEqDiff, Nat.reduceLT, Nat.reduceLeDiff, Nat.reduceBEq, Nat.reduceAdd, Nat.reduceMul, Nat.reduceSub, Nat.reducePow, Int.reduceLE, Int.reduceLT, Int.reduceNeg, Int.reduceToNat, Int.reduceAdd, Int.reduceSub] at hr
  obtain ⟨rfl, rfl⟩ := hr
  refine ⟨vc, ?_⟩
  with_reducible refine thenC_normal ?_
  refine AWP_ownH 0 1 (.ints 3 .i64 []) rfl rfl rfl fun st' hr => ?_
  simp only [go_sem, reduceIte, reduceCtorEq, Nat.reduceEqDiff, Nat.reduceLT, Nat.reduceLeDiff, Nat.reduceBEq, Nat.reduceAdd, Nat.reduceMul, Nat.reduceSub, Nat.reducePow, Int.reduceLE, Int.reduceLT, Int.reduceNeg, Int.reduceToNat, Int.reduceAdd, Int.reduceSub] at hr
  subst hr
  refine AWP_seq ?_
  -- region 1
  refine AWP_rg tab_ok [0] fun c st' hr => ?_
  simp only [go_sem, reduceIte, reduceCtorEq, Nat.reduceEqDiff, Nat.reduceLT, Nat.reduceLeDiff, Nat.reduceBEq, Nat.reduceAdd, Nat.reduceMul, Nat.reduceSub, Nat.reducePow, Int.reduceLE, Int.reduceLT, Int.reduceNeg, Int.reduceToNat, Int.reduceAdd, Int.reduceSub] at hr
  obtain ⟨rfl, rfl⟩ := hr
  refine ⟨vc, ?_⟩
  with_reducible refine thenC_normal ?_
  refine AWP_ret ?_
  cases hK
  refine EndsRW [2] (.inl rfl) (of_decide_eq_true rfl) (by simp) rfl (fun c x hr => ?_) endH
  simp only [go_sem, reduceIte, reduceCtorEq, Nat.reduceEqDiff, Nat.reduceLT, Nat.reduceLeDiff, Nat.reduceBEq, Nat.reduceAdd, Nat.reduceMul, Nat.reduceSub, Nat.reducePow, Int.reduceLE, Int.reduceLT, Int.reduceNeg, Int.reduceToNat, Int.reduceAdd, Int.reduceSub] at hr
  obtain ⟨rfl, rfl⟩ := hr
  exact ⟨rfl, endR⟩

set_option maxRecDepth 8000 in
set_option maxHeartbeats 4000000 in
theorem W_rotakeep_AxiomsStrong_1 {z : Int} {c0 : Int} {c1 : Int} {c2 : Int} {c3 : Int} {r : Bool} (hK : rotakeep_AxiomsStrong_1 z c0 c1 c2 c3 = some r) : Pure Try.prog 38 [.int .i64 z, .intp .i64 c0, .intp .i64 c1, .intp .i64 c2, .intp .i64 c3] (.bool r) [] := by
  refine Pure_introF tab_ok (n := 23) (l := [.tmp 6]) Try.func38 rfl rfl rfl (by simp) fun hfact w0 => ?_
  simp only [factL1, fact1, fact0, factL0, lo, hi, maxLen, and_true] at hfact
  unfold rotakeep_AxiomsStrong_1 at hK
  refine AWP_seq ?_
  -- region 0
  refine AWP_rg tab_ok [0, 1, 2, 3, 4] fun c st' hr => ?_
  simp only [go_sem, reduceIte, reduceCtorEq, Nat.reduceEqDiff, Nat.reduceLT, Nat.reduceLeDiff, Nat.reduceBEq, Nat.reduceAdd, Nat.reduceMul, Nat.reduceSub, Nat.reducePow, Int.reduceLE, Int.reduceLT, Int.reduceNeg, Int.reduceToNat, Int.reduceAdd, Int.reduceSub] at hr
  obtain ⟨rfl, rfl⟩ := hr
  refine ⟨vc, ?_⟩
  with_reducible refine thenC_normal ?_
  refine AWP_seq ?_
  -- region 1
  refine AWP_rl ?_
  refine AWPL_rn tab_ok 2 [0, 2, 3, 4, 7, 8] fun c st' hr => ?_
  simp only [go_sem, reduceIte, reduceCtorEq, Nat.reduceEqDiff, Nat.reduceLT, Nat.reduceLeDiff, Nat.reduceBEq, Nat.reduceAdd, Nat.reduceMul, Nat.reduceSub, Nat.reducePow, Int.reduceLE, Int.reduceLT, Int.reduceNeg, Int.reduceToNat, Int.reduceAdd, Int.reduceSub] at hr
  obtain ⟨rfl, rfl⟩ := hr
  refine ⟨vc, ?_⟩
  replace hK := bind_s hK
  obtain ⟨y, hy, hK⟩ := hK
  refine AWPL_callK [0, 2, 3, 4, 9] (W_rotaref_In hy) rfl rfl pcT rfl Try.call39 (.cons (.atom _ rfl) (.cons (.atom _ rfl) .nil)) (hscG trivial) (of_decide_eq_true rfl) (by first | rfl | simp [nI, nI1, nI0]) (by first | rfl | simp [nIB, nI0]) fun st' hr => ?_
  simp only [go_sem, reduceIte, reduceCtorEq, Nat.reduceEqDiff, Nat.reduceLT, Nat.reduceLeDiff, Nat.reduceBEq, Nat.reduceAdd, Nat.reduceMul, Nat.reduceSub, Nat.reducePow, Int.reduceLE, Int.reduceLT, Int.reduceNeg, Int.reduceToNat, Int.reduceAdd, Int.reduceSub] at hr
  subst hr
  clear hy
  refine AWPL_rn tab_ok 3 [0, 3, 4, 10, 11, 12] fun c st' hr => ?_
  simp only [go_sem, reduceIte, reduceCtorEq, Nat.reduceEqDiff, Nat.reduceLT, Nat.reduceLeDiff, Nat.reduceBEq, Nat.reduceAdd, Nat.reduceMul, Nat.reduceSub, Nat.reducePow, Int.reduceLE, Int.reduceLT, Int.reduceNeg, Int.reduceToNat, Int.reduceAdd, Int.reduceSub] at hr
  obtain ⟨rfl, rfl⟩ := hr
  refine ⟨vc, ?_⟩
  replace hK := bind_s hK
  obtain ⟨y1, hy, hK⟩ := hK
  refine AWPL_callGP [0, 3, 4, 10, 13] (y = true) (fun hg => (W_rotaref_In (ite_t hy hg))) rfl rfl pcG rfl Try.call39 (.cons (.atom _ rfl) (.cons (.atom _ rfl) .nil)) (fun hg => hscG hg) (of_decide_eq_true rfl) (by first | rfl | simp [nI, nI1, nI0]) (by first | rfl | simp [sh, sh1, sh0]) fun st' hr => ?_
  simp only [go_sem, reduceIte, reduceCtorEq, Nat.reduceEqDiff, Nat.reduceLT, Nat.reduceLeDiff, Nat.reduceBEq, Nat.reduceAdd, Nat.reduceMul, Nat.reduceSub, Nat.reducePow, Int.reduceLE, Int.reduceLT, Int.reduceNeg, Int.reduceToNat, Int.reduceAdd, Int.reduceSub] at hr
  subst hr
  clear hy
  refine AWPL_rn tab_ok 7 [16, 17, 20] fun c st' hr => ?_
  simp only [go_sem, reduceIte, reduceCtorEq, Nat.reduceEqDiff, Nat.reduceLT, Nat.reduceLeDiff, Nat.reduceBEq, Nat.reduceAdd, Nat.reduceMul, Nat.reduceSub, Nat.reducePow, Int.reduceLE, Int.reduceLT, Int.reduceNeg, Int.reduceToNat, Int.reduceAdd, Int.reduceSub] at hr
  obtain ⟨rfl, rfl⟩ := hr
  refine ⟨vc, ?_⟩
  replace hK := bind_s hK
  obtain ⟨y2, hy, hK⟩ := hK
  refine AWPL_callGP [16, 21] ((y = true ∧ ¬ (y1 = true))) (fun hg => (W_rotaref_Within (ite_t hy hg))) rfl rfl pcG rfl Try.call32 (.cons (.atom _ rfl) (.cons (.atom _ rfl) .nil)) (fun hg => hscG hg) (of_decide_eq_true rfl) (by first | rfl | simp [nI, nI1, nI0]) (by first | rfl | simp [sh, sh1, sh0]) fun st' hr => ?_
  simp only [go_sem, reduceIte, reduceCtorEq, Nat.reduceEqDiff, Nat.reduceLT, Nat.reduceLeDiff, Nat.reduceBEq, Nat.reduceAdd, Nat.reduceMul, Nat.reduceSub, Nat.reducePow, Int.reduceLE, Int.reduceLT, Int.reduceNeg, Int.reduceToNat, Int.reduceAdd, Int.reduceSub] at hr
  subst hr
  clear hy
  refine AWPL_rn tab_ok 2 [6] fun c st' hr => ?_
  simp only [go_sem, reduceIte, reduceCtorEq, Nat.reduceEqDiff, Nat.reduceLT, Nat.reduceLeDiff, Nat.reduceBEq, Nat.reduceAdd, Nat.reduceMul, Nat.reduceSub, Nat.reducePow, Int.reduceLE, Int.reduceLT, Int.reduceNeg, Int.reduceToNat, Int.reduceAdd, Int.reduceSub] at hr
  obtain ⟨rfl, rfl⟩ := hr
  refine ⟨vc, ?_⟩
  refine AWPL_nil ?_
  with_reducible refine thenC_normal ?_
  refine AWP_ret ?_
  cases hK
  refine EndsRW [] (.inl rfl) (of_decide_eq_true rfl) (by simp) rfl (fun c x hr => ?_) trivial
  simp only [go_sem, reduceIte, reduceCtorEq, Nat.reduceEqDiff, Nat.reduceLT, Nat.reduceLeDiff, Nat.reduceBEq, Nat.reduceAdd, Nat.reduceMul, Nat.reduceSub, Nat.reducePow, Int.reduceLE, Int.reduceLT, Int.reduceNeg, Int.reduceToNat, Int.reduceAdd, Int.reduceSub] at hr
  obtain ⟨rfl, rfl⟩ := hr
  exact ⟨rfl, endR⟩

end Go.SH
