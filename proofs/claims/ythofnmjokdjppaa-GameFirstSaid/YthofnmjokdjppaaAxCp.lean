/-
  slices.Clone of a list of pairs that came in. Conditions: the list's length is at most 2^43.
-/
import Derived.Test.YthofnmjokdjppaaAxT
import Derived.Test.YthofnmjokdjppaaAxR
import Derived.Test.YthofnmjokdjppaaAxOp
set_option linter.unusedVariables false
set_option linter.unusedSimpArgs false
namespace Go.AX
open Go Go.AX.Try Go.Proofs

theorem run_slice_nil2 {P : Program} {t e : TypeId} (h : P.underlying t = some (.slice e)) (n c : Nat) (w : World) : ∃ b, (binOp .eql t (.slice none n c) (.slice none 0 0)).run P w = .ok (.bool b) w := by
  have key : ∃ b, ∀ d, (Op.equalIn (d + 1) t (.slice none n c) (.slice none 0 0)).run P w = .ok b w := by
    refine ⟨true, fun d => ?_⟩
    simp [Op.equalIn, run_underlying h]
  obtain ⟨b, key⟩ := key
  exact ⟨b, by simp only [binOp]; simp [Op.equal, Op.maxDepth, key 9999]⟩

/-- A list that came in, compared with nil: where it is empty nobody knows. -/
theorem AWPL_cmpF {P : Program} {T : Tab} {w0 : World} {st : St} (hT : TabOk P T) (K : List Nat) {all : Array Oper} {Q : Exit → St → Prop} {rest : List Oper} {o : Oper} {t e yt : TypeId} {x y : Operand} {d sz n : Nat} {f : Nat → List AVal}
    (hop : o.op = .binOp .eql t x y yt) (hdst : o.dst = some d) (hpc : pcOf all st.s o.guard = (true, true)) (hd : d < st.n) (ht : (T t).d = .slice e)
    (hy : opd st.s y = .nil) (hx : opd st.s x = .fn sz n f)
    (h : ∀ b : Bool, (b = true → n = 0) → ∀ st', (⟨st.n, keepL K (putL st.s d (.bool b)), st.h⟩ : St) = st' → AWPL P w0 all Q rest st') : AWPL P w0 all Q (o :: rest) st := by
  intro F φ a w hrel
  have hwant : Region.wanted o (yielded all a.tmps) = true := by rw [pc_wanted hrel (by rw [hpc]), hpc]
  refine wpList_step fun K' hK => ?_
  rw [if_pos hwant]
  have hyr := opd_rep hrel y
  rw [hy] at hyr
  have ey : a.eval y = .slice none 0 0 := by
    generalize a.eval y = u at hyr
    cases hyr; rfl
  have hxr := opd_rep hrel x
  rw [hx] at hxr
  obtain ⟨A, n', c, ex, hn, hA⟩ : ∃ A n' c, a.eval x = .slice A n' c ∧ n' = n ∧ (0 < n' → A ≠ none) := by
    generalize a.eval x = u at hxr
    cases hxr with
    | fn _ _ _ _ h1 =>
      cases h1 with
      | imm _ _ A n' c q k1 k2 k3 k4 k5 k6 k7 => exact ⟨A, n', c, rfl, by rw [k1]; simp [fnEs], k5⟩
  obtain ⟨b, hb, hrun⟩ : ∃ b, (b = true → n = 0) ∧ (execOp a.eval o).run P w = .ok (.value (.bool b)) w := by
    obtain ⟨dst, op', type, pos, after, guard⟩ := o
    simp only at hop
    subst hop
    cases A with
    | some ad =>
      refine ⟨false, fun q => (by cases q), ?_⟩
      simp only [execOp, ex, ey, eqGuard_at_slice]
      simp [run_slice_nil (.inl ⟨rfl, rfl⟩) (slice_under hT ht)]
    | none =>
      obtain ⟨b, hb⟩ := run_slice_nil2 (slice_under hT ht) n' c w
      refine ⟨b, fun _ => ?_, ?_⟩
      · rcases Nat.eq_zero_or_pos n' with z | z
        · omega
        · exact absurd rfl (hA z)
      · simp only [execOp, ex, ey, eqGuard_at_slice]
        simp [hb]
  unfold Oper.wp
  rw [hrun]
  refine hK _ _ ?_
  rw [hdst]
  exact h b hb _ rfl F φ _ w ((hrel.put hd (.bool b)).keep K)
end Go.AX
namespace Go.AX.Try
open Go Go.AX Go.AX.Try Go.Proofs Go.SH

set_option maxRecDepth 8000 in
theorem clonePairs {s : List (Int × Int)} (h : s.length ≤ 8796093022208) : Pure Try.prog 29 [.fn 2 s.length (fun i => [.int .i64 ((s.getD i (0, 0)).1), .int .i64 ((s.getD i (0, 0)).2)])] (.own 0 s.length) [(.gen 52 2 (List.map (fun e => [.int .i64 e.1, .int .i64 e.2]) s))] := by
  refine Pure_introF tab_ok (n := 8) (l := [.tmp 2]) Try.func29 rfl rfl rfl (by simp) fun hfact w0 => ?_
  refine AWP_seq ?_
  refine AWP_rg tab_ok [0] fun c st' hr => ?_
  simp only [go_sem, reduceIte, reduceCtorEq, Nat.reduceEqDiff, Nat.reduceLT, Nat.reduceLeDiff, Nat.reduceBEq, Nat.reduceAdd, Nat.reduceMul, Nat.reduceSub, Nat.reducePow, Int.reduceLE, Int.reduceLT, Int.reduceNeg, Int.reduceToNat, Int.reduceAdd, Int.reduceSub] at hr
  obtain ⟨rfl, rfl⟩ := hr
  refine ⟨vc, ?_⟩
  with_reducible refine thenC_normal ?_
  refine AWP_seq ?_
  refine AWP_seq ?_
  refine AWP_rl ?_
  refine AWPL_rn tab_ok 1 [0, 3] fun c st' hr => ?_
  simp only [go_sem, reduceIte, reduceCtorEq, Nat.reduceEqDiff, Nat.reduceLT, Nat.reduceLeDiff, Nat.reduceBEq, Nat.reduceAdd, Nat.reduceMul, Nat.reduceSub, Nat.reducePow, Int.reduceLE, Int.reduceLT, Int.reduceNeg, Int.reduceToNat, Int.reduceAdd, Int.reduceSub] at hr
  obtain ⟨rfl, rfl⟩ := hr
  refine ⟨vc, ?_⟩
  refine AWPL_cmpF tab_ok [0, 4] rfl rfl pcT (of_decide_eq_true rfl) rfl rfl rfl fun b hb st' hr => ?_
  simp only [go_sem, reduceIte, reduceCtorEq, Nat.reduceEqDiff, Nat.reduceLT, Nat.reduceLeDiff, Nat.reduceBEq, Nat.reduceAdd, Nat.reduceMul, Nat.reduceSub, Nat.reducePow, Int.reduceLE, Int.reduceLT, Int.reduceNeg, Int.reduceToNat, Int.reduceAdd, Int.reduceSub] at hr
  subst hr
  refine AWPL_nil ?_
  with_reducible refine thenC_normal ?_
  refine AWP_cond rfl (fun hb0 => ?_) (fun hb0 => ?_)
  · have hs : s = [] := List.eq_nil_of_length_eq_zero (hb (by simpa using hb0))
    subst hs
    refine AWP_seq ?_
    refine AWP_rg tab_ok [2] fun c st' hr => ?_
    simp only [go_sem, reduceIte, reduceCtorEq, Nat.reduceEqDiff, Nat.reduceLT, Nat.reduceLeDiff, Nat.reduceBEq, Nat.reduceAdd, Nat.reduceMul, Nat.reduceSub, Nat.reducePow, Int.reduceLE, Int.reduceLT, Int.reduceNeg, Int.reduceToNat, Int.reduceAdd, Int.reduceSub] at hr
    obtain ⟨rfl, rfl⟩ := hr
    refine ⟨vc, ?_⟩
    with_reducible refine thenC_normal ?_
    refine AWP_own 2 (.gen 52 2 []) rfl rfl fun st' hr => ?_
    simp only [go_sem, reduceIte, reduceCtorEq, Nat.reduceEqDiff, Nat.reduceLT, Nat.reduceLeDiff, Nat.reduceBEq, Nat.reduceAdd, Nat.reduceMul, Nat.reduceSub, Nat.reducePow, Int.reduceLE, Int.reduceLT, Int.reduceNeg, Int.reduceToNat, Int.reduceAdd, Int.reduceSub] at hr
    subst hr
    refine AWP_ret ?_
    with_reducible refine thenC_ret ?_
    refine EndsRW [0] (.inl rfl) (of_decide_eq_true rfl) (by simp) rfl (fun c x hr => ?_) endH
    simp only [go_sem, reduceIte, reduceCtorEq, Nat.reduceEqDiff, Nat.reduceLT, Nat.reduceLeDiff, Nat.reduceBEq, Nat.reduceAdd, Nat.reduceMul, Nat.reduceSub, Nat.reducePow, Int.reduceLE, Int.reduceLT, Int.reduceNeg, Int.reduceToNat, Int.reduceAdd, Int.reduceSub] at hr
    obtain ⟨rfl, rfl⟩ := hr
    exact ⟨rfl, endR⟩
  refine AWP_skip ?_
  with_reducible refine thenC_normal ?_
  refine AWP_seq ?_
  have hfn : fnEs s.length (fun i => [.int .i64 ((s.getD i (0, 0)).1), .int .i64 ((s.getD i (0, 0)).2)]) = List.map (fun e => [.int .i64 e.1, .int .i64 e.2]) s := by
    refine List.ext_getElem (by simp [fnEs]) fun i h1 h2 => ?_
    have hi : i < s.length := by simpa using h2
    simp [fnEs, List.getD_eq_getElem?_getD, hi]
  refine AWP_rg tab_ok [2] fun c st' hr => ?_
  simp only [go_sem, reduceIte, reduceCtorEq, Nat.reduceEqDiff, Nat.reduceLT, Nat.reduceLeDiff, Nat.reduceBEq, Nat.reduceAdd, Nat.reduceMul, Nat.reduceSub, Nat.reducePow, Int.reduceLE, Int.reduceLT, Int.reduceNeg, Int.reduceToNat, Int.reduceAdd, Int.reduceSub] at hr
  simp only [hfn, List.length_map, List.nil_append] at hr
  obtain ⟨rfl, rfl⟩ := hr
  refine ⟨by simp; omega, ?_⟩
  with_reducible refine thenC_normal ?_
  refine AWP_ret ?_
  refine EndsRW [1] (.inl rfl) (of_decide_eq_true rfl) (by simp) rfl (fun c x hr => ?_) endH
  simp only [go_sem, reduceIte, reduceCtorEq, Nat.reduceEqDiff, Nat.reduceLT, Nat.reduceLeDiff, Nat.reduceBEq, Nat.reduceAdd, Nat.reduceMul, Nat.reduceSub, Nat.reducePow, Int.reduceLE, Int.reduceLT, Int.reduceNeg, Int.reduceToNat, Int.reduceAdd, Int.reduceSub] at hr
  obtain ⟨rfl, rfl⟩ := hr
  exact ⟨rfl, endR⟩
end Go.AX.Try
