/-
  slices.Clone of a list of rows of the caller's own: a new list of the same rows. Conditions: the list's length is at most 2^40.
-/
import Derived.Test.YtlpikingpnenkaaAxT
import Derived.Test.YtlpikingpnenkaaAxRx
set_option linter.unusedVariables false
set_option linter.unusedSimpArgs false
namespace Go.AX
open Go Go.AX.Try Go.Proofs

theorem run_slice_nil2 {P : Program} {t e : TypeId} (h : P.underlying t = some (.slice e)) (n c : Nat) (w : World) : ∃ b, (binOp .eql t (.slice none n c) (.slice none 0 0)).run P w = .ok (.bool b) w := by
  have key : ∃ b, ∀ d, (Op.equalIn (d + 1) t (.slice none n c) (.slice none 0 0)).run P w = .ok b w := by
    refine ⟨true, fun d => ?_⟩
    simp [Op.equalIn, run_underlying h]
  obtain ⟨b, key⟩ := key
  exact ⟨b, by simp only [binOp]; simp [Op.equal, Op.maxDepth, key 9999]⟩

/-- A list of the call's own, compared with nil: where it is empty nobody knows. -/
theorem AWPL_cmpO {P : Program} {T : Tab} {w0 : World} {st : St} (hT : TabOk P T) (K : List Nat) {all : Array Oper} {Q : Exit → St → Prop} {rest : List Oper} {o : Oper} {t e yt : TypeId} {x y : Operand} {d id n : Nat}
    (hop : o.op = .binOp .eql t x y yt) (hdst : o.dst = some d) (hpc : pcOf all st.s o.guard = (true, true)) (hd : d < st.n) (ht : (T t).d = .slice e)
    (hy : opd st.s y = .nil) (hx : opd st.s x = .own id n)
    (h : ∀ b : Bool, (b = true → n = 0) → ∀ st', (⟨st.n, keepL K (putL st.s d (.bool b)), st.h⟩ : St) = st' → AWPL P w0 all Q rest st') : AWPL P w0 all Q (o :: rest) st := by
  intro F φ a w hrel
  have hwant : Region.wanted o (yielded all a.tmps) = true := by rw [pc_wanted hrel (by rw [hpc]), hpc]
  refine wpList_step fun K' hK => ?_
  rw [if_pos hwant]
  have hyr := opd_rep hrel y
  rw [hy] at hyr
  have ey : a.eval y = .slice none 0 0 := by
    generalize a.eval y = u at hyr
    cases hyr; rfl
  have hxr := opd_rep hrel x
  rw [hx] at hxr
  obtain ⟨A, c, ex, hA⟩ : ∃ A c, a.eval x = .slice A n c ∧ (A = none → n = 0) := by
    generalize a.eval x = u at hxr
    cases hxr with
    | own _ _ g cap sz et q1 q2 q3 => exact ⟨_, _, rfl, fun h => by cases h⟩
    | ownNil _ q => exact ⟨_, _, rfl, fun _ => rfl⟩
  obtain ⟨b, hb, hrun⟩ : ∃ b, (b = true → n = 0) ∧ (execOp a.eval o).run P w = .ok (.value (.bool b)) w := by
    obtain ⟨dst, op', type, pos, after, guard⟩ := o
    simp only at hop
    subst hop
    cases A with
    | some ad =>
      refine ⟨false, fun q => (by cases q), ?_⟩
      simp only [execOp, ex, ey, eqGuard_at_slice]
      simp [run_slice_nil (.inl ⟨rfl, rfl⟩) (slice_under hT ht)]
    | none =>
      obtain ⟨b, hb⟩ := run_slice_nil2 (slice_under hT ht) n c w
      refine ⟨b, fun _ => hA rfl, ?_⟩
      simp only [execOp, ex, ey, eqGuard_at_slice]
      simp [hb]
  unfold Oper.wp
  rw [hrun]
  refine hK _ _ ?_
  rw [hdst]
  exact h b hb _ rfl F φ _ w ((hrel.put hd (.bool b)).keep K)

/-- A block that nobody reads any more. -/
theorem gs_kill {w0 : World} (i : Nat) {st : St} : GS w0 st ⟨st.n, st.s, st.h.set i none⟩ := fun F φ a w h => ⟨F, φ, FLn.refl F, ⟨h.heap.kill i, h.size, h.slots, h.defers, h.below⟩⟩
end Go.AX
namespace Go.AX.Try
open Go Go.AX Go.AX.Try Go.Proofs Go.SH

set_option maxRecDepth 8000 in
theorem cloneRows {X : List (List Int)} {n : Nat} (hn : n ≤ X.length) (hs : n ≤ 1099511627776) : InG Try.prog 105 [.outs 22 1 X.length idO (lenO X), .rows 3 .i64 X] 0 (fun _ => [.own 0 n]) (.own 0 (X.take n).length) [.outs 22 1 (X.take n).length idO (lenO (X.take n)), .rows 3 .i64 (X.take n)] := by
  refine InG_intro tab_ok (n := 8) (l := [.tmp 2]) Try.func105 rfl rfl rfl (fun ls => by simp) (of_decide_eq_true rfl) (of_decide_eq_true rfl) rfl rfl rfl (by simp [renB, ren0, renI, List.range, List.range.loop]) (of_decide_eq_true rfl) (of_decide_eq_true rfl) fun w0 ls hls => ?_
  obtain rfl : ls = [] := List.eq_nil_of_length_eq_zero hls
  simp only [pinL, List.map_cons, List.map_nil, List.cons_append, List.nil_append, Nat.zero_add, Nat.reduceAdd]
  refine AWP_seq ?_
  refine AWP_rg tab_ok [0] fun c st' hr => ?_
  simp only [go_sem, reduceIte, reduceCtorEq, Nat.reduceEqDiff, Nat.reduceLT, Nat.reduceLeDiff, Nat.reduceBEq, Nat.reduceAdd, Nat.reduceMul, Nat.reduceSub, Nat.reducePow, Int.reduceLE, Int.reduceLT, Int.reduceNeg, Int.reduceToNat, Int.reduceAdd, Int.reduceSub] at hr
  obtain ⟨rfl, rfl⟩ := hr
  refine ⟨vc, ?_⟩
  with_reducible refine thenC_normal ?_
  refine AWP_seq ?_
  refine AWP_seq ?_
  refine AWP_rl ?_
  refine AWPL_rn tab_ok 1 [0, 3] fun c st' hr => ?_
  simp only [go_sem, reduceIte, reduceCtorEq, Nat.reduceEqDiff, Nat.reduceLT, Nat.reduceLeDiff, Nat.reduceBEq, Nat.reduceAdd, Nat.reduceMul, Nat.reduceSub, Nat.reducePow, Int.reduceLE, Int.reduceLT, Int.reduceNeg, Int.reduceToNat, Int.reduceAdd, Int.reduceSub] at hr
  obtain ⟨rfl, rfl⟩ := hr
  refine ⟨vc, ?_⟩
  refine AWPL_cmpO tab_ok [0, 4] rfl rfl pcT (of_decide_eq_true rfl) rfl rfl rfl fun b hb st' hr => ?_
  simp only [go_sem, reduceIte, reduceCtorEq, Nat.reduceEqDiff, Nat.reduceLT, Nat.reduceLeDiff, Nat.reduceBEq, Nat.reduceAdd, Nat.reduceMul, Nat.reduceSub, Nat.reducePow, Int.reduceLE, Int.reduceLT, Int.reduceNeg, Int.reduceToNat, Int.reduceAdd, Int.reduceSub] at hr
  subst hr
  refine AWPL_nil ?_
  with_reducible refine thenC_normal ?_
  refine AWP_cond rfl (fun hb0 => ?_) (fun hb0 => ?_)
  · have hn0 : n = 0 := hb (by simpa using hb0)
    subst hn0
    refine AWP_seq ?_
    refine AWP_rg tab_ok [2] fun c st' hr => ?_
    simp only [go_sem, reduceIte, reduceCtorEq, Nat.reduceEqDiff, Nat.reduceLT, Nat.reduceLeDiff, Nat.reduceBEq, Nat.reduceAdd, Nat.reduceMul, Nat.reduceSub, Nat.reducePow, Int.reduceLE, Int.reduceLT, Int.reduceNeg, Int.reduceToNat, Int.reduceAdd, Int.reduceSub] at hr
    obtain ⟨rfl, rfl⟩ := hr
    refine ⟨vc, ?_⟩
    with_reducible refine thenC_normal ?_
    refine AWP_gs' (gs_rows0 3 .i64) fun st' hr => ?_
    simp only [go_sem, List.cons_append, List.nil_append] at hr
    subst hr
    refine AWP_own 2 (.outs 22 2 0 idO (lenO [])) rfl rfl fun st' hr => ?_
    simp only [go_sem, reduceIte, reduceCtorEq, Nat.reduceEqDiff, Nat.reduceLT, Nat.reduceLeDiff, Nat.reduceBEq, Nat.reduceAdd, Nat.reduceMul, Nat.reduceSub, Nat.reducePow, Int.reduceLE, Int.reduceLT, Int.reduceNeg, Int.reduceToNat, Int.reduceAdd, Int.reduceSub] at hr
    subst hr
    refine AWP_ret ?_
    with_reducible refine thenC_ret ?_
    refine EndsRW [3, 2] (.inl rfl) (of_decide_eq_true rfl) (by simp) rfl (fun c x hr => ?_) endH
    simp only [go_sem, reduceIte, reduceCtorEq, Nat.reduceEqDiff, Nat.reduceLT, Nat.reduceLeDiff, Nat.reduceBEq, Nat.reduceAdd, Nat.reduceMul, Nat.reduceSub, Nat.reducePow, Int.reduceLE, Int.reduceLT, Int.reduceNeg, Int.reduceToNat, Int.reduceAdd, Int.reduceSub] at hr
    obtain ⟨rfl, rfl⟩ := hr
    exact ⟨rfl, endR⟩
  refine AWP_skip ?_
  with_reducible refine thenC_normal ?_
  refine AWP_seq ?_
  refine AWP_rg tab_ok [2] fun c st' hr => ?_
  have hmin : min n X.length = n := Nat.min_eq_left hn
  simp only [go_sem, fnEs_len, hn, hmin, List.take_nil, reduceIte, reduceCtorEq, Nat.reduceEqDiff, Nat.reduceLT, Nat.reduceLeDiff, Nat.reduceBEq, Nat.reduceAdd, Nat.reduceMul, Nat.reduceSub, Nat.reducePow, Int.reduceLE, Int.reduceLT, Int.reduceNeg, Int.reduceToNat, Int.reduceAdd, Int.reduceSub] at hr
  obtain ⟨rfl, rfl⟩ := hr
  refine ⟨vc, ?_⟩
  with_reducible refine thenC_normal ?_
  refine AWP_gs' (gs_kill 0) fun st' hr => ?_
  simp only [go_sem, List.set_cons_zero] at hr
  subst hr
  refine AWP_gs' (gs_cut 3 1 n rfl rfl hn (by first | rfl | (simp [noR2, noR1, noR0]; done)) (by first | rfl | (simp [noRH, noRB, noR0]; done)) (by first | rfl | (simp [noPin]; done))) fun st' hr => ?_
  simp only [go_sem, List.set_cons_zero, List.set_cons_succ] at hr
  subst hr
  refine AWP_ret ?_
  refine EndsRW [3, 1] (.inl rfl) (of_decide_eq_true rfl) (by simp) rfl (fun c x hr => ?_) endH
  simp only [go_sem, reduceIte, reduceCtorEq, Nat.reduceEqDiff, Nat.reduceLT, Nat.reduceLeDiff, Nat.reduceBEq, Nat.reduceAdd, Nat.reduceMul, Nat.reduceSub, Nat.reducePow, Int.reduceLE, Int.reduceLT, Int.reduceNeg, Int.reduceToNat, Int.reduceAdd, Int.reduceSub] at hr
  obtain ⟨rfl, rfl⟩ := hr
  have e : (X.take n).length = n := by rw [List.length_take]; exact hmin
  rw [e]
  exact ⟨rfl, rfl⟩
end Go.AX.Try
