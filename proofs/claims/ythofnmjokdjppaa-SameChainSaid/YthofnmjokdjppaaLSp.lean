/-
  A minor of a minor is a minor, as the program asks it. Conditions: lists below the greatest length.
-/
import Derived.Test.YthofnmjokdjppaaLSo
import Derived.Test.YthofnmjokdjppaaLUd
import Derived.Test.YthofnmjokdjppaaSkSameChain
set_option linter.unusedSimpArgs false
set_option linter.unusedVariables false
namespace Go.SH
open Go Go.AX

/-- SameChain. -/
theorem rotakeep_SameChain_law (a : Int) (la : List Int) (b : Int) (lb : List Int) (c : Int) (lc : List Int) (h1 : la.length ≤ 9223372036854775807) (h2 : lb.length ≤ 9223372036854775807) (h3 : lc.length ≤ 9223372036854775807) : rotakeep_SameChain a la b lb c lc = some true := by
  suffices h : Gets (rotakeep_SameChain a la b lb c lc) (fun r => r = true) by
    obtain ⟨r, e, q⟩ := h
    rw [e, q]
  have hone : Mat 1 [1] := by
    refine ⟨fam_pwS (by omega) (fun s hs => by rw [List.mem_singleton] at hs; subst hs; omega) (List.pairwise_singleton _ _), by simp, fun a ha b hb => ?_, fun a ha b hb x hx hx' => ?_⟩
    · rw [List.mem_singleton] at ha hb; rw [ha, hb]
    · rw [List.mem_singleton] at ha hb; subst ha; subst hb; rw [hx] at hx'; cases hx'
  have hno : ¬ Emb 1 4 (rk 1 [1]) (rk 4 (uniL 4 2)) := by
    rintro ⟨f, c, f1, _⟩
    have q1 := f1.lt 0 (by omega)
    have q2 := f1.lt 1 (by omega)
    have := f1.inj 0 1 (by omega) (by omega) (by omega)
    omega
  have hu : cs (uniL 4 2) = [3, 5, 6, 9, 10, 12] := by decide
  have hM := Minor_ok hone (uni_mat (m := 4) (k := 2) (by omega) (by omega))
  rw [hu] at hM
  unfold rotakeep_SameChain
  refine gBindE (a := (4, [3, 5, 6, 9, 10, 12])) rfl (gBind hM fun y hy => gIte (fun q => ?_) fun _ => ?_)
  · rcases hy with ⟨_, w⟩ | ⟨w, _⟩
    · exact absurd w hno
    · exact absurd w q
  refine gBind (Minor_spec h1 h2) fun y2 hy2 => gBind (Minor_spec h2 h3) fun y3 hy3 => gBind (Minor_spec h1 h3) fun y4 hy4 => gSome ?_
  rw [decide_eq_true_eq]
  rcases Classical.em (y2.2.2 = 0) with w2 | w2
  · rcases Classical.em (y3.2.2 = 0) with w3 | w3
    · refine .inr (hy4.2 ?_)
      obtain ⟨m, A, k, C, q1, q2, q3, q4, q5, q6, q7⟩ := hy2.1 w2
      obtain ⟨k', C', j, D, p1, p2, p3, p4, p5, p6, p7⟩ := hy3.1 w3
      have := cs_inj (q4.symm.trans p2); subst this
      obtain rfl : k = k' := by omega
      exact ⟨m, A, j, D, q1, q2, p3, p4, q5, p6, q7.trans p7⟩
    · exact .inl (.inr w3)
  · exact .inl (.inl w2)
end Go.SH
