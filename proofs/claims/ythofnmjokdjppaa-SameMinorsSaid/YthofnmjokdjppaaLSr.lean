/-
  What is told is a minor; of the duals too; and what is made by taking out and contracting is one: the statement SameMinors as a plain law. Conditions: lists are no longer than 2^63 - 1.
-/
import Derived.Test.YthofnmjokdjppaaLSq
import Derived.Test.YthofnmjokdjppaaLUd
import Derived.Test.YthofnmjokdjppaaSkSameMinors
set_option linter.unusedSimpArgs false
set_option linter.unusedVariables false
namespace Go.SH
open Go Go.AX

theorem uni_at : EmbAt 4 2 (rk 4 (uniL 4 2)) (rk 2 (uniL 2 1)) 1 2 := by
  have h : ∀ s, s < 4 → rk 2 (uniL 2 1) s + rk 4 (uniL 4 2) 2 = rk 4 (uniL 4 2) (im 4 2 (fun i => i + 2) s ||| 2) := by decide
  exact ⟨by decide, fun i => i + 2, ⟨fun i hi => by omega, fun i j _ _ e => by omega⟩, by decide, fun s hs => h s hs⟩
theorem uni_none (c : Nat) (hc : c < 2 ^ 4) : ¬ EmbAt 4 2 (rk 4 (uniL 4 2)) (rk 2 (uniL 2 1)) 0 c := fun h => by
  have h1 := h.size
  have h2 := h.full
  have key : ∀ c, c < 16 → cnt 4 (cpl 4 (0 ||| c)) = 2 → rk 2 (uniL 2 1) 3 + rk 4 (uniL 4 2) c = rk 4 (uniL 4 2) (cpl 4 (0 ||| c) ||| c) → False := by decide
  exact key c (by omega) h1 h2
theorem uni_first {r : Int × Int × Int} (h : Fnd 4 2 (rk 4 (uniL 4 2)) (rk 2 (uniL 2 1)) r) : r = (1, 2, 0) := by
  obtain ⟨d, c, rfl, hd, hc, h1, h2, h3⟩ := h
  have hd1 : d = 1 := by
    rcases Nat.lt_trichotomy d 1 with q | q | q
    · have : d = 0 := by omega
      subst this; exact absurd h1 (uni_none c hc)
    · exact q
    · exact absurd uni_at (h2 1 q 2 (by omega))
  subst hd1
  have key : ∀ c, c < 2 → cnt 4 (cpl 4 (1 ||| c)) = 2 → False := by decide
  have hc2 : c = 2 := by
    rcases Nat.lt_trichotomy c 2 with q | q | q
    · exact absurd h1.size (fun z => key c q z)
    · exact q
    · exact absurd uni_at (h3 2 q)
  subst hc2; rfl
theorem Minor_bad {n n' : Int} {l l' : List Int} {y : Int} (h : axioms_Check n l = some y ∧ y ≠ 0 ∧ (∃ z, axioms_Check n' l' = some z) ∨ axioms_Check n l = some 0 ∧ axioms_Check n' l' = some y ∧ y ≠ 0) : same_Minor n l n' l' = some (0, 0, y) := by
  refine Gets.eq ?_
  unfold same_Minor
  rcases h with ⟨h1, h2, z, h3⟩ | ⟨h1, h2, h3⟩
  · exact gBindE h1 (gBindE h3 (gIte (fun _ => gSome rfl) fun q => absurd h2 q))
  · exact gBindE h1 (gBindE h2 (gIte (fun q => absurd rfl q) fun _ => gIte (fun _ => gSome rfl) fun q => absurd h3 q))
/-- SameMinors. -/
theorem rotakeep_SameMinors_law (n : Int) (l : List Int) (n' : Int) (l' : List Int) (a b : Int) (hl : l.length ≤ 9223372036854775807) (hl' : l'.length ≤ 9223372036854775807) : rotakeep_SameMinors n l n' l' a b = some true := by
  refine Gets.eq ?_
  have hu : cs (uniL 4 2) = [3, 5, 6, 9, 10, 12] := by decide
  have hu2 : cs (uniL 2 1) = [1, 2] := by decide
  have hU := Minor_okk (uni_mat (m := 4) (k := 2) (by omega) (by omega)) (uni_mat (m := 2) (k := 1) (by omega) (by omega))
  rw [hu, hu2] at hU
  unfold rotakeep_SameMinors
  refine gBindE (a := (4, [3, 5, 6, 9, 10, 12])) rfl (gBind hU fun y hy => ?_)
  have hy1 : y = (1, 2, 0) := by
    rcases hy with w | ⟨_, w⟩
    · exact uni_first w
    · exact absurd (emb_iff.2 ⟨1, 2, by omega, by omega, uni_at⟩) w
  subst hy1
  refine gIte (fun q => absurd q (by simp)) fun _ => ?_
  obtain ⟨c1, e1, g1⟩ := axioms_Check_spec n l hl
  obtain ⟨c2, e2, g2⟩ := axioms_Check_spec n' l' hl'
  rcases g1 with ⟨rfl, m, A, rfl, rfl, hA⟩ | ⟨z1, _⟩
  rotate_left
  · refine gBindE (Minor_bad (.inl ⟨e1, z1, c2, e2⟩)) (gJoin (R := fun _ => True) (fun _ _ => ?_) fun j hj => gIte (fun q => absurd q z1) fun _ => hj _ trivial)
    refine gBindE e1 ?_
    refine gBindE (a := 0) (by rw [if_neg (by simpa using z1)]) (gIte (fun _ => gSome ?_) fun q => absurd (.inl z1) q)
    rw [decide_eq_true_eq]; exact ⟨⟨z1, rfl⟩, rfl⟩
  rcases g2 with ⟨rfl, k, C, rfl, rfl, hC⟩ | ⟨z2, _⟩
  rotate_left
  · refine gBindE (Minor_bad (.inr ⟨e1, e2, z2⟩)) (gJoin (R := fun _ => True) (fun _ _ => ?_) fun j hj => gIte (fun q => absurd q z2) fun _ => hj _ trivial)
    refine gBindE e1 ?_
    refine gBindE (a := c2) (by rw [if_pos (by simp)]; exact e2) (gIte (fun _ => gSome ?_) fun q => absurd (.inr z2) q)
    rw [decide_eq_true_eq]; exact ⟨⟨z2, rfl⟩, rfl⟩
  have h8 := hA.m8
  refine gBind (Minor_okk hA hC) fun y2 hy2 => gJoin (R := fun _ => True) (fun _ _ => ?_) fun j hj => ?_
  rotate_left
  · refine gIte (fun q => ?_) fun _ => hj _ trivial
    rcases hy2 with w | ⟨rfl, _⟩
    rotate_left
    · exact absurd q (by simp)
    obtain ⟨d, c, rfl, hd, hc, hat, _⟩ := w
    obtain ⟨D, d1, hD, d3⟩ := hA.Delete_ok hd (set_ok h8 hd)
    have hdm := ps_le m d
    obtain ⟨E, f1, hE, f3⟩ := hD.Contract_ok (pk_lt m d c) (set_ok (by omega) (pk_lt m d c))
    refine gBindE d1 (gBindE (Shifted_nat h8 d c) (gBindE f1 ?_))
    have hatE := two_minors hA hd hc hat.1 hD hE d3 f3
    have hkk : ps (ps m d) (pk m d c) = k := by rw [← hatE.size, hat.size]
    rw [hkk] at hatE hE ⊢
    have hiso : Iso k (rk k E) (rk k C) := by
      obtain ⟨_, f, q1, q2, q3⟩ := hatE
      exact EmbAt.iso q1 q2 q3 hat
    refine gBind (Isomorphic_spec hE hC) ?_
    rintro ⟨o, er⟩ (⟨w, _⟩ | ⟨_, w⟩)
    · dsimp only at w; subst w
      refine gIte (fun q => ?_) fun _ => hj _ trivial
      rcases q with ((q | q) | q) | q
      · exact absurd rfl q
      · exact absurd rfl q
      · exact absurd rfl q
      · rw [and_nat, Nat.and_comm, hat.1] at q; exact absurd rfl q
    · refine absurd ⟨rfl, ?_, hiso⟩ w
      have l1 := hiso.len hE hC
      have l2 := hiso.symm.len hC hE
      omega
  refine gBindE hA.check (gBindE (a := 0) (by rw [if_pos (by simp)]; exact hC.check) (gIte (fun q => absurd q (by simp)) fun _ => ?_))
  obtain ⟨P, p1, hP, p3⟩ := hA.Dual_ok
  obtain ⟨Q, q1, hQ, q3⟩ := hC.Dual_ok
  have hAP := hA.dua hP p3
  have hCQ := hC.dua hQ q3
  refine gBindE p1 (gBindE q1 (gBind (Minor_ok hP hQ) fun y11 hy11 => ?_))
  have hiff : y2.2.2 = 0 ↔ y11.2.2 = 0 := by
    have e1 : y2.2.2 = 0 ↔ Emb m k (rk m A) (rk k C) := by
      rcases hy2 with w | ⟨rfl, w⟩
      · exact ⟨fun _ => w.emb.2, fun _ => w.emb.1⟩
      · exact ⟨fun q => absurd q (by simp), fun q => absurd q w⟩
    have e2 : y11.2.2 = 0 ↔ Emb m k (rk m P) (rk k Q) := by
      rcases hy11 with ⟨w, w2⟩ | ⟨w, w2⟩
      · exact ⟨fun _ => w2, fun _ => w⟩
      · exact ⟨fun q => by omega, fun q => absurd q w2⟩
    rw [e1, e2]
    exact ⟨Emb.dual hAP hCQ fun s t => hA.rkF.mono s t, Emb.dual (hAP.symm hA.rk_zero) (hCQ.symm hC.rk_zero) fun s t => hP.rkF.mono s t⟩
  refine gIte (fun q => absurd hiff q) fun _ => ?_
  refine gBind (IsSet_nat h8 a) fun r1 hr1 => ?_
  cases r1 with
  | false => exact gBindE (a := false) (by rw [if_neg (by simp)]) (gIte (fun _ => gSome rfl) fun q => absurd (by simp) q)
  | true =>
    rw [if_pos (by simp)]
    refine gBind (IsSet_nat h8 b) fun r2 hr2 => gIte (fun _ => gSome rfl) fun q => ?_
    have q2 : r2 = true := by
      cases r2 with
      | false => exact absurd (.inl (.inr (by simp))) q
      | true => rfl
    subst q2
    obtain ⟨d, rfl, hd⟩ := hr1.1 rfl
    obtain ⟨c, rfl, hc⟩ := hr2.1 rfl
    have hdc : c &&& d = 0 := by
      have : ¬ iand (d : Int) (c : Int) ≠ 0 := fun h => q (.inr h)
      rw [and_nat, Nat.and_comm] at this; omega
    obtain ⟨D, d1, hD, d3⟩ := hA.Delete_ok hd (set_ok h8 hd)
    have hdm := ps_le m d
    obtain ⟨E, f1, hE, f3⟩ := hD.Contract_ok (pk_lt m d c) (set_ok (by omega) (pk_lt m d c))
    refine gBindE d1 (gBindE (Shifted_nat h8 d c) (gBindE f1 (gBind (Minor_ok hA hE) fun y17 hy17 => gSome ?_)))
    have hatE := two_minors hA hd hc hdc hD hE d3 f3
    rw [decide_eq_true_eq]
    rcases hy17 with ⟨w, _⟩ | ⟨_, w⟩
    · exact ⟨rfl, w⟩
    · exact absurd (emb_iff.2 ⟨d, c, hd, hc, hatE⟩) w
end Go.SH
