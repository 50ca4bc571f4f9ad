/-
  Edges without a ring, as the code finds them (kinds.forest, Graphic); a graph's matroid. Conditions: graphs of seven vertices and eight edges at most.
-/
import Derived.Test.YtdhbpoafkhojnaaLGt
import Derived.Test.YtdhbpoafkhojnaaLGg
import Derived.Test.YtdhbpoafkhojnaaSp
import Derived.Test.YtdhbpoafkhojnaaSpkindsg
set_option linter.unusedSimpArgs false
set_option linter.unusedVariables false
set_option linter.unusedSectionVars false
namespace Go.SH
open Go Go.AX

/-- A graph. -/
structure CG (N : Int) (E : List (Int × Int)) : Prop where
  n1 : 1 ≤ N
  n7 : N ≤ 7
  e8 : E.length ≤ 8
  bd : ∀ k, k < E.length → 0 ≤ (E.getD k (0, 0)).1 ∧ (E.getD k (0, 0)).1 < N ∧ 0 ≤ (E.getD k (0, 0)).2 ∧ (E.getD k (0, 0)).2 < N
theorem CheckGraph_spec (N : Int) (E : List (Int × Int)) : Gets (kinds_CheckGraph N E) (fun e => (e = 0 ∨ e = 1) ∧ (e = 0 ↔ CG N E)) := by
  unfold kinds_CheckGraph
  refine gIte (fun h1 => gSome ⟨.inr rfl, fun h => by omega, fun h => ?_⟩) fun h1 => ?_
  · have := h.n1; have := h.n7; have := h.e8; omega
  refine gBind (R := fun z : Unit ⊕ Int => match z with | .inl _ => CG N E | .inr e => e = 1 ∧ ¬ CG N E) (gFor E.length (fun i (v : Int) => v = (i : Int) ∧ ∀ k, k < i → 0 ≤ (E.getD k (0, 0)).1 ∧ (E.getD k (0, 0)).1 < N ∧ 0 ≤ (E.getD k (0, 0)).2 ∧ (E.getD k (0, 0)).2 < N) (Nat.zero_le _) ⟨rfl, fun a ha => by omega⟩ ?_) ?_
  · rintro i v hi ⟨rfl, h2⟩
    refine gIte (fun h3 => ?_) fun h3 => ?_
    rotate_left
    · have e : i = E.length := by omega
      subst e
      exact gSome ⟨by omega, by omega, by omega, h2⟩
    refine gChk ⟨by omega, by omega⟩ ?_
    simp only [toNat_nat]
    refine gIte (fun h4 => gSome ⟨rfl, fun h => ?_⟩) fun h4 => gSome ⟨by omega, by simp, fun k hk => ?_⟩
    · have := h.bd i (by omega); omega
    · rcases Nat.lt_succ_iff_lt_or_eq.1 hk with q | q
      · exact h2 k q
      · subst q; omega
  · rintro (_ | e) hz
    · exact gSome ⟨.inl rfl, fun _ => hz, fun _ => rfl⟩
    · obtain ⟨rfl, hz⟩ := hz
      exact gSome ⟨.inr rfl, fun h => by omega, fun h => absurd h hz⟩
theorem CG.ends {N : Nat} {E : List (Int × Int)} (h : CG N E) : EndsLt N E ∧ ∀ k, k < E.length → (E.getD k (0, 0)).1 = ((hA E k : Nat) : Int) ∧ (E.getD k (0, 0)).2 = ((hB E k : Nat) : Int) :=
  ⟨fun k hk => by have := h.bd k hk; unfold hA hB; omega, fun k hk => by have := h.bd k hk; unfold hA hB; omega⟩

/-! ### who hangs with whom -/
/-- What is told by one list of roots: F is the root of each vertex. -/
structure Rts (N : Nat) (E : List (Int × Int)) (S : Nat) (R : List Int) (F d : Nat → Nat) : Prop where
  len : R.length = N
  rn : ∀ v, v < N → ∃ u : Nat, R.getD v 0 = (u : Int) ∧ u < N ∧ F u = F v ∧ (u ≠ v → d u < d v) ∧ (u = v ↔ F v = v)
  fn : ∀ v, v < N → F v < N ∧ F (F v) = F v
  con : ∀ u v, u < N → v < N → (Con E S u v ↔ F u = F v)
theorem find_spec {N S : Nat} {E : List (Int × Int)} {R : List Int} {F d : Nat → Nat} (h : Rts N E S R F d) {v : Nat} (hv : v < N) : kinds_forest_1 (v : Int) R = some ((F v : Nat) : Int) := by
  refine Gets.eq ?_
  unfold kinds_forest_1
  refine gBind (R := fun r => r = ((F v : Nat) : Int)) (gLoop (fun x : Int => ∃ u : Nat, x = (u : Int) ∧ u < N ∧ F u = F v) (fun x : Int => d x.toNat) ⟨v, rfl, hv, rfl⟩ ?_) fun r hr => gSome hr
  rintro _ ⟨u, rfl, hu, hF⟩
  obtain ⟨t, t1, t2, t3, t4, t5⟩ := h.rn u hu
  have hl := h.len
  refine gChk ⟨by omega, by omega⟩ ?_
  simp only [toNat_nat, t1]
  refine gIte (fun h1 => gChk ⟨by omega, by omega⟩ (gSome ⟨⟨t, rfl, t2, t3.trans hF⟩, ?_⟩)) fun h1 => gSome ?_
  · exact t4 (by omega)
  · have e : t = u := by omega
    show ((u : Nat) : Int) = ((F v : Nat) : Int)
    rw [← hF, t5.1 e]
theorem Rts.union {N S k : Nat} {E : List (Int × Int)} {R : List Int} {F d : Nat → Nat} (h : Rts N E S R F d) (hE : EndsLt N E) (hk : k < E.length) (hne : F (hA E k) ≠ F (hB E k)) :
    ∃ F' d', Rts N E (S ||| 2 ^ k) (R.set (F (hA E k)) ((F (hB E k) : Nat) : Int)) F' d' := by
  obtain ⟨ha, hb⟩ := hE k hk
  obtain ⟨a1, a2⟩ := h.fn _ ha
  obtain ⟨b1, b2⟩ := h.fn _ hb
  obtain ⟨a, ea⟩ : ∃ a, a = F (hA E k) := ⟨_, rfl⟩
  obtain ⟨b, eb⟩ : ∃ b, b = F (hB E k) := ⟨_, rfl⟩
  rw [← ea] at a1 a2 hne ⊢
  rw [← eb] at b1 b2 hne ⊢
  refine ⟨fun v => if F v = a then b else F v, fun v => if F v = a then d v + d b + 1 else d v, ⟨by rw [List.length_set]; exact h.len, fun v hv => ?_, fun v hv => ?_, fun u v hu hv => ?_⟩⟩
  · by_cases q : v = a
    · subst q
      refine ⟨b, ?_, b1, ?_, fun _ => ?_, ?_⟩
      · rw [List.getD_eq_getElem?_getD, List.getElem?_set, if_pos rfl, if_pos (by rw [h.len]; exact hv)]; rfl
      · show (if F b = v then b else F b) = if F v = v then b else F v
        rw [if_pos a2, b2, if_neg (Ne.symm hne)]
      · show (if F b = v then _ else d b) < if F v = v then d v + d b + 1 else _
        rw [if_pos a2, b2, if_neg (Ne.symm hne)]; omega
      · show b = v ↔ (if F v = v then b else F v) = v
        rw [if_pos a2]
    · obtain ⟨u, u1, u2, u3, u4, u5⟩ := h.rn v hv
      refine ⟨u, ?_, u2, ?_, fun hu => ?_, ?_⟩
      · rw [List.getD_eq_getElem?_getD, List.getElem?_set, if_neg (Ne.symm q), ← List.getD_eq_getElem?_getD]; exact u1
      · show (if F u = a then b else F u) = if F v = a then b else F v
        rw [u3]
      · show (if F u = a then d u + d b + 1 else d u) < if F v = a then d v + d b + 1 else d v
        have := u4 hu
        rw [u3]; split <;> omega
      · show u = v ↔ (if F v = a then b else F v) = v
        by_cases c : F v = a
        · rw [if_pos c]
          constructor
          · intro e; exact absurd ((u5.1 e).symm.trans c) q
          · intro e
            rw [← e, b2] at c
            exact absurd c.symm hne
        · rw [if_neg c]; exact u5
  · obtain ⟨v1, v2⟩ := h.fn v hv
    show (if F v = a then b else F v) < N ∧ (if F (if F v = a then b else F v) = a then b else F (if F v = a then b else F v)) = if F v = a then b else F v
    by_cases c : F v = a
    · simp only [if_pos c, b2, if_neg (Ne.symm hne)]; exact ⟨b1, trivial⟩
    · simp only [if_neg c, v2]; exact ⟨v1, trivial⟩
  · rw [Con_add hk, h.con u v hu hv, h.con u _ hu ha, h.con _ v hb hv, h.con u _ hu hb, h.con _ v ha hv, ← ea, ← eb]
    show _ ↔ (if F u = a then b else F u) = if F v = a then b else F v
    by_cases c1 : F u = a <;> by_cases c2 : F v = a
    · simp [c1, c2]
    · simp only [c1, if_true, if_neg c2, true_and]
      constructor
      · rintro (e | e | ⟨e, e'⟩)
        · exact absurd e.symm c2
        · exact e
        · exact absurd e hne
      · intro e; exact .inr (.inl e)
    · simp only [c2, if_true, if_neg c1]
      constructor
      · rintro (e | ⟨e, e'⟩ | ⟨e, _⟩)
        · exact absurd e c1
        · exact absurd e c1
        · exact e
      · intro e; exact .inr (.inr ⟨e, trivial⟩)
    · simp only [if_neg c1, if_neg c2, false_and, c1]
      constructor
      · rintro (e | e | ⟨e, e'⟩)
        · exact e
        · exact e.elim
        · exact absurd e'.symm c2
      · intro e; exact .inl e

/-- Each edge joins what hung apart. -/
def GF (E : List (Int × Int)) (s : Nat) : Prop := ∀ k, k < E.length → s.testBit k = true → ¬ Con E (s &&& (2 ^ k - 1)) (hA E k) (hB E k)
theorem pre_succ (s k : Nat) : s &&& (2 ^ (k + 1) - 1) = if s.testBit k = true then (s &&& (2 ^ k - 1)) ||| 2 ^ k else s &&& (2 ^ k - 1) := bx fun j => by
  have e : (s &&& (2 ^ (k + 1) - 1)).testBit j = (s.testBit j && decide (j < k + 1)) := by rw [Nat.testBit_and, Nat.testBit_two_pow_sub_one]
  rw [e]
  by_cases c : s.testBit k = true
  · rw [if_pos c, Nat.testBit_or, Nat.testBit_and, Nat.testBit_two_pow_sub_one, testBit_pow]
    by_cases d : k = j
    · subst d; simp [c]
    · have : decide (j < k + 1) = decide (j < k) := by simp; omega
      rw [this]; simp [d]
  · rw [if_neg c, Nat.testBit_and, Nat.testBit_two_pow_sub_one]
    by_cases d : k = j
    · subst d; simp [c]
    · have : decide (j < k + 1) = decide (j < k) := by simp; omega
      rw [this]
theorem con0 {E : List (Int × Int)} {u v : Nat} : Con E 0 u v ↔ u = v := by
  constructor
  · intro h
    induction h with
    | refl => rfl
    | tail _ a ih => obtain ⟨k, _, h2, _⟩ := a; simp at h2
  · rintro rfl; exact .refl _
theorem forest_spec {N : Nat} {E : List (Int × Int)} (h : CG N E) (s : Nat) : Gets (kinds_forest N E s) (fun b => b = true ↔ GF E s) := by
  obtain ⟨hE, hx⟩ := h.ends
  have h7 := h.n7
  have h8 := h.e8
  unfold kinds_forest
  refine gChk ⟨by omega, by omega⟩ ?_
  refine gBind (R := fun R => R.length = N ∧ ∀ v, v < N → R.getD v 0 = (v : Int)) (gFor N (fun k (x : List Int × Int) => x.2 = (k : Int) ∧ x.1.length = N ∧ ∀ v, v < k → x.1.getD v 0 = (v : Int)) (Nat.zero_le _) ⟨rfl, by simp, fun v hv => by omega⟩ ?_) ?_
  · rintro k ⟨R, _⟩ hk ⟨rfl, h1, h2⟩
    dsimp only at h1 h2 ⊢
    simp only [toNat_nat, List.length_replicate]
    refine gIte (fun h3 => gChk ⟨by omega, by omega⟩ (gSome ⟨by omega, by simp, by rw [List.length_set]; exact h1, fun v hv => ?_⟩)) fun h3 => gSome ⟨h1, fun v hv => h2 v (by omega)⟩
    rw [List.getD_eq_getElem?_getD, List.getElem?_set]
    by_cases c : k = v
    · subst c; rw [if_pos rfl, if_pos (by omega)]; rfl
    · rw [if_neg c, ← List.getD_eq_getElem?_getD]; exact h2 v (by omega)
  rintro R0 ⟨r1, r2⟩
  have start : Rts N E (s &&& (2 ^ 0 - 1)) R0 id (fun _ => 0) := by
    have e0 : s &&& (2 ^ 0 - 1) = 0 := by simp
    rw [e0]
    exact ⟨r1, fun v hv => ⟨v, r2 v hv, hv, rfl, fun c => absurd rfl c, by simp⟩, fun v hv => ⟨hv, rfl⟩, fun u v _ _ => con0⟩
  refine gBind (R := fun z : Unit ⊕ Bool => match z with | .inl _ => GF E s | .inr b => b = false ∧ ¬ GF E s) (gFor E.length (fun k (x : List Int × Int) => x.2 = (k : Int) ∧ (∃ F d, Rts N E (s &&& (2 ^ k - 1)) x.1 F d) ∧ ∀ j, j < k → s.testBit j = true → ¬ Con E (s &&& (2 ^ j - 1)) (hA E j) (hB E j)) (Nat.zero_le _) ⟨rfl, ⟨_, _, start⟩, fun j hj => by omega⟩ ?_) ?_
  · rintro k ⟨R, _⟩ hk ⟨rfl, ⟨F, d, hR⟩, h2⟩
    dsimp only at hR h2 ⊢
    refine gIte (fun h3 => ?_) fun h3 => ?_
    rotate_left
    · have e : k = E.length := by omega
      subst e
      exact gSome h2
    have hkl : k < E.length := by omega
    obtain ⟨x1, x2⟩ := hx k hkl
    obtain ⟨a, b⟩ := hE k hkl
    have hb := bit_nat s k
    rw [toNat_nat] at hb
    simp only [toNat_nat, hb]
    refine gChk ⟨by omega, by omega⟩ (gChk (by omega) ?_)
    refine gIte (fun h4 => ?_) fun h4 => ?_
    · have hbit : ¬ s.testBit k = true := fun q => by rw [if_pos q] at h4; cases h4
      refine gSome ⟨hkl, by simp, ⟨F, d, ?_⟩, fun j hj hbj => ?_⟩
      · rw [pre_succ, if_neg hbit]; exact hR
      · rcases Nat.lt_succ_iff_lt_or_eq.1 hj with q | q
        · exact h2 j q hbj
        · subst q; exact absurd hbj hbit
    · have hbit : s.testBit k = true := by
        by_cases q : s.testBit k = true
        · exact q
        · exact absurd (if_neg q) h4
      rw [x1, x2]
      refine gBindE (find_spec hR a) (gBindE (find_spec hR b) (gIte (fun h5 => ?_) fun h5 => ?_))
      · refine gSome ⟨rfl, fun h => h k hkl hbit ((hR.con _ _ a b).2 (by omega))⟩
      · have hne : F (hA E k) ≠ F (hB E k) := fun e => h5 (by rw [e])
        obtain ⟨F', d', hR'⟩ := hR.union hE hkl hne
        have hl := hR.len
        have hf := (hR.fn _ a).1
        refine gChk ⟨by omega, by omega⟩ (gSome ⟨hkl, by simp, ⟨F', d', ?_⟩, fun j hj hbj => ?_⟩)
        · rw [pre_succ, if_pos hbit]; exact hR'
        · rcases Nat.lt_succ_iff_lt_or_eq.1 hj with q | q
          · exact h2 j q hbj
          · subst q; exact fun c => hne ((hR.con _ _ a b).1 c)
  · rintro (_ | e) hz
    · exact gSome ⟨fun _ => hz, fun _ => rfl⟩
    · obtain ⟨rfl, hz⟩ := hz
      exact gSome ⟨fun h => (by cases h), fun h => absurd h hz⟩
theorem GF0 (E : List (Int × Int)) : GF E 0 := fun k _ h => by simp at h
/-- The sets of edges that the code finds. -/
theorem Graphic_spec {N : Nat} {E : List (Int × Int)} (h : CG N E) : Gets (kinds_Graphic N E) (fun y => ∃ K, y = ((E.length : Int), cs K, 0) ∧ Fam E.length K ∧ ∀ s, s ∈ K ↔ s < 2 ^ E.length ∧ GF E s ∧ ∀ t, t < 2 ^ E.length → GF E t → cnt E.length t ≤ cnt E.length s) := by
  unfold kinds_Graphic
  refine gBind (CheckGraph_spec N E) ?_
  rintro e ⟨h1, h2⟩
  rw [h2.2 h]
  refine gIte (fun h => absurd rfl h) fun _ => ?_
  refine gBind (greatest_spec h.e8 (p := fun s => GF E s) (fun s hs => ?_) (GF0 E)) ?_
  · unfold kinds_Graphic_1
    exact gBind (forest_spec h s) fun b hb => gSome hb
  · rintro y ⟨K, rfl, hF, hK⟩
    exact gSome ⟨K, rfl, hF, hK⟩
end Go.SH
