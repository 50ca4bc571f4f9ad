/-
  Package links as it computes: the network (links.laid). Conditions: a graph.
-/
import Derived.Test.YtdhbpoafkhojnaaLNa
import Derived.Test.YtdhbpoafkhojnaaLGk
import Derived.Test.YtdhbpoafkhojnaaSplinks
set_option linter.unusedSimpArgs false
set_option linter.unusedVariables false
namespace Go.SH
open Go Go.AX

/-- A square of numbers. -/
def en (X : List (List Int)) (i j : Nat) : Int := (X.getD i []).getD j 0
structure Sq (m : Nat) (X : List (List Int)) : Prop where
  len : X.length = m
  row : ∀ i, i < m → (X.getD i []).length = m
theorem rowGet {X : List (List Int)} {i : Nat} (R : List Int) (hi : i < X.length) (a : Nat) : (X.set i R).getD a [] = if a = i then R else X.getD a [] := by
  simp only [List.getD_eq_getElem?_getD, List.getElem?_set]
  by_cases e : i = a
  · subst e; simp [hi]
  · rw [if_neg e, if_neg (fun e' => e e'.symm)]
theorem numGet {l : List Int} {k : Nat} (v : Int) (hk : k < l.length) (j : Nat) : (l.set k v).getD j 0 = if j = k then v else l.getD j 0 := by
  simp only [List.getD_eq_getElem?_getD, List.getElem?_set]
  by_cases e : k = j
  · subst e; simp [hk]
  · rw [if_neg e, if_neg (fun e' => e e'.symm)]
theorem Sq.put {m : Nat} {X : List (List Int)} (h : Sq m X) {i j : Nat} (v : Int) (hi : i < m) : Sq m (X.set i ((X.getD i []).set j v)) := by
  refine ⟨by rw [List.length_set]; exact h.len, fun a ha => ?_⟩
  rw [rowGet _ (by rw [h.len]; exact hi)]
  by_cases e : a = i
  · rw [if_pos e, List.length_set]; exact h.row i hi
  · rw [if_neg e]; exact h.row a ha
theorem Sq.get {m : Nat} {X : List (List Int)} (h : Sq m X) {i j : Nat} (v : Int) (hi : i < m) (hj : j < m) (a b : Nat) : en (X.set i ((X.getD i []).set j v)) a b = if a = i ∧ b = j then v else en X a b := by
  unfold en
  rw [rowGet _ (by rw [h.len]; exact hi)]
  by_cases e : a = i
  · rw [if_pos e, numGet _ (by rw [h.row i hi]; exact hj)]
    by_cases e2 : b = j
    · rw [if_pos e2, if_pos ⟨e, e2⟩]
    · rw [if_neg e2, if_neg (fun w => e2 w.2), e]
  · rw [if_neg e, if_neg (fun w => e w.1)]
theorem zeros_sq (m k : Nat) (hk : k ≤ m) : ∀ a, a < k → (List.replicate k (List.replicate m (0 : Int))).getD a [] = List.replicate m 0 := fun a ha => by
  rw [List.getD_eq_getElem?_getD, List.getElem?_replicate, if_pos ha]; rfl
theorem zero_getD (m a : Nat) : (List.replicate m (0 : Int)).getD a 0 = 0 := by
  simp only [List.getD_eq_getElem?_getD, List.getElem?_replicate]; split <;> rfl
def bitZ (s v : Nat) : Int := if s.testBit v = true then 1 else 0
/-- The network: 0 to the entrances of 'from', an entrance to its exit, exits of 'to' to 1, exits to entrances along the edges (k vertices and l edges of it). -/
noncomputable def lay (E : List (Int × Int)) (s t k l i j : Nat) : Int :=
  open Classical in
  if i % 2 = 0 ∧ 2 ≤ i ∧ j = i + 1 ∧ i < 2 + 2 * k then 1
  else if i = 0 ∧ j % 2 = 0 ∧ 2 ≤ j ∧ j < 2 + 2 * k then bitZ s (j / 2 - 1)
  else if j = 1 ∧ i % 2 = 1 ∧ 3 ≤ i ∧ i < 3 + 2 * k then bitZ t (i / 2 - 1)
  else if ∃ e, e < l ∧ i = 3 + 2 * hA E e ∧ j = 2 + 2 * hB E e then 1
  else 0
theorem lay_zero (E : List (Int × Int)) (s t i j : Nat) : lay E s t 0 0 i j = 0 := by
  unfold lay
  rw [if_neg (by omega), if_neg (by omega), if_neg (by omega), if_neg (fun ⟨e, h, _⟩ => by omega)]
theorem lay_vert (E : List (Int × Int)) (s t k a b : Nat) : lay E s t (k + 1) 0 a b = if a = 3 + 2 * k ∧ b = 1 then bitZ t k else if a = 0 ∧ b = 2 + 2 * k then bitZ s k else if a = 2 + 2 * k ∧ b = 3 + 2 * k then 1 else lay E s t k 0 a b := by
  have hn : ¬ ∃ e, e < 0 ∧ a = 3 + 2 * hA E e ∧ b = 2 + 2 * hB E e := fun ⟨e, h, _⟩ => by omega
  by_cases c1 : a = 3 + 2 * k ∧ b = 1
  · rw [if_pos c1]; unfold lay
    rw [if_neg (by omega), if_neg (by omega), if_pos (by omega), show a / 2 - 1 = k by omega]
  · rw [if_neg c1]
    by_cases c2 : a = 0 ∧ b = 2 + 2 * k
    · rw [if_pos c2]; unfold lay
      rw [if_neg (by omega), if_pos (by omega), show b / 2 - 1 = k by omega]
    · rw [if_neg c2]
      by_cases c3 : a = 2 + 2 * k ∧ b = 3 + 2 * k
      · rw [if_pos c3]; unfold lay
        rw [if_pos (by omega)]
      · rw [if_neg c3]; unfold lay
        rw [if_neg hn]
        by_cases A : a % 2 = 0 ∧ 2 ≤ a ∧ b = a + 1 ∧ a < 2 + 2 * k
        · rw [if_pos A, if_pos (by omega)]
        · rw [if_neg A, if_neg (show ¬ (a % 2 = 0 ∧ 2 ≤ a ∧ b = a + 1 ∧ a < 2 + 2 * (k + 1)) by omega)]
          by_cases B : a = 0 ∧ b % 2 = 0 ∧ 2 ≤ b ∧ b < 2 + 2 * k
          · rw [if_pos B, if_pos (by omega)]
          · rw [if_neg B, if_neg (show ¬ (a = 0 ∧ b % 2 = 0 ∧ 2 ≤ b ∧ b < 2 + 2 * (k + 1)) by omega)]
            by_cases C : b = 1 ∧ a % 2 = 1 ∧ 3 ≤ a ∧ a < 3 + 2 * k
            · rw [if_pos C, if_pos (by omega)]
            · rw [if_neg C, if_neg (show ¬ (b = 1 ∧ a % 2 = 1 ∧ 3 ≤ a ∧ a < 3 + 2 * (k + 1)) by omega)]
theorem lay_edge (E : List (Int × Int)) (s t k l a b : Nat) : lay E s t k (l + 1) a b = if a = 3 + 2 * hA E l ∧ b = 2 + 2 * hB E l then 1 else lay E s t k l a b := by
  by_cases c : a = 3 + 2 * hA E l ∧ b = 2 + 2 * hB E l
  · rw [if_pos c]; unfold lay
    rw [if_neg (by omega), if_neg (by omega), if_neg (by omega), if_pos ⟨l, by omega, c⟩]
  · rw [if_neg c]; unfold lay
    have e : (∃ e, e < l + 1 ∧ a = 3 + 2 * hA E e ∧ b = 2 + 2 * hB E e) ↔ ∃ e, e < l ∧ a = 3 + 2 * hA E e ∧ b = 2 + 2 * hB E e := by
      constructor
      · rintro ⟨e, h1, h2⟩
        rcases Nat.lt_succ_iff_lt_or_eq.1 h1 with q | q
        · exact ⟨e, q, h2⟩
        · subst q; exact absurd h2 c
      · rintro ⟨e, h1, h2⟩; exact ⟨e, by omega, h2⟩
    simp only [e]
theorem lay_bd (E : List (Int × Int)) (s t k l a b : Nat) : 0 ≤ lay E s t k l a b ∧ lay E s t k l a b ≤ 1 := by
  have z : ∀ s v, 0 ≤ bitZ s v ∧ bitZ s v ≤ 1 := fun s v => by unfold bitZ; split <;> omega
  unfold lay
  split
  · omega
  · split
    · exact z _ _
    · split
      · exact z _ _
      · split <;> omega
theorem laid_spec {N : Nat} {E : List (Int × Int)} (h : CG N E) (s t : Nat) : Gets (links_laid N E (s : Int) (t : Int)) (fun p => Sq (2 + 2 * N) p ∧ ∀ i j, en p i j = lay E s t N E.length i j) := by
  have hn1 := h.n1
  have hn7 := h.n7
  have he8 := h.e8
  obtain ⟨ends, eq⟩ := h.ends
  unfold links_laid
  have hm : ((2 : Int) + 2 * (N : Int)).toNat = 2 + 2 * N := by omega
  simp only [hm]
  refine gChk ⟨⟨by omega, by omega⟩, ⟨by omega, by omega⟩, by omega, by omega⟩ ?_
  refine gBind (R := fun p => Sq (2 + 2 * N) p ∧ ∀ i j, en p i j = 0) (gFor (2 + 2 * N) (fun k (x : List (List Int) × Int) => x.2 = (k : Int) ∧ x.1 = List.replicate k (List.replicate (2 + 2 * N) 0)) (Nat.zero_le _) ⟨rfl, rfl⟩ ?_) ?_
  · rintro k ⟨_, _⟩ hk ⟨rfl, rfl⟩
    simp only [toNat_nat, List.length_replicate]
    refine gIte (fun h1 => gChk ⟨⟨by omega, by omega⟩, by omega, by omega⟩ (gChk trivial (gChk ⟨by omega, by omega⟩ (gSome ⟨by omega, by simp, ?_⟩)))) fun h1 => gSome ?_
    · show _ ++ [_] = _
      rw [List.replicate_succ']
    · have e : k = 2 + 2 * N := by omega
      subst e
      refine ⟨⟨by simp, fun i hi => by rw [zeros_sq _ _ (Nat.le_refl _) i hi]; simp⟩, fun i j => ?_⟩
      unfold en
      by_cases c : i < 2 + 2 * N
      · rw [zeros_sq _ _ (Nat.le_refl _) i c]; exact zero_getD _ _
      · rw [List.getD_eq_getElem?_getD (l := List.replicate _ (List.replicate _ _)), List.getElem?_replicate, if_neg c]; rfl
  · rintro p0 ⟨hp0, hp0'⟩
    refine gChk hp0.len.symm ?_
    refine gBind (R := fun p => Sq (2 + 2 * N) p ∧ ∀ i j, en p i j = lay E s t N 0 i j) (gFor N (fun k (x : List (List Int) × Int) => x.2 = (k : Int) ∧ Sq (2 + 2 * N) x.1 ∧ ∀ i j, en x.1 i j = lay E s t k 0 i j) (Nat.zero_le _) ⟨rfl, hp0, fun i j => by rw [lay_zero]; exact hp0' i j⟩ ?_) ?_
    · rintro k ⟨p, _⟩ hk ⟨rfl, hp, hp'⟩
      dsimp only at hp hp' ⊢
      refine gIte (fun h1 => ?_) fun h1 => gSome (by rw [show N = k by omega] at hp ⊢; exact ⟨hp, hp'⟩)
      have hkN : k < N := by omega
      have e2 : ((2 : Int) + 2 * (k : Int)).toNat = 2 + 2 * k := by omega
      have e3 : ((3 : Int) + 2 * (k : Int)).toNat = 3 + 2 * k := by omega
      simp only [e2, e3, toNat_nat]
      have b1 := bit_nat s k
      have b2 := bit_nat t k
      rw [toNat_nat] at b1 b2
      rw [b1, b2]
      have hl := hp.len
      have r2 := hp.row (2 + 2 * k) (by omega)
      have r3 := hp.row (3 + 2 * k) (by omega)
      have r0 := hp.row 0 (by omega)
      have q1 := hp.put (i := 2 + 2 * k) (j := 3 + 2 * k) 1 (by omega)
      have q2 := q1.put (i := 0) (j := 2 + 2 * k) (if s.testBit k = true then 1 else 0) (by omega)
      have q3 := q2.put (i := 3 + 2 * k) (j := 1) (if t.testBit k = true then 1 else 0) (by omega)
      refine gChk ⟨⟨by omega, by omega⟩, ⟨by omega, by omega⟩, ⟨by omega, by omega⟩, ⟨by omega, by omega⟩, by omega, by omega⟩ (gChk ⟨⟨by omega, by omega⟩, ⟨by omega, by omega⟩, ⟨by omega, by omega⟩, by omega, by omega, by omega⟩ (gChk ⟨⟨by omega, by omega⟩, ⟨by omega, by omega⟩, ⟨by omega, by omega⟩, by omega, by omega⟩ (gChk ⟨by omega, by omega⟩ (gSome ⟨hkN, by simp, q3, fun a b => ?_⟩))))
      show en (List.set _ _ _) a b = _
      rw [q2.get _ (by omega) (by omega), q1.get _ (by omega) (by omega), hp.get _ (by omega) (by omega), hp', lay_vert]
      rfl
    · rintro p1 ⟨hp1, hp1'⟩
      refine gBind (R := fun p => Sq (2 + 2 * N) p ∧ ∀ i j, en p i j = lay E s t N E.length i j) (gFor E.length (fun l (x : List (List Int) × Int) => x.2 = (l : Int) ∧ Sq (2 + 2 * N) x.1 ∧ ∀ i j, en x.1 i j = lay E s t N l i j) (Nat.zero_le _) ⟨rfl, hp1, hp1'⟩ ?_) fun p hp => gSome hp
      rintro l ⟨p, _⟩ hl ⟨rfl, hp, hp'⟩
      dsimp only at hp hp' ⊢
      simp only [toNat_nat]
      refine gIte (fun h1 => ?_) fun h1 => gSome (by rw [show E.length = l by omega]; exact ⟨hp, hp'⟩)
      have hlE : l < E.length := by omega
      obtain ⟨ea, eb⟩ := eq l hlE
      obtain ⟨la, lb⟩ := ends l hlE
      have e2 : ((2 : Int) + 2 * ((hB E l : Nat) : Int)).toNat = 2 + 2 * hB E l := by omega
      have e3 : ((3 : Int) + 2 * ((hA E l : Nat) : Int)).toNat = 3 + 2 * hA E l := by omega
      simp only [ea, eb, e2, e3]
      have hl := hp.len
      have r3 := hp.row (3 + 2 * hA E l) (by omega)
      refine gChk ⟨by omega, by omega⟩ (gChk ⟨⟨by omega, by omega⟩, ⟨by omega, by omega⟩, ⟨by omega, by omega⟩, ⟨by omega, by omega⟩, ⟨by omega, by omega⟩, by omega, by omega⟩ (gSome ⟨hlE, by simp, hp.put _ (by omega), fun a b => ?_⟩))
      show en (List.set _ _ _) a b = _
      rw [hp.get _ (by omega) (by omega), hp', lay_edge]
end Go.SH
