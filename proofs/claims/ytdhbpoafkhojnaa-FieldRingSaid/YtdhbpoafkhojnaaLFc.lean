/-
  Package field as it computes: Rank, Reduced, Times, Turned. Conditions: none.
-/
import Derived.Test.YtdhbpoafkhojnaaLFb
set_option linter.unusedSimpArgs false
set_option linter.unusedVariables false
set_option linter.unusedSectionVars false
namespace Go.SH
open Go Go.AX

theorem snoc_lt {v : List (List Int)} {w : List Int} {a : Nat} (h : a < v.length) : (v ++ [w]).getD a [] = v.getD a [] := by
  rw [List.getD_eq_getElem?_getD, List.getElem?_append_left h, ← List.getD_eq_getElem?_getD]
theorem snoc_at {v : List (List Int)} {w : List Int} {a : Nat} (h : a = v.length) : (v ++ [w]).getD a [] = w := by
  subst h; rw [List.getD_eq_getElem?_getD, List.getElem?_append_right (Nat.le_refl _), Nat.sub_self]; rfl
theorem snocI_lt {v : List Int} {w : Int} {a : Nat} (h : a < v.length) : (v ++ [w]).getD a 0 = v.getD a 0 := by
  rw [List.getD_eq_getElem?_getD, List.getElem?_append_left h, ← List.getD_eq_getElem?_getD]
theorem snocI_at {v : List Int} {w : Int} {a : Nat} (h : a = v.length) : (v ++ [w]).getD a 0 = w := by
  subst h; rw [List.getD_eq_getElem?_getD, List.getElem?_append_right (Nat.le_refl _), Nat.sub_self]; rfl
theorem setI_getD {l : List Int} {k : Nat} (v : Int) (hk : k < l.length) (j : Nat) : (l.set k v).getD j 0 = if j = k then v else l.getD j 0 := by
  simp only [List.getD_eq_getElem?_getD, List.getElem?_set]
  by_cases e : k = j
  · subst e; simp [hk]
  · rw [if_neg e, if_neg (fun e' => e e'.symm)]
section
variable {p : Nat} [NeZero p]
theorem MOk.ext {r n : Nat} {X Y : List (List Int)} (hX : MOk p r n X) (hY : MOk p r n Y) (h : ∀ i, i < r → ∀ j, j < n → MF p X i j = MF p Y i j) : X = Y := by
  have row : ∀ {Z : List (List Int)} {i : Nat} (hi : i < Z.length), Z[i] = Z.getD i [] := fun hi => by rw [List.getD_eq_getElem?_getD, List.getElem?_eq_getElem hi]; rfl
  refine List.ext_getElem (by rw [hX.len, hY.len]) fun i h1 h2 => ?_
  have hir : i < r := by rw [← hX.len]; exact h1
  rw [row h1, row h2]
  refine List.ext_getElem (by rw [hX.row i hir, hY.row i hir]) fun j h3 h4 => ?_
  have hjn : j < n := by rw [← hX.row i hir]; exact h3
  have e := (cF_eq (hX.bd i hir j hjn) (hY.bd i hir j hjn)).1 (h i hir j hjn)
  unfold ent at e
  rw [List.getD_eq_getElem?_getD (l := X.getD i []), List.getD_eq_getElem?_getD (l := Y.getD i []), List.getElem?_eq_getElem h3, List.getElem?_eq_getElem h4] at e
  exact e
theorem CM.bad {P C : Int} {X : List (List Int)} (h : ¬ CM P C X) : Gets (kinds_CheckMatrix P C X) (fun e => e ≠ 0) :=
  (CheckMatrix_spec P C X).mono fun e he q => h (he.2.1 q)
theorem CM.good {P C : Int} {X : List (List Int)} (h : CM P C X) : Gets (kinds_CheckMatrix P C X) (fun e => e = 0) :=
  (CheckMatrix_spec P C X).mono fun e he => he.2.2 h
/-- Rows with heads that tell as much as X. -/
def RedOf (p : Nat) [NeZero p] (r n : Nat) (X : List (List Int)) (k : Nat) (h : Nat → Nat) (Y : List (List Int)) : Prop := k ≤ r ∧ MOk p k n Y ∧ Rr k n h (MF p Y) ∧ ∀ w, Ker r n (MF p X) w ↔ Ker k n (MF p Y) w
theorem Reduced_spec (hp : Fld p) (h7 : p ≤ 7) {r n : Nat} {X : List (List Int)} (hX : MOk p r n X) (hr : r ≤ 6) (hn : n ≤ 8) (hc : CM p n X) : Gets (field_Reduced p n X) (fun y => ∃ (k : Nat) (h : Nat → Nat) (Y : List (List Int)), y = ((p : Int), (n : Int), Y, 0) ∧ RedOf p r n X k h Y) := by
  unfold field_Reduced
  refine gBind hc.good fun e he => gIte (fun q => absurd he q) fun _ => ?_
  refine gBind (field_twin_spec hX hr hn _ _) ?_
  rintro _ rfl
  refine gBind (field_reduced_spec hp h7 hX hr hn) ?_
  rintro _ ⟨k, h, Y, h1, rfl, h2, h3, h4⟩
  exact gSome ⟨k, h, Y, rfl, h1, h2, h3, h4⟩
theorem Reduced_bad {P C : Int} {X : List (List Int)} (h : ¬ CM P C X) : Gets (field_Reduced P C X) (fun y => y.2.2.2 ≠ 0 ∧ y.2.2.1 = []) := by
  unfold field_Reduced
  exact gBind (CM.bad h) fun e he => gIte (fun q => gSome ⟨he, rfl⟩) fun q => absurd he q
theorem Rank_spec (hp : Fld p) (h7 : p ≤ 7) {r n : Nat} {X : List (List Int)} (hX : MOk p r n X) (hr : r ≤ 6) (hn : n ≤ 8) (hc : CM p n X) : Gets (field_Rank p n X) (fun y => ∃ (k : Nat) (h : Nat → Nat) (Y : List (List Int)), y = ((k : Int), 0) ∧ RedOf p r n X k h Y) := by
  unfold field_Rank
  refine gBind hc.good fun e he => gIte (fun q => absurd he q) fun _ => ?_
  refine gBind (field_twin_spec hX hr hn _ _) ?_
  rintro _ rfl
  refine gBind (field_reduced_spec hp h7 hX hr hn) ?_
  rintro _ ⟨k, h, Y, h1, rfl, h2, h3, h4⟩
  exact gSome ⟨k, h, Y, by simp, h1, h2, h3, h4⟩
/-- A matrix times another. -/
def Prod (r n m : Nat) (A B Z : Nat → Nat → Fin p) : Prop := ∀ i, i < r → ∀ j, j < m → Z i j = Sm n (fun l => A i l * B l j)
theorem Times_spec (h7 : p ≤ 7) {r n m : Nat} {X Y : List (List Int)} (hX : MOk p r n X) (hY : MOk p n m Y) (hr : r ≤ 6) (hn : n ≤ 8) (hm : m ≤ 8) (hcX : CM p n X) (hcY : CM p m Y) :
    Gets (field_Times p n X p m Y) (fun y => ∃ Z, y = ((p : Int), (m : Int), Z, 0) ∧ MOk p r m Z ∧ Prod r n m (MF p X) (MF p Y) (MF p Z)) := by
  have hlX := hX.len
  have hlY := hY.len
  have hp0 : (p : Int) ≠ 0 := by have := NeZero.ne p; omega
  unfold field_Times
  refine gBind hcX.good fun e he => gBind hcY.good fun e' he' => gIte (fun q => absurd he q) fun _ => gIte (fun q => absurd he' q) fun _ => gIte (fun q => ?_) fun _ => ?_
  · rcases q with q | q
    · exact absurd rfl q
    · exact absurd (by omega) q
  refine gBind (R := fun Z => MOk p r m Z ∧ Prod r n m (MF p X) (MF p Y) (MF p Z)) (gFor r (fun i (s : List (List Int) × Int) => s.2 = (i : Int) ∧ MOk p i m s.1 ∧ Prod i n m (MF p X) (MF p Y) (MF p s.1)) (Nat.zero_le _) ⟨rfl, ⟨rfl, fun i h => by omega, fun i h => by omega⟩, fun i h => by omega⟩ ?_) ?_
  · rintro i ⟨V, _⟩ hi ⟨rfl, hV, hV2⟩
    dsimp only at hV hV2 ⊢
    have hlV := hV.len
    simp only [toNat_nat, hlX]
    refine gIte (fun h1 => ?_) fun h1 => gSome (by rw [show r = i by omega]; exact ⟨hV, hV2⟩)
    have hir : i < r := by omega
    rw [hX.row i hir]
    refine gChk ⟨by omega, by omega⟩ (gChk ⟨by omega, by omega⟩ ?_)
    refine gBind (R := fun w : List Int => w.length = m ∧ ∀ j, j < m → (0 ≤ w.getD j 0 ∧ w.getD j 0 < p) ∧ cF p (w.getD j 0) = Sm n (fun l => MF p X i l * MF p Y l j))
      (gFor n (fun l (s : List Int × Int) => s.2 = (l : Int) ∧ s.1.length = m ∧ ∀ j, j < m → (0 ≤ s.1.getD j 0 ∧ s.1.getD j 0 < p) ∧ cF p (s.1.getD j 0) = Sm l (fun l => MF p X i l * MF p Y l j)) (Nat.zero_le _) ⟨rfl, by simp, fun j hj => ?_⟩ ?_) ?_
    · have e : (List.replicate m (0 : Int)).getD j 0 = 0 := by simp [List.getD_eq_getElem?_getD, List.getElem?_replicate, hj]
      simp only [e]
      exact ⟨⟨by omega, by have := Nat.pos_of_ne_zero (NeZero.ne p); omega⟩, cF_zero⟩
    · rintro l ⟨W, _⟩ hl ⟨rfl, hW, hW2⟩
      dsimp only at hW hW2 ⊢
      simp only [toNat_nat]
      refine gIte (fun h2 => ?_) fun h2 => gSome (by rw [show n = l by omega]; exact ⟨hW, hW2⟩)
      have hln : l < n := by omega
      have bx := hX.bd i hir l hln
      have ex : (X.getD i []).getD l 0 = ent X i l := rfl
      have ey : ∀ j, (Y.getD l []).getD j 0 = ent Y l j := fun _ => rfl
      refine gChk ⟨by omega, by omega⟩ ?_
      refine gBind (R := fun w : List Int => w.length = m ∧ ∀ j, j < m → (0 ≤ w.getD j 0 ∧ w.getD j 0 < p) ∧ cF p (w.getD j 0) = Sm (l + 1) (fun l => MF p X i l * MF p Y l j))
        (gFor m (fun j (s : List Int × Int) => s.2 = (j : Int) ∧ s.1.length = m ∧ (∀ b, b < j → (0 ≤ s.1.getD b 0 ∧ s.1.getD b 0 < p) ∧ cF p (s.1.getD b 0) = Sm (l + 1) (fun l => MF p X i l * MF p Y l b)) ∧ ∀ b, j ≤ b → s.1.getD b 0 = W.getD b 0) (Nat.zero_le _) ⟨rfl, hW, fun b hb => by omega, fun b hb => rfl⟩ ?_) ?_
      · rintro j ⟨U, _⟩ hj ⟨rfl, hU, hU2, hU3⟩
        dsimp only at hU hU2 hU3 ⊢
        simp only [toNat_nat, hW, hU, hlY, ex, ey]
        refine gIte (fun h3 => ?_) fun h3 => gSome ⟨hU, fun b hb => hU2 b (by omega)⟩
        have hjm : j < m := by omega
        have by' := hY.bd l hln j hjm
        have bu := hW2 j hjm
        rw [hU3 j (Nat.le_refl _), hY.row l hln]
        have m1 := mul_bd7 bx.1 (by omega) by'.1 (by omega)
        have b7 := bu.1
        refine gChk ⟨⟨by omega, by omega⟩, ⟨by omega, by omega⟩, ⟨by omega, by omega⟩, ⟨by omega, by omega⟩, ⟨by omega, by omega⟩, hp0⟩ (gSome ⟨hjm, by simp, by simpa using hU, fun b hb => ?_, fun b hb => ?_⟩)
        · have hpos : 0 ≤ W.getD j 0 + ent X i l * ent Y l j := by omega
          rw [setI_getD _ (by omega)]
          by_cases q : b = j
          · subst q
            rw [if_pos rfl]
            refine ⟨tmod_bd hpos, ?_⟩
            rw [cF_tmod hpos, cF_add, cF_mul, bu.2]
            rfl
          · rw [if_neg q]; exact hU2 b (by omega)
        · rw [setI_getD _ (by omega), if_neg (by omega)]; exact hU3 b (by omega)
      · rintro U ⟨hU, hU2⟩
        exact gChk ⟨by omega, by omega⟩ (gSome ⟨hln, by simp, hU, hU2⟩)
    · rintro W ⟨hW, hW2⟩
      have at' : ∀ a, a < i → ∀ j, ent (V ++ [W]) a j = ent V a j := fun a ha j => by unfold ent; rw [snoc_lt (by omega)]
      have ats : ∀ j, ent (V ++ [W]) i j = W.getD j 0 := fun j => by unfold ent; rw [snoc_at (by omega)]
      refine gChk (by rw [List.length_append, hlV]; simp; omega) (gSome ⟨hir, by simp, ⟨by rw [List.length_append, hlV]; rfl, fun a ha => ?_, fun a ha j hj => ?_⟩, fun a ha j hj => ?_⟩)
      · rcases Nat.lt_succ_iff_lt_or_eq.1 ha with q | q
        · rw [snoc_lt (by omega)]; exact hV.row a q
        · rw [snoc_at (by omega)]; exact hW
      · rcases Nat.lt_succ_iff_lt_or_eq.1 ha with q | q
        · rw [at' a q]; exact hV.bd a q j hj
        · rw [q, ats]; exact (hW2 j hj).1
      · unfold MF
        rcases Nat.lt_succ_iff_lt_or_eq.1 ha with q | q
        · rw [at' a q]; exact hV2 a q j hj
        · rw [q, ats]; exact (hW2 j hj).2
  · rintro Z ⟨h1, h2⟩
    exact gSome ⟨Z, rfl, h1, h2⟩
theorem Turned_spec {r n : Nat} {X : List (List Int)} (hX : MOk p r n X) (hr : r ≤ 6) (hn : n ≤ 6) (hc : CM p n X) :
    Gets (field_Turned p n X) (fun y => ∃ Z, y = ((p : Int), (r : Int), Z, 0) ∧ MOk p n r Z ∧ ∀ i, i < n → ∀ j, j < r → MF p Z i j = MF p X j i) := by
  have hlX := hX.len
  unfold field_Turned
  refine gBind hc.good fun e he => gIte (fun q => absurd he q) fun _ => gIte (fun q => absurd q (by omega)) fun _ => ?_
  refine gBind (R := fun Z => MOk p n r Z ∧ ∀ i, i < n → ∀ j, j < r → ent Z i j = ent X j i) (gFor n (fun i (s : List (List Int) × Int) => s.2 = (i : Int) ∧ MOk p i r s.1 ∧ ∀ a, a < i → ∀ j, j < r → ent s.1 a j = ent X j a) (Nat.zero_le _) ⟨rfl, ⟨rfl, fun i h => by omega, fun i h => by omega⟩, fun i h => by omega⟩ ?_) ?_
  · rintro i ⟨V, _⟩ hi ⟨rfl, hV, hV2⟩
    dsimp only at hV hV2 ⊢
    have hlV := hV.len
    simp only [toNat_nat, hlX]
    refine gIte (fun h1 => ?_) fun h1 => gSome (by rw [show n = i by omega]; exact ⟨hV, hV2⟩)
    have hin : i < n := by omega
    refine gBind (R := fun w : List Int => w.length = r ∧ ∀ j, j < r → w.getD j 0 = ent X j i) (gFor r (fun j (s : List Int × Int) => s.2 = (j : Int) ∧ s.1.length = j ∧ ∀ b, b < j → s.1.getD b 0 = ent X b i) (Nat.zero_le _) ⟨rfl, rfl, fun b h => by omega⟩ ?_) ?_
    · rintro j ⟨W, _⟩ hj ⟨rfl, hW, hW2⟩
      dsimp only at hW hW2 ⊢
      simp only [toNat_nat]
      refine gIte (fun h2 => ?_) fun h2 => gSome (by rw [show r = j by omega]; exact ⟨hW, hW2⟩)
      have hjr : j < r := by omega
      have hrow := hX.row j hjr
      refine gChk ⟨by omega, by omega⟩ (gChk ⟨⟨by omega, by rw [hrow]; omega⟩, by rw [List.length_append, hW]; simp; omega⟩ (gSome ⟨hjr, by simp, by rw [List.length_append, hW]; rfl, fun b hb => ?_⟩))
      rcases Nat.lt_succ_iff_lt_or_eq.1 hb with q | q
      · rw [snocI_lt (by omega)]; exact hW2 b q
      · rw [snocI_at (by omega), q]; rfl
    · rintro W ⟨hW, hW2⟩
      have at' : ∀ a, a < i → ∀ j, ent (V ++ [W]) a j = ent V a j := fun a ha j => by unfold ent; rw [snoc_lt (by omega)]
      have ats : ∀ j, ent (V ++ [W]) i j = W.getD j 0 := fun j => by unfold ent; rw [snoc_at (by omega)]
      refine gChk (by rw [List.length_append, hlV]; simp; omega) (gChk ⟨by omega, by omega⟩ (gSome ⟨hin, by simp, ⟨by rw [List.length_append, hlV]; rfl, fun a ha => ?_, fun a ha j hj => ?_⟩, fun a ha j hj => ?_⟩))
      · rcases Nat.lt_succ_iff_lt_or_eq.1 ha with q | q
        · rw [snoc_lt (by omega)]; exact hV.row a q
        · rw [snoc_at (by omega)]; exact hW
      · rcases Nat.lt_succ_iff_lt_or_eq.1 ha with q | q
        · rw [at' a q]; exact hV.bd a q j hj
        · rw [q, ats, hW2 j hj]; exact hX.bd j hj i hin
      · rcases Nat.lt_succ_iff_lt_or_eq.1 ha with q | q
        · rw [at' a q]; exact hV2 a q j hj
        · rw [q, ats]; exact hW2 j hj
  · rintro Z ⟨h1, h2⟩
    exact gSome ⟨Z, by rw [hlX], h1, fun i hi j hj => by unfold MF; rw [h2 i hi j hj]⟩
end
end Go.SH
