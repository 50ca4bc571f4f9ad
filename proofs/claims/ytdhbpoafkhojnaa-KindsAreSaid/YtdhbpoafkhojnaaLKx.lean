/-
  Columns that do not hang on one another can be grown; what kinds.Linear and kinds.Graphic give is a matroid; the statement KindsAre as a plain law. Conditions: a list is no longer than 2^63 - 1.
-/
import Derived.Test.YtdhbpoafkhojnaaLKt
import Derived.Test.YtdhbpoafkhojnaaLLm
import Derived.Test.YtdhbpoafkhojnaaSkKindsAre
set_option linter.unusedSimpArgs false
set_option linter.unusedVariables false
set_option linter.unusedSectionVars false
namespace Go.SH
open Go Go.AX

theorem inc_le {s t : Nat} (h : Inc s t) : s ≤ t := by rw [← (sub_iff_and s t).2 h]; exact Nat.and_le_right
section
variable {p : Nat} [NeZero p]
theorem cx1 (a b : Fin p) : a * (1 - b) = a - a * b := by grind
theorem cx2 (a b c d : Fin p) : a * (b - c * d) = a * b - a * c * d := by grind
theorem cx3 (a b : Fin p) : a - 0 * b = a := by grind
theorem cx4 (b : Fin p) : (0 : Fin p) - 0 * b = 0 := by grind
theorem cx5 (a b c : Fin p) : a * b * c = a * (b * c) := by grind
theorem cx6 (a : Fin p) : (1 : Fin p) - 1 = 0 := by grind
theorem cx7 (a : Fin p) : a * 1 = a := by grind
theorem cx8 (a : Fin p) : 0 * a = 0 := by grind
theorem cx9 (a b c : Fin p) : a * (b * c) = a * (c * b) := by grind
theorem cx10 (a : Fin p) : a * 0 = 0 := by grind
theorem ind_ne {r n : Nat} {X : List (List Int)} {s : Nat} (h : ¬ ColInd p r n X s) : ∃ v : Nat → Fin p, Ker r n (MF p X) v ∧ (∀ j, j < n → s.testBit j = false → v j = 0) ∧ ∃ j, j < n ∧ v j ≠ 0 := by
  apply Classical.byContradiction
  intro hno
  exact h fun v h1 h2 j hj => Classical.byContradiction fun q => hno ⟨v, h1, h2, j, hj, q⟩
theorem col_span (hp : Fld p) {r n : Nat} {X : List (List Int)} {I j : Nat} (hj : j < n) (h1 : ColInd p r n X I) (h2 : I.testBit j = true ∨ ¬ ColInd p r n X (I ||| 2 ^ j)) :
    ∃ l : Nat → Fin p, (∀ i, i < n → I.testBit i = false → l i = 0) ∧ ∀ i, i < r → Sm n (fun k => MF p X i k * l k) = MF p X i j := by
  rcases h2 with h2 | h2
  · refine ⟨fun k => if k = j then 1 else 0, fun i _ hi => if_neg fun e => (by rw [e, h2] at hi; cases hi), fun i hi => ?_⟩
    rw [Sm_one (k := j) hj fun k hk hne => by simp only [if_neg hne]; exact cx10 _]
    simp only [if_true]
    exact cx7 _
  · obtain ⟨v, v1, v2, x, x1, x2⟩ := ind_ne h2
    have hsup : ∀ i, i < n → I.testBit i = false → i ≠ j → v i = 0 := fun i hi hb hne => v2 i hi (by
      rw [Nat.testBit_or, hb, testBit_pow, Bool.false_or]
      exact decide_eq_false fun e => hne e.symm)
    have hvj : v j ≠ 0 := fun e => x2 (h1 v v1 (fun i hi hb => by
      by_cases c : i = j
      · rw [c]; exact e
      · exact hsup i hi hb c) x x1)
    obtain ⟨b, hb⟩ := hp.inv _ hvj
    refine ⟨fun k => (if k = j then 1 else 0) - v k * b, fun i hi hI => ?_, fun i hi => ?_⟩
    · by_cases c : i = j
      · simp only [if_pos c]; rw [c, hb]; exact cx6 1
      · simp only [if_neg c]; rw [hsup i hi hI c]; exact cx4 _
    · rw [Sm_congr (g := fun k => MF p X i k * (if k = j then 1 else 0) - MF p X i k * v k * b) fun k hk => cx2 _ _ _ _, Sm_sub, Sm_mulr, v1 i hi, cx3,
        Sm_one (k := j) hj fun k hk hne => by rw [if_neg hne]; exact cx10 _, if_pos rfl, cx7]
theorem col_aug (hp : Fld p) {r n : Nat} {X : List (List Int)} {I J : Nat} (hI : I < 2 ^ n) (hJ : J < 2 ^ n) (h1 : ColInd p r n X I) (h2 : ColInd p r n X J) (hc : cnt n I < cnt n J) :
    ∃ e, J.testBit e = true ∧ I.testBit e = false ∧ ColInd p r n X (I ||| 2 ^ e) := by
  apply Classical.byContradiction
  intro hno
  have span : ∀ j, ∃ l : Nat → Fin p, J.testBit j = true → (∀ i, i < n → I.testBit i = false → l i = 0) ∧ ∀ i, i < r → Sm n (fun k => MF p X i k * l k) = MF p X i j := fun j => by
    by_cases q : J.testBit j = true
    · obtain ⟨l, l1, l2⟩ := col_span hp (bit_lt hJ q) h1 (by
        cases w : I.testBit j with
        | true => exact .inl rfl
        | false => exact .inr fun z => hno ⟨j, q, w, z⟩)
      exact ⟨l, fun _ => ⟨l1, l2⟩⟩
    · exact ⟨fun _ => 0, fun w => absurd w q⟩
  obtain ⟨l, hl⟩ := Classical.axiomOfChoice span
  have hcp := cpl_cnt (m := n) (s := J)
  have hcj := cnt_le n J
  obtain ⟨c, ⟨x, x1, x2⟩, c2⟩ := nontriv hp (cnt n I + cnt n (cpl n J)) n (fun x q => if q < cnt n I then (if J.testBit x = true then l x ((elm n I).getD q 0) else 0) else (if x = (elm n (cpl n J)).getD (q - cnt n I) 0 then 1 else 0)) (by omega)
  have idx : ∀ {s y : Nat}, y < n → s.testBit y = true → cnt y s < cnt n s := fun {s y} hy hb => by
    have e : cnt (y + 1) s = cnt y s + 1 := by rw [cnt, if_pos hb]
    have := cnt_up s (show y + 1 ≤ n by omega)
    omega
  have off : ∀ y, y < n → J.testBit y = false → c y = 0 := fun y hy hb => by
    have hb' : (cpl n J).testBit y = true := by rw [cpl_bit, hb]; simp [hy]
    have hq := idx hy hb'
    have := c2 (cnt n I + cnt y (cpl n J)) (by omega)
    rw [Sm_one (k := y) hy fun i hi hne => ?_] at this
    · rw [if_neg (by omega), Nat.add_sub_cancel_left, elm_at hy hb', if_pos rfl, cx7] at this
      exact this
    · rw [if_neg (by omega), Nat.add_sub_cancel_left, elm_at hy hb', if_neg hne, cx10]
  have onI : ∀ k, k < n → Sm n (fun y => c y * l y k) = 0 := fun k hk => by
    by_cases q : I.testBit k = true
    · have hq := idx hk q
      have := c2 (cnt k I) (by omega)
      rw [← this]
      refine Sm_congr fun y hy => ?_
      rw [if_pos hq, elm_at hk q]
      by_cases w : J.testBit y = true
      · rw [if_pos w]
      · rw [off y hy (by simpa using w), cx8, cx8]
    · refine Sm_zero fun y hy => ?_
      by_cases w : J.testBit y = true
      · rw [(hl y w).1 k hk (by simpa using q), cx10]
      · rw [off y hy (by simpa using w), cx8]
  have hker : Ker r n (MF p X) c := fun i hi => by
    rw [Sm_congr (g := fun y => Sm n (fun k => MF p X i k * (c y * l y k))) fun y hy => ?_]
    · rw [Sm_comm]
      refine Sm_zero fun k hk => ?_
      rw [Sm_mul, onI k hk, cx10]
    · by_cases w : J.testBit y = true
      · rw [← (hl y w).2 i hi, ← Sm_mulr]
        exact Sm_congr fun k hk => cx11 _ _ _
      · rw [off y hy (by simpa using w), cx10, Sm_zero fun k hk => ?_]
        rw [cx8, cx10]
  exact x2 (h2 c hker (fun j hj hb => off j hj hb) x x1)
where
  cx11 (a b c : Fin p) : a * b * c = a * (c * b) := by grind
theorem ColInd.sub {r n : Nat} {X : List (List Int)} {s t : Nat} (h : Inc s t) (ht : ColInd p r n X t) : ColInd p r n X s := fun v v1 v2 => ht v v1 fun j hj hb => v2 j hj (by
  cases q : s.testBit j with
  | false => rfl
  | true => have := h j q; rw [hb] at this; cases this)
end
theorem Linear_made (P C : Int) (X : List (List Int)) : Gets (kinds_Linear P C X) Made := by
  by_cases h : CM P C X
  · obtain ⟨p, n, inst, rfl, rfl, hn8, h7, hp, hr6, hX⟩ := h.elim
    refine (Linear_spec hp h7 hX hr6 hn8 h).mono ?_
    rintro _ ⟨K, rfl, hF, hK⟩
    exact .inl ⟨rfl, (aug_mat hn8 hF hK colInd0 (fun s t a b => ColInd.sub a b) fun I J hI hJ a b c => col_aug hp hI hJ a b c).check⟩
  · unfold kinds_Linear
    refine gBind (CheckMatrix_spec P C X) ?_
    rintro e ⟨h1, h2⟩
    exact gIte (fun q => gSome (.inr ⟨q, rfl, rfl⟩)) fun q => absurd (h2.1 (by omega)) h
theorem Graphic_made (N : Int) (E : List (Int × Int)) : Gets (kinds_Graphic N E) Made := by
  by_cases h : CG N E
  · have hn1 := h.n1
    obtain ⟨n, rfl⟩ := Int.eq_ofNat_of_zero_le (show 0 ≤ N by omega)
    refine (Graphic_spec h).mono ?_
    rintro _ ⟨K, rfl, hF, hK⟩
    have iff : ∀ t, t < 2 ^ E.length → (ColInd 2 (n - 1) E.length ((List.range (n - 1)).map fun w => (List.range E.length).map fun j => (((inc E w j : Fin 2).val : Nat) : Int)) t ↔ GF E t) := fun t ht => forest_ind (by omega) h.ends.1 fld2.one (fun w hw j hj => by
      have e : ent ((List.range (n - 1)).map fun w => (List.range E.length).map fun j => (((inc E w j : Fin 2).val : Nat) : Int)) w j = (((inc E w j : Fin 2).val : Nat) : Int) := by
        unfold ent
        rw [List.getD_eq_getElem?_getD (l := List.map _ _), List.getElem?_map, List.getElem?_range hw]
        simp only [Option.map_some, Option.getD_some]
        rw [List.getD_eq_getElem?_getD, List.getElem?_map, List.getElem?_range hj]; rfl
      unfold MF
      rw [e, cF_fin]) ht
    have low : ∀ s t, Inc s t → t < 2 ^ E.length → GF E t → GF E s := fun s t a ht b => (iff s (Nat.lt_of_le_of_lt (inc_le a) ht)).1 (ColInd.sub a ((iff t ht).2 b))
    refine .inl ⟨rfl, (aug_mat (p := fun s => s < 2 ^ E.length ∧ GF E s) h.e8 hF (fun s => (hK s).trans ⟨fun q => ⟨q.1, ⟨q.1, q.2.1⟩, fun t ht w => q.2.2 t ht w.2⟩, fun q => ⟨q.1, q.2.1.2, fun t ht w => q.2.2 t ht ⟨ht, w⟩⟩⟩) ⟨Nat.pow_pos (by omega), GF0 E⟩
      (fun s t a b => ⟨Nat.lt_of_le_of_lt (inc_le a) b.1, low s t a b.1 b.2⟩) fun I J hI hJ a b c => ?_).check⟩
    obtain ⟨e, e1, e2, e3⟩ := col_aug fld2 hI hJ ((iff I hI).2 a.2) ((iff J hJ).2 b.2) c
    have hlt : I ||| 2 ^ e < 2 ^ E.length := or_lt hI (Nat.pow_lt_pow_right (by omega) (bit_lt hJ e1))
    exact ⟨e, e1, e2, hlt, (iff _ hlt).1 e3⟩
  · unfold kinds_Graphic
    refine gBind (CheckGraph_spec N E) ?_
    rintro e ⟨h1, h2⟩
    exact gIte (fun q => gSome (.inr ⟨q, rfl, rfl⟩)) fun q => absurd (h2.1 (by omega)) h
theorem graphic01 : kinds_Graphic 2 [(0, 1)] = some (1, [1], 0) := by
  have h : CG ((2 : Nat) : Int) [(0, 1)] := ⟨by decide, by decide, by decide, fun k hk => by
    have : k = 0 := by simpa using hk
    subst this
    exact ⟨by decide, by decide, by decide, by decide⟩⟩
  have hx : Gets (kinds_Graphic 2 [(0, 1)]) _ := Graphic_spec h
  obtain ⟨_, e, K, rfl, hF, hK⟩ := hx
  rw [e]
  have g1 : GF [(0, 1)] 1 := fun k hk hb hc => by
    have : k = 0 := by simpa using hk
    subst this
    have := con0.1 hc
    simp [hA, hB] at this
  have hmem : ∀ s, s ∈ K ↔ s = 1 := fun s => by
    rw [hK]
    constructor
    · rintro ⟨h1, _, h3⟩
      have h1' : s < 2 := h1
      have := h3 1 (by decide) g1
      by_cases q : s = 0
      · subst q; exact absurd this (by decide)
      · omega
    · rintro rfl
      exact ⟨by decide, g1, fun t ht _ => cnt_le 1 t⟩
  have : K = [1] := hF.ext (show Fam 1 [1] from ⟨by omega, fun s hs => by
    have : s = 1 := by simpa using hs
    subst this; decide, fun i j hij hj => by simp at hj; omega⟩) fun s => by rw [hmem]; simp
  subst this
  rfl
theorem are_step {A : Option (Int × List Int × Int)} (hA : Gets A Made) {B : Option Bool} (hB : Gets B (fun b => b = true)) :
    Gets (A.bind fun y2 => (if y2.2.2 = 0 then axioms_Check y2.1 y2.2.1 else some 0).bind fun y3 => if ((y2.2.2 = 0 ∧ y3 ≠ 0) ∨ (y2.2.2 ≠ 0 ∧ (y2.1 ≠ 0 ∨ 0 < (y2.2.1.length : Int)))) then some false else B) (fun b => b = true) := by
  refine gBind hA fun y hy => ?_
  rcases hy with ⟨h1, h2⟩ | ⟨h1, h2, h3⟩
  · rw [if_pos h1, h2]
    refine gBindE rfl (gIte (fun q => ?_) fun _ => hB)
    rcases q with q | q
    · exact absurd rfl q.2
    · exact absurd h1 q.1
  · rw [if_neg h1]
    refine gBindE rfl (gIte (fun q => ?_) fun _ => hB)
    rcases q with q | q
    · exact absurd q.1 h1
    · rw [h2, h3] at q; simp at q
theorem gWrap {A : Option (Int × List Int × Int)} (h : Gets A Made) : Gets (A.bind fun y => some (y.1, y.2.1, y.2.2)) Made := gBind h fun y hy => gSome hy
theorem rotakeep_KindsAre_law (g0 : Int) (g1 : List (Int × Int)) (P C : Int) (X : List (List Int)) (n : Int) (l M : List Int) (hl : l.length ≤ 9223372036854775807) : rotakeep_KindsAre g0 g1 P C X n l M = some true := by
  refine Gets.eq ?_
  unfold rotakeep_KindsAre rotakeep_KindsAre_1 rotakeep_KindsAre_2 rotakeep_KindsAre_3 rotakeep_KindsAre_4
  rw [graphic01]
  refine gBindE rfl (gIte (fun _ => ?_) fun q => absurd (by decide) q)
  refine gBind (Gets.of_eq (Same_spec [1] [1])) ?_
  rintro _ rfl
  refine gIte (fun q => absurd (by decide) q) fun _ => ?_
  exact are_step (gWrap (Graphic_made _ _)) (are_step (gWrap (Linear_made _ _ _)) (are_step (gWrap (Transversal_made _ _)) (are_step (gWrap (Laminar_made _ _ _ hl)) (gSome rfl))))
end Go.SH
