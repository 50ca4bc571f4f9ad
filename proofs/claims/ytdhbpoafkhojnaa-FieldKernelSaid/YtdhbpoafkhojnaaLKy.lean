/-
  Columns that do not hang on one another can be grown. Conditions: none.
-/
import Derived.Test.YtdhbpoafkhojnaaLKf
import Derived.Test.YtdhbpoafkhojnaaLHa
import Derived.Test.YtdhbpoafkhojnaaLRm
set_option linter.unusedSimpArgs false
set_option linter.unusedVariables false
set_option linter.unusedSectionVars false
namespace Go.SH
open Go Go.AX

theorem inc_le {s t : Nat} (h : Inc s t) : s ≤ t := by rw [← (sub_iff_and s t).2 h]; exact Nat.and_le_right
section
variable {p : Nat} [NeZero p]
theorem cx1 (a b : Fin p) : a * (1 - b) = a - a * b := by grind
theorem cx2 (a b c d : Fin p) : a * (b - c * d) = a * b - a * c * d := by grind
theorem cx3 (a b : Fin p) : a - 0 * b = a := by grind
theorem cx4 (b : Fin p) : (0 : Fin p) - 0 * b = 0 := by grind
theorem cx5 (a b c : Fin p) : a * b * c = a * (b * c) := by grind
theorem cx6 (a : Fin p) : (1 : Fin p) - 1 = 0 := by grind
theorem cx7 (a : Fin p) : a * 1 = a := by grind
theorem cx8 (a : Fin p) : 0 * a = 0 := by grind
theorem cx9 (a b c : Fin p) : a * (b * c) = a * (c * b) := by grind
theorem cx10 (a : Fin p) : a * 0 = 0 := by grind
theorem ind_ne {r n : Nat} {X : List (List Int)} {s : Nat} (h : ¬ ColInd p r n X s) : ∃ v : Nat → Fin p, Ker r n (MF p X) v ∧ (∀ j, j < n → s.testBit j = false → v j = 0) ∧ ∃ j, j < n ∧ v j ≠ 0 := by
  apply Classical.byContradiction
  intro hno
  exact h fun v h1 h2 j hj => Classical.byContradiction fun q => hno ⟨v, h1, h2, j, hj, q⟩
theorem col_span (hp : Fld p) {r n : Nat} {X : List (List Int)} {I j : Nat} (hj : j < n) (h1 : ColInd p r n X I) (h2 : I.testBit j = true ∨ ¬ ColInd p r n X (I ||| 2 ^ j)) :
    ∃ l : Nat → Fin p, (∀ i, i < n → I.testBit i = false → l i = 0) ∧ ∀ i, i < r → Sm n (fun k => MF p X i k * l k) = MF p X i j := by
  rcases h2 with h2 | h2
  · refine ⟨fun k => if k = j then 1 else 0, fun i _ hi => if_neg fun e => (by rw [e, h2] at hi; cases hi), fun i hi => ?_⟩
    rw [Sm_one (k := j) hj fun k hk hne => by simp only [if_neg hne]; exact cx10 _]
    simp only [if_true]
    exact cx7 _
  · obtain ⟨v, v1, v2, x, x1, x2⟩ := ind_ne h2
    have hsup : ∀ i, i < n → I.testBit i = false → i ≠ j → v i = 0 := fun i hi hb hne => v2 i hi (by
      rw [Nat.testBit_or, hb, testBit_pow, Bool.false_or]
      exact decide_eq_false fun e => hne e.symm)
    have hvj : v j ≠ 0 := fun e => x2 (h1 v v1 (fun i hi hb => by
      by_cases c : i = j
      · rw [c]; exact e
      · exact hsup i hi hb c) x x1)
    obtain ⟨b, hb⟩ := hp.inv _ hvj
    refine ⟨fun k => (if k = j then 1 else 0) - v k * b, fun i hi hI => ?_, fun i hi => ?_⟩
    · by_cases c : i = j
      · simp only [if_pos c]; rw [c, hb]; exact cx6 1
      · simp only [if_neg c]; rw [hsup i hi hI c]; exact cx4 _
    · rw [Sm_congr (g := fun k => MF p X i k * (if k = j then 1 else 0) - MF p X i k * v k * b) fun k hk => cx2 _ _ _ _, Sm_sub, Sm_mulr, v1 i hi, cx3,
        Sm_one (k := j) hj fun k hk hne => by rw [if_neg hne]; exact cx10 _, if_pos rfl, cx7]
theorem col_aug (hp : Fld p) {r n : Nat} {X : List (List Int)} {I J : Nat} (hI : I < 2 ^ n) (hJ : J < 2 ^ n) (h1 : ColInd p r n X I) (h2 : ColInd p r n X J) (hc : cnt n I < cnt n J) :
    ∃ e, J.testBit e = true ∧ I.testBit e = false ∧ ColInd p r n X (I ||| 2 ^ e) := by
  apply Classical.byContradiction
  intro hno
  have span : ∀ j, ∃ l : Nat → Fin p, J.testBit j = true → (∀ i, i < n → I.testBit i = false → l i = 0) ∧ ∀ i, i < r → Sm n (fun k => MF p X i k * l k) = MF p X i j := fun j => by
    by_cases q : J.testBit j = true
    · obtain ⟨l, l1, l2⟩ := col_span hp (bit_lt hJ q) h1 (by
        cases w : I.testBit j with
        | true => exact .inl rfl
        | false => exact .inr fun z => hno ⟨j, q, w, z⟩)
      exact ⟨l, fun _ => ⟨l1, l2⟩⟩
    · exact ⟨fun _ => 0, fun w => absurd w q⟩
  obtain ⟨l, hl⟩ := Classical.axiomOfChoice span
  have hcp := cpl_cnt (m := n) (s := J)
  have hcj := cnt_le n J
  obtain ⟨c, ⟨x, x1, x2⟩, c2⟩ := nontriv hp (cnt n I + cnt n (cpl n J)) n (fun x q => if q < cnt n I then (if J.testBit x = true then l x ((elm n I).getD q 0) else 0) else (if x = (elm n (cpl n J)).getD (q - cnt n I) 0 then 1 else 0)) (by omega)
  have idx : ∀ {s y : Nat}, y < n → s.testBit y = true → cnt y s < cnt n s := fun {s y} hy hb => by
    have e : cnt (y + 1) s = cnt y s + 1 := by rw [cnt, if_pos hb]
    have := cnt_up s (show y + 1 ≤ n by omega)
    omega
  have off : ∀ y, y < n → J.testBit y = false → c y = 0 := fun y hy hb => by
    have hb' : (cpl n J).testBit y = true := by rw [cpl_bit, hb]; simp [hy]
    have hq := idx hy hb'
    have := c2 (cnt n I + cnt y (cpl n J)) (by omega)
    rw [Sm_one (k := y) hy fun i hi hne => ?_] at this
    · rw [if_neg (by omega), Nat.add_sub_cancel_left, elm_at hy hb', if_pos rfl, cx7] at this
      exact this
    · rw [if_neg (by omega), Nat.add_sub_cancel_left, elm_at hy hb', if_neg hne, cx10]
  have onI : ∀ k, k < n → Sm n (fun y => c y * l y k) = 0 := fun k hk => by
    by_cases q : I.testBit k = true
    · have hq := idx hk q
      have := c2 (cnt k I) (by omega)
      rw [← this]
      refine Sm_congr fun y hy => ?_
      rw [if_pos hq, elm_at hk q]
      by_cases w : J.testBit y = true
      · rw [if_pos w]
      · rw [off y hy (by simpa using w), cx8, cx8]
    · refine Sm_zero fun y hy => ?_
      by_cases w : J.testBit y = true
      · rw [(hl y w).1 k hk (by simpa using q), cx10]
      · rw [off y hy (by simpa using w), cx8]
  have hker : Ker r n (MF p X) c := fun i hi => by
    rw [Sm_congr (g := fun y => Sm n (fun k => MF p X i k * (c y * l y k))) fun y hy => ?_]
    · rw [Sm_comm]
      refine Sm_zero fun k hk => ?_
      rw [Sm_mul, onI k hk, cx10]
    · by_cases w : J.testBit y = true
      · rw [← (hl y w).2 i hi, ← Sm_mulr]
        exact Sm_congr fun k hk => cx11 _ _ _
      · rw [off y hy (by simpa using w), cx10, Sm_zero fun k hk => ?_]
        rw [cx8, cx10]
  exact x2 (h2 c hker (fun j hj hb => off j hj hb) x x1)
where
  cx11 (a b c : Fin p) : a * b * c = a * (c * b) := by grind
theorem ColInd.sub {r n : Nat} {X : List (List Int)} {s t : Nat} (h : Inc s t) (ht : ColInd p r n X t) : ColInd p r n X s := fun v v1 v2 => ht v v1 fun j hj hb => v2 j hj (by
  cases q : s.testBit j with
  | false => rfl
  | true => have := h j q; rw [hb] at this; cases this)
end
end Go.SH
