/-
  Moebius numbers of flats: how they are computed, that they are small, that they come to nought. Plain: no program in sight. Conditions: none.
-/
import Derived.Test.YtkjfccdfmjnkbaaLF
set_option linter.unusedSimpArgs false
set_option linter.unusedVariables false
namespace Go.SH
open Go Go.AX

/-- How many sets lie within one. -/
theorem count_subsets : ∀ (m s : Nat), (List.range (2 ^ m)).countP (fun t => decide (Inc t s)) = 2 ^ cnt m s := by
  intro m
  induction m with
  | zero =>
    intro s
    have : decide (Inc 0 s) = true := decide_eq_true (inc_zero s)
    simp [cnt, List.range_succ, this]
  | succ m ih =>
    intro s
    have e : 2 ^ (m + 1) = 2 ^ m + 2 ^ m := by rw [Nat.pow_succ]; omega
    rw [e, List.range_add, List.countP_append, List.countP_map, ih s]
    have key : ∀ t, t < 2 ^ m → (Inc (2 ^ m + t) s ↔ s.testBit m = true ∧ Inc t s) := fun t ht => by
      have eo : 2 ^ m + t = 2 ^ m ||| t := by
        have h := Nat.two_pow_add_eq_or_of_lt ht 1
        simpa using h
      rw [eo]
      constructor
      · intro h
        exact ⟨h m (by rw [Nat.testBit_or, testBit_pow]; simp), (inc_or_r _ _).trans h⟩
      · rintro ⟨h1, h2⟩
        exact inc_or (inc_pow h1) h2
    have e2 : (List.range (2 ^ m)).countP ((fun t => decide (Inc t s)) ∘ fun x => 2 ^ m + x) = if s.testBit m = true then 2 ^ cnt m s else 0 := by
      split
      · rename_i hb
        rw [← ih s]
        refine List.countP_congr fun t ht => ?_
        have := key t (List.mem_range.1 ht)
        simp only [Function.comp_apply, decide_eq_true_eq]
        rw [this]; simp [hb]
      · rename_i hb
        rw [List.countP_eq_zero]
        intro t ht
        have := key t (List.mem_range.1 ht)
        simp only [Function.comp_apply, decide_eq_true_eq]
        rw [this]; simp [hb]
    rw [e2]
    simp only [cnt]
    split
    · rw [Nat.pow_succ]; omega
    · rw [Nat.add_zero, Nat.add_zero]

theorem sumN_count (F : List Nat) (s : Nat) : ∀ i, i ≤ F.length → sumN i (fun k => if Inc (F.getD k 0) s then 1 else 0) = (((F.take i).countP (fun t => decide (Inc t s)) : Nat) : Int) := by
  intro i
  induction i with
  | zero => intro _; rfl
  | succ i ih =>
    intro hi
    have hi' : i < F.length := by omega
    have etake : F.take (i + 1) = F.take i ++ [F.getD i 0] := by
      rw [List.take_add_one, List.getD_eq_getElem?_getD, List.getElem?_eq_getElem hi']; rfl
    simp only [sumN]
    rw [ih (by omega), etake, List.countP_append]
    generalize F.getD i 0 = y at *
    by_cases h : Inc y s
    · rw [if_pos h]; simp [h]
    · rw [if_neg h]; simp [h]
theorem sumN_abs {n : Nat} {g : Nat → Int} {c : Int} (hg : ∀ i, i < n → -c ≤ g i ∧ g i ≤ c) : -(n * c) ≤ sumN n g ∧ sumN n g ≤ n * c := by
  induction n with
  | zero => simp [sumN]
  | succ n ih =>
    simp only [sumN]
    have h1 := ih fun i hi => hg i (by omega)
    have h2 := hg n (by omega)
    have e : ((n + 1 : Nat) : Int) * c = n * c + c := by rw [Int.natCast_add, Int.add_mul]; simp
    rw [e]; omega

/-- The numbers, one behind the other. -/
def mobL (F : List Nat) : Nat → List Int
  | 0 => []
  | i + 1 => mobL F i ++ [if i = 0 then 1 else - sumN i (fun k => if Inc (F.getD k 0) (F.getD i 0) then (mobL F i).getD k 0 else 0)]
theorem mobL_len (F : List Nat) : ∀ i, (mobL F i).length = i
  | 0 => rfl
  | i + 1 => by simp only [mobL, List.length_append, mobL_len F i]; rfl
def mob (F : List Nat) (i : Nat) : Int := (mobL F (i + 1)).getD i 0
theorem mobL_get (F : List Nat) {k : Nat} : ∀ {i : Nat}, k < i → (mobL F i).getD k 0 = mob F k := by
  intro i
  induction i with
  | zero => intro h; omega
  | succ i ih =>
    intro h
    rcases Nat.lt_or_ge k i with q | q
    · rw [← ih q]
      simp only [mobL, List.getD_eq_getElem?_getD]
      rw [List.getElem?_append_left (by rw [mobL_len]; exact q)]
    · have : k = i := by omega
      subst this; rfl
theorem mob_eq (F : List Nat) (i : Nat) : mob F i = if i = 0 then 1 else - sumN i (fun k => if Inc (F.getD k 0) (F.getD i 0) then mob F k else 0) := by
  have e : mob F i = if i = 0 then 1 else - sumN i (fun k => if Inc (F.getD k 0) (F.getD i 0) then (mobL F i).getD k 0 else 0) := by
    unfold mob
    simp only [mobL, List.getD_eq_getElem?_getD]
    rw [List.getElem?_append_right (by rw [mobL_len]; exact Nat.le_refl _), mobL_len, Nat.sub_self]
    rfl
  rw [e]
  split
  · rfl
  · congr 1
    exact sumN_congr fun k hk => by rw [mobL_get F hk]

section
variable {m : Nat} {F : List Nat} (hF : Fam m F)
include hF
theorem Fam.idx {i j : Nat} (hi : i < F.length) (hj : j < F.length) (h : F.getD i 0 ≤ F.getD j 0) : i ≤ j := by
  rcases Nat.lt_or_ge j i with q | q
  · have := hF.rise j i q hi; omega
  · exact q
theorem Fam.inc_idx {i j : Nat} (hi : i < F.length) (hj : j < F.length) (h : Inc (F.getD i 0) (F.getD j 0)) : i ≤ j := by
  refine hF.idx hi hj ?_
  have := (sub_iff_and _ _).2 h
  rw [← this]; exact Nat.and_le_right
/-- What all within one come to. -/
theorem Fam.weisner {j : Nat} (hj : j < F.length) : sumN F.length (fun i => if Inc (F.getD i 0) (F.getD j 0) then mob F i else 0) = if j = 0 then 1 else 0 := by
  have cut : ∀ d, j + 1 + d ≤ F.length → sumN (j + 1 + d) (fun i => if Inc (F.getD i 0) (F.getD j 0) then mob F i else 0) = sumN (j + 1) (fun i => if Inc (F.getD i 0) (F.getD j 0) then mob F i else 0) := by
    intro d
    induction d with
    | zero => intro _; rfl
    | succ d ih =>
      intro hd
      have hn : ¬ Inc (F.getD (j + 1 + d) 0) (F.getD j 0) := fun c => by have := hF.inc_idx (i := j + 1 + d) (by omega) hj c; omega
      rw [show j + 1 + (d + 1) = (j + 1 + d) + 1 by omega]
      show sumN (j + 1 + d) _ + (if Inc (F.getD (j + 1 + d) 0) (F.getD j 0) then mob F (j + 1 + d) else 0) = _
      rw [ih (by omega), if_neg hn, Int.add_zero]
  have := cut (F.length - (j + 1)) (by omega)
  rw [show j + 1 + (F.length - (j + 1)) = F.length by omega] at this
  rw [this]
  simp only [sumN]
  rw [if_pos (Inc.refl _), mob_eq F j]
  by_cases h0 : j = 0
  · subst h0; rfl
  · rw [if_neg h0, if_neg h0]; omega
def bdd : Nat → Nat
  | 0 => 1
  | c + 1 => 2 ^ (c + 1) * bdd c
omit hF in
theorem bdd_mono : ∀ {a b : Nat}, a ≤ b → bdd a ≤ bdd b := by
  intro a b h
  induction b with
  | zero => have : a = 0 := by omega
            subst this; exact Nat.le_refl _
  | succ b ih =>
    rcases Nat.lt_or_ge a (b + 1) with q | q
    · refine Nat.le_trans (ih (by omega)) ?_
      simp only [bdd]
      exact Nat.le_mul_of_pos_left _ (Nat.pow_pos (by omega))
    · have : a = b + 1 := by omega
      subst this; exact Nat.le_refl _
theorem Fam.mob_bound (hsub : F.Sublist (List.range (2 ^ m))) : ∀ i, i < F.length → -(bdd (cnt m (F.getD i 0)) : Int) ≤ mob F i ∧ mob F i ≤ bdd (cnt m (F.getD i 0)) := by
  intro i
  induction i using Nat.strongRecOn with
  | ind i ih =>
    intro hi
    have h1 : 1 ≤ bdd (cnt m (F.getD i 0)) := bdd_mono (Nat.zero_le _)
    rw [mob_eq]
    split
    · omega
    · have hsm := hF.lt _ (mem_getD.2 ⟨i, hi, rfl⟩)
      generalize hs : F.getD i 0 = s at *
      -- the sum, by the number of sets within
      have hc : (F.take i).countP (fun t => decide (Inc t s)) ≤ 2 ^ cnt m s := by
        rw [← count_subsets m s]
        exact ((List.take_sublist i F).trans hsub).countP_le
      have key : ∀ (c : Nat), cnt m s = c + 1 → ∀ k, k < i → Inc (F.getD k 0) s → -(bdd c : Int) ≤ mob F k ∧ mob F k ≤ bdd c := by
        intro c hcc k hk hin
        have hne : F.getD k 0 < s := by rw [← hs]; exact hF.rise k i hk hi
        have hlt : cnt m (F.getD k 0) < cnt m s := by
          rcases Nat.lt_or_ge (cnt m (F.getD k 0)) (cnt m s) with q | q
          · exact q
          · have := inc_eq_of_cnt (m := m) hin hsm q
            omega
        have h2 := ih k hk (by omega)
        have h3 := bdd_mono (show cnt m (F.getD k 0) ≤ c by omega)
        omega
      cases hcs : cnt m s with
      | zero =>
        have hz : sumN i (fun k => if Inc (F.getD k 0) s then mob F k else 0) = 0 := by
          rw [sumN_congr (h := fun _ => 0) fun k hk => ?_, sumN_zero]
          refine if_neg fun hin => ?_
          have hne : F.getD k 0 < s := by rw [← hs]; exact hF.rise k i hk hi
          have := inc_eq_of_cnt (m := m) hin hsm (by omega)
          omega
        rw [hz]; simp [bdd]
      | succ c =>
        have kk := key c hcs
        have lo : sumN i (fun k => if Inc (F.getD k 0) s then mob F k else 0) ≤ sumN i (fun k => (bdd c : Int) * if Inc (F.getD k 0) s then 1 else 0) := sumN_le fun k hk => by
          split
          · rename_i hin; have := kk k hk hin; omega
          · omega
        have up : sumN i (fun k => (-(bdd c : Int)) * if Inc (F.getD k 0) s then 1 else 0) ≤ sumN i (fun k => if Inc (F.getD k 0) s then mob F k else 0) := sumN_le fun k hk => by
          split
          · rename_i hin; have := kk k hk hin; omega
          · omega
        rw [sumN_mul, sumN_count F s i (by omega)] at lo up
        rw [hcs] at hc
        have hb : (bdd c : Int) * (((F.take i).countP (fun t => decide (Inc t s)) : Nat) : Int) ≤ ((2 ^ (c + 1) * bdd c : Nat) : Int) := by
          have := Nat.mul_le_mul_left (bdd c) hc
          rw [Nat.mul_comm (2 ^ (c + 1))]
          exact_mod_cast this
        rw [Int.neg_mul] at up
        simp only [bdd]
        omega
/-- They are small. -/
theorem Fam.mob_small (hsub : F.Sublist (List.range (2 ^ m))) {i : Nat} (hi : i < F.length) : -68719476736 ≤ mob F i ∧ mob F i ≤ 68719476736 := by
  have h := hF.mob_bound hsub i hi
  have h8 : bdd (cnt m (F.getD i 0)) ≤ bdd 8 := bdd_mono (Nat.le_trans (cnt_le _ _) hF.m8)
  have e : bdd 8 = 68719476736 := by decide
  omega
theorem Fam.part_small (hsub : F.Sublist (List.range (2 ^ m))) (s : Nat) {i : Nat} (hi : i ≤ F.length) : -17592186044416 ≤ sumN i (fun k => if Inc (F.getD k 0) s then mob F k else 0) ∧ sumN i (fun k => if Inc (F.getD k 0) s then mob F k else 0) ≤ 17592186044416 := by
  have h := sumN_abs (n := i) (g := fun k => if Inc (F.getD k 0) s then mob F k else 0) (c := 68719476736) fun k hk => by
    have := hF.mob_small hsub (i := k) (by omega)
    split <;> omega
  have hl := hF.len
  have : (i : Int) * 68719476736 ≤ 256 * 68719476736 := Int.mul_le_mul_of_nonneg_right (by omega) (by omega)
  omega
end
end Go.SH
