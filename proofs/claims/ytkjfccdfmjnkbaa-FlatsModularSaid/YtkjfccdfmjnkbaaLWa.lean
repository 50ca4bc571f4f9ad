/-
  Moebius numbers of flats: how they are computed, that they are small, that they come to nought. Plain: no program in sight. WHITNEY, ROTA: sets that have no broken circuit, and the Moebius numbers of the flats.  Conditions: none.
-/
import Derived.Test.YtkjfccdfmjnkbaaLF

set_option linter.unusedSimpArgs false
set_option linter.unusedVariables false
namespace Go.SH
open Go Go.AX

/-- How many sets lie within one. -/
theorem count_subsets : ∀ (m s : Nat), (List.range (2 ^ m)).countP (fun t => decide (Inc t s)) = 2 ^ cnt m s := by
  intro m
  induction m with
  | zero =>
    intro s
    have : decide (Inc 0 s) = true := decide_eq_true (inc_zero s)
    simp [cnt, List.range_succ, this]
  | succ m ih =>
    intro s
    have e : 2 ^ (m + 1) = 2 ^ m + 2 ^ m := by rw [Nat.pow_succ]; omega
    rw [e, List.range_add, List.countP_append, List.countP_map, ih s]
    have key : ∀ t, t < 2 ^ m → (Inc (2 ^ m + t) s ↔ s.testBit m = true ∧ Inc t s) := fun t ht => by
      have eo : 2 ^ m + t = 2 ^ m ||| t := by
        have h := Nat.two_pow_add_eq_or_of_lt ht 1
        simpa using h
      rw [eo]
      constructor
      · intro h
        exact ⟨h m (by rw [Nat.testBit_or, testBit_pow]; simp), (inc_or_r _ _).trans h⟩
      · rintro ⟨h1, h2⟩
        exact inc_or (inc_pow h1) h2
    have e2 : (List.range (2 ^ m)).countP ((fun t => decide (Inc t s)) ∘ fun x => 2 ^ m + x) = if s.testBit m = true then 2 ^ cnt m s else 0 := by
      split
      · rename_i hb
        rw [← ih s]
        refine List.countP_congr fun t ht => ?_
        have := key t (List.mem_range.1 ht)
        simp only [Function.comp_apply, decide_eq_true_eq]
        rw [this]; simp [hb]
      · rename_i hb
        rw [List.countP_eq_zero]
        intro t ht
        have := key t (List.mem_range.1 ht)
        simp only [Function.comp_apply, decide_eq_true_eq]
        rw [this]; simp [hb]
    rw [e2]
    simp only [cnt]
    split
    · rw [Nat.pow_succ]; omega
    · rw [Nat.add_zero, Nat.add_zero]

theorem sumN_count (F : List Nat) (s : Nat) : ∀ i, i ≤ F.length → sumN i (fun k => if Inc (F.getD k 0) s then 1 else 0) = (((F.take i).countP (fun t => decide (Inc t s)) : Nat) : Int) := by
  intro i
  induction i with
  | zero => intro _; rfl
  | succ i ih =>
    intro hi
    have hi' : i < F.length := by omega
    have etake : F.take (i + 1) = F.take i ++ [F.getD i 0] := by
      rw [List.take_add_one, List.getD_eq_getElem?_getD, List.getElem?_eq_getElem hi']; rfl
    simp only [sumN]
    rw [ih (by omega), etake, List.countP_append]
    generalize F.getD i 0 = y at *
    by_cases h : Inc y s
    · rw [if_pos h]; simp [h]
    · rw [if_neg h]; simp [h]
theorem sumN_abs {n : Nat} {g : Nat → Int} {c : Int} (hg : ∀ i, i < n → -c ≤ g i ∧ g i ≤ c) : -(n * c) ≤ sumN n g ∧ sumN n g ≤ n * c := by
  induction n with
  | zero => simp [sumN]
  | succ n ih =>
    simp only [sumN]
    have h1 := ih fun i hi => hg i (by omega)
    have h2 := hg n (by omega)
    have e : ((n + 1 : Nat) : Int) * c = n * c + c := by rw [Int.natCast_add, Int.add_mul]; simp
    rw [e]; omega

/-- The numbers, one behind the other. -/
def mobL (F : List Nat) : Nat → List Int
  | 0 => []
  | i + 1 => mobL F i ++ [if i = 0 then 1 else - sumN i (fun k => if Inc (F.getD k 0) (F.getD i 0) then (mobL F i).getD k 0 else 0)]
theorem mobL_len (F : List Nat) : ∀ i, (mobL F i).length = i
  | 0 => rfl
  | i + 1 => by simp only [mobL, List.length_append, mobL_len F i]; rfl
def mob (F : List Nat) (i : Nat) : Int := (mobL F (i + 1)).getD i 0
theorem mobL_get (F : List Nat) {k : Nat} : ∀ {i : Nat}, k < i → (mobL F i).getD k 0 = mob F k := by
  intro i
  induction i with
  | zero => intro h; omega
  | succ i ih =>
    intro h
    rcases Nat.lt_or_ge k i with q | q
    · rw [← ih q]
      simp only [mobL, List.getD_eq_getElem?_getD]
      rw [List.getElem?_append_left (by rw [mobL_len]; exact q)]
    · have : k = i := by omega
      subst this; rfl
theorem mob_eq (F : List Nat) (i : Nat) : mob F i = if i = 0 then 1 else - sumN i (fun k => if Inc (F.getD k 0) (F.getD i 0) then mob F k else 0) := by
  have e : mob F i = if i = 0 then 1 else - sumN i (fun k => if Inc (F.getD k 0) (F.getD i 0) then (mobL F i).getD k 0 else 0) := by
    unfold mob
    simp only [mobL, List.getD_eq_getElem?_getD]
    rw [List.getElem?_append_right (by rw [mobL_len]; exact Nat.le_refl _), mobL_len, Nat.sub_self]
    rfl
  rw [e]
  split
  · rfl
  · congr 1
    exact sumN_congr fun k hk => by rw [mobL_get F hk]

section
variable {m : Nat} {F : List Nat} (hF : Fam m F)
include hF
theorem Fam.idx {i j : Nat} (hi : i < F.length) (hj : j < F.length) (h : F.getD i 0 ≤ F.getD j 0) : i ≤ j := by
  rcases Nat.lt_or_ge j i with q | q
  · have := hF.rise j i q hi; omega
  · exact q
theorem Fam.inc_idx {i j : Nat} (hi : i < F.length) (hj : j < F.length) (h : Inc (F.getD i 0) (F.getD j 0)) : i ≤ j := by
  refine hF.idx hi hj ?_
  have := (sub_iff_and _ _).2 h
  rw [← this]; exact Nat.and_le_right
/-- What all within one come to. -/
theorem Fam.weisner {j : Nat} (hj : j < F.length) : sumN F.length (fun i => if Inc (F.getD i 0) (F.getD j 0) then mob F i else 0) = if j = 0 then 1 else 0 := by
  have cut : ∀ d, j + 1 + d ≤ F.length → sumN (j + 1 + d) (fun i => if Inc (F.getD i 0) (F.getD j 0) then mob F i else 0) = sumN (j + 1) (fun i => if Inc (F.getD i 0) (F.getD j 0) then mob F i else 0) := by
    intro d
    induction d with
    | zero => intro _; rfl
    | succ d ih =>
      intro hd
      have hn : ¬ Inc (F.getD (j + 1 + d) 0) (F.getD j 0) := fun c => by have := hF.inc_idx (i := j + 1 + d) (by omega) hj c; omega
      rw [show j + 1 + (d + 1) = (j + 1 + d) + 1 by omega]
      show sumN (j + 1 + d) _ + (if Inc (F.getD (j + 1 + d) 0) (F.getD j 0) then mob F (j + 1 + d) else 0) = _
      rw [ih (by omega), if_neg hn, Int.add_zero]
  have := cut (F.length - (j + 1)) (by omega)
  rw [show j + 1 + (F.length - (j + 1)) = F.length by omega] at this
  rw [this]
  simp only [sumN]
  rw [if_pos (Inc.refl _), mob_eq F j]
  by_cases h0 : j = 0
  · subst h0; rfl
  · rw [if_neg h0, if_neg h0]; omega
def bdd : Nat → Nat
  | 0 => 1
  | c + 1 => 2 ^ (c + 1) * bdd c
omit hF in
theorem bdd_mono : ∀ {a b : Nat}, a ≤ b → bdd a ≤ bdd b := by
  intro a b h
  induction b with
  | zero => have : a = 0 := by omega
            subst this; exact Nat.le_refl _
  | succ b ih =>
    rcases Nat.lt_or_ge a (b + 1) with q | q
    · refine Nat.le_trans (ih (by omega)) ?_
      simp only [bdd]
      exact Nat.le_mul_of_pos_left _ (Nat.pow_pos (by omega))
    · have : a = b + 1 := by omega
      subst this; exact Nat.le_refl _
theorem Fam.mob_bound (hsub : F.Sublist (List.range (2 ^ m))) : ∀ i, i < F.length → -(bdd (cnt m (F.getD i 0)) : Int) ≤ mob F i ∧ mob F i ≤ bdd (cnt m (F.getD i 0)) := by
  intro i
  induction i using Nat.strongRecOn with
  | ind i ih =>
    intro hi
    have h1 : 1 ≤ bdd (cnt m (F.getD i 0)) := bdd_mono (Nat.zero_le _)
    rw [mob_eq]
    split
    · omega
    · have hsm := hF.lt _ (mem_getD.2 ⟨i, hi, rfl⟩)
      generalize hs : F.getD i 0 = s at *
      -- the sum, by the number of sets within
      have hc : (F.take i).countP (fun t => decide (Inc t s)) ≤ 2 ^ cnt m s := by
        rw [← count_subsets m s]
        exact ((List.take_sublist i F).trans hsub).countP_le
      have key : ∀ (c : Nat), cnt m s = c + 1 → ∀ k, k < i → Inc (F.getD k 0) s → -(bdd c : Int) ≤ mob F k ∧ mob F k ≤ bdd c := by
        intro c hcc k hk hin
        have hne : F.getD k 0 < s := by rw [← hs]; exact hF.rise k i hk hi
        have hlt : cnt m (F.getD k 0) < cnt m s := by
          rcases Nat.lt_or_ge (cnt m (F.getD k 0)) (cnt m s) with q | q
          · exact q
          · have := inc_eq_of_cnt (m := m) hin hsm q
            omega
        have h2 := ih k hk (by omega)
        have h3 := bdd_mono (show cnt m (F.getD k 0) ≤ c by omega)
        omega
      cases hcs : cnt m s with
      | zero =>
        have hz : sumN i (fun k => if Inc (F.getD k 0) s then mob F k else 0) = 0 := by
          rw [sumN_congr (h := fun _ => 0) fun k hk => ?_, sumN_zero]
          refine if_neg fun hin => ?_
          have hne : F.getD k 0 < s := by rw [← hs]; exact hF.rise k i hk hi
          have := inc_eq_of_cnt (m := m) hin hsm (by omega)
          omega
        rw [hz]; simp [bdd]
      | succ c =>
        have kk := key c hcs
        have lo : sumN i (fun k => if Inc (F.getD k 0) s then mob F k else 0) ≤ sumN i (fun k => (bdd c : Int) * if Inc (F.getD k 0) s then 1 else 0) := sumN_le fun k hk => by
          split
          · rename_i hin; have := kk k hk hin; omega
          · omega
        have up : sumN i (fun k => (-(bdd c : Int)) * if Inc (F.getD k 0) s then 1 else 0) ≤ sumN i (fun k => if Inc (F.getD k 0) s then mob F k else 0) := sumN_le fun k hk => by
          split
          · rename_i hin; have := kk k hk hin; omega
          · omega
        rw [sumN_mul, sumN_count F s i (by omega)] at lo up
        rw [hcs] at hc
        have hb : (bdd c : Int) * (((F.take i).countP (fun t => decide (Inc t s)) : Nat) : Int) ≤ ((2 ^ (c + 1) * bdd c : Nat) : Int) := by
          have := Nat.mul_le_mul_left (bdd c) hc
          rw [Nat.mul_comm (2 ^ (c + 1))]
          exact_mod_cast this
        rw [Int.neg_mul] at up
        simp only [bdd]
        omega
/-- They are small. -/
theorem Fam.mob_small (hsub : F.Sublist (List.range (2 ^ m))) {i : Nat} (hi : i < F.length) : -68719476736 ≤ mob F i ∧ mob F i ≤ 68719476736 := by
  have h := hF.mob_bound hsub i hi
  have h8 : bdd (cnt m (F.getD i 0)) ≤ bdd 8 := bdd_mono (Nat.le_trans (cnt_le _ _) hF.m8)
  have e : bdd 8 = 68719476736 := by decide
  omega
theorem Fam.part_small (hsub : F.Sublist (List.range (2 ^ m))) (s : Nat) {i : Nat} (hi : i ≤ F.length) : -17592186044416 ≤ sumN i (fun k => if Inc (F.getD k 0) s then mob F k else 0) ∧ sumN i (fun k => if Inc (F.getD k 0) s then mob F k else 0) ≤ 17592186044416 := by
  have h := sumN_abs (n := i) (g := fun k => if Inc (F.getD k 0) s then mob F k else 0) (c := 68719476736) fun k hk => by
    have := hF.mob_small hsub (i := k) (by omega)
    split <;> omega
  have hl := hF.len
  have : (i : Int) * 68719476736 ≤ 256 * 68719476736 := Int.mul_le_mul_of_nonneg_right (by omega) (by omega)
  omega
end
end Go.SH

set_option linter.unusedSimpArgs false
set_option linter.unusedVariables false
namespace Go.SH
open Go Go.AX

/-! ### sums over all sets -/
theorem sumN_split (a : Nat) (f : Nat → Int) : ∀ b, sumN (a + b) f = sumN a f + sumN b (fun i => f (a + i))
  | 0 => by simp [sumN]
  | b + 1 => by
    rw [← Nat.add_assoc]
    simp only [sumN]
    rw [sumN_split a f b]; omega
theorem sumN_two (m : Nat) (f : Nat → Int) : sumN (2 ^ (m + 1)) f = sumN (2 ^ m) f + sumN (2 ^ m) (fun i => f (2 ^ m + i)) := by
  rw [show 2 ^ (m + 1) = 2 ^ m + 2 ^ m by rw [Nat.pow_succ]; omega, sumN_split]
theorem add_bit {m s : Nat} (h : s < 2 ^ m) (i : Nat) : (2 ^ m + s).testBit i = (decide (i = m) || s.testBit i) := by
  rw [Nat.add_comm, ← Nat.or_eq_add_of_lt h, Nat.testBit_or, testBit_pow, Bool.or_comm]
  congr 1
  exact decide_eq_decide.2 ⟨fun e => e.symm, fun e => e.symm⟩
where
  Nat.or_eq_add_of_lt {m s : Nat} (h : s < 2 ^ m) : s ||| 2 ^ m = s + 2 ^ m := by
    have := Nat.two_pow_add_eq_or_of_lt h 1
    rw [Nat.mul_one] at this
    rw [Nat.or_comm, ← this, Nat.add_comm]
theorem xor_pow_lt {m s e : Nat} (h : s < 2 ^ m) (he : e < m) : s ^^^ 2 ^ e < 2 ^ m := Nat.xor_lt_two_pow h (pow_lt he)
/-- One element turned over: all sets again. -/
theorem sumN_turn : ∀ (m e : Nat) (f : Nat → Int), e < m → sumN (2 ^ m) (fun s => f (s ^^^ 2 ^ e)) = sumN (2 ^ m) f
  | 0, _, _, h => absurd h (Nat.not_lt_zero _)
  | m + 1, e, f, h => by
    rw [sumN_two, sumN_two]
    rcases Nat.lt_succ_iff_lt_or_eq.1 h with c | rfl
    · rw [sumN_turn m e f c]
      congr 1
      rw [← sumN_turn m e (fun i => f (2 ^ m + i)) c]
      refine sumN_congr fun s hs => ?_
      congr 1
      apply Nat.eq_of_testBit_eq; intro i
      rw [Nat.testBit_xor, add_bit hs, add_bit (xor_pow_lt hs c), Nat.testBit_xor, testBit_pow]
      by_cases e1 : i = m
      · subst e1
        have : decide (e = i) = false := by simp; omega
        rw [bit_ge hs (Nat.le_refl _), this]; simp
      · simp [e1]
    · have h1 : sumN (2 ^ e) (fun s => f (s ^^^ 2 ^ e)) = sumN (2 ^ e) (fun i => f (2 ^ e + i)) := sumN_congr fun s hs => by
        congr 1
        apply Nat.eq_of_testBit_eq; intro i
        rw [Nat.testBit_xor, add_bit hs, testBit_pow]
        by_cases e1 : i = e
        · subst e1; rw [bit_ge hs (Nat.le_refl _)]; simp
        · simp [e1, Ne.symm e1]
      have h2 : sumN (2 ^ e) (fun i => f ((2 ^ e + i) ^^^ 2 ^ e)) = sumN (2 ^ e) f := sumN_congr fun s hs => by
        congr 1
        apply Nat.eq_of_testBit_eq; intro i
        rw [Nat.testBit_xor, add_bit hs, testBit_pow]
        by_cases e1 : i = e
        · subst e1; rw [bit_ge hs (Nat.le_refl _)]; simp
        · simp [e1, Ne.symm e1]
      rw [h1, h2, Int.add_comm]
theorem sumN_neg (n : Nat) (g : Nat → Int) : sumN n (fun i => - g i) = - sumN n g := by
  have := sumN_mul n (-1) g
  rw [show (fun i => -1 * g i) = (fun i => - g i) from funext fun i => by omega] at this
  omega
theorem sumN_turned {m e : Nat} {f : Nat → Int} (he : e < m) (h : ∀ s, s < 2 ^ m → f (s ^^^ 2 ^ e) = - f s) : sumN (2 ^ m) f = 0 := by
  have h1 := sumN_turn m e f he
  rw [sumN_congr h, sumN_neg] at h1
  omega
/-- Plus for even, minus for odd. -/
def sg (k : Nat) : Int := if k % 2 = 0 then 1 else -1
theorem sg_succ (k : Nat) : sg (k + 1) = - sg k := by
  unfold sg
  rcases Nat.mod_two_eq_zero_or_one k with c | c
  · rw [if_neg (by omega), if_pos c]
  · rw [if_pos (by omega), if_neg (by omega)]; rfl

section
variable {m : Nat} {B : List Nat} (h : Mat m B)
/-- Has no circuit but for its least element. -/
def NB (m : Nat) (B : List Nat) (s : Nat) : Prop := ∀ C, C < 2 ^ m → Circ m B C → ¬ Inc (dif C (2 ^ lo1 C)) s
instance (m : Nat) (B : List Nat) (s : Nat) : Decidable (NB m B s) := by unfold NB; infer_instance
include h
theorem Mat.circ_low {C : Nat} (hC : C < 2 ^ m) (hc : Circ m B C) : IsLow C (lo1 C) := by
  have h256 := pow_le8 h.m8
  refine low_spec (by omega) fun e => ?_
  subst e
  have := hc.1
  rw [cnt_zero] at this; omega
theorem Mat.NB_mono {s t : Nat} (hs : Inc s t) (ht : NB m B t) : NB m B s := have _ := h; fun C h1 h2 h3 => ht C h1 h2 (h3.trans hs)
theorem Mat.NB_ind {s : Nat} (hs : s < 2 ^ m) (hb : NB m B s) : rk m B s = cnt m s := by
  rcases Nat.decEq (rk m B s) (cnt m s) with c | c
  · obtain ⟨C, c1, c2, c3⟩ := h.dep_circ _ s (Nat.le_refl _) hs c
    exact absurd ((inc_dif _ _).trans c3) (hb C c1 c2)
  · exact c
/-- The least element of a flat: with it or without it. -/
theorem Mat.NB_turn {G s : Nat} (hG : G < 2 ^ m) (hf : Flat m B G) (h0 : G ≠ 0) (hs : Inc s G) (hb : NB m B (dif s (2 ^ lo1 G))) : NB m B (s ||| 2 ^ lo1 G) := by
  have h256 := pow_le8 h.m8
  have hl := low_spec (show G < 256 by omega) h0
  intro C c1 c2 c3
  have cl := h.circ_low c1 c2
  have hm := bit_lt c1 cl.bit
  have hin : Inc (dif C (2 ^ lo1 C)) G := c3.trans (inc_or hs (inc_pow hl.bit))
  by_cases he : (dif C (2 ^ lo1 C)).testBit (lo1 G) = true
  · -- the least of the circuit lies in the flat too
    rw [testBit_dif, testBit_pow, Bool.and_eq_true, Bool.not_eq_true', decide_eq_false_iff_not] at he
    have hlt : lo1 C < lo1 G := by
      rcases Nat.lt_trichotomy (lo1 C) (lo1 G) with q | q | q
      · exact q
      · exact absurd q he.2
      · have := cl.least _ q; rw [he.1] at this; cases this
    have hno := hl.least _ hlt
    have r1 : rk m B (dif C (2 ^ lo1 C) ||| 2 ^ lo1 C) = rk m B (dif C (2 ^ lo1 C)) := by
      rw [dif_or cl.bit]
      have e1 := c2.1
      have e2 := c2.2 _ hm cl.bit
      have e3 := cnt_dif c1 cl.bit
      omega
    exact hf _ hm hno (h.rk_stay hin r1)
  · refine hb C c1 c2 fun i hi => ?_
    have := c3 i hi
    rw [Nat.testBit_or, testBit_pow, Bool.or_eq_true, decide_eq_true_eq] at this
    have hne : lo1 G ≠ i := fun e => he (e ▸ hi)
    rcases this with q | q
    · rw [testBit_dif, testBit_pow, q]; simp [hne]
    · exact absurd q hne
theorem Mat.NB_sum {G : Nat} (hG : G < 2 ^ m) (hf : Flat m B G) (h00 : Flat m B 0) : sumN (2 ^ m) (fun s => if Inc s G then (if NB m B s then sg (cnt m s) else 0) else 0) = if G = 0 then 1 else 0 := by
  have h256 := pow_le8 h.m8
  have hpos : 0 < 2 ^ m := Nat.pow_pos (by omega)
  rcases Nat.decEq G 0 with c | c
  · rw [if_neg c]
    have hl := low_spec (show G < 256 by omega) c
    have hm := bit_lt hG hl.bit
    refine sumN_turned hm fun s hs => ?_
    have hbit : ∀ i, (s ^^^ 2 ^ lo1 G).testBit i = (s.testBit i ^^ decide (lo1 G = i)) := fun i => by rw [Nat.testBit_xor, testBit_pow]
    have inc_iff : Inc (s ^^^ 2 ^ lo1 G) G ↔ Inc s G := by
      constructor
      · intro k i hi
        by_cases e : lo1 G = i
        · subst e; exact hl.bit
        · exact k i (by rw [hbit, hi]; simp [e])
      · intro k i hi
        by_cases e : lo1 G = i
        · subst e; exact hl.bit
        · rw [hbit] at hi; exact k i (by simpa [e] using hi)
    by_cases q : Inc s G
    · rw [if_pos (inc_iff.2 q), if_pos q]
      cases hb : s.testBit (lo1 G) with
      | true =>
        have e1 : s ^^^ 2 ^ lo1 G = dif s (2 ^ lo1 G) := by
          apply Nat.eq_of_testBit_eq; intro i
          rw [hbit, testBit_dif, testBit_pow]
          by_cases e : lo1 G = i
          · subst e; rw [hb]; simp
          · simp [e]
        have e2 : dif s (2 ^ lo1 G) ||| 2 ^ lo1 G = s := dif_or hb
        have e3 := cnt_dif hs hb
        have key : NB m B (dif s (2 ^ lo1 G)) ↔ NB m B s := by
          constructor
          · intro k
            have := h.NB_turn hG hf c q k
            have e4 : s ||| 2 ^ lo1 G = s := by rw [Nat.or_comm, or_eq_iff]; exact inc_pow hb
            rwa [e4] at this
          · exact h.NB_mono (inc_dif _ _)
        rw [e1]
        by_cases k : NB m B s
        · rw [if_pos (key.2 k), if_pos k, e3, sg_succ]; omega
        · rw [if_neg (fun x => k (key.1 x)), if_neg k]; rfl
      | false =>
        have e1 : s ^^^ 2 ^ lo1 G = s ||| 2 ^ lo1 G := by
          apply Nat.eq_of_testBit_eq; intro i
          rw [hbit, Nat.testBit_or, testBit_pow]
          by_cases e : lo1 G = i
          · subst e; rw [hb]; simp
          · simp [e]
        have e2 : dif s (2 ^ lo1 G) = s := by
          apply Nat.eq_of_testBit_eq; intro i
          rw [testBit_dif, testBit_pow]
          by_cases e : lo1 G = i
          · subst e; rw [hb]; rfl
          · simp [e]
        have e3 := cnt_add hm hb
        have key : NB m B (s ||| 2 ^ lo1 G) ↔ NB m B s := by
          constructor
          · exact h.NB_mono (inc_or_l _ _)
          · intro k; exact h.NB_turn hG hf c q (by rw [e2]; exact k)
        rw [e1]
        by_cases k : NB m B s
        · rw [if_pos (key.2 k), if_pos k, e3, sg_succ]
        · rw [if_neg (fun x => k (key.1 x)), if_neg k]; rfl
    · rw [if_neg (fun x => q (inc_iff.1 x)), if_neg q]; rfl
  · subst c
    rw [if_pos rfl]
    have nb0 : NB m B 0 := fun C c1 c2 c3 => by
      have cl := h.circ_low c1 c2
      have hm := bit_lt c1 cl.bit
      have e0 : dif C (2 ^ lo1 C) = 0 := Inc.antisymm c3 (inc_zero _)
      have e2 := c2.1
      have e3 := cnt_dif c1 cl.bit
      rw [e0, cnt_zero] at e3
      have e4 : C = 2 ^ lo1 C := by
        have := dif_or cl.bit
        rw [e0, Nat.zero_or] at this
        exact this.symm
      have hz := h00 _ hm (by simp)
      rw [Nat.zero_or, h.rk_zero, ← e4] at hz
      omega
    have e : ∀ s, s < 2 ^ m → (if Inc s 0 then (if NB m B s then sg (cnt m s) else 0) else 0) = if s = 0 then (1 : Int) else 0 := fun s hs => by
      by_cases q : s = 0
      · subst q; rw [if_pos (Inc.refl 0), if_pos nb0, if_pos rfl, cnt_zero]; rfl
      · rw [if_neg q, if_neg fun k => q (Inc.antisymm k (inc_zero _))]
    rw [sumN_congr e, sumN_single _ _ _ hpos]

/-! ### by flats -/
omit h in
theorem isCl_dec (m : Nat) (B : List Nat) (s c : Nat) : (c < 2 ^ m ∧ ∀ i, i < m → (c.testBit i = true ↔ s.testBit i = true ∨ rk m B (s ||| 2 ^ i) = rk m B s)) ↔ IsCl m B s c := Iff.rfl
end
instance (m : Nat) (B : List Nat) (s c : Nat) : Decidable (IsCl m B s c) := decidable_of_iff _ (isCl_dec m B s c)
/-- What the sets without broken circuits come to, whose closure is the i-th flat. -/
def nuF (m : Nat) (B : List Nat) (i : Nat) : Int := sumN (2 ^ m) fun s => if NB m B s ∧ IsCl m B s ((flats m B).getD i 0) then sg (cnt m s) else 0
section
variable {m : Nat} {B : List Nat} (h : Mat m B)
include h
theorem Mat.cl_idx {s : Nat} (hs : s < 2 ^ m) : ∃ j, j < (flats m B).length ∧ IsCl m B s ((flats m B).getD j 0) ∧ ∀ i, i < (flats m B).length → IsCl m B s ((flats m B).getD i 0) → i = j := by
  have hF : Fam m (flats m B) := filter_fam h.m8 _
  obtain ⟨c, hc⟩ := h.cl_exists hs
  obtain ⟨j, hj, e⟩ := mem_getD.1 (mem_flats.2 ⟨hc.1, h.cl_flat hs hc⟩)
  refine ⟨j, hj, by rw [e]; exact hc, fun i hi hci => ?_⟩
  have e2 : (flats m B).getD i 0 = (flats m B).getD j 0 := set_ext hci.1 (by rw [e]; exact hc.1) fun k hk => by
    rw [e, Bool.eq_iff_iff, hci.2 k hk, hc.2 k hk]
  exact Nat.le_antisymm (hF.idx hi hj (by omega)) (hF.idx hj hi (by omega))
theorem Mat.cl_sum {s : Nat} (hs : s < 2 ^ m) (g : Nat → Int) {j : Nat} (hj : j < (flats m B).length) (hc : IsCl m B s ((flats m B).getD j 0)) (hu : ∀ i, i < (flats m B).length → IsCl m B s ((flats m B).getD i 0) → i = j) :
    sumN (flats m B).length (fun i => if IsCl m B s ((flats m B).getD i 0) then g i else 0) = g j := by
  have _ := h
  have _ := hs
  rw [← sumN_single (flats m B).length j (g j) hj]
  refine sumN_congr fun i hi => ?_
  by_cases e : i = j
  · subst e; rw [if_pos hc, if_pos rfl]
  · rw [if_neg fun k => e (hu i hi k), if_neg e]
theorem Mat.cl_inc_iff {s c G : Nat} (hs : s < 2 ^ m) (hc : IsCl m B s c) (hf : Flat m B G) : Inc c G ↔ Inc s G := by
  constructor
  · exact (h.cl_inc hs hc).trans
  · intro k i hi
    have hm := bit_lt hc.1 hi
    rcases (hc.2 i hm).1 hi with q | q
    · exact k i q
    · cases hb : G.testBit i with
      | true => rfl
      | false => exact absurd (h.rk_stay k q) (hf i hm hb)
theorem Mat.nu_sum (h00 : Flat m B 0) {j : Nat} (hj : j < (flats m B).length) : sumN (flats m B).length (fun i => if Inc ((flats m B).getD i 0) ((flats m B).getD j 0) then nuF m B i else 0) = if (flats m B).getD j 0 = 0 then 1 else 0 := by
  obtain ⟨j1, j2⟩ := mem_flats.1 (mem_getD.2 ⟨j, hj, rfl⟩)
  rw [← h.NB_sum j1 j2 h00]
  have e1 : ∀ i, i < (flats m B).length → (if Inc ((flats m B).getD i 0) ((flats m B).getD j 0) then nuF m B i else 0) = sumN (2 ^ m) (fun s => if IsCl m B s ((flats m B).getD i 0) then (if Inc s ((flats m B).getD j 0) then (if NB m B s then sg (cnt m s) else 0) else 0) else 0) := fun i hi => by
    have key : ∀ s, s < 2 ^ m → (if IsCl m B s ((flats m B).getD i 0) then (if Inc s ((flats m B).getD j 0) then (if NB m B s then sg (cnt m s) else 0) else 0) else 0) = if Inc ((flats m B).getD i 0) ((flats m B).getD j 0) then (if NB m B s ∧ IsCl m B s ((flats m B).getD i 0) then sg (cnt m s) else 0) else 0 := fun s hs => by
      by_cases q : IsCl m B s ((flats m B).getD i 0)
      · have q2 := h.cl_inc_iff hs q j2
        rw [if_pos q]
        by_cases q3 : Inc s ((flats m B).getD j 0)
        · rw [if_pos q3, if_pos (q2.2 q3)]
          by_cases q4 : NB m B s
          · rw [if_pos q4, if_pos ⟨q4, q⟩]
          · rw [if_neg q4, if_neg fun k => q4 k.1]
        · rw [if_neg q3, if_neg fun k => q3 (q2.1 k)]
      · rw [if_neg q]
        split
        · rw [if_neg fun x => q x.2]
        · rfl
    rw [sumN_congr key]
    split
    · rfl
    · rw [sumN_zero]
  rw [sumN_congr e1, sumN_swap]
  refine sumN_congr fun s hs => ?_
  obtain ⟨k, k1, k2, k3⟩ := h.cl_idx hs
  exact h.cl_sum hs (fun _ => if Inc s ((flats m B).getD j 0) then (if NB m B s then sg (cnt m s) else 0) else 0) k1 k2 k3
theorem Mat.nu_mob (h00 : Flat m B 0) : ∀ (n j : Nat), j ≤ n → j < (flats m B).length → nuF m B j = mob (flats m B) j := by
  have hF : Fam m (flats m B) := filter_fam h.m8 _
  have hpos : 0 < 2 ^ m := Nat.pow_pos (by omega)
  have hz : ∀ j, j < (flats m B).length → ((flats m B).getD j 0 = 0 ↔ j = 0) := fun j hj => by
    obtain ⟨k, k1, k2⟩ := mem_getD.1 (mem_flats.2 ⟨hpos, h00⟩)
    constructor
    · intro e
      rcases Nat.eq_zero_or_pos j with c | c
      · exact c
      · have := hF.rise 0 j c hj; omega
    · rintro rfl
      rcases Nat.eq_zero_or_pos k with c | c
      · subst c; exact k2
      · have := hF.rise 0 k c k1; omega
  intro n
  induction n with
  | zero =>
    intro j hj hl
    exact one j hl (fun i hi => absurd hi (by omega)) hF hz
  | succ n ih =>
    intro j hj hl
    exact one j hl (fun i hi => ih i (by omega) (by omega)) hF hz
where
  one (j : Nat) (hl : j < (flats m B).length) (ih : ∀ i, i < j → nuF m B i = mob (flats m B) i) (hF : Fam m (flats m B)) (hz : ∀ j, j < (flats m B).length → ((flats m B).getD j 0 = 0 ↔ j = 0)) : nuF m B j = mob (flats m B) j := by
    have h1 := h.nu_sum h00 hl
    have h2 := hF.weisner hl
    have e : ∀ i, i < (flats m B).length → (if Inc ((flats m B).getD i 0) ((flats m B).getD j 0) then nuF m B i else 0) = (if Inc ((flats m B).getD i 0) ((flats m B).getD j 0) then mob (flats m B) i else 0) + if i = j then nuF m B j - mob (flats m B) j else 0 := fun i hi => by
      rcases Nat.lt_trichotomy i j with q | q | q
      · rw [ih i q, if_neg (show ¬ i = j by omega), Int.add_zero]
      · subst q; rw [if_pos (Inc.refl _), if_pos (Inc.refl _), if_pos rfl]; omega
      · have : ¬ Inc ((flats m B).getD i 0) ((flats m B).getD j 0) := fun c => by have := hF.inc_idx hi hl c; omega
        rw [if_neg this, if_neg this, if_neg (show ¬ i = j by omega)]; rfl
    rw [sumN_congr e, sumN_add, sumN_single _ _ _ hl, h2] at h1
    by_cases c : j = 0
    · rw [if_pos c, if_pos ((hz j hl).2 c)] at h1; omega
    · rw [if_neg c, if_neg fun k => c ((hz j hl).1 k)] at h1; omega
/-- WHITNEY: a coefficient is a count, with a sign. -/
theorem Mat.whitney (h00 : Flat m B 0) (k : Nat) : sumN (flats m B).length (fun i => if rk m B ((flats m B).getD i 0) = k then mob (flats m B) i else 0) = sg k * sumN (2 ^ m) (fun s => if NB m B s ∧ cnt m s = k then 1 else 0) := by
  have e0 : ∀ i, i < (flats m B).length → (if rk m B ((flats m B).getD i 0) = k then mob (flats m B) i else 0) = sumN (2 ^ m) (fun s => if IsCl m B s ((flats m B).getD i 0) then (if NB m B s ∧ cnt m s = k then sg k else 0) else 0) := fun i hi => by
    rw [← h.nu_mob h00 i i (Nat.le_refl _) hi]
    have key : ∀ s, s < 2 ^ m → (if IsCl m B s ((flats m B).getD i 0) then (if NB m B s ∧ cnt m s = k then sg k else 0) else 0) = if rk m B ((flats m B).getD i 0) = k then (if NB m B s ∧ IsCl m B s ((flats m B).getD i 0) then sg (cnt m s) else 0) else 0 := fun s hs => by
      by_cases q : IsCl m B s ((flats m B).getD i 0)
      · rw [if_pos q]
        by_cases q4 : NB m B s
        · have r1 := h.cl_rk hs q
          have r2 := h.NB_ind hs q4
          by_cases q5 : cnt m s = k
          · rw [if_pos ⟨q4, q5⟩, if_pos (by omega), if_pos ⟨q4, q⟩, q5]
          · rw [if_neg fun x => q5 x.2, if_neg (by omega)]
        · rw [if_neg fun x => q4 x.1]
          split
          · rw [if_neg fun x => q4 x.1]
          · rfl
      · rw [if_neg q]
        split
        · rw [if_neg fun x => q x.2]
        · rfl
    rw [sumN_congr key]
    split
    · rfl
    · rw [sumN_zero]
  rw [sumN_congr e0, sumN_swap, ← sumN_mul]
  refine sumN_congr fun s hs => ?_
  obtain ⟨j, k1, k2, k3⟩ := h.cl_idx hs
  rw [h.cl_sum hs (fun _ => if NB m B s ∧ cnt m s = k then sg k else 0) k1 k2 k3]
  split
  · rw [Int.mul_one]
  · rw [Int.mul_zero]
/-- With a loop no set is without a broken circuit. -/
theorem Mat.NB_loop (h00 : ¬ Flat m B 0) (s : Nat) : ¬ NB m B s := by
  intro hb
  refine h00 fun i hi _ e => ?_
  rw [Nat.zero_or] at e
  have h1 : cnt m (2 ^ i) = 1 := by
    have := cnt_add (m := m) (s := 0) hi (by simp)
    rw [Nat.zero_or, cnt_zero] at this; exact this
  have hz : dif (2 ^ i) (2 ^ i) = 0 := by
    apply Nat.eq_of_testBit_eq; intro j
    rw [testBit_dif, testBit_pow]; simp
  have only : ∀ j, (2 ^ i).testBit j = true → j = i := fun j hj => by
    rw [testBit_pow, decide_eq_true_eq] at hj; exact hj.symm
  have hc : Circ m B (2 ^ i) := ⟨by rw [e, h.rk_zero, h1], fun j _ hj => by rw [only j hj, hz, h.rk_zero, cnt_zero]⟩
  have cl := h.circ_low (pow_lt hi) hc
  have el := only _ cl.bit
  refine hb (2 ^ i) (pow_lt hi) hc ?_
  rw [el, hz]
  exact inc_zero s
end
end Go.SH
