/-
  STANLEY: a modular flat's polynomial is a factor of all's; by sets: what lies beyond the flat and spans nothing of it. STANLEY's factor, of matroids: the polynomials' coefficients; the deletion's. The law FlatsModular.  Conditions: none.
-/
import Derived.Test.YtkjfccdfmjnkbaaLTe
import Derived.Test.YtkjfccdfmjnkbaaSkFlatsModular

set_option linter.unusedSimpArgs false
set_option linter.unusedVariables false
namespace Go.SH
open Go Go.AX
open Classical

/-- What the sets of a rank come to. -/
noncomputable def Nk (m : Nat) (r : Nat → Nat) (k : Nat) : Int := sumN (2 ^ m) fun s => if r s = k then sg (cnt m s) else 0
theorem sum_nat (n : Nat) (p : Nat → Prop) (g : Nat → Int) (c : Int) (h0 : 0 ≤ c) (hg : ∀ i, i < n → -c ≤ g i ∧ g i ≤ c) : -(n * c) ≤ sumN n (fun i => if p i then g i else 0) ∧ sumN n (fun i => if p i then g i else 0) ≤ n * c :=
  sumN_abs fun i hi => by
    have := hg i hi
    show -c ≤ ite (p i) (g i) 0 ∧ ite (p i) (g i) 0 ≤ c
    split <;> omega
theorem sg_one (k : Nat) : -1 ≤ sg k ∧ sg k ≤ 1 := by unfold sg; split <;> omega
/-- One of all pairs: a set, cut in two. -/
theorem sum_cut {m F : Nat} (hF : F < 2 ^ m) (f : Nat → Nat → Int) : sumN (2 ^ m) (fun S => sumN (2 ^ m) fun T => if Inc S F ∧ T &&& F = 0 then f S T else 0) = sumN (2 ^ m) fun s => f (s &&& F) (dif s F) := by
  have e1 : ∀ s, s < 2 ^ m → f (s &&& F) (dif s F) = sumN (2 ^ m) fun S => sumN (2 ^ m) fun T => if T = dif s F then (if S = s &&& F then f S T else 0) else 0 := fun s hs => by
    rw [sumN_congr (h := fun S => if S = s &&& F then f (s &&& F) (dif s F) else 0) fun S _ => ?_, sumN_single _ _ _ (and_lt hs)]
    rw [sumN_congr (h := fun T => if T = dif s F then (if S = s &&& F then f S (dif s F) else 0) else 0) fun T _ => ?_, sumN_single _ _ _ (dif_lt hs)]
    · by_cases c : S = s &&& F
      · rw [if_pos c, if_pos c, c]
      · rw [if_neg c, if_neg c]
    · by_cases c : T = dif s F
      · rw [if_pos c, if_pos c, c]
      · rw [if_neg c, if_neg c]
  have rhs : sumN (2 ^ m) (fun s => f (s &&& F) (dif s F)) = sumN (2 ^ m) fun S => sumN (2 ^ m) fun T => sumN (2 ^ m) fun s => if T = dif s F then (if S = s &&& F then f S T else 0) else 0 := by
    rw [sumN_congr e1, sumN_swap]
    exact sumN_congr fun S _ => sumN_swap _ _ _
  rw [rhs]
  refine sumN_congr fun S hS => sumN_congr fun T hT => ?_
  by_cases c : Inc S F ∧ T &&& F = 0
  · rw [if_pos c]
    obtain ⟨c1, c2⟩ := c
    have cd := (disj_iff T F).1 c2
    have b1 : (S ||| T) &&& F = S := bxM fun i => by
      rw [Nat.testBit_and, Nat.testBit_or]
      cases p : S.testBit i with
      | true => rw [c1 i p]; rfl
      | false =>
        cases q : T.testBit i with
        | true => rw [cd i q]; rfl
        | false => rfl
    have b2 : dif (S ||| T) F = T := bxM fun i => by
      rw [testBit_dif, Nat.testBit_or]
      cases q : T.testBit i with
      | true => rw [cd i q]; simp
      | false =>
        cases p : S.testBit i with
        | true => rw [c1 i p]; rfl
        | false => rfl
    rw [sumN_congr (h := fun s => if s = S ||| T then f S T else 0) fun s hs => ?_, sumN_single _ _ _ (or_lt hS hT)]
    by_cases q : s = S ||| T
    · rw [if_pos q, q, b1, b2, if_pos rfl, if_pos rfl]
    · rw [if_neg q]
      by_cases q1 : T = dif s F
      · by_cases q2 : S = s &&& F
        · exfalso
          refine q (bxM fun i => ?_)
          rw [q1, q2, Nat.testBit_or, Nat.testBit_and, testBit_dif]
          cases s.testBit i <;> cases F.testBit i <;> rfl
        · rw [if_pos q1, if_neg q2]
      · rw [if_neg q1]
  · rw [if_neg c, sumN_congr (h := fun _ => (0 : Int)) fun s hs => ?_, sumN_zero]
    by_cases q1 : T = dif s F
    · by_cases q2 : S = s &&& F
      · exfalso
        refine c ⟨by rw [q2]; exact inc_and_r _ _, ?_⟩
        rw [q1]
        refine (disj_iff _ _).2 fun i hi => ?_
        rw [testBit_dif] at hi
        cases p : F.testBit i with
        | true => rw [p] at hi; simp at hi
        | false => rfl
      · rw [if_pos q1, if_neg q2]
    · rw [if_neg q1]
where
  bxM {a b : Nat} (h : ∀ i, a.testBit i = b.testBit i) : a = b := Nat.eq_of_testBit_eq h

section
variable {m : Nat} {r : Nat → Nat} (h : RkF r) {F : Nat} (hF : F < 2 ^ m)
include h hF
/-- Spans nothing of F. -/
def Kp (r : Nat → Nat) (F T : Nat) : Prop := ∀ e, F.testBit e = true → r (T ||| 2 ^ e) ≠ r T
noncomputable def Ak (m : Nat) (r : Nat → Nat) (F i : Nat) : Int := sumN (2 ^ m) fun S => if Inc S F ∧ r S = i then sg (cnt m S) else 0
noncomputable def Bk (m : Nat) (r : Nat → Nat) (F j : Nat) : Int := sumN (2 ^ m) fun T => if (T &&& F = 0 ∧ Kp r F T) ∧ r T = j then sg (cnt m T) else 0
theorem RkF.same_in (T s e : Nat) (he : r (T ||| 2 ^ e) = r T) (hs : Inc T s) : r (s ||| 2 ^ e) = r s := by
  have _ := hF
  have h1 := h.sub s (T ||| 2 ^ e)
  have e1 : s ||| (T ||| 2 ^ e) = s ||| 2 ^ e := by rw [← Nat.or_assoc, Nat.or_comm s T, (or_eq_iff T s).2 hs]
  have h2 := h.mono T (s &&& (T ||| 2 ^ e)) (inc_and hs (inc_or_l _ _))
  have h3 := h.mono s (s ||| 2 ^ e) (inc_or_l _ _)
  rw [e1] at h1
  omega
theorem RkF.kill (k : Nat) : sumN (2 ^ m) (fun s => if r s = k ∧ ¬ Kp r F (dif s F) then sg (cnt m s) else 0) = 0 := by
  have pick : ∀ T, ∃ e, ¬ Kp r F T → F.testBit e = true ∧ r (T ||| 2 ^ e) = r T := fun T => by
    by_cases c : Kp r F T
    · exact ⟨0, fun q => absurd c q⟩
    · obtain ⟨e, he⟩ := Classical.not_forall.1 c
      obtain ⟨h1, h2⟩ := Classical.not_imp.1 he
      exact ⟨e, fun _ => ⟨h1, Classical.not_not.1 h2⟩⟩
  obtain ⟨pe, hpe⟩ := Classical.axiomOfChoice pick
  have e1 : ∀ s, s < 2 ^ m → (if r s = k ∧ ¬ Kp r F (dif s F) then sg (cnt m s) else 0) = sumN m fun e => if e = pe (dif s F) then (if r s = k ∧ ¬ Kp r F (dif s F) then sg (cnt m s) else 0) else 0 := fun s hs => by
    by_cases c : r s = k ∧ ¬ Kp r F (dif s F)
    · rw [sumN_single _ _ _ (bit_lt hF (hpe _ c.2).1)]
    · rw [if_neg c, sumN_congr (h := fun _ => (0 : Int)) fun e _ => by split <;> rfl, sumN_zero]
  rw [sumN_congr e1, sumN_swap, sumN_congr (h := fun _ => (0 : Int)) fun e he => ?_, sumN_zero]
  by_cases hFe : F.testBit e = true
  rotate_left
  · rw [sumN_congr (h := fun _ => (0 : Int)) fun s hs => ?_, sumN_zero]
    by_cases c : e = pe (dif s F)
    · rw [if_pos c, if_neg fun q => hFe (by rw [c]; exact (hpe _ q.2).1)]
    · rw [if_neg c]
  refine sumN_turned he fun s hs => ?_
  have ed : dif (s ^^^ 2 ^ e) F = dif s F := Nat.eq_of_testBit_eq fun i => by
    rw [testBit_dif, testBit_dif, Nat.testBit_xor, testBit_pow]
    by_cases q : e = i
    · subst q; rw [hFe]; simp
    · simp [q]
  rw [ed]
  by_cases c : e = pe (dif s F)
  rotate_left
  · rw [if_neg c, if_neg c]; rfl
  rw [if_pos c, if_pos c]
  by_cases d : Kp r F (dif s F)
  · rw [if_neg fun q => q.2 d, if_neg fun q => q.2 d]; rfl
  have hr := (hpe _ d).2
  rw [← c] at hr
  have er : r (s ^^^ 2 ^ e) = r s := by
    cases hb : s.testBit e with
    | false =>
      have : s ^^^ 2 ^ e = s ||| 2 ^ e := Nat.eq_of_testBit_eq fun i => by
        rw [Nat.testBit_xor, Nat.testBit_or, testBit_pow]
        by_cases q : e = i
        · subst q; simp [hb]
        · simp [q]
      rw [this]
      exact h.same_in hF (dif s F) s e hr (inc_dif _ _)
    | true =>
      have e2 : (s ^^^ 2 ^ e) ||| 2 ^ e = s := Nat.eq_of_testBit_eq fun i => by
        rw [Nat.testBit_or, Nat.testBit_xor, testBit_pow]
        by_cases q : e = i
        · subst q; simp [hb]
        · simp [q]
      have := h.same_in hF (dif s F) (s ^^^ 2 ^ e) e hr (by rw [← ed]; exact inc_dif _ _)
      rw [e2] at this
      exact this.symm
  rw [er, sg_turn he hs]
  by_cases q : r s = k ∧ ¬ Kp r F (dif s F)
  · rw [if_pos q, if_pos q]
  · rw [if_neg q, if_neg q]; rfl
/-- STANLEY, by ranks. -/
theorem RkF.factor (hmod : ∀ T, T < 2 ^ m → Kp r F T → r (F ||| T) = r F + r T) (k : Nat) : Nk m r k = sumN (k + 1) fun i => Ak m r F i * Bk m r F (k - i) := by
  have split2 : ∀ S T, T < 2 ^ m → Inc S F → Kp r F T → r (S ||| T) = r S + r T := fun S T hT hS hK => by
    have h1 := hmod T hT hK
    have h2 := h.sub (S ||| T) F
    have h3 := h.sub S T
    have e1 : S ||| T ||| F = F ||| T := by rw [Nat.or_assoc, Nat.or_comm T F, ← Nat.or_assoc, (or_eq_iff S F).2 hS]
    have h4 := h.mono S ((S ||| T) &&& F) (inc_and (inc_or_l _ _) hS)
    rw [e1] at h2
    omega
  have hsplit : Nk m r k = sumN (2 ^ m) fun s => if r s = k ∧ Kp r F (dif s F) then sg (cnt m s) else 0 := by
    have hz := h.kill hF k
    suffices e : Nk m r k = (sumN (2 ^ m) fun s => if r s = k ∧ Kp r F (dif s F) then sg (cnt m s) else 0) + sumN (2 ^ m) fun s => if r s = k ∧ ¬ Kp r F (dif s F) then sg (cnt m s) else 0 by
      rw [e, hz, Int.add_zero]
    unfold Nk
    rw [← sumN_add]
    refine sumN_congr fun s _ => ?_
    by_cases c : r s = k
    · by_cases d : Kp r F (dif s F)
      · rw [if_pos c, if_pos ⟨c, d⟩, if_neg fun q => q.2 d, Int.add_zero]
      · rw [if_pos c, if_neg fun q => d q.2, if_pos ⟨c, d⟩, Int.zero_add]
    · rw [if_neg c, if_neg fun q => c q.1, if_neg fun q => c q.1]; rfl
  rw [hsplit]
  have hterm : ∀ i, i < k + 1 → Ak m r F i * Bk m r F (k - i) = sumN (2 ^ m) fun S => sumN (2 ^ m) fun T => if i = r S then (if Inc S F ∧ T &&& F = 0 then (if Kp r F T ∧ r S + r T = k then sg (cnt m S) * sg (cnt m T) else 0) else 0) else 0 := fun i hi => by
    unfold Ak
    rw [Int.mul_comm, ← sumN_mul]
    refine sumN_congr fun S _ => ?_
    unfold Bk
    by_cases c : Inc S F ∧ r S = i
    · rw [if_pos c, Int.mul_comm, ← sumN_mul]
      refine sumN_congr fun T _ => ?_
      rw [if_pos c.2.symm]
      have c2 := c.2
      by_cases d : T &&& F = 0
      · rw [if_pos (c := Inc S F ∧ T &&& F = 0) ⟨c.1, d⟩]
        by_cases q : Kp r F T ∧ r S + r T = k
        · rw [if_pos (c := Kp r F T ∧ r S + r T = k) q, if_pos (c := (T &&& F = 0 ∧ Kp r F T) ∧ r T = k - i) ⟨⟨d, q.1⟩, by omega⟩]
        · rw [if_neg (c := Kp r F T ∧ r S + r T = k) q, if_neg (c := (T &&& F = 0 ∧ Kp r F T) ∧ r T = k - i) (fun z => q ⟨z.1.2, by have := z.2; omega⟩), Int.mul_zero]
      · rw [if_neg (c := Inc S F ∧ T &&& F = 0) (fun q => d q.2), if_neg (c := (T &&& F = 0 ∧ Kp r F T) ∧ r T = k - i) (fun q => d q.1.1), Int.mul_zero]
    · rw [if_neg c, Int.mul_zero, sumN_congr (h := fun _ => (0 : Int)) fun T _ => ?_, sumN_zero]
      by_cases d : i = r S
      · rw [if_pos d, if_neg fun q => c ⟨q.1, d.symm⟩]
      · rw [if_neg d]
  rw [sumN_congr hterm, sumN_swap]
  have hS : ∀ S, S < 2 ^ m → sumN (k + 1) (fun i => sumN (2 ^ m) fun T => if i = r S then (if Inc S F ∧ T &&& F = 0 then (if Kp r F T ∧ r S + r T = k then sg (cnt m S) * sg (cnt m T) else 0) else 0) else 0) = sumN (2 ^ m) fun T => if Inc S F ∧ T &&& F = 0 then (if Kp r F T ∧ r S + r T = k then sg (cnt m S) * sg (cnt m T) else 0) else 0 := fun S _ => by
    rw [sumN_swap]
    refine sumN_congr fun T _ => ?_
    rcases Nat.lt_or_ge (r S) (k + 1) with c | c
    · rw [sumN_single _ _ _ c]
    · rw [if_neg (c := Kp r F T ∧ r S + r T = k) fun q => by omega]
      have : (if Inc S F ∧ T &&& F = 0 then (0 : Int) else 0) = 0 := by split <;> rfl
      rw [this, sumN_congr (h := fun _ => (0 : Int)) fun i _ => by split <;> rfl, sumN_zero]
  rw [sumN_congr hS, sum_cut hF (fun S T => if Kp r F T ∧ r S + r T = k then sg (cnt m S) * sg (cnt m T) else 0)]
  refine sumN_congr fun s hs => ?_
  have hu : s &&& F ||| dif s F = s := Nat.eq_of_testBit_eq fun i => by
    rw [Nat.testBit_or, Nat.testBit_and, testBit_dif]
    cases s.testBit i <;> cases F.testBit i <;> rfl
  by_cases c : Kp r F (dif s F)
  · have e1 := split2 (s &&& F) (dif s F) (dif_lt hs) (inc_and_r _ _) c
    rw [hu] at e1
    have e2 : sg (cnt m (s &&& F)) * sg (cnt m (dif s F)) = sg (cnt m s) := by
      have := cnt_split m s F
      rw [sg_addM this.symm]
    by_cases d : r s = k
    · rw [if_pos ⟨d, c⟩, if_pos ⟨c, by omega⟩, e2]
    · rw [if_neg fun q => d q.1, if_neg fun q => d (by omega)]
  · rw [if_neg fun q => c q.2, if_neg fun q => c q.1]
where
  sg_addM {a b c : Nat} (h : a + b = c) : sg a * sg b = sg c := by
    subst h
    unfold sg
    rcases Nat.mod_two_eq_zero_or_one a with p | p <;> rcases Nat.mod_two_eq_zero_or_one b with q | q
    · rw [if_pos p, if_pos q, if_pos (by omega)]; rfl
    · rw [if_pos p, if_neg (by omega), if_neg (by omega)]; rfl
    · rw [if_neg (by omega), if_pos q, if_neg (by omega)]; rfl
    · rw [if_neg (by omega), if_neg (by omega), if_pos (by omega)]; rfl
end
end Go.SH

set_option linter.unusedSimpArgs false
set_option linter.unusedVariables false
namespace Go.SH
open Go Go.AX
open Classical

theorem sum_pk (f : Nat → Int) : ∀ (m g : Nat), sumN (2 ^ ps m g) f = sumN (2 ^ m) fun s => if (∀ i, i < m → s.testBit i = true → g.testBit i = false) then f (pk m g s) else 0
  | 0, g => by simp [ps, pk, sumN]
  | m + 1, g => by
    rw [sumN_two]
    have lowb : ∀ s, s < 2 ^ m → ∀ i, i < m + 1 → s.testBit i = true → i < m := fun s hs i _ hi => bit_lt hs hi
    cases hg : g.testBit m with
    | true =>
      have e1 : ps (m + 1) g = ps m g := by simp [ps, hg]
      have e2 : ∀ s, pk (m + 1) g s = pk m g s := fun s => by simp [pk, hg]
      rw [e1, sum_pk f m g]
      rw [sumN_congr (n := 2 ^ m) (g := fun i => if (∀ j, j < m + 1 → (2 ^ m + i).testBit j = true → g.testBit j = false) then f (pk (m + 1) g (2 ^ m + i)) else 0) (h := fun _ => (0 : Int)) fun s hs => if_neg fun q => ?_, sumN_zero, Int.add_zero]
      · refine sumN_congr fun s hs => ?_
        rw [e2]
        have : (∀ i, i < m → s.testBit i = true → g.testBit i = false) ↔ (∀ i, i < m + 1 → s.testBit i = true → g.testBit i = false) := ⟨fun q i hi hb => q i (lowb s hs i hi hb) hb, fun q i hi hb => q i (by omega) hb⟩
        by_cases c : (∀ i, i < m → s.testBit i = true → g.testBit i = false)
        · rw [if_pos c, if_pos (this.1 c)]
        · rw [if_neg c, if_neg fun q => c (this.2 q)]
      · have := q m (by omega) (by rw [add_bit hs]; simp)
        rw [hg] at this; cases this
    | false =>
      have e1 : ps (m + 1) g = ps m g + 1 := by simp [ps, hg]
      rw [e1, sumN_two, sum_pk f m g, sum_pk (fun i => f (2 ^ ps m g + i)) m g]
      congr 1
      · refine sumN_congr fun s hs => ?_
        have e2 : pk (m + 1) g s = pk m g s := by simp [pk, hg, bit_ge hs (Nat.le_refl m)]
        rw [e2]
        have : (∀ i, i < m → s.testBit i = true → g.testBit i = false) ↔ (∀ i, i < m + 1 → s.testBit i = true → g.testBit i = false) := ⟨fun q i hi hb => q i (lowb s hs i hi hb) hb, fun q i hi hb => q i (by omega) hb⟩
        by_cases c : (∀ i, i < m → s.testBit i = true → g.testBit i = false)
        · rw [if_pos c, if_pos (this.1 c)]
        · rw [if_neg c, if_neg fun q => c (this.2 q)]
      · refine sumN_congr fun s hs => ?_
        have hlow : ∀ i, i < m → (2 ^ m + s).testBit i = s.testBit i := fun i hi => by
          rw [add_bit hs, decide_eq_false (by omega)]; simp
        have e2 : pk (m + 1) g (2 ^ m + s) = 2 ^ ps m g + pk m g s := by
          have e3 : pk m g (2 ^ m + s) = pk m g s := (pk_congr (fun i _ => rfl) hlow).1
          have e4 : (2 ^ m + s).testBit m = true := by rw [add_bit hs]; simp
          simp only [pk, hg, e4, e3, if_true, Bool.false_eq_true, if_false]
          rw [add_or (pk_lt m g s)]
        rw [e2]
        have : (∀ i, i < m → s.testBit i = true → g.testBit i = false) ↔ (∀ i, i < m + 1 → (2 ^ m + s).testBit i = true → g.testBit i = false) := by
          constructor
          · intro q i hi hb
            rcases Nat.lt_succ_iff_lt_or_eq.1 hi with c | c
            · exact q i c (by rw [← hlow i c]; exact hb)
            · subst c; exact hg
          · intro q i hi hb
            exact q i (by omega) (by rw [hlow i hi]; exact hb)
        by_cases c : (∀ i, i < m → s.testBit i = true → g.testBit i = false)
        · rw [if_pos c, if_pos (this.1 c)]
        · rw [if_neg c, if_neg fun q => c (this.2 q)]

section
variable {m : Nat} {B : List Nat} (h : Mat m B)
include h
theorem Mat.chr_get (h00 : Flat m B 0) {j : Nat} (hj : j ≤ rk m B (2 ^ m - 1)) : (chr m B).getD j 0 = Nk m (rk m B) (rk m B (2 ^ m - 1) - j) := by
  unfold chr
  rw [if_pos ((h.flat0).2 h00), List.getD_eq_getElem?_getD, List.getElem?_map, List.getElem?_range (by omega)]
  show sumN _ _ = _
  have e1 : ∀ i, i < (flats m B).length → (if rk m B (2 ^ m - 1) - rk m B ((flats m B).getD i 0) = j then mob (flats m B) i else 0) = sumN (2 ^ m) fun s => if IsCl m B s ((flats m B).getD i 0) then (if rk m B s = rk m B (2 ^ m - 1) - j then sg (cnt m s) else 0) else 0 := fun i hi => by
    obtain ⟨f1, f2⟩ := mem_flats.1 (mem_getD.2 ⟨i, hi, rfl⟩)
    have hle := h.rk_full f1
    by_cases c : rk m B (2 ^ m - 1) - rk m B ((flats m B).getD i 0) = j
    · rw [if_pos c, ← h.nuA_mob h00 i i (Nat.le_refl _) hi]
      unfold nuA
      refine sumN_congr fun s hs => ?_
      by_cases q : IsCl m B s ((flats m B).getD i 0)
      · have := h.cl_rk hs q
        rw [if_pos q, if_pos q, if_pos (by omega)]
      · rw [if_neg q, if_neg q]
    · rw [if_neg c, sumN_congr (h := fun _ => (0 : Int)) fun s hs => ?_, sumN_zero]
      by_cases q : IsCl m B s ((flats m B).getD i 0)
      · have := h.cl_rk hs q
        rw [if_pos q, if_neg (by omega)]
      · rw [if_neg q]
  rw [sumN_congr e1, sumN_swap]
  unfold Nk
  refine sumN_congr fun s hs => ?_
  obtain ⟨k, k1, k2, k3⟩ := h.cl_idx hs
  exact h.cl_sum hs (fun _ => if rk m B s = rk m B (2 ^ m - 1) - j then sg (cnt m s) else 0) k1 k2 k3
theorem Mat.loopless (h00 : Flat m B 0) {s : Nat} (hs : s < 2 ^ m) (h0 : rk m B s = 0) : s = 0 := by
  rcases Nat.eq_zero_or_pos s with c | c
  · exact c
  · exfalso
    obtain ⟨e, he⟩ := exists_bit (Nat.ne_of_gt c)
    have h1 := h.rk_mono (inc_pow he)
    have h2 := h00 e (bit_lt hs he) (by simp)
    rw [Nat.zero_or, h.rk_zero] at h2
    omega
theorem Mat.A_zero (h00 : Flat m B 0) {F : Nat} : Ak m (rk m B) F 0 = 1 := by
  have hpos : 0 < 2 ^ m := Nat.pow_pos (by omega)
  unfold Ak
  rw [sumN_congr (h := fun s => if s = 0 then (1 : Int) else 0) fun s hs => ?_, sumN_single _ _ _ hpos]
  by_cases c : s = 0
  · subst c; rw [if_pos ⟨inc_zero F, h.rk_zero⟩, if_pos rfl, cnt_zero]; rfl
  · rw [if_neg fun q => c (h.loopless h00 hs q.2), if_neg c]
theorem Mat.A_far {F i : Nat} (hi : rk m B F < i) : Ak m (rk m B) F i = 0 := by
  unfold Ak
  rw [sumN_congr (h := fun _ => (0 : Int)) fun s hs => if_neg fun q => ?_, sumN_zero]
  have := h.rk_mono q.1
  omega
theorem Mat.B_far {F : Nat} (hF : F < 2 ^ m) (hmod : ∀ T, T < 2 ^ m → Kp (rk m B) F T → rk m B (F ||| T) = rk m B F + rk m B T) {j : Nat} (hj : rk m B (2 ^ m - 1) < rk m B F + j) : Bk m (rk m B) F j = 0 := by
  unfold Bk
  rw [sumN_congr (h := fun _ => (0 : Int)) fun s hs => if_neg fun q => ?_, sumN_zero]
  have h1 := hmod s hs q.1.2
  have h2 := h.rk_full (or_lt hF hs)
  omega
theorem Mat.modular {F : Nat} (hF : F < 2 ^ m) (hm : ∀ G, G < 2 ^ m → Flat m B G → rk m B F + rk m B G = rk m B (F ||| G) + rk m B (F &&& G)) {T : Nat} (hT : T < 2 ^ m) (hK : Kp (rk m B) F T) : rk m B (F ||| T) = rk m B F + rk m B T := by
  obtain ⟨k, k1, k2, _⟩ := h.cl_idx hT
  obtain ⟨f1, f2⟩ := mem_flats.1 (mem_getD.2 ⟨k, k1, rfl⟩)
  generalize (flats m B).getD k 0 = c at *
  have hr := h.cl_rk hT k2
  have hin := h.cl_inc hT k2
  have h0 : F &&& c = 0 := (disj_iff F c).2 fun i hi => by
    cases q : c.testBit i with
    | false => rfl
    | true =>
      exfalso
      refine hK i hi ?_
      rcases (k2.2 i (bit_lt hF hi)).1 q with z | z
      · have : T ||| 2 ^ i = T := Nat.eq_of_testBit_eq fun x => by
          rw [Nat.testBit_or, testBit_pow]
          by_cases y : i = x
          · subst y; simp [z]
          · simp [y]
        rw [this]
      · exact z
  have h1 := hm c f1 f2
  rw [h0, h.rk_zero] at h1
  have h2 := h.rk_sub (F ||| T) c
  have e1 : F ||| T ||| c = F ||| c := by rw [Nat.or_assoc, (or_eq_iff T c).2 hin]
  have h3 := h.rk_mono (inc_and (inc_or_r F T) hin)
  have h4 := h.rk_sub F T
  rw [e1] at h2
  omega
theorem Mat.del_A {F : Nat} (hF : F < 2 ^ m) {K : List Nat} (hm : ∀ x, x ∈ K ↔ ∃ b, MaxK m B (cpl m (cpl m F)) b ∧ x = pk m (cpl m F) b) (i : Nat) : Nk (ps m (cpl m F)) (rk (ps m (cpl m F)) K) i = Ak m (rk m B) F i := by
  unfold Nk Ak
  rw [sum_pk]
  refine sumN_congr fun s hs => ?_
  have key : (∀ i, i < m → s.testBit i = true → (cpl m F).testBit i = false) ↔ Inc s F := by
    constructor
    · intro q i hi
      have := q i (bit_lt hs hi) hi
      rw [cpl_bit] at this
      simpa [bit_lt hs hi] using this
    · intro q i hi hb
      rw [cpl_bit, q i hb]; simp
  by_cases c : Inc s F
  · have ed : dif s (cpl m F) = s := Nat.eq_of_testBit_eq fun i => by
      rw [testBit_dif, cpl_bit]
      cases p : s.testBit i with
      | false => rfl
      | true => rw [c i p]; simp
    rw [if_pos (key.2 c), h.del_rk hm, ed, cnt_pk, ed]
    by_cases d : rk m B s = i
    · rw [if_pos d, if_pos ⟨c, d⟩]
    · rw [if_neg d, if_neg fun q => d q.2]
  · rw [if_neg fun q => c (key.1 q), if_neg fun q => c q.1]
theorem Mat.del_full {F : Nat} (hF : F < 2 ^ m) {K : List Nat} (hm : ∀ x, x ∈ K ↔ ∃ b, MaxK m B (cpl m (cpl m F)) b ∧ x = pk m (cpl m F) b) : rk (ps m (cpl m F)) K (2 ^ ps m (cpl m F) - 1) = rk m B F := by
  rw [← pk_full, h.del_rk hm]
  congr 1
  show cpl m (cpl m F) = F
  exact cpl_cpl hF
theorem Mat.del_loopless (h00 : Flat m B 0) {F : Nat} (hF : F < 2 ^ m) {K : List Nat} (hK : Mat (ps m (cpl m F)) K) (hm : ∀ x, x ∈ K ↔ ∃ b, MaxK m B (cpl m (cpl m F)) b ∧ x = pk m (cpl m F) b) : Flat (ps m (cpl m F)) K 0 := fun i hi _ e => by
  rw [Nat.zero_or, hK.rk_zero] at e
  have hX := pk_up (m := m) (s := cpl m F) (X := 2 ^ i) (pow_lt hi)
  have hu := up_inc m (cpl m F) (2 ^ i)
  have hul : upS' m (cpl m F) (2 ^ i) < 2 ^ m := hu.lt (cpl_lt _ _)
  generalize upS' m (cpl m F) (2 ^ i) = U at hX hu hul
  rw [← hX, h.del_rk hm] at e
  have ed : dif U (cpl m F) = U := Nat.eq_of_testBit_eq fun j => by
    rw [testBit_dif]
    cases p : U.testBit j with
    | false => rfl
    | true =>
      have := hu j p
      rw [cpl_bit] at this
      simp at this
      simp [this.2]
  rw [ed] at e
  have := h.loopless h00 hul e
  subst this
  have hz : pk m (cpl m F) 0 = 0 := Nat.eq_of_testBit_eq fun j => by
    cases p : (pk m (cpl m F) 0).testBit j with
    | false => simp
    | true =>
      obtain ⟨_, _, _, q, _⟩ := (pk_bit m (cpl m F) 0 j).1 p
      simp at q
  rw [hz] at hX
  have := Nat.pow_pos (n := i) (show 0 < 2 by omega)
  omega
end
end Go.SH

set_option linter.unusedSimpArgs false
set_option linter.unusedVariables false
namespace Go.SH
open Go Go.AX

def ModF (m : Nat) (B : List Nat) (a : Int) : Prop := ∃ F : Nat, a = (F : Int) ∧ F < 2 ^ m ∧ Flat m B F ∧ ∀ G, G < 2 ^ m → Flat m B G → rk m B F + rk m B G = rk m B (F ||| G) + rk m B (F &&& G)
theorem Modular_spec {m : Nat} {B : List Nat} (h : Mat m B) (a : Int) : Gets (flats_Modular m (cs B) a) (fun r => (r.1 = false ∧ ¬ ModF m B a) ∨ (r = (true, 0) ∧ ModF m B a)) := by
  have h8 := h.m8
  have h256 := pow_le8 h8
  have hF : Fam m (flats m B) := filter_fam h8 _
  have hlen := hF.len
  unfold flats_Modular
  refine gBindE (flats_of_ok h) (gIte (fun q => absurd rfl q) fun _ => ?_)
  simp only []
  rw [slices_Contains_spec _ _ (by rw [cs_len]; omega), Option.bind_some]
  by_cases c : a ∈ cs (flats m B)
  rotate_left
  · rw [if_pos (by simp [c])]
    refine gSome (.inl ⟨rfl, ?_⟩)
    rintro ⟨F, rfl, f1, f2, _⟩
    exact c ((cs_mem _ _).2 (mem_flats.2 ⟨f1, f2⟩))
  rw [if_neg (by simp [c])]
  obtain ⟨F, hFm, rfl⟩ := List.mem_map.1 c
  obtain ⟨f1, f2⟩ := mem_flats.1 hFm
  have bnd : ∀ s, rk m B s ≤ 8 := fun s => Nat.le_trans (h.rk_size s) (Nat.le_trans (cnt_le m s) h8)
  refine gBind (R := fun z => match z with | .inl _ => ModF m B F | .inr r => r = (false, 0) ∧ ¬ ModF m B F) (gFor (flats m B).length (fun k v => v = (k : Int) ∧ ∀ j, j < k → rk m B F + rk m B ((flats m B).getD j 0) = rk m B (F ||| (flats m B).getD j 0) + rk m B (F &&& (flats m B).getD j 0)) (Nat.zero_le _) ⟨rfl, none_all⟩ ?_) ?_
  · rintro k _ hk ⟨rfl, hall⟩
    simp only [cs_len, cs_get, toNat_nat, rkL_len]
    refine gIte (fun h1 => gChk (by omega) ?_) fun h1 => gSome ⟨F, rfl, f1, f2, fun G g1 g2 => ?_⟩
    · have hk' : k < (flats m B).length := by omega
      obtain ⟨g1, g2⟩ := mem_flats.1 (mem_getD.2 ⟨k, hk', rfl⟩)
      generalize hG : (flats m B).getD k 0 = G at *
      have b1 := bnd F
      have b2 := bnd G
      have b3 := bnd (F ||| G)
      have b4 := bnd (F &&& G)
      have l1 := or_lt f1 g1
      have l2 := and_lt (b := G) f1
      simp only [or_nat, and_nat, toNat_nat, rkL_get m B f1, rkL_get m B g1, rkL_get m B l1, rkL_get m B l2]
      refine gChk (by omega) (gIte (fun q => gSome ⟨rfl, ?_⟩) fun q => gSome ⟨by omega, by simp, step_all hall (by rw [hG]; omega)⟩)
      rintro ⟨F', e1, _, _, e4⟩
      have : F' = F := by omega
      subst this
      have := e4 G g1 g2
      omega
    · obtain ⟨j, j1, rfl⟩ := mem_getD.1 (mem_flats.2 ⟨g1, g2⟩)
      have : k = (flats m B).length := by omega
      subst this
      exact hall j j1
  · rintro (u | rr) hz
    · exact gSome (.inr ⟨rfl, hz⟩)
    · obtain ⟨rfl, hz⟩ := hz
      exact gSome (.inl ⟨rfl, hz⟩)
theorem Modular_bad {n : Int} {l : List Int} {c : Int} (h : axioms_Check n l = some c) (h0 : c ≠ 0) (a : Int) : flats_Modular n l a = some (false, c) := by
  unfold flats_Modular
  rw [flats_of_bad h h0, Option.bind_some, if_pos h0]
theorem mod_two : flats_Modular 4 (cs twoB) 15 = some (true, 0) := by
  have hz := Modular_spec mat_two ((15 : Nat) : Int)
  obtain ⟨r, e, hr⟩ := hz
  have hM : ModF 4 twoB ((15 : Nat) : Int) := ⟨15, rfl, by omega, (fun i hi hb => by
    have t : ∀ i : Fin 4, (15 : Nat).testBit i.val = true := by decide
    have := t ⟨i, hi⟩
    simp only at this
    rw [this] at hb; cases hb), fun G g1 _ => by
    have e1 : 15 ||| G = 15 := (Nat.or_comm _ _).trans ((or_eq_iff G 15).2 fun i hi => by
      have := bit_lt g1 hi
      have t : ∀ i : Fin 4, (15 : Nat).testBit i.val = true := by decide
      exact t ⟨i, this⟩)
    have e2 : 15 &&& G = G := (Nat.and_comm _ _).trans ((sub_iff_and G 15).2 fun i hi => by
      have := bit_lt g1 hi
      have t : ∀ i : Fin 4, (15 : Nat).testBit i.val = true := by decide
      exact t ⟨i, this⟩)
    rw [e1, e2]⟩
  rcases hr with ⟨_, q⟩ | ⟨rfl, _⟩
  · exact absurd hM q
  · exact e
theorem Contains64 (l : List Int) (hl : l.length < 2 ^ 60) {f : Int → Option Bool} (hf : ∀ x, f x = some (decide (x ≠ 0))) : Gets (slices_ContainsFunc_int64_int64 l f) (fun b => (b = true ↔ ∃ k, k < l.length ∧ l.getD k 0 ≠ 0)) := by
  unfold slices_ContainsFunc_int64_int64 slices_IndexFunc_int64_int64
  refine gBind (R := fun y => (0 ≤ y ↔ ∃ k, k < l.length ∧ l.getD k 0 ≠ 0)) ?_ fun y hy => gSome (by simpa using hy)
  refine gBind (R := fun z => match z with | .inl _ => ∀ k, k < l.length → l.getD k 0 = 0 | .inr r => ∃ k : Nat, r = (k : Int) ∧ k < l.length ∧ l.getD k 0 ≠ 0) (gFor l.length (fun k v => v = (k : Int) ∧ ∀ j, j < k → l.getD j 0 = 0) (Nat.zero_le _) ⟨rfl, none_all⟩ ?_) ?_
  · rintro k _ hk ⟨rfl, hall⟩
    refine gIte (fun h1 => gChk (by omega) ?_) fun h1 => gSome (by have e : k = l.length := (by omega); subst e; exact hall)
    rw [hf, Option.bind_some, toNat_nat]
    refine gIte (fun q => gSome ⟨k, rfl, by omega, by simpa using q⟩) fun q => gSome ⟨by omega, by simp, step_all hall (by simpa using q)⟩
  · rintro (u | rr) hz
    · refine gSome ⟨fun q => by omega, fun ⟨k, k1, k2⟩ => absurd (hz k k1) k2⟩
    · obtain ⟨k, rfl, k1, k2⟩ := hz
      exact gSome ⟨fun _ => ⟨k, k1, k2⟩, fun _ => by omega⟩

/-! ### the division -/
/-- What is left once the quotient's first t numbers are off. -/
noncomputable def Wt (A B : Nat → Int) (t u : Nat) : Int := sumN (u + 1) fun i => if t ≤ u - i then A i * B (u - i) else 0
theorem Wt_step (A B : Nat → Int) (t u : Nat) : Wt A B t u = Wt A B (t + 1) u + if t ≤ u then A (u - t) * B t else 0 := by
  unfold Wt
  by_cases c : t ≤ u
  · rw [if_pos c]
    refine sumN_upd (i := u - t) (by omega) fun j hj => ?_
    by_cases d : j = u - t
    · subst d
      have e : u - (u - t) = t := by omega
      rw [if_pos rfl, e, if_pos (Nat.le_refl t), if_neg (by omega), Int.zero_add]
    · rw [if_neg d, Int.add_zero]
      by_cases q : t ≤ u - j
      · rw [if_pos q, if_pos (by omega)]
      · rw [if_neg q, if_neg (by omega)]
  · rw [if_neg c, Int.add_zero]
    refine sumN_congr fun j hj => ?_
    rw [if_neg (by omega), if_neg (by omega)]
theorem mul_small {a b : Int} (ha : -256 ≤ a ∧ a ≤ 256) (hb : -256 ≤ b ∧ b ≤ 256) : -65536 ≤ a * b ∧ a * b ≤ 65536 := by
  have h1 : a.natAbs ≤ 256 := by omega
  have h2 : b.natAbs ≤ 256 := by omega
  have h3 := Nat.mul_le_mul h1 h2
  rw [← Int.natAbs_mul] at h3
  omega
theorem Wt_small {A B : Nat → Int} (hA : ∀ i, -256 ≤ A i ∧ A i ≤ 256) (hB : ∀ i, -256 ≤ B i ∧ B i ≤ 256) (t : Nat) {u : Nat} (hu : u ≤ 8) : -589824 ≤ Wt A B t u ∧ Wt A B t u ≤ 589824 := by
  have := sumN_abs (n := u + 1) (g := fun i => if t ≤ u - i then A i * B (u - i) else 0) (c := 65536) fun i _ => by
    have := mul_small (hA i) (hB (u - i))
    show _ ≤ ite (t ≤ u - i) (A i * B (u - i)) 0 ∧ ite (t ≤ u - i) (A i * B (u - i)) 0 ≤ _
    split <;> omega
  unfold Wt
  have h3 : ((u + 1 : Nat) : Int) * 65536 ≤ 9 * 65536 := Int.mul_le_mul_of_nonneg_right (by omega) (by omega)
  omega
theorem sum_small {m : Nat} (h8 : m ≤ 8) (p : Nat → Prop) [DecidablePred p] : -256 ≤ sumN (2 ^ m) (fun s => if p s then sg (cnt m s) else 0) ∧ sumN (2 ^ m) (fun s => if p s then sg (cnt m s) else 0) ≤ 256 := by
  have h256 := pow_le8 h8
  have := sumN_abs (n := 2 ^ m) (g := fun s => if p s then sg (cnt m s) else 0) (c := 1) fun s _ => by
    have := sg_one (cnt m s)
    show -1 ≤ ite (p s) (sg (cnt m s)) 0 ∧ ite (p s) (sg (cnt m s)) 0 ≤ 1
    split <;> omega
  omega

open Classical in
theorem A_small {m : Nat} (h8 : m ≤ 8) (r : Nat → Nat) (F i : Nat) : -256 ≤ Ak m r F i ∧ Ak m r F i ≤ 256 := by
  unfold Ak; exact sum_small h8 (fun S => Inc S F ∧ r S = i)
open Classical in
theorem B_small {m : Nat} (h8 : m ≤ 8) (r : Nat → Nat) (F j : Nat) : -256 ≤ Bk m r F j ∧ Bk m r F j ≤ 256 := by
  unfold Bk; exact sum_small h8 (fun T => (T &&& F = 0 ∧ Kp r F T) ∧ r T = j)
theorem rotakeep_FlatsModular_law (n : Int) (l : List Int) (a : Int) (hl : l.length ≤ 9223372036854775807) : rotakeep_FlatsModular n l a = some true := by
  refine Gets.eq ?_
  unfold rotakeep_FlatsModular
  refine gBindE two_eq (gBindE mod_two (gIte (fun q => absurd q (by simp)) fun _ => ?_))
  obtain ⟨c, hc, hs⟩ := axioms_Check_spec n l hl
  rcases hs with ⟨rfl, m, B, rfl, rfl, h⟩ | ⟨h0, _⟩
  rotate_left
  · exact gBindE (Modular_bad hc h0 a) (gIte (fun _ => gSome (by simp)) fun q => absurd (.inl h0) q)
  have h8 := h.m8
  have h256 := pow_le8 h8
  refine gBind (Modular_spec h a) ?_
  rintro ⟨y1, y2⟩ (⟨e, _⟩ | ⟨e, F, rfl, f1, f2, f3⟩)
  · simp only at e
    subst e
    exact gIte (fun _ => gSome (by simp)) fun q => absurd (.inr (by simp)) q
  cases e
  refine gIte (fun q => absurd q (by simp)) fun _ => ?_
  refine gBindE (rotaref_All_nat h8) ?_
  have ecp : iandnot ((2 ^ m - 1 : Nat) : Int) (F : Int) = ((cpl m F : Nat) : Int) := dif_nat _ _
  rw [ecp]
  have hg : cpl m F < 2 ^ m := cpl_lt m F
  obtain ⟨K, k1, k2, k3⟩ := h.Delete_ok hg (sets_Check_nat h8 hg)
  refine gBindE k1 (gBindE k2.Char_ok (gBindE h.Char_ok (gIte (fun q => absurd q (by simp)) fun _ => ?_)))
  simp only []
  have hR8 : rk m B (2 ^ m - 1) ≤ 8 := Nat.le_trans (h.rk_size _) (Nat.le_trans (cnt_le _ _) h8)
  refine gBind (Contains64 _ (by rw [chr_len]; omega) fun x => rfl) ?_
  intro y7 hy7
  refine gIte (fun _ => gSome rfl) fun q => ?_
  have q7 : y7 = true := by simpa using q
  obtain ⟨k0, hk0, hne⟩ := hy7.1 q7
  have h00 : Flat m B 0 := by
    rcases Classical.em (Flat m B 0) with c | c
    · exact c
    · exfalso
      unfold chr at hne
      rw [if_neg fun z => c ((h.flat0).1 z), List.getD_eq_getElem?_getD, List.getElem?_replicate] at hne
      split at hne <;> simp at hne
  have hmod : ∀ T, T < 2 ^ m → Kp (rk m B) F T → rk m B (F ||| T) = rk m B F + rk m B T := fun T hT hK => h.modular f1 f3 hT hK
  have hlD := h.del_loopless h00 f1 k2 k3
  have hdR := h.rk_full f1
  generalize hRe : rk m B (2 ^ m - 1) = R at *
  generalize hde : rk m B F = d at *
  have lenC : (chr m B).length = R + 1 := by rw [chr_len, hRe]
  have hrD : rk (ps m (cpl m F)) K (2 ^ ps m (cpl m F) - 1) = d := by rw [h.del_full f1 k3, hde]
  have lenA : (chr (ps m (cpl m F)) K).length = d + 1 := by rw [chr_len, hrD]
  have getA : ∀ i, i ≤ d → (chr (ps m (cpl m F)) K).getD (d - i) 0 = Ak m (rk m B) F i := fun i hi => by
    rw [k2.chr_get hlD (by omega), hrD, h.del_A f1 k3]
    congr 1; omega
  have getC : ∀ u, u ≤ R → (chr m B).getD (R - u) 0 = Wt (Ak m (rk m B) F) (Bk m (rk m B) F) 0 u := fun u hu => by
    rw [h.chr_get h00 (by omega), hRe, show R - (R - u) = u by omega, h.rkFb.factor f1 (by intro T hT hK; rw [hde]; exact hmod T hT hK) u]
    unfold Wt
    exact sumN_congr fun i _ => by rw [if_pos (Nat.zero_le _)]
  generalize chr (ps m (cpl m F)) K = a at *
  have sA : ∀ i, -256 ≤ Ak m (rk m B) F i ∧ Ak m (rk m B) F i ≤ 256 := A_small h8 _ _
  have sB : ∀ j, -256 ≤ Bk m (rk m B) F j ∧ Bk m (rk m B) F j ≤ 256 := B_small h8 _ _
  have A0 : Ak m (rk m B) F 0 = 1 := h.A_zero h00
  have Af : ∀ i, d < i → Ak m (rk m B) F i = 0 := fun i hi => h.A_far (by omega)
  have Bf : ∀ j, R < d + j → Bk m (rk m B) F j = 0 := fun j hj => h.B_far f1 (by intro T hT hK; rw [hde]; exact hmod T hT hK) (by omega)
  generalize Ak m (rk m B) F = A at *
  generalize Bk m (rk m B) F = Q at *
  have sW : ∀ t u, u ≤ R → -589824 ≤ Wt A Q t u ∧ Wt A Q t u ≤ 589824 := fun t u hu => Wt_small sA sB t (by omega)
  have eClone : slices_Clone_int64_int64 (chr m B) = some (chr m B) := by
    unfold slices_Clone_int64_int64
    rw [chk_pos (show chr m B ≠ [] from fun q => by rw [q] at lenC; simp at lenC), chk_pos (by omega)]
  refine gBindE eClone (gChk (by omega) ?_)
  refine gBind (R := fun v => v.length = R + 1 ∧ ∀ k, k < R + 1 → v.getD k 0 = 0) (gFor (R + 1 - d) (fun t (x : List Int × Int) => x.2 = (R : Int) - t ∧ x.1.length = R + 1 ∧ ∀ u, u ≤ R → x.1.getD (R - u) 0 = Wt A Q t u) (Nat.zero_le _) ⟨by simp only [lenC]; omega, lenC, getC⟩ ?_) ?_
  · rintro t ⟨v, _⟩ ht ⟨rfl, hv, hW⟩
    simp only at hv hW
    simp only [lenA]
    refine gChk (by omega) (gIte (fun h1 => ?_) fun h1 => gSome ⟨hv, fun k hk => ?_⟩)
    · have ht' : t ≤ R - d := by omega
      have eRt : ((R : Int) - t) = ((R - t : Nat) : Int) := by omega
      have eq1 : v.getD (R - t) 0 = Q t := by
        rw [hW t (by omega)]
        unfold Wt
        rw [sumN_congr (h := fun i => if i = 0 then Q t else 0) fun i hi => ?_, sumN_single _ _ _ (by omega)]
        by_cases z : i = 0
        · subst z; rw [if_pos (by omega), if_pos rfl, A0, Nat.sub_zero, Int.one_mul]
        · rw [if_neg (by omega), if_neg z]
      simp only [eRt, toNat_nat, eq1]
      refine gChk (by omega) ?_
      refine gBind (R := fun w => w.length = R + 1 ∧ ∀ u, u ≤ R → w.getD (R - u) 0 = Wt A Q (t + 1) u) (gFor (d + 1) (fun j (x : List Int × Int) => x.2 = (j : Int) ∧ x.1.length = R + 1 ∧ ∀ u, u ≤ R → x.1.getD (R - u) 0 = Wt A Q t u - if t ≤ u ∧ u < t + j then A (u - t) * Q t else 0) (Nat.zero_le _) ⟨rfl, hv, fun u hu => by rw [hW u hu, if_neg (by omega), Int.sub_zero]⟩ ?_) ?_
      · rintro j ⟨w, _⟩ hj ⟨rfl, hw, hU⟩
        simp only at hw hU
        simp only [lenA]
        refine gIte (fun h2 => ?_) fun h2 => gSome ⟨hw, fun u hu => ?_⟩
        · have hj' : j ≤ d := by omega
          have e1 : (((R - t : Nat) : Int) - j) = ((R - t - j : Nat) : Int) := by omega
          have e2 : ((((d + 1 : Nat) : Int) - 1) - j) = ((d - j : Nat) : Int) := by omega
          have e3 : R - t - j = R - (t + j) := by omega
          have g1 : w.getD (R - t - j) 0 = Wt A Q t (t + j) := by
            rw [e3, hU (t + j) (by omega), if_neg (by omega), Int.sub_zero]
          have b1 := sW t (t + j) (by omega)
          have b2 := mul_small (sB t) (sA j)
          simp only [e1, e2, toNat_nat, getA j hj', g1]
          refine gChk ⟨by omega, by omega, by omega, by omega, by omega, by omega, by omega⟩ (gSome ⟨by omega, by simp, by simp [hw], fun u hu => ?_⟩)
          rw [set_getD _ (by omega)]
          by_cases z : u = t + j
          · subst z
            rw [if_pos e3.symm, if_pos (by omega), show t + j - t = j by omega, Int.mul_comm]
          · rw [if_neg (by omega), hU u hu]
            by_cases y : t ≤ u ∧ u < t + j
            · rw [if_pos y, if_pos (by omega)]
            · rw [if_neg y, if_neg (by omega)]
        · have : j = d + 1 := by omega
          subst this
          have := Wt_step A Q t u
          rw [hU u hu]
          by_cases y : t ≤ u
          · by_cases x : u < t + (d + 1)
            · rw [if_pos ⟨y, x⟩]; rw [if_pos y] at this; omega
            · rw [if_neg (by omega)]
              rw [if_pos y, Af (u - t) (by omega), Int.zero_mul] at this
              omega
          · rw [if_neg (by omega)]; rw [if_neg y] at this; omega
      · rintro w ⟨hw, hU⟩
        exact gChk (by omega) (gSome ⟨by omega, by omega, hw, hU⟩)
    · have et : t = R + 1 - d := by omega
      have := hW (R - k) (by omega)
      rw [show R - (R - k) = k by omega] at this
      rw [this]
      unfold Wt
      rw [sumN_congr (h := fun _ => (0 : Int)) fun i _ => ?_, sumN_zero]
      by_cases z : t ≤ R - k - i
      · rw [if_pos z, Bf _ (by omega), Int.mul_zero]
      · rw [if_neg z]
  · rintro v ⟨hv, hz⟩
    refine gBind (Contains64 v (by omega) fun x => rfl) ?_
    intro y9 hy9
    refine gSome ?_
    have : ¬ y9 = true := fun z => by
      obtain ⟨k, k1, k2⟩ := hy9.1 z
      exact k2 (hz k (by omega))
    simpa using this
end Go.SH
