/-
 Flats that are independent; how many there are of a size more. Conditions: none.
-/
import Derived.Test.YtlpikingpnenkaaLhC
set_option linter.unusedSimpArgs false
set_option linter.unusedVariables false
set_option linter.unusedSectionVars false
namespace Go.SH
open Go Go.AX
/-- A flat that is independent. -/
def FF (r : Nat → Nat) (E F : Nat) : Prop := Fl r E F ∧ r F = cnt 8 F
/-- How many such flats with i have a size. -/
noncomputable def nF (r : Nat → Nat) (E i k : Nat) : Nat := nS fun F => (FF r E F ∧ F.testBit i = true) ∧ cnt 8 F = k
open Classical in
/-- The elements that make a flat with F, alone. -/
noncomputable def sgm (r : Nat → Nat) (E F : Nat) : Nat := mkset 8 fun j => decide ((E.testBit j = true ∧ F.testBit j = false) ∧ Fl r E (F ||| 2 ^ j))
theorem cnt_sQ : ∀ m s, cnt m s = sQ (fun j => b1 (s.testBit j = true)) m
 | 0, _ => rfl
 | m + 1, s => by
  simp only [cnt, sQ]
  rw [cnt_sQ m s]
  congr 1
  cases q : s.testBit m
  ·rw [b1_neg (by simp)]; simp
  ·rw [b1_pos rfl]; simp
theorem two_bits {s : Nat} (hs : s < 2 ^ 8) (h : 2 ≤ cnt 8 s) : ∃ i j, s.testBit i = true ∧ s.testBit j = true ∧ i ≠ j := by
 obtain ⟨i, hi⟩ := exists_bit (c := s) fun e => by rw [e, cnt_zero] at h; omega
 have c := cnt_dif hs hi
 obtain ⟨j, hj⟩ := exists_bit (c := dif s (2 ^ i)) fun e => by rw [e, cnt_zero] at c; omega
 obtain ⟨h1, h2⟩ := dif_bit.1 hj
 exact ⟨i, j, hi, h1, h2⟩
theorem cnt_two {s i j : Nat} (hs : s < 2 ^ 8) (hi : s.testBit i = true) (hj : s.testBit j = true) (hij : i ≠ j) : 2 ≤ cnt 8 s := by
 have c := cnt_dif hs hi
 have d := cnt_pos (m := 8) (c := dif s (2 ^ i)) (i := j) (dif_lt hs) (dif_bit.2 ⟨hj, hij⟩)
 omega
theorem or_swap (a b c : Nat) : a ||| b ||| c = a ||| c ||| b := by rw [Nat.or_assoc, Nat.or_comm b, ← Nat.or_assoc]
section
variable {r : Nat → Nat} (h : RkF r) {E : Nat} (hE : E < 2 ^ 8)
include h hE
theorem RkF.ff_sub {F A : Nat} (hF : FF r E F) (hA : Inc A F) : FF r E A := by
 have hFl := hF.1.1.lt hE
 have hAl := hA.lt hFl
 have sub : ∀ A, Inc A F → r A = cnt 8 A := fun A hA => by
  have hAl := hA.lt hFl
  have c1 := cnt_split 8 F A
  have e1 : F &&& A = A := by rw [Nat.and_comm]; exact (sub_iff_and A F).2 hA
  rw [e1] at c1
  have c2 := h.add A (dif F A) (dif_lt hFl)
  have c3 := h.mono F (A ||| dif F A) fun j hj => by
   rw [Nat.testBit_or, testBit_dif, hj]; cases A.testBit j <;> rfl
  have c4 := h.le hAl
  have := hF.2
  omega
 refine ⟨⟨hA.trans hF.1.1, fun j hj hn e => ?_⟩, sub A hA⟩
 rcases Bool.eq_false_or_eq_true (F.testBit j) with q | q
 ·have e1 := sub (A ||| 2 ^ j) (inc_or hA (inc_pow q))
  have e2 := sub A hA
  have e3 := cnt_add (m := 8) (s := A) (bit_lt hE hj) hn
  omega
 ·exact hF.1.2 j hj q (h.stay hA e)
theorem RkF.nF_le {i : Nat} (k : Nat) : nF r E i (k + 1) ≤ sN r E i k := by
 refine nS_inj (fun F => dif F (2 ^ i)) (fun F hF ⟨⟨a1, a2⟩, a3⟩ => ?_) fun F G hF hG ⟨⟨a1, a2⟩, a3⟩ ⟨⟨b1', b2⟩, b3⟩ e => ?_
 ·have s1 := h.ff_sub hE a1 (inc_dif F (2 ^ i))
  have c := cnt_dif (m := 8) hF a2
  exact ⟨s1.1.lt hE, ⟨s1.1, bit_false.2 fun z => (dif_bit.1 z).2 rfl, by rw [dif_or a2]; exact a1.1⟩, by rw [s1.2]; omega⟩
 ·have e : dif F (2 ^ i) = dif G (2 ^ i) := e
  rw [← dif_or a2, ← dif_or b2, e]
theorem RkF.sN_one (hs : Smp r E) {i : Nat} (hi : E.testBit i = true) : sN r E i 1 ≤ nF r E i 2 := by
 refine nS_inj (fun G => G ||| 2 ^ i) (fun G hG ⟨⟨a1, a2, a3⟩, a4⟩ => ?_) fun F G hF hG ⟨⟨a1, a2, a3⟩, a4⟩ ⟨⟨b1', b2, b3⟩, b4⟩ e => ?_
 ·have c1 := h.le (b := G) hG
  have c2 : cnt 8 G = 1 := by
   rcases Nat.lt_or_ge (cnt 8 G) 2 with q | q
   ·omega
   ·obtain ⟨x, y, hx, hy, hxy⟩ := two_bits hG q
    have := (hs x (a1.1 x hx)).2 y (a1.1 y hy) hxy
    have := h.mono _ _ (inc_or (inc_pow hx) (inc_pow hy))
    omega
  have c3 := cnt_add (m := 8) (s := G) (bit_lt hE hi) a2
  have c4 := h.up1 (a1.2 i hi a2)
  exact ⟨a3.lt hE, ⟨⟨a3, by omega⟩, or_bit.2 (.inr rfl)⟩, by omega⟩
 ·have e : F ||| 2 ^ i = G ||| 2 ^ i := e
  rw [← or_dif_new a2, ← or_dif_new b2, e]
omit h in
theorem sgm_bit {F j : Nat} : (sgm r E F).testBit j = true ↔ (E.testBit j = true ∧ F.testBit j = false) ∧ Fl r E (F ||| 2 ^ j) := by
 unfold sgm
 rw [mkset_bit]
 simp only [Bool.and_eq_true, decide_eq_true_eq]
 exact ⟨fun w => w.2, fun w => ⟨bit_lt hE w.1.1, w⟩⟩
/-- Where nobody is alone, ranks are half the sizes at most. -/
theorem RkF.pairs {F : Nat} (hF : Fl r E F) : ∀ (n R : Nat), cnt 8 R ≤ n → Inc R E → (∀ x, R.testBit x = true → F.testBit x = false ∧ ∃ y, R.testBit y = true ∧ y ≠ x ∧ r (F ||| 2 ^ x ||| 2 ^ y) = r (F ||| 2 ^ x)) → 2 * r (F ||| R) ≤ 2 * r F + cnt 8 R := by
 intro n
 induction n with
 | zero =>
  intro R hn hR hp
  have hRl := hR.lt hE
  have : R = 0 := Classical.byContradiction fun q => by
   obtain ⟨x, hx⟩ := exists_bit q
   have := cnt_pos (m := 8) hRl hx
   omega
  subst this
  rw [Nat.or_zero]; omega
 | succ n ih =>
  intro R hn hR hp
  have hRl := hR.lt hE
  by_cases h0 : R = 0
  ·subst h0; rw [Nat.or_zero]; omega
  obtain ⟨x, hx⟩ := exists_bit h0
  have u : ∀ y, R.testBit y = true → r (F ||| 2 ^ y) = r F + 1 := fun y hy => h.up1 (hF.2 y (hR y hy) (hp y hy).1)
  obtain ⟨C, hC⟩ : ∃ C, C = mkset 8 fun j => R.testBit j && decide (r (F ||| 2 ^ x ||| 2 ^ j) = r (F ||| 2 ^ x)) := ⟨_, rfl⟩
  have cb : ∀ j, C.testBit j = true ↔ R.testBit j = true ∧ r (F ||| 2 ^ x ||| 2 ^ j) = r (F ||| 2 ^ x) := fun j => by
   rw [hC, mkset_bit]
   simp only [Bool.and_eq_true, decide_eq_true_eq]
   exact ⟨fun w => w.2, fun w => ⟨bit_lt hRl w.1, w⟩⟩
  have hCl : C < 2 ^ 8 := by rw [hC]; exact mkset_lt 8 _
  have hCR : Inc C R := fun j hj => ((cb j).1 hj).1
  obtain ⟨_, y, hy, hyx, hxy⟩ := hp x hx
  have c2 := cnt_two hCl ((cb x).2 ⟨hx, by rw [or_self_bit (or_bit.2 (.inr rfl))]⟩) ((cb y).2 ⟨hy, hxy⟩) (Ne.symm hyx)
  have c3 := cnt_split 8 R C
  have e1 : R &&& C = C := by rw [Nat.and_comm]; exact (sub_iff_and C R).2 hCR
  rw [e1] at c3
  have hdb : ∀ j, (dif R C).testBit j = true ↔ R.testBit j = true ∧ C.testBit j = false := fun j => by
   rw [testBit_dif, Bool.and_eq_true, Bool.not_eq_true']
  have h1 := ih (dif R C) (by omega) ((inc_dif R C).trans hR) fun g hg => by
   obtain ⟨g1, g2⟩ := (hdb g).1 hg
   obtain ⟨g3, p, p1, p2, p3⟩ := hp g g1
   refine ⟨g3, p, (hdb p).2 ⟨p1, bit_false.2 fun w => bit_false.1 g2 ((cb g).2 ⟨g1, ?_⟩)⟩, p2, p3⟩
   have w2 := ((cb p).1 w).2
   have k1 := u p p1
   have k2 := u g g1
   have k3 := u x hx
   have k4 : r (F ||| 2 ^ p ||| 2 ^ g) = r (F ||| 2 ^ p) := by rw [or_swap, p3, k1, k2]
   have k5 : r (F ||| 2 ^ p ||| 2 ^ x) = r (F ||| 2 ^ p) := by rw [or_swap, w2, k1, k3]
   have k6 := h.stay (inc_or_l (F ||| 2 ^ p) (2 ^ x)) k4
   have k7 := h.mono (F ||| 2 ^ x ||| 2 ^ g) (F ||| 2 ^ p ||| 2 ^ x ||| 2 ^ g) (inc_or (inc_or ((inc_or_l _ _).trans ((inc_or_l _ _).trans (inc_or_l _ _))) ((inc_or_r _ _).trans (inc_or_l _ _))) (inc_or_r _ _))
   have k8 := h.mono (F ||| 2 ^ x) (F ||| 2 ^ x ||| 2 ^ g) (inc_or_l _ _)
   omega
  have h2 := h.all (s := F ||| dif R C ||| 2 ^ x) C hCl fun j hj => h.stay (s := F ||| 2 ^ x) (inc_or ((inc_or_l _ _).trans (inc_or_l _ _)) (inc_or_r _ _)) ((cb j).1 hj).2
  have h3 := h.step (F ||| dif R C) x
  have h4 := h.mono (F ||| R) (F ||| dif R C ||| 2 ^ x ||| C) (inc_or ((inc_or_l _ _).trans ((inc_or_l _ _).trans (inc_or_l _ _))) fun j hj => by
   rcases Bool.eq_false_or_eq_true (C.testBit j) with q | q
   ·exact inc_or_r _ _ j q
   ·exact ((inc_or_r _ _).trans ((inc_or_l _ _).trans (inc_or_l _ _))) j ((hdb j).2 ⟨hj, q⟩))
  omega
/-- How many make a flat alone. -/
theorem RkF.sgm_ge (hcf : ∀ i, E.testBit i = true → r (dif E (2 ^ i)) = r E) {F : Nat} (hF : FF r E F) :
  cnt 8 (sgm r E F) = 0 ∧ 2 * r E ≤ r F + cnt 8 E ∨ 1 ≤ cnt 8 (sgm r E F) ∧ 2 * r E + 2 ≤ r F + cnt 8 E + cnt 8 (sgm r E F) := by
 have hFl := hF.1.1.lt hE
 have hb := fun j => sgm_bit (r := r) hE (F := F) (j := j)
 have hHl : sgm r E F < 2 ^ 8 := mkset_lt 8 _
 generalize sgm r E F = H at *
 obtain ⟨R, hR⟩ : ∃ R, R = dif (dif E F) H := ⟨_, rfl⟩
 have rb : ∀ j, R.testBit j = true ↔ (E.testBit j = true ∧ F.testBit j = false) ∧ H.testBit j = false := fun j => by
  rw [hR, testBit_dif, testBit_dif]
  simp only [Bool.and_eq_true, Bool.not_eq_true']
 have hRE : Inc R E := fun j hj => ((rb j).1 hj).1.1
 have hRl := hRE.lt hE
 have p1 := h.pairs hE hF.1 _ R (Nat.le_refl _) hRE fun x hx => by
  obtain ⟨⟨x1, x2⟩, x3⟩ := (rb x).1 hx
  refine ⟨x2, ?_⟩
  have hnf : ¬ Fl r E (F ||| 2 ^ x) := fun w => bit_false.1 x3 ((hb x).2 ⟨⟨x1, x2⟩, w⟩)
  have hex : ∃ y, E.testBit y = true ∧ (F ||| 2 ^ x).testBit y = false ∧ r (F ||| 2 ^ x ||| 2 ^ y) = r (F ||| 2 ^ x) := Classical.byContradiction fun q => hnf ⟨inc_or hF.1.1 (inc_pow x1), fun y y1 y2 e => q ⟨y, y1, y2, e⟩⟩
  obtain ⟨y, y1, y2, y3⟩ := hex
  have yF : F.testBit y = false := bit_false.2 fun z => bit_false.1 y2 (or_bit.2 (.inl z))
  have yx : x ≠ y := fun e => bit_false.1 y2 (or_bit.2 (.inr e))
  refine ⟨y, (rb y).2 ⟨⟨y1, yF⟩, bit_false.2 fun w => ?_⟩, Ne.symm yx, y3⟩
  have k1 := ((hb y).1 w).2.2 x x1 (bit_false.2 fun z => by
   rcases or_bit.1 z with q | q
   ·exact bit_false.1 x2 q
   ·exact yx q.symm)
  have k2 := h.up1 (hF.1.2 x x1 x2)
  have k3 := h.up1 (hF.1.2 y y1 yF)
  rw [or_swap, y3, k2, k3] at k1
  exact k1 rfl
 -- sizes
 have s1 := cnt_split 8 E F
 have e1 : E &&& F = F := by rw [Nat.and_comm]; exact (sub_iff_and F E).2 hF.1.1
 have s2 := cnt_split 8 (dif E F) H
 have e2 : dif E F &&& H = H := by
  rw [Nat.and_comm]
  refine (sub_iff_and H _).2 fun j hj => ?_
  rw [testBit_dif, ((hb j).1 hj).1.1, ((hb j).1 hj).1.2]; rfl
 rw [e1] at s1
 rw [e2, ← hR] at s2
 have hf := hF.2
 have cover : ∀ X, (∀ j, H.testBit j = true → X.testBit j = true ∨ False) → Inc E (F ||| R ||| X) := fun X hX j hj => by
  rw [Nat.testBit_or, Nat.testBit_or, Bool.or_eq_true, Bool.or_eq_true]
  rcases Bool.eq_false_or_eq_true (F.testBit j) with q | q
  ·exact .inl (.inl q)
  ·rcases Bool.eq_false_or_eq_true (H.testBit j) with w | w
   ·exact .inr ((hX j w).resolve_right id)
   ·exact .inl (.inr ((rb j).2 ⟨⟨hj, q⟩, w⟩))
 have m1 := h.mono E _ (cover H fun j hj => .inl hj)
 have m2 := h.add (F ||| R) H hHl
 rcases Nat.eq_zero_or_pos (cnt 8 H) with c0 | c0
 ·exact .inl ⟨c0, by omega⟩
 ·refine .inr ⟨c0, ?_⟩
  obtain ⟨x, hx⟩ := exists_bit (c := H) fun e => by rw [e, cnt_zero] at c0; omega
  have c1 := cnt_dif hHl hx
  have m3 := h.add (F ||| R) (dif H (2 ^ x)) (dif_lt hHl)
  have hxE := ((hb x).1 hx).1.1
  have m4 := h.mono (dif E (2 ^ x)) (F ||| R ||| dif H (2 ^ x)) fun j hj => by
   obtain ⟨j1, j2⟩ := dif_bit.1 hj
   rw [Nat.testBit_or, Nat.testBit_or, Bool.or_eq_true, Bool.or_eq_true]
   rcases Bool.eq_false_or_eq_true (F.testBit j) with q | q
   ·exact .inl (.inl q)
   ·rcases Bool.eq_false_or_eq_true (H.testBit j) with w | w
    ·exact .inr (dif_bit.2 ⟨w, j2⟩)
    ·exact .inl (.inr ((rb j).2 ⟨⟨j1, q⟩, w⟩))
  rw [hcf x hxE] at m4
  omega
/-- A size more: no fewer. -/
theorem RkF.nF_step {i : Nat} (k : Nat) (hs : ∀ F, FF r E F → F.testBit i = true → cnt 8 F = k + 1 → k + 1 ≤ cnt 8 (sgm r E F)) : nF r E i (k + 1) ≤ nF r E i (k + 2) := by
 refine Nat.le_of_mul_le_mul_left (c := k + 1) ?_ (by omega)
 have L : (k + 1) * nF r E i (k + 1) ≤ sQ (fun F => sQ (fun j => b1 (((FF r E F ∧ F.testBit i = true) ∧ cnt 8 F = k + 1) ∧ (sgm r E F).testBit j = true)) 8) 256 := by
  unfold nF nS
  rw [← sQ_mul]
  refine sQ_le fun F hF => ?_
  by_cases q : (FF r E F ∧ F.testBit i = true) ∧ cnt 8 F = k + 1
  ·rw [b1_pos q, Nat.mul_one]
   refine Nat.le_trans (hs F q.1.1 q.1.2 q.2) (Nat.le_of_eq ?_)
   rw [cnt_sQ]
   exact sQ_congr fun j _ => b1_congr ⟨fun w => ⟨q, w⟩, fun w => w.2⟩
  ·rw [b1_neg q, Nat.mul_zero]; exact Nat.zero_le _
 have Rr : sQ (fun j => sQ (fun F => b1 (((FF r E F ∧ F.testBit i = true) ∧ cnt 8 F = k + 2) ∧ (dif F (2 ^ i)).testBit j = true)) 256) 8 ≤ (k + 1) * nF r E i (k + 2) := by
  rw [sQ_swap (fun j F => b1 (((FF r E F ∧ F.testBit i = true) ∧ cnt 8 F = k + 2) ∧ (dif F (2 ^ i)).testBit j = true))]
  unfold nF nS
  rw [← sQ_mul]
  refine sQ_le fun F hF => ?_
  by_cases q : (FF r E F ∧ F.testBit i = true) ∧ cnt 8 F = k + 2
  ·rw [b1_pos q, Nat.mul_one]
   have c := cnt_dif (m := 8) hF q.1.2
   refine Nat.le_trans (Nat.le_of_eq ?_) (show cnt 8 (dif F (2 ^ i)) ≤ k + 1 by omega)
   rw [cnt_sQ 8 (dif F (2 ^ i))]
   exact sQ_congr fun j _ => b1_congr ⟨fun w => w.2, fun w => ⟨q, w⟩⟩
  ·rw [b1_neg q, Nat.mul_zero, ← sQ_zero 8]
   exact sQ_le fun j _ => Nat.le_of_eq (b1_neg fun w => q w.1)
 refine Nat.le_trans L (Nat.le_trans ?_ Rr)
 rw [sQ_swap (fun F j => b1 (((FF r E F ∧ F.testBit i = true) ∧ cnt 8 F = k + 1) ∧ (sgm r E F).testBit j = true))]
 refine sQ_le fun j hj => ?_
 refine nS_inj (fun F => F ||| 2 ^ j) (fun F hF ⟨⟨⟨a1, a2⟩, a3⟩, a4⟩ => ?_) fun F G hF hG ⟨⟨⟨a1, a2⟩, a3⟩, a4⟩ ⟨⟨⟨b1', b2⟩, b3⟩, b4⟩ e => ?_
 ·obtain ⟨⟨j1, j2⟩, j3⟩ := (sgm_bit hE).1 a4
  have c := cnt_add (m := 8) (s := F) hj j2
  have d := h.up1 (a1.1.2 j j1 j2)
  have e := a1.2
  have hij : i ≠ j := fun e => by subst e; rw [a2] at j2; cases j2
  exact ⟨j3.lt hE, ⟨⟨⟨j3, by omega⟩, or_bit.2 (.inl a2)⟩, by omega⟩, dif_bit.2 ⟨or_bit.2 (.inr rfl), hij⟩⟩
 ·have e : F ||| 2 ^ j = G ||| 2 ^ j := e
  rw [← or_dif_new ((sgm_bit hE).1 a4).1.2, ← or_dif_new ((sgm_bit hE).1 b4).1.2, e]
end
end Go.SH
