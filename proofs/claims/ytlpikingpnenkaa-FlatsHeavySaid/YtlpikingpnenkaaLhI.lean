/-
 BRADEN, HUH, MATHERNE, PROUDFOOT, WANG up to eight elements: no fewer flats of a rank than of a lesser one as far from the top. Conditions: up to eight elements.
-/
import Derived.Test.YtlpikingpnenkaaLhH
set_option linter.unusedSimpArgs false
set_option linter.unusedVariables false
set_option linter.unusedSectionVars false
namespace Go.SH
open Go Go.AX
section
variable {r : Nat → Nat} (h : RkF r) {E : Nat} (hE : E < 2 ^ 8)
include h hE
theorem RkF.cls {F u v x : Nat} (hF : Fl r E F) (hu : E.testBit u = true ∧ F.testBit u = false) (hv : E.testBit v = true ∧ F.testBit v = false) (hx : E.testBit x = true ∧ F.testBit x = false)
  (h1 : r (F ||| 2 ^ u ||| 2 ^ x) = r (F ||| 2 ^ u)) (h2 : r (F ||| 2 ^ v ||| 2 ^ x) = r (F ||| 2 ^ v)) : r (F ||| 2 ^ u ||| 2 ^ v) = r (F ||| 2 ^ u) := by
 have ku := h.up1 (hF.2 u hu.1 hu.2)
 have kv := h.up1 (hF.2 v hv.1 hv.2)
 have kx := h.up1 (hF.2 x hx.1 hx.2)
 have a1 : r (F ||| 2 ^ x ||| 2 ^ u) = r (F ||| 2 ^ x) := by rw [or_swap, h1, ku, kx]
 have a2 : r (F ||| 2 ^ x ||| 2 ^ v) = r (F ||| 2 ^ x) := by rw [or_swap, h2, kv, kx]
 have a3 := h.stay (inc_or_l (F ||| 2 ^ x) (2 ^ u)) a2
 have a4 := h.mono (F ||| 2 ^ u ||| 2 ^ v) (F ||| 2 ^ x ||| 2 ^ u ||| 2 ^ v) (inc_or (inc_or ((inc_or_l _ _).trans ((inc_or_l _ _).trans (inc_or_l _ _))) ((inc_or_r _ _).trans (inc_or_l _ _))) (inc_or_r _ _))
 have a5 := h.mono (F ||| 2 ^ u) (F ||| 2 ^ u ||| 2 ^ v) (inc_or_l _ _)
 omega
theorem RkF.more {A : Nat} (hlt : r A < r E) : ∃ x, E.testBit x = true ∧ r (A ||| 2 ^ x) = r A + 1 := by
 refine Classical.byContradiction fun q => ?_
 have := h.all (s := A) E hE fun i hi => Classical.byContradiction fun w => q ⟨i, hi, h.up1 w⟩
 have := h.mono E (A ||| E) (inc_or_r _ _)
 omega
/-- Nobody is alone over a line: three pairs. -/
theorem RkF.cfg (h5 : r E = 5) {F : Nat} (hF : FF r E F) (c2 : cnt 8 F = 2) (h0 : cnt 8 (sgm r E F) = 0) : ∃ a b c c' d d' e e', Cfg r E a b c c' d d' e e' := by
 have hFl := hF.1.1.lt hE
 obtain ⟨a, b, ha, hb, hab⟩ := two_bits hFl (by omega)
 have rF : r F = 2 := by rw [hF.2]; exact c2
 have eF : 2 ^ a ||| 2 ^ b = F := by
  refine inc_eq_of_cnt (m := 8) (inc_or (inc_pow ha) (inc_pow hb)) hFl ?_
  rw [c2]
  exact cnt_two (or_lt (pow_lt (bit_lt hFl ha)) (pow_lt (bit_lt hFl hb))) (Nat.testBit_or _ _ _ ▸ by rw [testBit_pow]; simp) (or_bit.2 (.inr rfl)) hab
 have sz : sgm r E F = 0 := Classical.byContradiction fun q => by
  obtain ⟨x, hx⟩ := exists_bit q
  have := cnt_pos (m := 8) (c := sgm r E F) (mkset_lt 8 _) hx
  omega
 have part : ∀ x, E.testBit x = true → F.testBit x = false → ∃ y, E.testBit y = true ∧ F.testBit y = false ∧ y ≠ x ∧ r (F ||| 2 ^ x ||| 2 ^ y) = r (F ||| 2 ^ x) := fun x x1 x2 => by
  have hn : ¬ Fl r E (F ||| 2 ^ x) := fun w => by
   have := (sgm_bit (r := r) hE (F := F) (j := x)).2 ⟨⟨x1, x2⟩, w⟩
   rw [sz] at this; simp at this
  refine Classical.byContradiction fun q => hn ⟨inc_or hF.1.1 (inc_pow x1), fun y y1 y2 e => q ⟨y, y1, bit_false.2 fun z => bit_false.1 y2 (or_bit.2 (.inl z)), fun z => bit_false.1 y2 (or_bit.2 (.inr z.symm)), e⟩⟩
 have new : ∀ {A x : Nat}, Inc F A → r (A ||| 2 ^ x) = r A + 1 → F.testBit x = false := fun {A x} hA e => bit_false.2 fun w => by
  rw [or_self_bit (hA x w)] at e; omega
 obtain ⟨c, ec, rc⟩ := h.more hE (A := F) (by omega)
 have fc := new (Inc.refl F) rc
 obtain ⟨d, ed, rd⟩ := h.more hE (A := F ||| 2 ^ c) (by omega)
 have fd := new (inc_or_l _ _) rd
 obtain ⟨e, ee, re⟩ := h.more hE (A := F ||| 2 ^ c ||| 2 ^ d) (by omega)
 have fe := new ((inc_or_l _ _).trans (inc_or_l _ _)) re
 obtain ⟨c', ec', fc', nc, pc⟩ := part c ec fc
 obtain ⟨d', ed', fd', nd, pd⟩ := part d ed fd
 obtain ⟨e', ee', fe', ne, pe⟩ := part e ee fe
 have ud := h.up1 (hF.1.2 d ed fd)
 have ue := h.up1 (hF.1.2 e ee fe)
 have rce : r (F ||| 2 ^ c ||| 2 ^ e) = 4 := by
  have k1 := h.step (F ||| 2 ^ c ||| 2 ^ e) d
  rw [or_swap] at k1
  have k2 := h.step (F ||| 2 ^ c) e
  omega
 have rde : r (F ||| 2 ^ d ||| 2 ^ e) = 4 := by
  have k1 := h.step (F ||| 2 ^ d ||| 2 ^ e) c
  have k3 : F ||| 2 ^ d ||| 2 ^ e ||| 2 ^ c = F ||| 2 ^ c ||| 2 ^ d ||| 2 ^ e := by rw [or_swap (F ||| 2 ^ d), or_swap F]
  rw [k3] at k1
  have k2 := h.step (F ||| 2 ^ d) e
  omega
 have inF : ∀ x y, F.testBit x = true → F.testBit y = false → x ≠ y := fun x y h1 h2 e => by subst e; rw [h1] at h2; cases h2
 -- in one pair only
 have sep : ∀ u v x, (E.testBit u = true ∧ F.testBit u = false) → (E.testBit v = true ∧ F.testBit v = false) → (E.testBit x = true ∧ F.testBit x = false) → r (F ||| 2 ^ u ||| 2 ^ v) = 4 → r (F ||| 2 ^ u ||| 2 ^ x) = r (F ||| 2 ^ u) → r (F ||| 2 ^ v ||| 2 ^ x) = r (F ||| 2 ^ v) → False := fun u v x hu hv hx k k1 k2 => by
  have := h.cls hE hF.1 hu hv hx k1 k2
  have := h.up1 (hF.1.2 u hu.1 hu.2)
  omega
 have self : ∀ x, r (F ||| 2 ^ x ||| 2 ^ x) = r (F ||| 2 ^ x) := fun x => by rw [or_self_bit (or_bit.2 (.inr rfl))]
 have n1 : c ≠ d := fun q => by subst q; exact sep c c c ⟨ec, fc⟩ ⟨ec, fc⟩ ⟨ec, fc⟩ (by omega) (self c) (self c)
 have n2 : c ≠ d' := fun q => by subst q; exact sep c d c ⟨ec, fc⟩ ⟨ed, fd⟩ ⟨ec, fc⟩ (by omega) (self c) pd
 have n3 : c' ≠ d := fun q => by subst q; exact sep c c' c' ⟨ec, fc⟩ ⟨ed, fd⟩ ⟨ed, fd⟩ (by omega) pc (self c')
 have n4 : c' ≠ d' := fun q => by subst q; exact sep c d c' ⟨ec, fc⟩ ⟨ed, fd⟩ ⟨ec', fc'⟩ (by omega) pc pd
 have n5 : c ≠ e := fun q => by subst q; exact sep c c c ⟨ec, fc⟩ ⟨ec, fc⟩ ⟨ec, fc⟩ (by omega) (self c) (self c)
 have n6 : c ≠ e' := fun q => by subst q; exact sep c e c ⟨ec, fc⟩ ⟨ee, fe⟩ ⟨ec, fc⟩ rce (self c) pe
 have n7 : c' ≠ e := fun q => by subst q; exact sep c c' c' ⟨ec, fc⟩ ⟨ee, fe⟩ ⟨ee, fe⟩ rce pc (self c')
 have n8 : c' ≠ e' := fun q => by subst q; exact sep c e c' ⟨ec, fc⟩ ⟨ee, fe⟩ ⟨ec', fc'⟩ rce pc pe
 have n9 : d ≠ e := fun q => by subst q; exact sep d d d ⟨ed, fd⟩ ⟨ed, fd⟩ ⟨ed, fd⟩ (by omega) (self d) (self d)
 have n10 : d ≠ e' := fun q => by subst q; exact sep d e d ⟨ed, fd⟩ ⟨ee, fe⟩ ⟨ed, fd⟩ rde (self d) pe
 have n11 : d' ≠ e := fun q => by subst q; exact sep d d' d' ⟨ed, fd⟩ ⟨ee, fe⟩ ⟨ee, fe⟩ rde pd (self d')
 have n12 : d' ≠ e' := fun q => by subst q; exact sep d e d' ⟨ed, fd⟩ ⟨ee, fe⟩ ⟨ed', fd'⟩ rde pd pe
 have m1 := fun y hy => inF a y ha hy
 have m2 := fun y hy => inF b y hb hy
 have hnd : [a, b, c, c', d, d', e, e'].Nodup := by
  have := m1 c fc; have := m1 c' fc'; have := m1 d fd; have := m1 d' fd'; have := m1 e fe; have := m1 e' fe'
  have := m2 c fc; have := m2 c' fc'; have := m2 d fd; have := m2 d' fd'; have := m2 e fe; have := m2 e' fe'
  simp; grind
 have inE : ∀ j, j ∈ [a, b, c, c', d, d', e, e'] → E.testBit j = true := fun j hj => by
  simp only [List.mem_cons, List.not_mem_nil, or_false] at hj
  rcases hj with rfl | rfl | rfl | rfl | rfl | rfl | rfl | rfl
  ·exact hF.1.1 _ ha
  ·exact hF.1.1 _ hb
  all_goals assumption
 refine ⟨a, b, c, c', d, d', e, e', hnd, fun j => ⟨fun hj => Classical.byContradiction fun q => ?_, inE j⟩, ?_, ?_, ?_, ?_, ?_⟩
 ·have := len_leS (P := j :: [a, b, c, c', d, d', e, e']) (Q := List.range 8) (List.nodup_cons.2 ⟨q, hnd⟩) fun x hx => by
   rw [List.mem_range]
   rcases List.mem_cons.1 hx with w | w
   ·rw [w]; exact bit_lt hE hj
   ·exact bit_lt hE (inE x w)
  simp at this
 ·rw [eF]; omega
 ·rw [eF]; exact hF.1
 ·rw [eF]; omega
 ·rw [eF]; omega
 ·rw [eF]; omega
/-- An element to choose. -/
theorem RkF.pick (hs : Smp r E) (hcf : ∀ i, E.testBit i = true → r (dif E (2 ^ i)) = r E) {a b : Nat} (ha : 2 ≤ a) (hab : a < b) (hr : a + b ≤ r E) : ∃ i, E.testBit i = true ∧ sN r E i (a - 1) ≤ sN r E i (b - 1) := by
 have h8 := cnt_le 8 E
 obtain ⟨i, hi⟩ := exists_bit (c := E) fun q => by rw [q, h.zero] at hr; omega
 have hrn : r E + 1 ≤ cnt 8 E := by
  have c1 := cnt_dif hE hi
  have c2 := h.le (b := dif E (2 ^ i)) (dif_lt hE)
  rw [hcf i hi] at c2
  omega
 by_cases sp : r E = 5 ∧ ∃ F, FF r E F ∧ cnt 8 F = 2 ∧ cnt 8 (sgm r E F) = 0
 ·obtain ⟨h5, F, f1, f2, f3⟩ := sp
  obtain ⟨x, y, c, c', d, d', e, e', k⟩ := h.cfg hE h5 f1 f2 f3
  refine ⟨c, (k.cov c).2 (by simp), ?_⟩
  rw [show a = 2 by omega, show b = 3 by omega]
  exact k.choose h hE hs
 refine ⟨i, hi, ?_⟩
 have step : ∀ k, 1 ≤ k → k + 4 ≤ r E → nF r E i (k + 1) ≤ nF r E i (k + 2) := fun k k1 k2 => h.nF_step hE k fun F f1 f2 f3 => by
  have hrf : r F = k + 1 := by rw [f1.2, f3]
  rcases h.sgm_ge hE hcf f1 with ⟨g1, g2⟩ | ⟨g1, g2⟩
  ·exfalso
   refine sp ⟨by omega, F, f1, by omega, g1⟩
  ·omega
 have chain : ∀ d, d + 4 ≤ r E → nF r E i 2 ≤ nF r E i (d + 2) := by
  intro d
  induction d with
  | zero => intro _; exact Nat.le_refl _
  | succ d ih => intro hd; exact Nat.le_trans (ih (by omega)) (step (d + 1) (by omega) (by omega))
 have last := h.nF_le hE (i := i) (b - 1)
 rw [show b - 1 + 1 = b by omega] at last
 rcases Nat.lt_or_ge a 3 with q | q
 ·have e : a = 2 := by omega
  subst e
  refine Nat.le_trans (h.sN_one hE hs hi) (Nat.le_trans ?_ last)
  have := chain (b - 2) (by omega)
  rwa [show b - 2 + 2 = b by omega] at this
 ·have e1 : a = 3 := by omega
  have e2 : b = 4 := by omega
  subst e1 e2
  refine Nat.le_trans ?_ (Nat.le_trans (step 2 (by omega) (by omega)) last)
  refine nS_inj (fun G => G ||| 2 ^ i) (fun G hG ⟨⟨a1, a2, a3⟩, a4⟩ => ?_) fun F G hF hG ⟨⟨a1, a2, a3⟩, a4⟩ ⟨⟨b1', b2, b3⟩, b4⟩ e => ?_
  ·have u := h.up1 (a1.2 i hi a2)
   have hK := a3.lt hE
   obtain ⟨x, x1, x2⟩ := h.more hE (A := G ||| 2 ^ i) (by omega)
   have x3 : (G ||| 2 ^ i).testBit x = false := bit_false.2 fun w => by rw [or_self_bit w] at x2; omega
   have c1 := cnt_dif hE x1
   have c2 := cnt_split 8 (dif E (2 ^ x)) (G ||| 2 ^ i)
   have e3 : dif E (2 ^ x) &&& (G ||| 2 ^ i) = G ||| 2 ^ i := by
    rw [Nat.and_comm]
    refine (sub_iff_and _ _).2 fun j hj => dif_bit.2 ⟨a3.1 j hj, fun w => ?_⟩
    subst w; rw [hj] at x3; cases x3
   rw [e3] at c2
   have c3 := h.add (G ||| 2 ^ i) (dif (dif E (2 ^ x)) (G ||| 2 ^ i)) (dif_lt (dif_lt hE))
   have c4 := h.mono (dif E (2 ^ x)) (G ||| 2 ^ i ||| dif (dif E (2 ^ x)) (G ||| 2 ^ i)) fun j hj => by
    rw [Nat.testBit_or (G ||| 2 ^ i), testBit_dif, hj]; cases (G ||| 2 ^ i).testBit j <;> rfl
   rw [hcf x x1] at c4
   have c5 := h.le hK
   exact ⟨hK, ⟨⟨a3, by omega⟩, or_bit.2 (.inr rfl)⟩, by omega⟩
  ·have e : F ||| 2 ^ i = G ||| 2 ^ i := e
   rw [← or_dif_new a2, ← or_dif_new b2, e]
end
/-- No fewer flats of a rank than of a lesser one as far from the top. -/
theorem RkF.heavy {r : Nat → Nat} (h : RkF r) : ∀ (n E : Nat), cnt 8 E ≤ n → E < 2 ^ 8 → ∀ a b, a ≤ b → a + b ≤ r E → Wn r E a ≤ Wn r E b := by
 intro n
 induction n with
 | zero =>
  intro E hn hE a b hab hr
  have := h.le hE
  rw [show a = b by omega]; exact Nat.le_refl _
 | succ n ih =>
  intro E hn hE a b hab hr
  rcases Nat.eq_zero_or_pos a with a0 | a0
  ·subst a0; exact h.W_zero hE (by omega)
  rcases Nat.lt_or_ge a 2 with a1 | a1
  ·rw [show a = 1 by omega]; exact h.W_one hE (by omega) (by omega)
  rcases Nat.lt_or_ge a b with q | q
  rotate_left
  ·rw [show a = b by omega]; exact Nat.le_refl _
  have less : ∀ i, E.testBit i = true → cnt 8 (dif E (2 ^ i)) ≤ n ∧ dif E (2 ^ i) < 2 ^ 8 := fun i hi => by
   have := cnt_dif hE hi
   exact ⟨by omega, dif_lt hE⟩
  have ea : a = a - 1 + 1 := by omega
  have eb : b = b - 1 + 1 := by omega
  have go : ∀ i, E.testBit i = true → r (dif E (2 ^ i)) = r E → sN r E i (a - 1) ≤ sN r E i (b - 1) → Wn r E a ≤ Wn r E b := fun i hi hri hsi => by
   have h1 := h.W_del hE hi (a - 1)
   have h2 := h.W_del hE hi (b - 1)
   rw [← ea] at h1
   rw [← eb] at h2
   have h3 := ih _ (less i hi).1 (less i hi).2 a b hab (by omega)
   omega
  by_cases hs : Smp r E
  rotate_left
  ·obtain ⟨i, i1, i2, i3⟩ := h.not_smp hE hs
   exact go i i1 i2 (by rw [i3, i3]; exact Nat.le_refl _)
  by_cases hc : ∃ i, E.testBit i = true ∧ r (dif E (2 ^ i)) < r E
  ·obtain ⟨i, i1, i2⟩ := hc
   have h1 := h.W_col hE i1 i2 (a - 1)
   have h2 := h.W_col hE i1 i2 (b - 1)
   rw [← ea] at h1
   rw [← eb] at h2
   have hst := h.step (dif E (2 ^ i)) i
   rw [dif_or i1] at hst
   have h3 := ih _ (less i i1).1 (less i i1).2 a (b - 1) (by omega) (by omega)
   have h4 := ih _ (less i i1).1 (less i i1).2 (a - 1) b (by omega) (by omega)
   omega
  ·have hcf : ∀ i, E.testBit i = true → r (dif E (2 ^ i)) = r E := fun i hi => by
    have := h.mono (dif E (2 ^ i)) E (inc_dif _ _)
    rcases Nat.lt_or_ge (r (dif E (2 ^ i))) (r E) with w | w
    ·exact absurd ⟨i, hi, w⟩ hc
    ·omega
   obtain ⟨i, i1, i2⟩ := h.pick hE hs hcf a1 q hr
   exact go i i1 (hcf i i1) i2
end Go.SH
