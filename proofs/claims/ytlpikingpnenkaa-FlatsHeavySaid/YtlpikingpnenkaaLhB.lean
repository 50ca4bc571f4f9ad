/-
 Flats of a rank function within a set; MOTZKIN: no fewer flats of a rank than of the one above the least. Conditions: none.
-/
import Derived.Test.YtlpikingpnenkaaLhA
set_option linter.unusedSimpArgs false
set_option linter.unusedVariables false
set_option linter.unusedSectionVars false
namespace Go.SH
open Go Go.AX
/-- A flat of what lies within E. -/
def Fl (r : Nat → Nat) (E F : Nat) : Prop := Inc F E ∧ ∀ i, E.testBit i = true → F.testBit i = false → r (F ||| 2 ^ i) ≠ r F
/-- The closure within E. -/
def clE (r : Nat → Nat) (E A : Nat) : Nat := mkset 8 fun i => E.testBit i && decide (r (A ||| 2 ^ i) = r A)
/-- How many flats of rank k. -/
noncomputable def Wn (r : Nat → Nat) (E k : Nat) : Nat := nS fun F => Fl r E F ∧ r F = k
theorem or_bit {a i j : Nat} : (a ||| 2 ^ i).testBit j = true ↔ a.testBit j = true ∨ i = j := by
 rw [Nat.testBit_or, testBit_pow, Bool.or_eq_true, decide_eq_true_eq]
theorem dif_bit {a i j : Nat} : (dif a (2 ^ i)).testBit j = true ↔ a.testBit j = true ∧ i ≠ j := by
 rw [testBit_dif, testBit_pow, Bool.and_eq_true, Bool.not_eq_true', decide_eq_false_iff_not]
theorem bit_false {a j : Nat} : a.testBit j = false ↔ ¬ a.testBit j = true := by simp
theorem or_self_bit {a i : Nat} (h : a.testBit i = true) : a ||| 2 ^ i = a := by rw [Nat.or_comm, or_eq_iff]; exact inc_pow h
theorem dif_none {a i : Nat} (h : a.testBit i = false) : dif a (2 ^ i) = a := bx fun j => by
 rw [testBit_dif, testBit_pow]
 by_cases e : i = j
 ·subst e; rw [h]; rfl
 ·simp [e]
theorem or_dif_new {a i : Nat} (h : a.testBit i = false) : dif (a ||| 2 ^ i) (2 ^ i) = a := bx fun j => by
 rw [testBit_dif, Nat.testBit_or, testBit_pow]
 by_cases e : i = j
 ·subst e; rw [h]; simp
 ·simp [e]
section
variable {r : Nat → Nat} (h : RkF r)
include h
theorem RkF.stay {s t i : Nat} (hst : Inc s t) (he : r (s ||| 2 ^ i) = r s) : r (t ||| 2 ^ i) = r t := by
 have h1 := h.sub t (s ||| 2 ^ i)
 have e : t ||| (s ||| 2 ^ i) = t ||| 2 ^ i := by
  rw [← Nat.or_assoc, Nat.or_comm t s, (or_eq_iff s t).2 hst]
 have h2 := h.mono s (t &&& (s ||| 2 ^ i)) (inc_and hst (inc_or_l _ _))
 have h3 := h.mono t (t ||| 2 ^ i) (inc_or_l _ _)
 rw [e, he] at h1
 omega
theorem RkF.all {s : Nat} : ∀ t, t < 2 ^ 8 → (∀ i, t.testBit i = true → r (s ||| 2 ^ i) = r s) → r (s ||| t) = r s := by
 refine set_ind (m := 8) _ ?_ ?_
 ·intro _; simp
 ·intro t i ht hi hb ih hall
  rw [← Nat.or_assoc]
  have e1 := ih fun j hj => hall j (or_bit.2 (.inl hj))
  have e2 := h.stay (inc_or_l s t) (hall i (or_bit.2 (.inr rfl)))
  rw [e2, e1]
theorem RkF.up1 {s i : Nat} (hn : r (s ||| 2 ^ i) ≠ r s) : r (s ||| 2 ^ i) = r s + 1 := by
 have := h.step s i
 have := h.mono s (s ||| 2 ^ i) (inc_or_l _ _)
 omega
variable {E : Nat} (hE : E < 2 ^ 8)
omit h in
include hE in
theorem clE_bit {A i : Nat} : (clE r E A).testBit i = true ↔ E.testBit i = true ∧ r (A ||| 2 ^ i) = r A := by
 unfold clE
 rw [mkset_bit]
 simp only [Bool.and_eq_true, decide_eq_true_eq]
 exact ⟨fun w => w.2, fun w => ⟨bit_lt hE w.1, w⟩⟩
omit h in
theorem clE_lt (A : Nat) : clE r E A < 2 ^ 8 := mkset_lt 8 _
omit h in
include hE in
theorem clE_E (A : Nat) : Inc (clE r E A) E := fun i hi => ((clE_bit hE).1 hi).1
omit h in
include hE in
theorem clE_inc {A : Nat} (hA : Inc A E) : Inc A (clE r E A) := fun i hi => (clE_bit hE).2 ⟨hA i hi, by rw [or_self_bit hi]⟩
include hE in
theorem RkF.cl_rk {A : Nat} (hA : Inc A E) : r (clE r E A) = r A := by
 have := h.all (s := A) (clE r E A) (clE_lt A) fun i hi => ((clE_bit hE).1 hi).2
 rwa [(or_eq_iff A _).2 (clE_inc hE hA)] at this
include hE in
theorem RkF.cl_fl {A : Nat} (hA : Inc A E) : Fl r E (clE r E A) := by
 refine ⟨clE_E hE A, fun i hi hn e => ?_⟩
 rw [h.cl_rk hE hA] at e
 refine bit_false.1 hn ((clE_bit hE).2 ⟨hi, ?_⟩)
 have h1 := h.mono (A ||| 2 ^ i) (clE r E A ||| 2 ^ i) (inc_or ((clE_inc hE hA).trans (inc_or_l _ _)) (inc_or_r _ _))
 have h2 := h.mono A (A ||| 2 ^ i) (inc_or_l _ _)
 omega
omit h in
theorem Fl.lt (hE : E < 2 ^ 8) {F : Nat} (hF : Fl r E F) : F < 256 := hF.1.lt hE
include hE in
theorem RkF.cl_sub {A F : Nat} (hF : Fl r E F) (hA : Inc A F) : Inc (clE r E A) F := fun i hi => by
 obtain ⟨h1, h2⟩ := (clE_bit hE).1 hi
 rcases Bool.eq_false_or_eq_true (F.testBit i) with q | q
 ·exact q
 ·exact absurd (h.stay hA h2) (hF.2 i h1 q)
include hE in
/-- A flat within another one of its rank is it. -/
theorem RkF.fl_eq {F G : Nat} (hF : Fl r E F) (hG : Fl r E G) (hi : Inc F G) (hr : r G ≤ r F) : F = G := by
 refine Inc.antisymm hi fun i hi' => ?_
 rcases Bool.eq_false_or_eq_true (F.testBit i) with q | q
 ·exact q
 ·have h1 := hF.2 i (hG.1 i hi') q
  have h2 := h.mono (F ||| 2 ^ i) G (inc_or hi (inc_pow hi'))
  have h3 := h.up1 h1
  omega
include hE in
/-- One element more. -/
theorem RkF.cl_one {F i : Nat} (hF : Fl r E F) (hi : E.testBit i = true) (hn : F.testBit i = false) : Fl r E (clE r E (F ||| 2 ^ i)) ∧ r (clE r E (F ||| 2 ^ i)) = r F + 1 ∧ Inc F (clE r E (F ||| 2 ^ i)) ∧ (clE r E (F ||| 2 ^ i)).testBit i = true := by
 have hA : Inc (F ||| 2 ^ i) E := inc_or hF.1 (inc_pow hi)
 have hin := clE_inc (r := r) hE hA
 exact ⟨h.cl_fl hE hA, by rw [h.cl_rk hE hA, h.up1 (hF.2 i hi hn)], (inc_or_l _ _).trans hin, hin i (or_bit.2 (.inr rfl))⟩
include hE in
theorem RkF.fl_ext : ∀ (d : Nat) {F : Nat}, Fl r E F → r F + d ≤ r E → ∃ G, Fl r E G ∧ Inc F G ∧ r G = r F + d
 | 0, F, hF, _ => ⟨F, hF, Inc.refl F, rfl⟩
 | d + 1, F, hF, hd => by
  have hex : ∃ i, E.testBit i = true ∧ F.testBit i = false := Classical.byContradiction fun q => by
   have : Inc E F := fun i hi => by
    rcases Bool.eq_false_or_eq_true (F.testBit i) with w | w
    ·exact w
    ·exact absurd ⟨i, hi, w⟩ q
   have := h.mono E F this
   omega
  obtain ⟨i, i1, i2⟩ := hex
  obtain ⟨g1, g2, g3, _⟩ := h.cl_one hE hF i1 i2
  obtain ⟨G, k1, k2, k3⟩ := RkF.fl_ext d g1 (by omega)
  exact ⟨G, k1, g3.trans k2, by omega⟩
include hE in
/-- MOTZKIN. -/
theorem RkF.motzkin : ∀ (d G : Nat), Fl r E G → r G + 1 + d + 1 ≤ r E → nS (fun F => (Fl r E F ∧ Inc G F) ∧ r F = r G + 1) ≤ nS (fun F => (Fl r E F ∧ Inc G F) ∧ r F = r G + 1 + d)
 | 0, _, _, _ => Nat.le_refl _
 | d + 1, G, hG, hd => by
  refine conway (I := fun x y => Inc x y) (fun x y hx hy hX hY hI => ?_) (fun y hy hY => ?_) (fun y hy hY => ?_) ?_
  ·obtain ⟨⟨x1, x2⟩, x3⟩ := hX
   obtain ⟨⟨y1, y2⟩, y3⟩ := hY
   have e1 : nS (fun y' => ((Fl r E y' ∧ Inc G y') ∧ r y' = r G + 1 + (d + 1)) ∧ Inc x y') = nS (fun F => (Fl r E F ∧ Inc x F) ∧ r F = r x + 1 + d) := nS_congr fun s _ => by
    constructor
    ·rintro ⟨⟨⟨a1, a2⟩, a3⟩, a4⟩; exact ⟨⟨a1, a4⟩, by omega⟩
    ·rintro ⟨⟨a1, a4⟩, a3⟩; exact ⟨⟨⟨a1, x2.trans a4⟩, by omega⟩, a4⟩
   rw [e1]
   refine Nat.le_trans ?_ (RkF.motzkin d x x1 (by omega))
   have two : ∀ a b, Fl r E a → Fl r E b → r a = r G + 1 → r b = r G + 1 → Inc G a → Inc G b → a ≠ b → r (a ||| b) = r G + 2 := by
    intro a b ha hb ra rb ga gb hne
    have q1 := h.sub a b
    have q2 := h.mono G (a &&& b) (inc_and ga gb)
    have q3 : ¬ Inc b a := fun w => hne (h.fl_eq hE hb ha w (by omega)).symm
    obtain ⟨i, i1, i2⟩ := not_inc q3
    have q4 := h.up1 (ha.2 i (hb.1 i i1) i2)
    have q5 := h.mono (a ||| 2 ^ i) (a ||| b) (inc_or (inc_or_l _ _) ((inc_pow i1).trans (inc_or_r _ _)))
    omega
   refine nS_inj (fun z => clE r E (x ||| z)) (fun z hz ⟨⟨⟨z1, z2⟩, z3⟩, z4⟩ => ?_) fun z z' hz hz' ⟨⟨⟨z1, z2⟩, z3⟩, z4⟩ ⟨⟨⟨w1, w2⟩, w3⟩, w4⟩ e => ?_
   ·have hne : x ≠ z := fun e => hI (e ▸ z4)
    have hA : Inc (x ||| z) E := inc_or x1.1 z1.1
    have := two x z x1 z1 x3 z3 x2 z2 hne
    exact ⟨clE_lt _, ⟨h.cl_fl hE hA, (inc_or_l _ _).trans (clE_inc hE hA)⟩, by rw [h.cl_rk hE hA]; omega⟩
   ·refine Classical.byContradiction fun hne => hI ?_
    have e : clE r E (x ||| z) = clE r E (x ||| z') := e
    have hA : Inc (x ||| z) E := inc_or x1.1 z1.1
    have hA' : Inc (x ||| z') E := inc_or x1.1 w1.1
    have hx2 : x ≠ z := fun e => hI (e ▸ z4)
    have k1 := two x z x1 z1 x3 z3 x2 z2 hx2
    have k2 := two z z' z1 w1 z3 w3 z2 w2 hne
    have hZ : Inc (z ||| z') E := inc_or z1.1 w1.1
    have k3 : Inc (clE r E (z ||| z')) (clE r E (x ||| z)) := h.cl_sub hE (h.cl_fl hE hA) (inc_or ((inc_or_r _ _).trans (clE_inc hE hA)) (by rw [e]; exact (inc_or_r _ _).trans (clE_inc hE hA')))
    have k4 := h.fl_eq hE (h.cl_fl hE hZ) (h.cl_fl hE hA) k3 (by rw [h.cl_rk hE hA, h.cl_rk hE hZ]; omega)
    have k5 : Inc (clE r E (z ||| z')) y := h.cl_sub hE y1 (inc_or z4 w4)
    rw [k4] at k5
    exact ((inc_or_l _ _).trans (clE_inc hE hA)).trans k5
  ·obtain ⟨⟨y1, y2⟩, y3⟩ := hY
   have : ¬ Inc E y := fun w => by have := h.mono E y w; omega
   obtain ⟨i, i1, i2⟩ := not_inc this
   have hn : G.testBit i = false := by
    rcases Bool.eq_false_or_eq_true (G.testBit i) with q | q
    ·rw [y2 i q] at i2; cases i2
    ·exact q
   obtain ⟨g1, g2, g3, g4⟩ := h.cl_one hE hG i1 hn
   exact ⟨_, clE_lt _, ⟨⟨g1, g3⟩, g2⟩, fun w => by rw [w i g4] at i2; cases i2⟩
  ·obtain ⟨⟨y1, y2⟩, y3⟩ := hY
   have : ¬ Inc y G := fun w => by have := h.mono y G w; omega
   obtain ⟨i, i1, i2⟩ := not_inc this
   obtain ⟨g1, g2, g3, g4⟩ := h.cl_one hE hG (y1.1 i i1) i2
   exact ⟨_, clE_lt _, ⟨⟨g1, g3⟩, g2⟩, h.cl_sub hE y1 (inc_or y2 (inc_pow i1))⟩
  ·obtain ⟨y, a1, a2, a3⟩ := h.fl_ext hE (1 + (d + 1)) hG (by omega)
   exact ⟨y, a1.lt hE, ⟨a1, a2⟩, by omega⟩
include hE in
theorem RkF.fl0 : Fl r E (clE r E 0) ∧ r (clE r E 0) = 0 ∧ ∀ F, Fl r E F → Inc (clE r E 0) F :=
 ⟨h.cl_fl hE (inc_zero E), by rw [h.cl_rk hE (inc_zero E), h.zero], fun F hF => h.cl_sub hE hF (inc_zero F)⟩
include hE in
theorem RkF.W_one {b : Nat} (hb : 1 ≤ b) (hr : b + 1 ≤ r E) : Wn r E 1 ≤ Wn r E b := by
 obtain ⟨f1, f2, f3⟩ := h.fl0 hE
 have := h.motzkin hE (b - 1) _ f1 (by omega)
 rw [f2] at this
 unfold Wn
 refine Nat.le_trans (Nat.le_of_eq (nS_congr fun s _ => ⟨fun w => ⟨⟨w.1, f3 s w.1⟩, by omega⟩, fun w => ⟨w.1.1, by omega⟩⟩)) (Nat.le_trans this (Nat.le_of_eq (nS_congr fun s _ => ⟨fun w => ⟨w.1.1, by omega⟩, fun w => ⟨⟨w.1, f3 s w.1⟩, by omega⟩⟩)))
include hE in
theorem RkF.W_zero {b : Nat} (hr : b ≤ r E) : Wn r E 0 ≤ Wn r E b := by
 obtain ⟨f1, f2, f3⟩ := h.fl0 hE
 have h1 : Wn r E 0 ≤ 1 := nS_le_list (L := [clE r E 0]) fun s hs w => by
  rw [List.mem_singleton]
  exact (h.fl_eq hE f1 w.1 (f3 s w.1) (by omega)).symm
 obtain ⟨y, a1, a2, a3⟩ := h.fl_ext hE b f1 (by omega)
 have h2 : 1 ≤ Wn r E b := nS_pos (a1.lt hE) ⟨a1, by omega⟩
 omega
end
end Go.SH
