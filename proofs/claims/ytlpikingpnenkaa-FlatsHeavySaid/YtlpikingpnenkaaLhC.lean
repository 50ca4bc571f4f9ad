/-
 Flats with an element less: deletion, coloops, loops and parallel elements. Conditions: none.
-/
import Derived.Test.YtlpikingpnenkaaLhB
set_option linter.unusedSimpArgs false
set_option linter.unusedVariables false
set_option linter.unusedSectionVars false
namespace Go.SH
open Go Go.AX
/-- Flats without i that are flats with i, too. -/
noncomputable def sN (r : Nat → Nat) (E i k : Nat) : Nat := nS fun G => (Fl r E G ∧ G.testBit i = false ∧ Fl r E (G ||| 2 ^ i)) ∧ r G = k
theorem two_add {a b c d : Nat} (h : a = b) (k : c = d) : a + c = b + d := by rw [h, k]
theorem nS_none {P : Nat → Prop} (h : ∀ s, s < 256 → ¬ P s) : nS P = 0 := by
 have := nS_le_list (P := P) (L := []) fun s hs hp => absurd hp (h s hs)
 simpa using this
section
variable {r : Nat → Nat} (h : RkF r) {E : Nat} (hE : E < 2 ^ 8) {i : Nat} (hi : E.testBit i = true)
include h hE hi
theorem RkF.fl_ab {F : Nat} (hF : Fl r E F) (hn : ¬ (F.testBit i = true ∧ Fl r E (dif F (2 ^ i)))) : r (dif F (2 ^ i)) = r F ∧ Fl r (dif E (2 ^ i)) (dif F (2 ^ i)) := by
 have hin : Inc (dif F (2 ^ i)) (dif E (2 ^ i)) := fun j hj => by
  have := dif_bit.1 hj
  exact dif_bit.2 ⟨hF.1 j this.1, this.2⟩
 have step : ∀ j, (dif E (2 ^ i)).testBit j = true → (dif F (2 ^ i)).testBit j = false → r (dif F (2 ^ i) ||| 2 ^ j) ≠ r (dif F (2 ^ i)) := fun j hj hjn e => by
  obtain ⟨j1, j2⟩ := dif_bit.1 hj
  have hFj : F.testBit j = false := bit_false.2 fun w => bit_false.1 hjn (dif_bit.2 ⟨w, j2⟩)
  exact hF.2 j j1 hFj (h.stay (inc_dif _ _) e)
 refine ⟨?_, hin, step⟩
 rcases Bool.eq_false_or_eq_true (F.testBit i) with q | q
 ·have : ¬ Fl r E (dif F (2 ^ i)) := fun w => hn ⟨q, w⟩
  have hex : r (dif F (2 ^ i) ||| 2 ^ i) = r (dif F (2 ^ i)) := Classical.byContradiction fun w => this ⟨(inc_dif _ _).trans hF.1, fun j j1 j2 => by
   by_cases e : i = j
   ·subst e; exact w
   ·exact step j (dif_bit.2 ⟨j1, e⟩) j2⟩
  rw [dif_or q] at hex
  exact hex.symm
 ·rw [dif_none q]
/-- Deletion. -/
theorem RkF.W_del (k : Nat) : Wn r E (k + 1) = Wn r (dif E (2 ^ i)) (k + 1) + sN r E i k := by
 have hE' : dif E (2 ^ i) < 2 ^ 8 := dif_lt hE
 have hcl : ∀ F', Fl r (dif E (2 ^ i)) F' → dif (clE r E F') (2 ^ i) = F' := fun F' hF' => bx fun j => by
  rw [Bool.eq_iff_iff, dif_bit, clE_bit hE]
  constructor
  ·rintro ⟨⟨j1, j2⟩, j3⟩
   rcases Bool.eq_false_or_eq_true (F'.testBit j) with q | q
   ·exact q
   ·exact absurd j2 (hF'.2 j (dif_bit.2 ⟨j1, j3⟩) q)
  ·intro hj
   have := dif_bit.1 (hF'.1 j hj)
   exact ⟨⟨this.1, by rw [or_self_bit hj]⟩, this.2⟩
 have hEE : Inc (dif E (2 ^ i)) E := inc_dif _ _
 unfold Wn
 rw [nS_split (fun F => Fl r E F ∧ r F = k + 1) fun F => F.testBit i = true ∧ Fl r E (dif F (2 ^ i)), Nat.add_comm]
 refine two_add ?_ ?_
 ·refine Nat.le_antisymm (nS_inj (fun F => dif F (2 ^ i)) (fun F hF ⟨⟨a1, a2⟩, a3⟩ => ?_) fun F G hF hG ⟨⟨a1, a2⟩, a3⟩ ⟨⟨b1', b2⟩, b3⟩ e => ?_) (nS_inj (fun F => clE r E F) (fun F hF ⟨a1, a2⟩ => ?_) fun F G hF hG ⟨a1, a2⟩ ⟨b1', b2⟩ e => ?_)
  ·obtain ⟨c1, c2⟩ := h.fl_ab hE hi a1 a3
   exact ⟨c2.lt hE', c2, by omega⟩
  ·have e : dif F (2 ^ i) = dif G (2 ^ i) := e
   have key : ∀ j, i ≠ j → F.testBit j = G.testBit j := fun j hj => by
    have : (dif F (2 ^ i)).testBit j = (dif G (2 ^ i)).testBit j := by rw [e]
    rw [testBit_dif, testBit_dif, testBit_pow] at this
    simpa [hj] using this
   rcases Bool.eq_false_or_eq_true (F.testBit i) with q | q <;> rcases Bool.eq_false_or_eq_true (G.testBit i) with w | w
   ·exact bx fun j => by
     by_cases z : i = j
     ·subst z; rw [q, w]
     ·exact key j z
   ·exact absurd ⟨q, by rw [e, dif_none w]; exact b1'⟩ a3
   ·exact absurd ⟨w, by rw [← e, dif_none q]; exact a1⟩ b3
   ·exact bx fun j => by
     by_cases z : i = j
     ·subst z; rw [q, w]
     ·exact key j z
  ·have hFE := a1.1.trans hEE
   refine ⟨clE_lt _, ⟨h.cl_fl hE hFE, by rw [h.cl_rk hE hFE]; exact a2⟩, ?_⟩
   rw [hcl F a1]
   rintro ⟨w1, w2⟩
   have hn : F.testBit i = false := bit_false.2 fun z => (dif_bit.1 (a1.1 i z)).2 rfl
   exact w2.2 i hi hn ((clE_bit hE).1 w1).2
  ·have e : clE r E F = clE r E G := e
   rw [← hcl F a1, ← hcl G b1', e]
 ·unfold sN
  refine Nat.le_antisymm (nS_inj (fun F => dif F (2 ^ i)) (fun F hF ⟨⟨a1, a2⟩, a3, a4⟩ => ?_) fun F G hF hG ⟨⟨a1, a2⟩, a3, a4⟩ ⟨⟨b1', b2⟩, b3, b4⟩ e => ?_) (nS_inj (fun G => G ||| 2 ^ i) (fun G hG ⟨⟨a1, a2, a3⟩, a4⟩ => ?_) fun F G hF hG ⟨⟨a1, a2, a3⟩, a4⟩ ⟨⟨b1', b2, b3⟩, b4⟩ e => ?_)
  ·have hn : (dif F (2 ^ i)).testBit i = false := bit_false.2 fun z => (dif_bit.1 z).2 rfl
   have := h.up1 (a4.2 i hi hn)
   rw [dif_or a3] at this
   exact ⟨a4.lt hE, ⟨a4, hn, by rw [dif_or a3]; exact a1⟩, by omega⟩
  ·have e : dif F (2 ^ i) = dif G (2 ^ i) := e
   rw [← dif_or a3, ← dif_or b3, e]
  ·have := h.up1 (a1.2 i hi a2)
   exact ⟨a3.lt hE, ⟨a3, by omega⟩, or_bit.2 (.inr rfl), by rw [or_dif_new a2]; exact a1⟩
  ·have e : F ||| 2 ^ i = G ||| 2 ^ i := e
   rw [← or_dif_new a2, ← or_dif_new b2, e]
/-- A coloop. -/
theorem RkF.W_col (hc : r (dif E (2 ^ i)) < r E) (k : Nat) : Wn r E (k + 1) = Wn r (dif E (2 ^ i)) (k + 1) + Wn r (dif E (2 ^ i)) k := by
 rw [h.W_del hE hi k]
 refine two_add rfl ?_
 have up : ∀ A, Inc A (dif E (2 ^ i)) → r (A ||| 2 ^ i) = r A + 1 := fun A hA => h.up1 fun e => by
  have := h.stay hA e
  rw [dif_or hi] at this
  omega
 refine nS_congr fun G _ => ⟨fun ⟨⟨a1, a2, a3⟩, a4⟩ => ⟨⟨fun j hj => dif_bit.2 ⟨a1.1 j hj, fun e => by subst e; rw [a2] at hj; cases hj⟩, fun j hj hn => a1.2 j (dif_bit.1 hj).1 hn⟩, a4⟩, fun ⟨a1, a4⟩ => ?_⟩
 have hn : G.testBit i = false := bit_false.2 fun z => (dif_bit.1 (a1.1 i z)).2 rfl
 refine ⟨⟨⟨a1.1.trans (inc_dif _ _), fun j hj hjn => ?_⟩, hn, inc_or (a1.1.trans (inc_dif _ _)) (inc_pow hi), fun j hj hjn => ?_⟩, a4⟩
 ·by_cases e : i = j
  ·subst e; have := up G a1.1; omega
  ·exact a1.2 j (dif_bit.2 ⟨hj, e⟩) hjn
 ·have hGj : G.testBit j = false := bit_false.2 fun z => bit_false.1 hjn (or_bit.2 (.inl z))
  have hij : i ≠ j := fun e => bit_false.1 hjn (or_bit.2 (.inr e))
  have q1 := h.up1 (a1.2 j (dif_bit.2 ⟨hj, hij⟩) hGj)
  have q2 := up (G ||| 2 ^ j) (inc_or a1.1 (inc_pow (dif_bit.2 ⟨hj, hij⟩)))
  have q3 := up G a1.1
  have e : G ||| 2 ^ i ||| 2 ^ j = G ||| 2 ^ j ||| 2 ^ i := by rw [Nat.or_assoc, Nat.or_comm (2 ^ i), ← Nat.or_assoc]
  rw [e]; omega
end
/-- No loops, no parallel elements. -/
def Smp (r : Nat → Nat) (E : Nat) : Prop := ∀ i, E.testBit i = true → r (2 ^ i) = 1 ∧ ∀ j, E.testBit j = true → i ≠ j → r (2 ^ i ||| 2 ^ j) = 2
section
variable {r : Nat → Nat} (h : RkF r) {E : Nat} (hE : E < 2 ^ 8)
include h hE
theorem RkF.not_smp (hs : ¬ Smp r E) : ∃ i, E.testBit i = true ∧ r (dif E (2 ^ i)) = r E ∧ ∀ k, sN r E i k = 0 := by
 have one : ∀ i, r (2 ^ i) ≤ 1 := fun i => by
  have := h.step 0 i
  rw [Nat.zero_or, h.zero] at this
  exact this
 have loop : ∀ i, E.testBit i = true → r (2 ^ i) = 0 → ∃ i, E.testBit i = true ∧ r (dif E (2 ^ i)) = r E ∧ ∀ k, sN r E i k = 0 := fun i hi h0 => by
  have st : ∀ A, r (A ||| 2 ^ i) = r A := fun A => h.stay (s := 0) (inc_zero A) (by rw [Nat.zero_or, h0, h.zero])
  refine ⟨i, hi, ?_, fun k => nS_none fun G _ w => w.1.1.2 i hi w.1.2.1 (st G)⟩
  have := st (dif E (2 ^ i))
  rw [dif_or hi] at this
  exact this.symm
 refine Classical.byContradiction fun hno => hs fun i hi => ?_
 have h1 : r (2 ^ i) = 1 := by
  have := one i
  rcases Nat.eq_zero_or_pos (r (2 ^ i)) with q | q
  ·exact absurd (loop i hi q) hno
  ·omega
 refine ⟨h1, fun j hj hij => Classical.byContradiction fun h2 => hno ?_⟩
 have h3 : r (2 ^ j) = 1 := by
  have := one j
  rcases Nat.eq_zero_or_pos (r (2 ^ j)) with q | q
  ·exact absurd (loop j hj q) hno
  ·omega
 have h4 : r (2 ^ i ||| 2 ^ j) = r (2 ^ i) := Classical.byContradiction fun w => h2 (by rw [h.up1 w, h1])
 have h5 : r (2 ^ j ||| 2 ^ i) = r (2 ^ j) := by rw [Nat.or_comm, h4, h1, h3]
 refine ⟨i, hi, ?_, fun k => nS_none fun G _ w => ?_⟩
 ·have := h.stay (t := dif E (2 ^ i)) (inc_pow (dif_bit.2 ⟨hj, hij⟩)) h5
  rw [dif_or hi] at this
  exact this.symm
 ·obtain ⟨⟨a1, a2, a3⟩, _⟩ := w
  have hj2 : G.testBit j = true := by
   rcases Bool.eq_false_or_eq_true ((G ||| 2 ^ i).testBit j) with q | q
   ·rcases or_bit.1 q with z | z
    ·exact z
    ·exact absurd z hij
   ·exact absurd (h.stay (inc_or_r G (2 ^ i)) h4) (a3.2 j hj q)
  exact a1.2 i hi a2 (h.stay (inc_pow hj2) h5)
end
end Go.SH
