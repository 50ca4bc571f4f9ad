/-
  Minors by ranks: elements that stand for others, some being contracted. Conditions: none.
-/
import Derived.Test.YtdhbpoafkhojnaaLRm
import Derived.Test.YtdhbpoafkhojnaaLSt
set_option linter.unusedSimpArgs false
set_option linter.unusedVariables false
namespace Go.SH
open Go Go.AX

/-- Where elements go. -/
def im (m k : Nat) (f : Nat → Nat) (s : Nat) : Nat := mkset m fun x => (List.range k).any fun i => s.testBit i && decide (f i = x)
theorem im_bit (m k : Nat) (f : Nat → Nat) (s x : Nat) : (im m k f s).testBit x = true ↔ x < m ∧ ∃ i, i < k ∧ s.testBit i = true ∧ f i = x := by
  rw [im, mkset_bit, Bool.and_eq_true, decide_eq_true_eq, List.any_eq_true]
  refine and_congr Iff.rfl ⟨fun ⟨i, h1, h2⟩ => ?_, fun ⟨i, h1, h2, h3⟩ => ⟨i, List.mem_range.2 h1, by rw [h2, h3]; simp⟩⟩
  rw [Bool.and_eq_true, decide_eq_true_eq] at h2
  exact ⟨i, List.mem_range.1 h1, h2⟩
theorem im_lt (m k : Nat) (f : Nat → Nat) (s : Nat) : im m k f s < 2 ^ m := mkset_lt m _
/-- Each has a place of its own. -/
structure Pla (m k : Nat) (f : Nat → Nat) : Prop where
  lt : ∀ i, i < k → f i < m
  inj : ∀ i j, i < k → j < k → f i = f j → i = j
section
variable {m k : Nat} {f : Nat → Nat}
theorem im_zero : im m k f 0 = 0 := bx fun x => by
  cases q : (im m k f 0).testBit x with
  | false => simp
  | true =>
    obtain ⟨_, i, _, h, _⟩ := (im_bit ..).1 q
    simp at h
theorem im_or (s t : Nat) : im m k f (s ||| t) = im m k f s ||| im m k f t := bx fun x => by
  rw [Bool.eq_iff_iff, Nat.testBit_or, Bool.or_eq_true, im_bit, im_bit, im_bit]
  constructor
  · rintro ⟨h1, i, h2, h3, h4⟩
    rw [Nat.testBit_or, Bool.or_eq_true] at h3
    exact h3.imp (fun h => ⟨h1, i, h2, h, h4⟩) (fun h => ⟨h1, i, h2, h, h4⟩)
  · rintro (⟨h1, i, h2, h3, h4⟩ | ⟨h1, i, h2, h3, h4⟩)
    · exact ⟨h1, i, h2, by rw [Nat.testBit_or, h3]; rfl, h4⟩
    · exact ⟨h1, i, h2, by rw [Nat.testBit_or, h3]; simp, h4⟩
theorem im_mono {s t : Nat} (h : Inc s t) : Inc (im m k f s) (im m k f t) := fun x hx => by
  obtain ⟨h1, i, h2, h3, h4⟩ := (im_bit ..).1 hx
  exact (im_bit ..).2 ⟨h1, i, h2, h i h3, h4⟩
theorem im_high {s i : Nat} (hi : k ≤ i) : im m k f (s ||| 2 ^ i) = im m k f s := bx fun x => by
  rw [Bool.eq_iff_iff, im_bit, im_bit]
  refine and_congr Iff.rfl (exists_congr fun j => and_congr_right fun hj => ?_)
  rw [Nat.testBit_or, testBit_pow, decide_eq_false (by omega), Bool.or_false]
variable (h : Pla m k f)
include h
theorem Pla.and (s t : Nat) : im m k f (s &&& t) = im m k f s &&& im m k f t := bx fun x => by
  rw [Bool.eq_iff_iff, Nat.testBit_and, Bool.and_eq_true, im_bit, im_bit, im_bit]
  constructor
  · rintro ⟨h1, i, h2, h3, h4⟩
    rw [Nat.testBit_and, Bool.and_eq_true] at h3
    exact ⟨⟨h1, i, h2, h3.1, h4⟩, h1, i, h2, h3.2, h4⟩
  · rintro ⟨⟨h1, i, h2, h3, h4⟩, _, j, g2, g3, g4⟩
    have := h.inj i j h2 g2 (by omega)
    subst this
    exact ⟨h1, i, h2, by rw [Nat.testBit_and, h3, g3]; rfl, h4⟩
theorem Pla.pow {i : Nat} (hi : i < k) : im m k f (2 ^ i) = 2 ^ f i := bx fun x => by
  rw [Bool.eq_iff_iff, im_bit, testBit_pow, decide_eq_true_eq]
  constructor
  · rintro ⟨_, j, _, h3, h4⟩
    rw [testBit_pow, decide_eq_true_eq] at h3
    subst h3; exact h4
  · intro e
    exact ⟨by rw [← e]; exact h.lt i hi, i, hi, by rw [testBit_pow]; simp, e⟩
theorem Pla.bit {s i : Nat} (hi : i < k) : (im m k f s).testBit (f i) = s.testBit i := by
  rw [Bool.eq_iff_iff, im_bit]
  constructor
  · rintro ⟨_, j, h2, h3, h4⟩
    have := h.inj j i h2 hi h4
    subst this; exact h3
  · intro hs; exact ⟨h.lt i hi, i, hi, hs, rfl⟩
theorem Pla.cnt : ∀ s, s < 2 ^ k → cnt m (im m k f s) = Go.SH.cnt k s := by
  refine set_ind (m := k) (fun s => Go.SH.cnt m (im m k f s) = Go.SH.cnt k s) (by rw [im_zero, cnt_zero, cnt_zero]) fun s i hs hi hb ih => ?_
  have hb2 : (im m k f s).testBit (f i) = false := by rw [h.bit hi, hb]
  rw [im_or, h.pow hi, cnt_add (h.lt i hi) hb2, cnt_add hi hb, ih]
/-- The ranks of a minor. -/
theorem Pla.rkF {R : Nat → Nat} (hR : RkF R) (c : Nat) : RkF (fun s => R (im m k f s ||| c) - R c) where
  zero := by
    show R (im m k f 0 ||| c) - R c = 0
    rw [im_zero, Nat.zero_or]; omega
  mono := fun s t hst => by
    have := hR.mono (im m k f s ||| c) (im m k f t ||| c) (inc_or ((im_mono hst).trans (inc_or_l _ _)) (inc_or_r _ _))
    show R (im m k f s ||| c) - R c ≤ R (im m k f t ||| c) - R c
    omega
  step := fun s i => by
    show R (im m k f (s ||| 2 ^ i) ||| c) - R c ≤ R (im m k f s ||| c) - R c + 1
    have h0 := hR.mono c (im m k f s ||| c) (inc_or_r _ _)
    rcases Nat.lt_or_ge i k with q | q
    · rw [im_or, h.pow q]
      have := hR.step (im m k f s ||| c) (f i)
      rw [show im m k f s ||| 2 ^ f i ||| c = im m k f s ||| c ||| 2 ^ f i by rw [Nat.or_assoc, Nat.or_comm (2 ^ f i), ← Nat.or_assoc]]
      omega
    · rw [im_high q]; omega
  sub := fun s t => by
    show R (im m k f (s ||| t) ||| c) - R c + (R (im m k f (s &&& t) ||| c) - R c) ≤ R (im m k f s ||| c) - R c + (R (im m k f t ||| c) - R c)
    have h1 := hR.sub (im m k f s ||| c) (im m k f t ||| c)
    have e1 : im m k f s ||| c ||| (im m k f t ||| c) = im m k f (s ||| t) ||| c := bx fun x => by
      rw [im_or]
      simp only [Nat.testBit_or]
      cases (im m k f s).testBit x <;> cases (im m k f t).testBit x <;> cases c.testBit x <;> rfl
    have e2 : (im m k f s ||| c) &&& (im m k f t ||| c) = im m k f (s &&& t) ||| c := bx fun x => by
      rw [h.and]
      simp only [Nat.testBit_or, Nat.testBit_and]
      cases (im m k f s).testBit x <;> cases (im m k f t).testBit x <;> cases c.testBit x <;> rfl
    rw [e1, e2] at h1
    have a1 := hR.mono c (im m k f s ||| c) (inc_or_r _ _)
    have a2 := hR.mono c (im m k f t ||| c) (inc_or_r _ _)
    have a3 := hR.mono c (im m k f (s ||| t) ||| c) (inc_or_r _ _)
    have a4 := hR.mono c (im m k f (s &&& t) ||| c) (inc_or_r _ _)
    omega
end
/-- A minor, but for names. -/
def Emb (m k : Nat) (RA RB : Nat → Nat) : Prop := ∃ (f : Nat → Nat) (c : Nat), Pla m k f ∧ c < 2 ^ m ∧ (∀ i, i < k → c.testBit (f i) = false) ∧ ∀ s, s < 2 ^ k → RB s + RA c = RA (im m k f s ||| c)
theorem Emb.trans {m k j : Nat} {RA RB RC : Nat → Nat} (h : Emb m k RA RB) (g : Emb k j RB RC) : Emb m j RA RC := by
  obtain ⟨f, c, f1, c1, fc, fr⟩ := h
  obtain ⟨g, d, g1, d1, gd, gr⟩ := g
  refine ⟨fun i => f (g i), im m k f d ||| c, ⟨fun i hi => f1.lt _ (g1.lt i hi), fun i i' hi hi' e => g1.inj i i' hi hi' (f1.inj _ _ (g1.lt i hi) (g1.lt i' hi') e)⟩, or_lt (im_lt ..) c1, fun i hi => ?_, fun s hs => ?_⟩
  · rw [Nat.testBit_or, f1.bit (g1.lt i hi), gd i hi, fc _ (g1.lt i hi)]; rfl
  · have h1 := gr s hs
    have h2 := fr d d1
    have h3 := fr (im k j g s ||| d) (or_lt (im_lt ..) d1)
    have e : im m k f (im k j g s) = im m j (fun i => f (g i)) s := bx fun x => by
      rw [Bool.eq_iff_iff, im_bit, im_bit]
      refine and_congr Iff.rfl ⟨fun ⟨i, i1, i2, i3⟩ => ?_, fun ⟨i, i1, i2, i3⟩ => ⟨g i, g1.lt i i1, (im_bit ..).2 ⟨g1.lt i i1, i, i1, i2, rfl⟩, i3⟩⟩
      obtain ⟨_, q, q1, q2, q3⟩ := (im_bit ..).1 i2
      exact ⟨q, q1, q2, by show f (g q) = x; rw [q3]; exact i3⟩
    rw [im_or, e, Nat.or_assoc] at h3
    omega
end Go.SH
