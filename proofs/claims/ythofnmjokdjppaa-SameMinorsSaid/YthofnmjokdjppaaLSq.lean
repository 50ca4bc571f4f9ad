/-
  Minors by what is taken out and contracted; duals of minors. Conditions: at most eight elements.
-/
import Derived.Test.YthofnmjokdjppaaLSo
import Derived.Test.YthofnmjokdjppaaLQ
set_option linter.unusedSimpArgs false
set_option linter.unusedVariables false
namespace Go.SH
open Go Go.AX

/-! ### duals -/
/-- Ranks of the dual. -/
def Dua (m : Nat) (R R' : Nat → Nat) : Prop := ∀ s, s < 2 ^ m → R' s + R (2 ^ m - 1) = cnt m s + R (cpl m s)
theorem cpl_zero (m : Nat) : cpl m 0 = 2 ^ m - 1 := bx fun i => by rw [cpl_bit, full_bit]; simp
theorem cpl_full (m : Nat) : cpl m (2 ^ m - 1) = 0 := bx fun i => by rw [cpl_bit, full_bit]; simp
theorem Dua.symm {m : Nat} {R R' : Nat → Nat} (h : Dua m R R') (h0 : R 0 = 0) : Dua m R' R := fun s hs => by
  have h1 := h (2 ^ m - 1) (full_lt m)
  have h2 := h (cpl m s) (cpl_lt m s)
  have h3 := cpl_cnt (m := m) (s := s)
  rw [cpl_full, h0, cnt_fullK] at h1
  rw [cpl_cpl hs] at h2
  omega
theorem Mat.dua {m : Nat} {B K : List Nat} (h : Mat m B) (hK : Mat m K) (hm : ∀ x, x ∈ K ↔ ∃ b, b ∈ B ∧ x = cpl m b) : Dua m (rk m B) (rk m K) := fun s hs => by
  have key : ∀ b, b ∈ B → cnt m (s &&& cpl m b) + rk m B (2 ^ m - 1) = cnt m s + cnt m (cpl m s &&& b) := fun b hb => by
    have hbm := h.lt b hb
    have h1 := (h.mem_iff b).1 hb
    have e1 : s &&& cpl m b = dif s b := and_cpl hs
    have e2 : cpl m s &&& b = dif b s := by rw [Nat.and_comm]; exact and_cpl hbm
    have h2 := cnt_split m s b
    have h3 := cnt_split m b s
    rw [Nat.and_comm b s] at h3
    rw [e1, e2]
    omega
  obtain ⟨x, hx, ex⟩ := hK.rk_mem s
  obtain ⟨b, hb, rfl⟩ := (hm x).1 hx
  obtain ⟨b', hb', e'⟩ := h.rk_mem (cpl m s)
  have h1 := le_rk (m := m) (s := s) ((hm _).2 ⟨b', hb', rfl⟩)
  have h2 := le_rk (m := m) (s := cpl m s) hb
  have k1 := key b hb
  have k2 := key b' hb'
  omega
theorem Emb.dual {m k : Nat} {RA RB RA' RB' : Nat → Nat} (hA : Dua m RA RA') (hB : Dua k RB RB') (hmono : ∀ s t, Inc s t → RA s ≤ RA t) (h : Emb m k RA RB) : Emb m k RA' RB' := by
  obtain ⟨d, c, hd, hc, hdc, f, f1, f2, f3⟩ := emb_iff.1 h
  have hdj : ∀ x, d.testBit x = true → c.testBit x = false := (disj_iff d c).1 (by rw [Nat.and_comm]; exact hdc)
  refine emb_iff.2 ⟨c, d, hc, hd, by rw [Nat.and_comm]; exact hdc, f, f1, by rw [Nat.or_comm]; exact f2, fun s hs => ?_⟩
  have him : ∀ s x, (im m k f s).testBit x = true → d.testBit x = false ∧ c.testBit x = false ∧ x < m := fun s x hx => by
    have : (im m k f (2 ^ k - 1)).testBit x = true := by
      obtain ⟨a, i, i1, _, i3⟩ := (im_bit ..).1 hx
      exact (im_bit ..).2 ⟨a, i, i1, by rw [full_bit]; simp [i1], i3⟩
    rw [f2, cpl_bit, Nat.testBit_or] at this
    simp only [Bool.and_eq_true, decide_eq_true_eq, Bool.not_eq_true', Bool.or_eq_false_iff] at this
    exact ⟨this.2.1, this.2.2, this.1⟩
  have ed : cpl m d = im m k f (2 ^ k - 1) ||| c := set_ext (cpl_lt _ _) (or_lt (im_lt ..) hc) fun x hx => by
    rw [f2, cpl_bit, Nat.testBit_or, cpl_bit, Nat.testBit_or]
    have := hdj x
    cases q : d.testBit x <;> cases q2 : c.testBit x <;> simp [hx]
    rw [q, q2] at this; exact absurd (this rfl) (by simp)
  have es : cpl m (im m k f s ||| d) = im m k f (cpl k s) ||| c := set_ext (cpl_lt _ _) (or_lt (im_lt ..) hc) fun x hx => by
    have e0 : (im m k f (2 ^ k - 1)).testBit x = (cpl m (d ||| c)).testBit x := by rw [f2]
    rw [cpl_bit, Nat.testBit_or] at e0
    rw [cpl_bit, Nat.testBit_or, Nat.testBit_or]
    have h1 := him s x
    have h2 := him (cpl k s) x
    have h3 := hdj x
    cases q : (im m k f (2 ^ k - 1)).testBit x with
    | false =>
      have n1 : (im m k f s).testBit x = false := bool_ne fun z => by
        obtain ⟨a, i, i1, _, i3⟩ := (im_bit ..).1 z
        have := (im_bit m k f (2 ^ k - 1) x).2 ⟨a, i, i1, by rw [full_bit]; simp [i1], i3⟩
        rw [q] at this; cases this
      have n2 : (im m k f (cpl k s)).testBit x = false := bool_ne fun z => by
        obtain ⟨a, i, i1, _, i3⟩ := (im_bit ..).1 z
        have := (im_bit m k f (2 ^ k - 1) x).2 ⟨a, i, i1, by rw [full_bit]; simp [i1], i3⟩
        rw [q] at this; cases this
      rw [q] at e0
      rw [n1, n2]
      cases w : d.testBit x <;> cases w2 : c.testBit x <;> simp [hx, w, w2] at e0 h3 ⊢
    | true =>
      obtain ⟨_, i, i1, _, i3⟩ := (im_bit ..).1 q
      rw [q] at e0
      subst i3
      rw [f1.bit i1, f1.bit i1, cpl_bit]
      cases w : d.testBit (f i) <;> cases w2 : c.testBit (f i) <;> simp [hx, w, w2] at e0
      simp [hx, i1]
  have h1 := hB s hs
  have h2 := hA d hd
  have h3 := hA (im m k f s ||| d) (or_lt (im_lt ..) hd)
  have h4 := f3 (cpl k s) (cpl_lt _ _)
  have h5 := f3 (2 ^ k - 1) (full_lt k)
  rw [ed] at h2
  rw [es, cnt_disj (bx fun x => by
    rw [Nat.testBit_and, Nat.zero_testBit]
    cases q : (im m k f s).testBit x with
    | false => rfl
    | true => rw [(him s x q).1]; rfl), f1.cnt s hs] at h3
  have m1 := hmono c (im m k f (2 ^ k - 1) ||| c) (inc_or_r _ _)
  have m2 := hmono (im m k f (cpl k s) ||| c) (2 ^ m - 1) (fun x hx => by
    rw [full_bit]; simpa using bit_lt (or_lt (im_lt ..) hc) hx)
  omega

/-! ### taken out, then contracted -/
section
variable {m : Nat} {A D E : List Nat} {d c : Nat}
theorem pp_bit (m d c X j : Nat) : (pk (ps m d) (pk m d c) (pk m d X)).testBit j = true ↔ ∃ i, i < m ∧ d.testBit i = false ∧ c.testBit i = false ∧ X.testBit i = true ∧ ps (ps i d) (pk m d c) = j := by
  rw [pk_bit]
  constructor
  · rintro ⟨i', h1, h2, h3, h4⟩
    obtain ⟨i, g1, g2, g3, rfl⟩ := (pk_bit ..).1 h3
    rw [pk_at g1 g2] at h2
    exact ⟨i, g1, g2, h2, g3, h4⟩
  · rintro ⟨i, h1, h2, h3, h4, h5⟩
    exact ⟨ps i d, ps_lt h1 h2, by rw [pk_at h1 h2]; exact h3, by rw [pk_at h1 h2]; exact h4, h5⟩
theorem two_minors (hA : Mat m A) (hd : d < 2 ^ m) (hc : c < 2 ^ m) (hdc : c &&& d = 0) (hD : Mat (ps m d) D) (hE : Mat (ps (ps m d) (pk m d c)) E)
    (d3 : ∀ x, x ∈ D ↔ ∃ b, MaxK m A (cpl m d) b ∧ x = pk m d b) (e3 : ∀ x, x ∈ E ↔ ∃ b, MaxK (ps m d) D (pk m d c) b ∧ x = pk (ps m d) (pk m d c) b) :
    EmbAt m (ps (ps m d) (pk m d c)) (rk m A) (rk (ps (ps m d) (pk m d c)) E) d c := by
  generalize hk : ps (ps m d) (pk m d c) = k at *
  have hfull : pk (ps m d) (pk m d c) (pk m d (2 ^ m - 1)) = 2 ^ k - 1 := by rw [pk_full, pk_full, hk]
  have h1 : ∀ j, ∃ i, j < k → i < m ∧ d.testBit i = false ∧ c.testBit i = false ∧ ps (ps i d) (pk m d c) = j := fun j => by
    rcases Nat.lt_or_ge j k with q | q
    · have : (pk (ps m d) (pk m d c) (pk m d (2 ^ m - 1))).testBit j = true := by rw [hfull, full_bit]; simp [q]
      obtain ⟨i, i1, i2, i3, _, i5⟩ := (pp_bit ..).1 this
      exact ⟨i, fun _ => ⟨i1, i2, i3, i5⟩⟩
    · exact ⟨0, fun z => absurd z (by omega)⟩
  obtain ⟨f, hf⟩ := Classical.axiomOfChoice h1
  have f1 : Pla m k f := ⟨fun j hj => (hf j hj).1, fun i j hi hj e => by rw [← (hf i hi).2.2.2, ← (hf j hj).2.2.2, e]⟩
  refine ⟨hdc, f, f1, set_ext (im_lt ..) (cpl_lt _ _) fun x hx => ?_, fun s hs => ?_⟩
  · rw [Bool.eq_iff_iff, im_bit, cpl_bit, Nat.testBit_or]
    simp only [Bool.and_eq_true, decide_eq_true_eq, Bool.not_eq_true', Bool.or_eq_false_iff]
    constructor
    · rintro ⟨_, j, j1, _, rfl⟩
      exact ⟨hx, (hf j j1).2.1, (hf j j1).2.2.1⟩
    · rintro ⟨_, x1, x2⟩
      have hb : (pk m d c).testBit (ps x d) = false := by rw [pk_at hx x1]; exact x2
      have hj : ps (ps x d) (pk m d c) < k := by rw [← hk]; exact ps_lt (ps_lt hx x1) hb
      refine ⟨hx, _, hj, by rw [full_bit]; simp [hj], ?_⟩
      obtain ⟨g1, g2, g3, g4⟩ := hf _ hj
      have := ps_inj (i := ps (f (ps (ps x d) (pk m d c))) d) (j := ps x d) (by rw [pk_at g1 g2]; exact g3) hb g4
      exact ps_inj g2 x1 this
  · have hX : pk (ps m d) (pk m d c) (pk m d (im m k f s)) = s := bx fun j => by
      rw [Bool.eq_iff_iff, pp_bit]
      constructor
      · rintro ⟨i, i1, i2, i3, i4, i5⟩
        obtain ⟨_, q, q1, q2, rfl⟩ := (im_bit ..).1 i4
        rw [(hf q q1).2.2.2] at i5
        rw [← i5]; exact q2
      · intro hj
        have hjk := bit_lt hs hj
        obtain ⟨g1, g2, g3, g4⟩ := hf j hjk
        exact ⟨f j, g1, g2, g3, (im_bit ..).2 ⟨g1, j, hjk, hj, rfl⟩, g4⟩
    have him : ∀ x, (im m k f s).testBit x = true → d.testBit x = false := fun x hx => by
      obtain ⟨_, q, q1, q2, rfl⟩ := (im_bit ..).1 hx
      exact (hf q q1).2.1
    have r1 := hD.con_rk (X := pk m d (im m k f s)) (pk_lt ..) (pk_lt m d c) e3
    rw [hX, hk] at r1
    have eor : pk m d (im m k f s) ||| pk m d c = pk m d (im m k f s ||| c) := bx fun j => by
      rw [Bool.eq_iff_iff, Nat.testBit_or, Bool.or_eq_true, pk_bit, pk_bit, pk_bit]
      constructor
      · rintro (⟨i, i1, i2, i3, i4⟩ | ⟨i, i1, i2, i3, i4⟩)
        · exact ⟨i, i1, i2, by rw [Nat.testBit_or, i3]; rfl, i4⟩
        · exact ⟨i, i1, i2, by rw [Nat.testBit_or, i3]; simp, i4⟩
      · rintro ⟨i, i1, i2, i3, i4⟩
        rw [Nat.testBit_or, Bool.or_eq_true] at i3
        exact i3.imp (fun z => ⟨i, i1, i2, z, i4⟩) (fun z => ⟨i, i1, i2, z, i4⟩)
    have hcd := (disj_iff c d).1 hdc
    rw [eor, hA.del_rk d3, hA.del_rk d3] at r1
    have e1 : dif c d = c := bx fun x => by
      rw [testBit_dif]
      cases q : c.testBit x with
      | false => rfl
      | true => rw [hcd x q]; rfl
    have e2 : dif (im m k f s ||| c) d = im m k f s ||| c := bx fun x => by
      rw [testBit_dif, Nat.testBit_or]
      cases q : (im m k f s).testBit x with
      | true => rw [him x q]; simp
      | false =>
        cases q2 : c.testBit x with
        | false => rfl
        | true => rw [hcd x q2]; rfl
    rw [e1, e2] at r1
    exact r1
end
end Go.SH
