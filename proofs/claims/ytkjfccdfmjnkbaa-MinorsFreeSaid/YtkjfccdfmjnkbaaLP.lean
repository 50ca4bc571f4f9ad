/-
  Sets pressed together (the elements of a set taken out), the dual of a matroid, what is left of it when elements are taken out. Conditions: none.
-/
import Derived.Test.YtkjfccdfmjnkbaaLM
set_option linter.unusedSimpArgs false
set_option linter.unusedVariables false
namespace Go.SH
open Go Go.AX

/-! ### pressed sets -/
/-- How many of the first m elements are not gone. -/
def ps : Nat → Nat → Nat
  | 0, _ => 0
  | m + 1, g => ps m g + if g.testBit m then 0 else 1
/-- A set's elements that are not gone, counted anew. -/
def pk : Nat → Nat → Nat → Nat
  | 0, _, _ => 0
  | m + 1, g, s => if g.testBit m then pk m g s else pk m g s ||| (if s.testBit m then 2 ^ ps m g else 0)
theorem ps_cnt (m g : Nat) : ps m g + cnt m g = m := by
  induction m with
  | zero => rfl
  | succ m ih =>
    simp only [ps, cnt]
    split <;> omega
theorem ps_le (m g : Nat) : ps m g ≤ m := by have := ps_cnt m g; omega
theorem ps_mono {i j g : Nat} (h : i ≤ j) : ps i g ≤ ps j g := by
  induction j with
  | zero => have : i = 0 := by omega
            subst this; exact Nat.le_refl _
  | succ j ih =>
    rcases Nat.lt_or_ge i (j + 1) with q | q
    · have := ih (by omega); simp only [ps]; omega
    · have : i = j + 1 := by omega
      subst this; exact Nat.le_refl _
theorem ps_lt {i j g : Nat} (h : i < j) (hi : g.testBit i = false) : ps i g < ps j g := by
  have := ps_mono (g := g) (show i + 1 ≤ j from h)
  simp only [ps, hi] at this
  simp at this; omega
theorem ps_inj {i j g : Nat} (hi : g.testBit i = false) (hj : g.testBit j = false) (e : ps i g = ps j g) : i = j := by
  rcases Nat.lt_trichotomy i j with q | q | q
  · have := ps_lt q hi; omega
  · exact q
  · have := ps_lt q hj; omega
theorem pk_bit (m g s j : Nat) : (pk m g s).testBit j = true ↔ ∃ i, i < m ∧ g.testBit i = false ∧ s.testBit i = true ∧ ps i g = j := by
  induction m with
  | zero => simp [pk]
  | succ m ih =>
    simp only [pk]
    cases hg : g.testBit m with
    | true =>
      simp only [if_true]
      rw [ih]
      constructor
      · rintro ⟨i, h1, h2⟩; exact ⟨i, by omega, h2⟩
      · rintro ⟨i, h1, h2, h3⟩
        rcases Nat.lt_succ_iff_lt_or_eq.1 h1 with q | rfl
        · exact ⟨i, q, h2, h3⟩
        · rw [hg] at h2; cases h2
    | false =>
      simp only [Bool.false_eq_true, if_false]
      rw [Nat.testBit_or, Bool.or_eq_true, ih]
      constructor
      · rintro (⟨i, h1, h2⟩ | h)
        · exact ⟨i, by omega, h2⟩
        · cases hs : s.testBit m with
          | true =>
            rw [hs] at h
            simp only [if_true, testBit_pow, decide_eq_true_eq] at h
            exact ⟨m, by omega, hg, hs, h⟩
          | false => rw [hs] at h; simp at h
      · rintro ⟨i, h1, h2, h3, h4⟩
        rcases Nat.lt_succ_iff_lt_or_eq.1 h1 with q | rfl
        · exact .inl ⟨i, q, h2, h3, h4⟩
        · right; rw [h3]; simp only [if_true, testBit_pow, decide_eq_true_eq]; exact h4
theorem pk_at {m g s i : Nat} (hi : i < m) (hg : g.testBit i = false) : (pk m g s).testBit (ps i g) = s.testBit i := by
  rw [Bool.eq_iff_iff, pk_bit]
  constructor
  · rintro ⟨k, _, h2, h3, h4⟩
    have := ps_inj h2 hg h4
    subst this; exact h3
  · intro h; exact ⟨i, hi, hg, h, rfl⟩
theorem pk_lt (m g s : Nat) : pk m g s < 2 ^ ps m g := lt_of_bits fun j hj => by
  cases h : (pk m g s).testBit j with
  | false => rfl
  | true =>
    obtain ⟨i, h1, h2, _, h4⟩ := (pk_bit m g s j).1 h
    have := ps_lt h1 h2
    omega
theorem pk_congr {m g s g' s' : Nat} (hg : ∀ i, i < m → g.testBit i = g'.testBit i) (hs : ∀ i, i < m → s.testBit i = s'.testBit i) : pk m g s = pk m g' s' ∧ ps m g = ps m g' := by
  induction m with
  | zero => exact ⟨rfl, rfl⟩
  | succ m ih =>
    obtain ⟨h1, h2⟩ := ih (fun i hi => hg i (by omega)) (fun i hi => hs i (by omega))
    simp only [pk, ps, h1, h2, hg m (Nat.lt_succ_self m), hs m (Nat.lt_succ_self m)]
    exact ⟨trivial, trivial⟩
theorem cnt_pk (m g s : Nat) : cnt (ps m g) (pk m g s) = cnt m (dif s g) := by
  induction m with
  | zero => rfl
  | succ m ih =>
    have hd := testBit_dif s g m
    simp only [ps, pk, cnt, hd]
    cases hg : g.testBit m with
    | true => simp [ih]
    | false =>
      simp only [Bool.false_eq_true, if_false, Bool.not_false, Bool.and_true]
      have hlt := pk_lt m g s
      cases hs : s.testBit m with
      | true =>
        simp only [if_true, cnt]
        have h1 : cnt (ps m g) (pk m g s ||| 2 ^ ps m g) = cnt (ps m g) (pk m g s) := cnt_congr fun i hi => by
          rw [Nat.testBit_or, testBit_pow]
          have : ¬ ps m g = i := by omega
          simp [this]
        have h2 : (pk m g s ||| 2 ^ ps m g).testBit (ps m g) = true := by rw [Nat.testBit_or, testBit_pow]; simp
        rw [h1, h2, ih]; simp
      | false =>
        simp only [Bool.false_eq_true, if_false, Nat.or_zero, cnt]
        rw [bit_ge hlt (Nat.le_refl _), ih]; simp
theorem pk_and (m g s t : Nat) : pk m g (s &&& t) = pk m g s &&& pk m g t := by
  apply Nat.eq_of_testBit_eq; intro j
  rw [Bool.eq_iff_iff, Nat.testBit_and, Bool.and_eq_true, pk_bit, pk_bit, pk_bit]
  constructor
  · rintro ⟨i, h1, h2, h3, h4⟩
    rw [Nat.testBit_and, Bool.and_eq_true] at h3
    exact ⟨⟨i, h1, h2, h3.1, h4⟩, ⟨i, h1, h2, h3.2, h4⟩⟩
  · rintro ⟨⟨i, h1, h2, h3, h4⟩, ⟨i', _, h2', h3', h4'⟩⟩
    have : i = i' := ps_inj h2 h2' (by omega)
    subst this
    exact ⟨i, h1, h2, by rw [Nat.testBit_and, h3, h3']; rfl, h4⟩
theorem pk_swap {m g s e f : Nat} (he : e < m) (hf : f < m) (hge : g.testBit e = false) (hgf : g.testBit f = false) : dif (pk m g s) (2 ^ ps e g) ||| 2 ^ ps f g = pk m g (dif s (2 ^ e) ||| 2 ^ f) := by
  apply Nat.eq_of_testBit_eq; intro j
  rw [Bool.eq_iff_iff, Nat.testBit_or, testBit_dif, testBit_pow, testBit_pow, Bool.or_eq_true, Bool.and_eq_true, Bool.not_eq_true', decide_eq_true_eq, decide_eq_false_iff_not, pk_bit, pk_bit]
  constructor
  · rintro (⟨⟨i, h1, h2, h3, h4⟩, h5⟩ | h)
    · refine ⟨i, h1, h2, ?_, h4⟩
      have : ¬ e = i := fun q => h5 (by rw [q]; exact h4)
      rw [Nat.testBit_or, testBit_dif, testBit_pow, h3]; simp [this]
    · exact ⟨f, hf, hgf, by rw [Nat.testBit_or, testBit_pow]; simp, h⟩
  · rintro ⟨i, h1, h2, h3, h4⟩
    rw [Nat.testBit_or, testBit_dif, testBit_pow, testBit_pow, Bool.or_eq_true, Bool.and_eq_true, Bool.not_eq_true', decide_eq_true_eq, decide_eq_false_iff_not] at h3
    rcases h3 with ⟨h5, h6⟩ | h5
    · exact .inl ⟨⟨i, h1, h2, h5, h4⟩, fun q => h6 (ps_inj hge h2 (by omega))⟩
    · subst h5; exact .inr h4
/-- Two sets that are disjoint, taken out one behind the other. -/
theorem pk_pk {s t : Nat} (hd : s &&& t = 0) (b m : Nat) : pk (ps m s) (pk m s t) (pk m s b) = pk (ps m t) (pk m t s) (pk m t b) ∧ ps (ps m s) (pk m s t) = ps (ps m t) (pk m t s) := by
  have disj := (disj_iff s t).1 hd
  have low : ∀ n g x : Nat, n = ps n g → True := fun _ _ _ _ => trivial
  have cut : ∀ (n : Nat) (a b : Nat) (u v : Nat), a < 2 ^ n → b < 2 ^ n → pk n (a ||| u * 2 ^ n) (b ||| v * 2 ^ n) = pk n a b ∧ ps n (a ||| u * 2 ^ n) = ps n a := fun n a b u v _ _ => pk_congr (fun i hi => by
      rw [Nat.testBit_or, Nat.testBit_mul_two_pow]; simp [show ¬ n ≤ i by omega]) (fun i hi => by
      rw [Nat.testBit_or, Nat.testBit_mul_two_pow]; simp [show ¬ n ≤ i by omega])
  induction m with
  | zero => exact ⟨rfl, rfl⟩
  | succ m ih =>
    obtain ⟨ih1, ih2⟩ := ih
    have ls := pk_lt m s t
    have lt := pk_lt m t s
    have lb := pk_lt m s b
    have lc := pk_lt m t b
    have hor : ∀ (n : Nat) (c : Bool), (if c = true then 2 ^ n else 0) = (if c = true then 1 else 0) * 2 ^ n := fun n c => by cases c <;> simp
    cases hs : s.testBit m with
    | true =>
      have ht := disj m hs
      simp only [pk, ps, hs, ht, if_true, Bool.false_eq_true, if_false, Nat.add_zero]
      have hg : (pk m t s ||| 2 ^ ps m t).testBit (ps m t) = true := by rw [Nat.testBit_or, testBit_pow]; simp
      rw [hg]
      simp only [if_true, Nat.add_zero]
      have := cut (ps m t) (pk m t s) (pk m t b) 1 (if b.testBit m = true then 1 else 0) lt lc
      rw [Nat.one_mul, ← hor] at this
      rw [this.1, this.2]
      exact ⟨ih1, ih2⟩
    | false =>
      cases ht : t.testBit m with
      | true =>
        simp only [pk, ps, hs, ht, if_true, Bool.false_eq_true, if_false, Nat.add_zero]
        have hg : (pk m s t ||| 2 ^ ps m s).testBit (ps m s) = true := by rw [Nat.testBit_or, testBit_pow]; simp
        rw [hg]
        simp only [if_true, Nat.add_zero]
        have := cut (ps m s) (pk m s t) (pk m s b) 1 (if b.testBit m = true then 1 else 0) ls lb
        rw [Nat.one_mul, ← hor] at this
        rw [this.1, this.2]
        exact ⟨ih1, ih2⟩
      | false =>
        simp only [pk, ps, hs, ht, Bool.false_eq_true, if_false, Nat.or_zero]
        rw [bit_ge ls (Nat.le_refl _), bit_ge lt (Nat.le_refl _)]
        simp only [Bool.false_eq_true, if_false]
        have hb1 : (pk m s b ||| if b.testBit m = true then 2 ^ ps m s else 0).testBit (ps m s) = b.testBit m := by
          rw [Nat.testBit_or, bit_ge lb (Nat.le_refl _)]
          cases b.testBit m <;> simp [testBit_pow]
        have hb2 : (pk m t b ||| if b.testBit m = true then 2 ^ ps m t else 0).testBit (ps m t) = b.testBit m := by
          rw [Nat.testBit_or, bit_ge lc (Nat.le_refl _)]
          cases b.testBit m <;> simp [testBit_pow]
        rw [hb1, hb2]
        have c1 := cut (ps m s) (pk m s t) (pk m s b) 0 (if b.testBit m = true then 1 else 0) ls lb
        have c2 := cut (ps m t) (pk m t s) (pk m t b) 0 (if b.testBit m = true then 1 else 0) lt lc
        rw [Nat.zero_mul, Nat.or_zero, ← hor] at c1 c2
        rw [c1.1, c2.1, ih1, ih2]
        exact ⟨rfl, rfl⟩

/-! ### complements -/
def cpl (m s : Nat) : Nat := dif (2 ^ m - 1) s
theorem full_bit (m i : Nat) : (2 ^ m - 1).testBit i = decide (i < m) := Nat.testBit_two_pow_sub_one m i
theorem cpl_bit (m s i : Nat) : (cpl m s).testBit i = (decide (i < m) && !s.testBit i) := by rw [cpl, testBit_dif, full_bit]
theorem full_lt (m : Nat) : 2 ^ m - 1 < 2 ^ m := by have : 0 < 2 ^ m := Nat.pow_pos (by omega); omega
theorem cpl_lt (m s : Nat) : cpl m s < 2 ^ m := dif_lt (full_lt m)
theorem cpl_cpl {m s : Nat} (h : s < 2 ^ m) : cpl m (cpl m s) = s := set_ext (cpl_lt _ _) h fun i hi => by
  rw [cpl_bit, cpl_bit]; simp [hi]
theorem cpl_cnt {m s : Nat} : cnt m (cpl m s) + cnt m s = m := by
  have h1 := cnt_split m (2 ^ m - 1) s
  have h2 : cnt m (2 ^ m - 1 &&& s) = cnt m s := cnt_congr fun i hi => by rw [Nat.testBit_and, full_bit]; simp [hi]
  have h3 : cnt m (2 ^ m - 1) = m := by
    have : ∀ k, k ≤ m → cnt k (2 ^ m - 1) = k := fun k => by
      induction k with
      | zero => intro _; rfl
      | succ k ih => intro hk; simp only [cnt]; rw [ih (by omega), full_bit]; simp [show k < m by omega]
    exact this m (Nat.le_refl _)
  unfold cpl
  omega
theorem and_cpl {m b s : Nat} (hb : b < 2 ^ m) : b &&& cpl m s = dif b s := by
  apply Nat.eq_of_testBit_eq; intro i
  rw [Nat.testBit_and, cpl_bit, testBit_dif]
  cases hi : b.testBit i with
  | false => rfl
  | true => simp [bit_lt hb hi]
theorem cpl_mono {m s t : Nat} (h : Inc s t) : Inc (cpl m t) (cpl m s) := fun i hi => by
  rw [cpl_bit, Bool.and_eq_true, Bool.not_eq_true'] at hi ⊢
  refine ⟨hi.1, ?_⟩
  cases q : s.testBit i with
  | false => rfl
  | true => rw [h i q] at hi; exact absurd hi.2 (by simp)
theorem pk_cpl {m g s : Nat} : pk m g (cpl m s) = cpl (ps m g) (pk m g s) := set_ext (pk_lt _ _ _) (cpl_lt _ _) fun j hj => by
  have ex : ∀ n, j < ps n g → ∃ i, i < n ∧ g.testBit i = false ∧ ps i g = j := by
    intro n
    induction n with
    | zero => intro h; simp [ps] at h
    | succ n ih =>
      intro h
      rcases Nat.lt_or_ge j (ps n g) with q | q
      · obtain ⟨i, h1, h2⟩ := ih q; exact ⟨i, by omega, h2⟩
      · simp only [ps] at h
        cases hg : g.testBit n with
        | true => rw [hg] at h; simp at h; omega
        | false => rw [hg] at h; simp at h; exact ⟨n, by omega, hg, by omega⟩
  obtain ⟨i, h1, h2, rfl⟩ := ex m hj
  rw [pk_at h1 h2, cpl_bit, cpl_bit, pk_at h1 h2]
  simp [h1, hj]

/-! ### the dual -/
section
variable {m : Nat} {B : List Nat} (h : Mat m B)
include h
theorem Mat.ind_big {I b : Nat} (hI : Ind B I) (hb : b ∈ B) (hc : cnt m b ≤ cnt m I) : I ∈ B := by
  obtain ⟨b', h1, h2⟩ := hI
  have := inc_eq_of_cnt h2 (h.lt b' h1) (by have := h.eqc b' h1 b hb; omega)
  rw [this]; exact h1
theorem Mat.dual_ex {a b x : Nat} (ha : a ∈ B) (hb : b ∈ B) (hx : b.testBit x = true) (hxa : a.testBit x = false) : ∃ y, a.testBit y = true ∧ b.testBit y = false ∧ dif a (2 ^ y) ||| 2 ^ x ∈ B := by
  have hxm := bit_lt (h.lt b hb) hx
  have ham := h.lt a ha
  have hI : Ind B (a &&& b ||| 2 ^ x) := ⟨b, hb, inc_or (inc_and_r a b) (inc_pow hx)⟩
  obtain ⟨J, j1, j2, j3, j4⟩ := h.extend (u := a ||| 2 ^ x) _ _ (Nat.le_refl _) hI (inc_or ((inc_and_l a b).trans (inc_or_l _ _)) (inc_or_r _ _))
  have hJ : cnt m a ≤ cnt m J := by rw [j4]; exact h.ind_le ⟨a, ha, Inc.refl a⟩ (inc_or_l _ _)
  have hJB := h.ind_big j1 ha hJ
  have hca := cnt_add hxm hxa
  have hce := h.eqc J hJB a ha
  have hne : ¬ Inc (a ||| 2 ^ x) J := fun q => by have := cnt_le_of_inc (m := m) q; omega
  obtain ⟨y, y1, y2⟩ := not_inc hne
  have hJx : J.testBit x = true := j2 x (by rw [Nat.testBit_or, testBit_pow]; simp)
  have hyx : y ≠ x := fun e => by rw [e, hJx] at y2; cases y2
  have hya : a.testBit y = true := by
    rw [Nat.testBit_or, testBit_pow] at y1
    simpa [Ne.symm hyx] using y1
  refine ⟨y, hya, ?_, ?_⟩
  · cases q : b.testBit y with
    | false => rfl
    | true =>
      have := j2 y (by rw [Nat.testBit_or, Nat.testBit_and, hya, q]; rfl)
      rw [y2] at this; cases this
  · have hym := bit_lt ham hya
    have e : dif a (2 ^ y) ||| 2 ^ x = J := by
      refine (inc_eq_of_cnt (m := m) (fun i hi => ?_) (or_lt (dif_lt ham) (pow_lt hxm)) ?_).symm
      · have := j3 i hi
        rw [Nat.testBit_or, testBit_pow, Bool.or_eq_true, decide_eq_true_eq] at this
        rw [testBit_swap hyx]
        rcases this with q | q
        · refine .inr ⟨q, fun e => ?_⟩
          subst e; rw [y2] at hi; cases hi
        · exact .inl q.symm
      · have h1 := cnt_dif ham hya
        have h2 := cnt_add (m := m) (s := dif a (2 ^ y)) hxm (by rw [testBit_dif, hxa]; rfl)
        omega
    rw [e]; exact hJB
/-- THE DUAL is a matroid. -/
theorem Mat.dual {K : List Nat} (hK : Fam m K) (hm : ∀ x, x ∈ K ↔ ∃ b, b ∈ B ∧ x = cpl m b) : Mat m K := by
  refine ⟨hK, ?_, ?_, ?_⟩
  · obtain ⟨b, hb⟩ := h.exists_basis
    intro e
    have := (hm _).2 ⟨b, hb, rfl⟩
    rw [e] at this; simp at this
  · intro x hx y hy
    obtain ⟨a, ha, rfl⟩ := (hm x).1 hx
    obtain ⟨b, hb, rfl⟩ := (hm y).1 hy
    have h1 := cpl_cnt (m := m) (s := a)
    have h2 := cpl_cnt (m := m) (s := b)
    have h3 := h.eqc a ha b hb
    omega
  · intro x hx y hy i hi1 hi2
    obtain ⟨a, ha, rfl⟩ := (hm x).1 hx
    obtain ⟨b, hb, rfl⟩ := (hm y).1 hy
    rw [cpl_bit, Bool.and_eq_true, decide_eq_true_eq, Bool.not_eq_true'] at hi1
    rw [cpl_bit] at hi2
    simp only [hi1.1, decide_true, Bool.true_and, Bool.not_eq_false'] at hi2
    obtain ⟨f, f1, f2, f3⟩ := h.dual_ex ha hb hi2 hi1.2
    have hfm := bit_lt (h.lt a ha) f1
    have hne : f ≠ i := fun e => by rw [e, hi1.2] at f1; cases f1
    refine ⟨f, by rw [cpl_bit, f2]; simpa using hfm, by rw [cpl_bit, f1]; simp, (hm _).2 ⟨_, f3, ?_⟩⟩
    refine set_ext (or_lt (dif_lt (cpl_lt _ _)) (pow_lt hfm)) (cpl_lt _ _) fun j hj => ?_
    rw [Bool.eq_iff_iff, testBit_swap (Ne.symm hne), cpl_bit, cpl_bit, Bool.and_eq_true, Bool.and_eq_true, decide_eq_true_eq, Bool.not_eq_true', Bool.not_eq_true']
    have hsw := testBit_swap (a := a) (x := f) (y := i) (i := j) hne
    constructor
    · rintro (rfl | ⟨⟨_, q⟩, q2⟩)
      · refine ⟨hj, ?_⟩
        cases c : (dif a (2 ^ j) ||| 2 ^ i).testBit j with
        | false => rfl
        | true =>
          rcases hsw.1 c with e | ⟨_, e⟩
          · exact absurd e hne
          · exact absurd rfl e
      · refine ⟨hj, ?_⟩
        cases c : (dif a (2 ^ f) ||| 2 ^ i).testBit j with
        | false => rfl
        | true =>
          rcases hsw.1 c with e | ⟨e, _⟩
          · exact absurd e q2
          · rw [q] at e; cases e
    · rintro ⟨_, q⟩
      rcases Nat.decEq j f with c | c
      · right
        refine ⟨⟨hj, ?_⟩, fun e => ?_⟩
        · cases c2 : a.testBit j with
          | false => rfl
          | true => rw [hsw.2 (.inr ⟨c2, c⟩)] at q; cases q
        · rw [hsw.2 (.inl e)] at q; cases q
      · exact .inl c

/-! ### elements taken out -/
/-- A basis that has most in T. -/
def MaxK (m : Nat) (B : List Nat) (T b : Nat) : Prop := b ∈ B ∧ ∀ b', b' ∈ B → cnt m (b' &&& T) ≤ cnt m (b &&& T)
/-- Inside T as in one, outside as in the other. -/
theorem Mat.mix {T a b : Nat} (ha : MaxK m B T a) (hb : MaxK m B T b) : a &&& T ||| dif b T ∈ B := by
  have hI : Ind B (a &&& T) := ⟨a, ha.1, inc_and_l _ _⟩
  obtain ⟨J, j1, j2, j3, j4⟩ := h.extend (u := a &&& T ||| b) _ _ (Nat.le_refl _) hI (inc_or_l _ _)
  have hJ : cnt m b ≤ cnt m J := by rw [j4]; exact h.ind_le ⟨b, hb.1, Inc.refl b⟩ (inc_or_r _ _)
  have hJB := h.ind_big j1 hb.1 hJ
  have e1 : a &&& T = J &&& T := inc_eq_of_cnt (m := m) (inc_and j2 (inc_and_r _ _)) (and_lt (h.lt J hJB)) (ha.2 J hJB)
  have e2 : dif J T = dif b T := by
    refine inc_eq_of_cnt (m := m) (fun i hi => ?_) (dif_lt (h.lt b hb.1)) ?_
    · rw [testBit_dif, Bool.and_eq_true, Bool.not_eq_true'] at hi ⊢
      refine ⟨?_, hi.2⟩
      have := j3 i hi.1
      rw [Nat.testBit_or, Nat.testBit_and, hi.2, Bool.and_false, Bool.false_or] at this
      exact this
    · have h1 := cnt_split m J T
      have h2 := cnt_split m b T
      have h3 := ha.2 b hb.1
      have h4 := hb.2 J hJB
      have h5 := h.eqc J hJB b hb.1
      omega
  have : a &&& T ||| dif b T = J := by
    rw [e1, ← e2]
    apply Nat.eq_of_testBit_eq; intro i
    rw [Nat.testBit_or, Nat.testBit_and, testBit_dif]
    cases J.testBit i <;> cases T.testBit i <;> rfl
  rw [this]; exact hJB
/-- Exchange outside s, for bases that have most in s, or most outside. -/
theorem Mat.exch_out {s T a b e : Nat} (hT : T = s ∨ T = cpl m s) (hs : s < 2 ^ m) (ha : MaxK m B T a) (hb : MaxK m B T b) (h1 : a.testBit e = true) (h2 : s.testBit e = false) (h3 : b.testBit e = false) :
    ∃ f, b.testBit f = true ∧ s.testBit f = false ∧ a.testBit f = false ∧ MaxK m B T (dif a (2 ^ e) ||| 2 ^ f) := by
  have ham := h.lt a ha.1
  have hbm := h.lt b hb.1
  have hem := bit_lt ham h1
  -- inside s as a, outside as b
  have hc : a &&& s ||| dif b s ∈ B := by
    rcases hT with rfl | rfl
    · exact h.mix ha hb
    · have := h.mix hb ha
      rw [and_cpl hbm] at this
      have e2 : dif a (cpl m s) = a &&& s := by
        apply Nat.eq_of_testBit_eq; intro i
        rw [testBit_dif, cpl_bit, Nat.testBit_and]
        cases hi : a.testBit i with
        | false => rfl
        | true => simp [bit_lt ham hi]
      rw [e2, Nat.or_comm] at this
      exact this
  obtain ⟨f, f1, f2, f3⟩ := h.ex a ha.1 _ hc e h1 (by rw [Nat.testBit_or, Nat.testBit_and, testBit_dif, h2, h3]; simp)
  rw [Nat.testBit_or, Nat.testBit_and, testBit_dif, f2] at f1
  simp only [Bool.false_and, Bool.false_or, Bool.and_eq_true, Bool.not_eq_true'] at f1
  have hne : e ≠ f := fun q => by rw [q, f2] at h1; cases h1
  refine ⟨f, f1.1, f1.2, f2, f3, fun b' hb' => ?_⟩
  have hin : (dif a (2 ^ e) ||| 2 ^ f) &&& s = a &&& s := by
    apply Nat.eq_of_testBit_eq; intro i
    rw [Bool.eq_iff_iff, Nat.testBit_and, Nat.testBit_and, Bool.and_eq_true, Bool.and_eq_true, testBit_swap hne]
    constructor
    · rintro ⟨rfl | ⟨q, _⟩, q2⟩
      · rw [f1.2] at q2; cases q2
      · exact ⟨q, q2⟩
    · rintro ⟨q, q2⟩
      refine ⟨.inr ⟨q, fun r => ?_⟩, q2⟩
      subst r; rw [h2] at q2; cases q2
  have key : cnt m (a &&& T) = cnt m ((dif a (2 ^ e) ||| 2 ^ f) &&& T) := by
    rcases hT with rfl | rfl
    · rw [hin]
    · rw [and_cpl ham, and_cpl (h.lt _ f3)]
      have q1 := cnt_split m a s
      have q2 := cnt_split m (dif a (2 ^ e) ||| 2 ^ f) s
      have q3 := h.eqc a ha.1 _ f3
      rw [hin] at q2
      omega
  rw [← key]
  exact ha.2 b' hb'
theorem Mat.maxK_ex (T : Nat) : ∃ b, MaxK m B T b := by
  obtain ⟨b, hb, e⟩ := h.rk_mem T
  refine ⟨b, hb, fun b' hb' => ?_⟩
  have := le_rk (m := m) (s := T) hb'
  rw [Nat.and_comm b', Nat.and_comm b, ← e]; exact this
/-- WHAT IS LEFT is a matroid. -/
theorem Mat.minor {s T : Nat} {K : List Nat} (hT : T = s ∨ T = cpl m s) (hs : s < 2 ^ m) (hK : Fam (ps m s) K) (hm : ∀ x, x ∈ K ↔ ∃ b, MaxK m B T b ∧ x = pk m s b) : Mat (ps m s) K := by
  refine ⟨hK, ?_, ?_, ?_⟩
  · obtain ⟨b, hb⟩ := h.maxK_ex T
    intro e
    have := (hm _).2 ⟨b, hb, rfl⟩
    rw [e] at this; simp at this
  · intro x hx y hy
    obtain ⟨a, ha, rfl⟩ := (hm x).1 hx
    obtain ⟨b, hb, rfl⟩ := (hm y).1 hy
    rw [cnt_pk, cnt_pk]
    have h1 := h.eqc a ha.1 b hb.1
    have h2 := ha.2 b hb.1
    have h3 := hb.2 a ha.1
    have q1 := cnt_split m a s
    have q2 := cnt_split m b s
    rcases hT with rfl | rfl
    · omega
    · rw [and_cpl (h.lt a ha.1), and_cpl (h.lt b hb.1)] at h2 h3
      omega
  · intro x hx y hy i hi1 hi2
    obtain ⟨a, ha, rfl⟩ := (hm x).1 hx
    obtain ⟨b, hb, rfl⟩ := (hm y).1 hy
    obtain ⟨e, e1, e2, e3, rfl⟩ := (pk_bit m s a i).1 hi1
    rw [pk_at e1 e2] at hi2
    obtain ⟨f, f1, f2, f3, f4⟩ := h.exch_out hT hs ha hb e3 e2 hi2
    have hfm := bit_lt (h.lt b hb.1) f1
    refine ⟨ps f s, by rw [pk_at hfm f2]; exact f1, by rw [pk_at hfm f2]; exact f3, (hm _).2 ⟨_, f4, ?_⟩⟩
    exact pk_swap e1 hfm e2 f2
/-- One basis with most in t and most outside s. -/
theorem Mat.both {s t : Nat} (hs : s < 2 ^ m) (ht : t < 2 ^ m) (hd : s &&& t = 0) : ∃ b, MaxK m B (cpl m s) b ∧ MaxK m B t b := by
  have hts : Inc t (cpl m s) := fun i hi => by
    have := (disj_iff t s).1 (by rw [Nat.and_comm]; exact hd) i hi
    rw [cpl_bit, this]; simpa using bit_lt ht hi
  obtain ⟨I, i1, i2, i3⟩ := h.rk_ind (s := t)
  obtain ⟨J, j1, j2, j3, j4⟩ := h.extend (u := cpl m s) _ I (Nat.le_refl _) i1 (i2.trans hts)
  obtain ⟨b, hb, hJb⟩ := j1
  refine ⟨b, ⟨hb, fun b' hb' => ?_⟩, ⟨hb, fun b' hb' => ?_⟩⟩
  · have q1 : cnt m J ≤ cnt m (b &&& cpl m s) := cnt_le_of_inc (inc_and hJb j3)
    have q2 := le_rk (m := m) (s := cpl m s) hb'
    rw [Nat.and_comm] at q2
    omega
  · have q1 : cnt m I ≤ cnt m (b &&& t) := cnt_le_of_inc (inc_and (j2.trans hJb) i2)
    have q2 := le_rk (m := m) (s := t) hb'
    rw [Nat.and_comm] at q2
    omega
end
end Go.SH
