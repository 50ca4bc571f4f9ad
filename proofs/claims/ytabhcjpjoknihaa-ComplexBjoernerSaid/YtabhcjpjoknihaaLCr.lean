/-
  CRAPO: what is active within and without a basis; between what is active each set is in just one place. Conditions: none.
-/
import Derived.Test.YtabhcjpjoknihaaLTt
import Derived.Test.YtabhcjpjoknihaaLRm
set_option linter.unusedSimpArgs false
set_option linter.unusedVariables false
namespace Go.SH
open Go Go.AX

/-- No lesser element can be exchanged for it. -/
def Act (B : List Nat) (b i : Nat) : Prop := ∀ k, k < i → b.testBit i ≠ b.testBit k → b ^^^ 2 ^ i ^^^ 2 ^ k ∉ B
instance (B : List Nat) (b i : Nat) : Decidable (Act B b i) := by unfold Act; infer_instance
def ia (m : Nat) (B : List Nat) (b : Nat) : Nat := mkset m fun i => b.testBit i && decide (Act B b i)
def ea (m : Nat) (B : List Nat) (b : Nat) : Nat := mkset m fun i => !b.testBit i && decide (Act B b i)
theorem ia_bit (m : Nat) (B : List Nat) (b i : Nat) : (ia m B b).testBit i = true ↔ i < m ∧ b.testBit i = true ∧ Act B b i := by
  unfold ia; rw [mkset_bit]; simp
theorem ea_bit (m : Nat) (B : List Nat) (b i : Nat) : (ea m B b).testBit i = true ↔ i < m ∧ b.testBit i = false ∧ Act B b i := by
  unfold ea; rw [mkset_bit]; simp
/-- Between what is active. -/
def Btw (m : Nat) (B : List Nat) (b S : Nat) : Prop := Inc (dif b (ia m B b)) S ∧ Inc S (b ||| ea m B b)
theorem swap_io {b e k : Nat} (he : b.testBit e = true) (hk : b.testBit k = false) : b ^^^ 2 ^ e ^^^ 2 ^ k = dif b (2 ^ e) ||| 2 ^ k := Nat.eq_of_testBit_eq fun i => by
  rw [Nat.testBit_xor, Nat.testBit_xor, Nat.testBit_or, testBit_dif, testBit_pow, testBit_pow]
  have hne : e ≠ k := fun q => by rw [q, hk] at he; cases he
  by_cases c : e = i
  · subst c; simp [he, Ne.symm hne]
  · by_cases d : k = i
    · subst d; simp [hk, c]
    · simp [c, d]
theorem swap_oi {b e k : Nat} (he : b.testBit e = false) (hk : b.testBit k = true) : b ^^^ 2 ^ e ^^^ 2 ^ k = dif b (2 ^ k) ||| 2 ^ e := by
  rw [Nat.xor_assoc, Nat.xor_comm (2 ^ e), ← Nat.xor_assoc]; exact swap_io hk he

/-- What of a set is not less. -/
def hiS (S j : Nat) : Nat := dif S (2 ^ j - 1)
/-- A set, and all that is less. -/
def loS (S j : Nat) : Nat := S ||| (2 ^ j - 1)
theorem hi_bit (S j i : Nat) : (hiS S j).testBit i = (S.testBit i && !decide (i < j)) := by unfold hiS; rw [testBit_dif, full_bit]
theorem lo_bit (S j i : Nat) : (loS S j).testBit i = (S.testBit i || decide (i < j)) := by unfold loS; rw [Nat.testBit_or, full_bit]
theorem hi_in {S j : Nat} (h : S.testBit j = true) : hiS S j = hiS S (j + 1) ||| 2 ^ j := bx fun i => by
  rw [Nat.testBit_or, hi_bit, hi_bit, testBit_pow]
  by_cases c : j = i
  · subst c; simp [h]
  · have : decide (i < j + 1) = decide (i < j) := by rw [Bool.eq_iff_iff]; simp; omega
    simp [this, c]
theorem hi_out {S j : Nat} (h : S.testBit j = false) : hiS S j = hiS S (j + 1) := bx fun i => by
  rw [hi_bit, hi_bit]
  by_cases c : j = i
  · subst c; simp [h]
  · have : decide (i < j + 1) = decide (i < j) := by rw [Bool.eq_iff_iff]; simp; omega
    simp [this]
theorem lo_in {S j : Nat} (h : S.testBit j = true) : loS S (j + 1) = loS S j := bx fun i => by
  rw [lo_bit, lo_bit]
  by_cases c : j = i
  · subst c; simp [h]
  · have : decide (i < j + 1) = decide (i < j) := by rw [Bool.eq_iff_iff]; simp; omega
    simp [this]
theorem lo_out (S j : Nat) : loS S (j + 1) = loS S j ||| 2 ^ j := bx fun i => by
  rw [Nat.testBit_or, lo_bit, lo_bit, testBit_pow]
  by_cases c : j = i
  · subst c; simp
  · have : decide (i < j + 1) = decide (i < j) := by rw [Bool.eq_iff_iff]; simp; omega
    simp [this, c]
theorem and_or_in {b X e : Nat} (h : b.testBit e = true) : b &&& (X ||| 2 ^ e) = (b &&& X) ||| 2 ^ e := bx fun i => by
  rw [Nat.testBit_and, Nat.testBit_or, Nat.testBit_or, Nat.testBit_and, testBit_pow]
  by_cases c : e = i
  · subst c; simp [h]
  · simp [c]
theorem and_or_out {b X e : Nat} (h : b.testBit e = false) : b &&& (X ||| 2 ^ e) = b &&& X := bx fun i => by
  rw [Nat.testBit_and, Nat.testBit_or, Nat.testBit_and, testBit_pow]
  by_cases c : e = i
  · subst c; simp [h]
  · simp [c]
/-- It is what grows: from above within the set, then from below without. -/
structure Gro (m : Nat) (B : List Nat) (S b : Nat) : Prop where
  lt : b < 2 ^ m
  ins : ∀ e, e < m → S.testBit e = true → (b.testBit e = true ↔ rk m B (hiS S (e + 1) ||| 2 ^ e) ≠ rk m B (hiS S (e + 1)))
  out : ∀ e, e < m → S.testBit e = false → (b.testBit e = true ↔ rk m B (loS S e ||| 2 ^ e) ≠ rk m B (loS S e))
theorem Gro.uniq {m : Nat} {B : List Nat} {S b c : Nat} (h : Gro m B S b) (k : Gro m B S c) : b = c := set_ext h.lt k.lt fun e he => by
  rw [Bool.eq_iff_iff]
  cases q : S.testBit e with
  | true => rw [h.ins e he q, k.ins e he q]
  | false => rw [h.out e he q, k.out e he q]
theorem Gro.ex (m : Nat) (B : List Nat) (S : Nat) : ∃ b, Gro m B S b := by
  refine ⟨mkset m fun e => if S.testBit e = true then decide (rk m B (hiS S (e + 1) ||| 2 ^ e) ≠ rk m B (hiS S (e + 1))) else decide (rk m B (loS S e ||| 2 ^ e) ≠ rk m B (loS S e)), mkset_lt _ _, fun e he hs => ?_, fun e he hs => ?_⟩
  · rw [mkset_bit, if_pos hs]; simp [he]
  · rw [mkset_bit, if_neg (by rw [hs]; simp)]; simp [he]

section
variable {m : Nat} {B : List Nat} (h : Mat m B)
include h
theorem Mat.in_iff (s : Nat) : s ∈ B ↔ s < 2 ^ m ∧ rk m B s = cnt m s ∧ rk m B s = rk m B (2 ^ m - 1) := by
  have hf : ∀ b, b ∈ B → (2 ^ m - 1) &&& b = b := fun b hb => by
    rw [Nat.and_comm]
    exact inc_and_self fun x hx => by rw [full_bit]; simpa using bit_lt (h.lt b hb) hx
  have hb : ∀ b, b ∈ B → rk m B b = cnt m b := fun b hb => by
    have h1 := le_rk (m := m) (s := b) hb
    have h2 := h.rk_size b
    rw [Nat.and_self] at h1; omega
  have hfull : ∀ b, b ∈ B → rk m B (2 ^ m - 1) = cnt m b := fun b hb => by
    obtain ⟨b', h1, h2⟩ := h.rk_mem (2 ^ m - 1)
    rw [h2, hf b' h1]; exact h.eqc b' h1 b hb
  constructor
  · intro hs; exact ⟨h.lt s hs, hb s hs, by rw [hb s hs, hfull s hs]⟩
  · rintro ⟨h1, h2, h3⟩
    obtain ⟨b, b1, b2⟩ := (h.ind_iff h1).2 h2
    have := inc_eq_of_cnt b2 (h.lt b b1) (by rw [← hfull b b1]; omega)
    subst this; exact b1
theorem Mat.gro_step {X e b : Nat} (he : e < m) (hX : X.testBit e = false) (h1 : rk m B (b &&& X) = cnt m (b &&& X)) (h2 : rk m B X = cnt m (b &&& X)) (hj : b.testBit e = true ↔ rk m B (X ||| 2 ^ e) ≠ rk m B X) :
    rk m B (b &&& (X ||| 2 ^ e)) = cnt m (b &&& (X ||| 2 ^ e)) ∧ rk m B (X ||| 2 ^ e) = cnt m (b &&& (X ||| 2 ^ e)) := by
  cases q : b.testBit e with
  | true =>
    have hne := hj.1 q
    have hs := h.rk_step X he
    have hm := h.rk_mono (s := X) (t := X ||| 2 ^ e) (inc_or_l _ _)
    have hc := cnt_add (m := m) (s := b &&& X) he (by rw [Nat.testBit_and, hX]; simp)
    have hz := h.rk_size ((b &&& X) ||| 2 ^ e)
    have hsub := h.rk_sub X ((b &&& X) ||| 2 ^ e)
    have e1 : X ||| ((b &&& X) ||| 2 ^ e) = X ||| 2 ^ e := bx fun i => by
      rw [Nat.testBit_or, Nat.testBit_or, Nat.testBit_and, Nat.testBit_or]
      cases X.testBit i <;> cases b.testBit i <;> simp
    have e2 : X &&& ((b &&& X) ||| 2 ^ e) = b &&& X := bx fun i => by
      rw [Nat.testBit_and, Nat.testBit_or, Nat.testBit_and, testBit_pow]
      by_cases c : e = i
      · subst c; simp [hX]
      · cases X.testBit i <;> cases b.testBit i <;> simp [c]
    rw [e1, e2] at hsub
    rw [and_or_in q]
    omega
  | false =>
    have : rk m B (X ||| 2 ^ e) = rk m B X := by
      rcases Nat.decEq (rk m B (X ||| 2 ^ e)) (rk m B X) with c | c
      · rw [hj.2 c] at q; cases q
      · exact c
    rw [and_or_out q, this]
    exact ⟨h1, h2⟩
theorem Mat.gro_hi {S b : Nat} (hS : S < 2 ^ m) (hg : Gro m B S b) : ∀ d j, j + d = m → rk m B (b &&& hiS S j) = cnt m (b &&& hiS S j) ∧ rk m B (hiS S j) = cnt m (b &&& hiS S j)
  | 0, j, hj => by
    have : hiS S j = 0 := bx fun i => by
      rw [hi_bit, Nat.zero_testBit]
      rcases Nat.lt_or_ge i j with c | c
      · simp [c]
      · rw [bit_ge hS (by omega)]; rfl
    rw [this, Nat.and_zero, cnt_zero, h.rk_zero]
    exact ⟨rfl, rfl⟩
  | d + 1, j, hj => by
    have ih := Mat.gro_hi hS hg d (j + 1) (by omega)
    cases q : S.testBit j with
    | true =>
      rw [hi_in q]
      exact h.gro_step (by omega) (by rw [hi_bit]; simp) ih.1 ih.2 (hg.ins j (by omega) q)
    | false => rw [hi_out q]; exact ih
theorem Mat.gro_lo {S b : Nat} (hS : S < 2 ^ m) (hg : Gro m B S b) : ∀ j, j ≤ m → rk m B (b &&& loS S j) = cnt m (b &&& loS S j) ∧ rk m B (loS S j) = cnt m (b &&& loS S j)
  | 0, _ => by
    have e1 : loS S 0 = S := bx fun i => by rw [lo_bit]; simp
    have e2 : hiS S 0 = S := bx fun i => by rw [hi_bit]; simp
    have := h.gro_hi hS hg m 0 (by omega)
    rw [e2] at this
    rw [e1]; exact this
  | j + 1, hj => by
    have ih := Mat.gro_lo hS hg j (by omega)
    cases q : S.testBit j with
    | true => rw [lo_in q]; exact ih
    | false =>
      rw [lo_out]
      exact h.gro_step (by omega) (by rw [lo_bit, q]; simp) ih.1 ih.2 (hg.out j (by omega) q)
/-- It is a basis, and of the set it has what is free. -/
theorem Mat.gro_basis {S b : Nat} (hS : S < 2 ^ m) (hg : Gro m B S b) : b ∈ B ∧ rk m B S = cnt m (b &&& S) := by
  have e1 : loS S 0 = S := bx fun i => by rw [lo_bit]; simp
  have a1 := h.gro_lo hS hg 0 (by omega)
  have a2 := h.gro_lo hS hg m (Nat.le_refl m)
  have e2 : loS S m = 2 ^ m - 1 := bx fun i => by
    rw [lo_bit, full_bit]
    rcases Nat.lt_or_ge i m with c | c
    · simp [c]
    · rw [bit_ge hS c]; rfl
  have e3 : b &&& (2 ^ m - 1) = b := inc_and_self fun i hi => by rw [full_bit]; simpa using bit_lt hg.lt hi
  rw [e1] at a1
  rw [e2, e3] at a2
  exact ⟨(h.in_iff b).2 ⟨hg.lt, a2.1, a2.1.trans a2.2.symm⟩, a1.2⟩
/-- What is not free can be had instead of an element that is not within. -/
theorem Mat.fund {b X e : Nat} (hb : b ∈ B) (hX : Inc X b) (he : e < m) (hn : b.testBit e = false) (hr : rk m B (X ||| 2 ^ e) ≠ rk m B X) : ∃ f, b.testBit f = true ∧ X.testBit f = false ∧ dif b (2 ^ f) ||| 2 ^ e ∈ B := by
  obtain ⟨b1, b2, b3⟩ := (h.in_iff b).1 hb
  have iX : Ind B X := ⟨b, hb, hX⟩
  have lX := hX.lt b1
  have rX := (h.ind_iff lX).1 iX
  have hXe : X.testBit e = false := by
    cases q : X.testBit e
    · rfl
    · rw [hX e q] at hn; cases hn
  have hc := cnt_add (m := m) he hXe
  have hs := h.rk_step X he
  have hm := h.rk_mono (s := X) (t := X ||| 2 ^ e) (inc_or_l _ _)
  have iXe : Ind B (X ||| 2 ^ e) := (h.ind_iff (or_lt lX (pow_lt he))).2 (by omega)
  obtain ⟨J, j1, j2, j3, j4⟩ := h.extend (u := b ||| 2 ^ e) _ (X ||| 2 ^ e) (Nat.le_refl _) iXe (inc_or (hX.trans (inc_or_l _ _)) (inc_or_r _ _))
  have r1 := h.rk_mono (s := b) (t := b ||| 2 ^ e) (inc_or_l _ _)
  have lbe := or_lt b1 (pow_lt he)
  have r2 := h.rk_mono (s := b ||| 2 ^ e) (t := 2 ^ m - 1) fun i hi => by rw [full_bit]; simpa using bit_lt lbe hi
  have lJ := j3.lt lbe
  have rJ := (h.ind_iff lJ).1 j1
  have hJ : J ∈ B := (h.in_iff J).2 ⟨lJ, rJ, by omega⟩
  have hJe : J.testBit e = true := j2 e (by rw [Nat.testBit_or, testBit_pow]; simp)
  rcases Classical.em (∃ f, b.testBit f = true ∧ J.testBit f = false) with ⟨f, f1, f2⟩ | q
  · refine ⟨f, f1, ?_, ?_⟩
    · cases q : X.testBit f
      · rfl
      · rw [j2 f (by rw [Nat.testBit_or, q]; rfl)] at f2; cases f2
    · have hfe : f ≠ e := fun q => by rw [q, hn] at f1; cases f1
      have inc : Inc J (dif b (2 ^ f) ||| 2 ^ e) := fun i hi => by
        have := j3 i hi
        rw [Nat.testBit_or, testBit_dif, testBit_pow, testBit_pow]
        rw [Nat.testBit_or, testBit_pow] at this
        by_cases c : f = i
        · subst c; rw [f2] at hi; cases hi
        · by_cases d : e = i
          · simp [d]
          · simpa [c, d] using this
      have lt2 : dif b (2 ^ f) ||| 2 ^ e < 2 ^ m := or_lt (dif_lt b1) (pow_lt he)
      have c1 := cnt_add (m := m) (s := dif b (2 ^ f)) he (by rw [testBit_dif, hn]; rfl)
      have c2 := cnt_dif b1 f1
      have := inc_eq_of_cnt inc lt2 (by omega)
      rw [← this]; exact hJ
  · exfalso
    have inc : Inc (b ||| 2 ^ e) J := fun i hi => by
      rw [Nat.testBit_or, testBit_pow] at hi
      by_cases c : e = i
      · subst c; exact hJe
      · cases z : J.testBit i
        · exact absurd ⟨i, by simpa [c] using hi, z⟩ q
        · rfl
    have c1 := cnt_le_of_inc (m := m) inc
    have c2 := cnt_add (m := m) he hn
    omega
theorem Mat.rk_keep {s t i : Nat} (hst : Inc s t) (he : rk m B (s ||| 2 ^ i) = rk m B s) : rk m B (t ||| 2 ^ i) = rk m B t := by
  have h1 := h.rk_sub t (s ||| 2 ^ i)
  have h2 := h.rk_mono (s := t) (t := t ||| 2 ^ i) (inc_or_l _ _)
  have h3 := h.rk_mono (s := s) (t := t &&& (s ||| 2 ^ i)) (inc_and hst (inc_or_l _ _))
  have e1 : t ||| (s ||| 2 ^ i) = t ||| 2 ^ i := bx fun j => by
    rw [Nat.testBit_or, Nat.testBit_or, Nat.testBit_or]
    cases q : s.testBit j
    · simp
    · simp [hst j q]
  rw [e1] at h1
  omega
/-- It grows just so, if it is a basis and the set lies between what is active. -/
theorem Mat.btw_gro {S b : Nat} (hS : S < 2 ^ m) (hb : b ∈ B) (hbt : Btw m B b S) : Gro m B S b := by
  obtain ⟨b1, b2, b3⟩ := (h.in_iff b).1 hb
  have free : ∀ X, Inc X b → rk m B X = cnt m X := fun X hX => (h.ind_iff (hX.lt b1)).1 ⟨b, hb, hX⟩
  have inA : ∀ f, b.testBit f = true → S.testBit f = false → Act B b f := fun f f1 f2 => by
    rcases Classical.em (Act B b f) with q | q
    · exact q
    · have := hbt.1 f (by
        rw [testBit_dif, f1, Bool.true_and]
        cases z : (ia m B b).testBit f
        · rfl
        · exact absurd ((ia_bit m B b f).1 z).2.2 q)
      rw [this] at f2; cases f2
  have exA : ∀ e, S.testBit e = true → b.testBit e = false → Act B b e := fun e e1 e2 => by
    have := hbt.2 e e1
    rw [Nat.testBit_or, e2, Bool.false_or] at this
    exact ((ea_bit m B b e).1 this).2.2
  -- what is without a basis hangs on what is ahead of it
  have s1 : ∀ e, e < m → S.testBit e = true → b.testBit e = false → rk m B ((b &&& hiS S (e + 1)) ||| 2 ^ e) = rk m B (b &&& hiS S (e + 1)) := fun e he e1 e2 => by
    rcases Nat.decEq (rk m B ((b &&& hiS S (e + 1)) ||| 2 ^ e)) (rk m B (b &&& hiS S (e + 1))) with c | c
    rotate_left
    · exact c
    exfalso
    obtain ⟨f, f1, f2, f3⟩ := h.fund hb (inc_and_l _ _) he e2 c
    have hne : f ≠ e := fun q => by rw [q, e2] at f1; cases f1
    rcases Nat.lt_or_ge f e with d | d
    · exact exA e e1 e2 f d (by rw [e2, f1]; simp) (by rw [swap_oi e2 f1]; exact f3)
    · have hSf : S.testBit f = false := by
        rw [Nat.testBit_and, f1, Bool.true_and, hi_bit] at f2
        have : decide (f < e + 1) = false := by simp; omega
        rw [this] at f2; simpa using f2
      exact inA f f1 hSf e (by omega) (by rw [e2, f1]; simp) (by rw [swap_io f1 e2]; exact f3)
  have s2 : ∀ e, e < m → S.testBit e = false → b.testBit e = false → rk m B ((b &&& loS S e) ||| 2 ^ e) = rk m B (b &&& loS S e) := fun e he e1 e2 => by
    rcases Nat.decEq (rk m B ((b &&& loS S e) ||| 2 ^ e)) (rk m B (b &&& loS S e)) with c | c
    rotate_left
    · exact c
    exfalso
    obtain ⟨f, f1, f2, f3⟩ := h.fund hb (inc_and_l _ _) he e2 c
    have hne : f ≠ e := fun q => by rw [q, e2] at f1; cases f1
    rw [Nat.testBit_and, f1, Bool.true_and, lo_bit, Bool.or_eq_false_iff] at f2
    have hlt : ¬ f < e := by simpa using f2.2
    exact inA f f1 f2.1 e (by omega) (by rw [e2, f1]; simp) (by rw [swap_io f1 e2]; exact f3)
  have r1 : ∀ d j, j + d = m → rk m B (hiS S j) = rk m B (b &&& hiS S j) := by
    intro d
    induction d with
    | zero =>
      intro j hj
      have : hiS S j = 0 := bx fun i => by
        rw [hi_bit, Nat.zero_testBit]
        rcases Nat.lt_or_ge i j with c | c
        · simp [c]
        · rw [bit_ge hS (by omega)]; rfl
      rw [this, Nat.and_zero]
    | succ d ih =>
      intro j hj
      have ih := ih (j + 1) (by omega)
      cases q : S.testBit j with
      | false => rw [hi_out q]; exact ih
      | true =>
        rw [hi_in q]
        cases z : b.testBit j with
        | false => rw [and_or_out z, h.rk_keep (inc_and_r b _) (s1 j (by omega) q z)]; exact ih
        | true =>
          have k1 := h.rk_step (hiS S (j + 1)) (i := j) (by omega)
          have k2 := h.rk_mono (s := b &&& (hiS S (j + 1) ||| 2 ^ j)) (inc_and_r _ _)
          have k3 := free (b &&& (hiS S (j + 1) ||| 2 ^ j)) (inc_and_l _ _)
          have k4 := free (b &&& hiS S (j + 1)) (inc_and_l _ _)
          have k5 := cnt_add (m := m) (s := b &&& hiS S (j + 1)) (i := j) (by omega) (by rw [Nat.testBit_and, hi_bit]; simp)
          rw [← and_or_in z] at k5
          omega
  have r2 : ∀ j, j ≤ m → rk m B (loS S j) = rk m B (b &&& loS S j) := by
    intro j
    induction j with
    | zero =>
      intro _
      have e1 : loS S 0 = S := bx fun i => by rw [lo_bit]; simp
      have e2 : hiS S 0 = S := bx fun i => by rw [hi_bit]; simp
      have := r1 m 0 (by omega)
      rw [e2] at this
      rw [e1]; exact this
    | succ j ih =>
      intro hj
      have ih := ih (by omega)
      cases q : S.testBit j with
      | true => rw [lo_in q]; exact ih
      | false =>
        rw [lo_out]
        cases z : b.testBit j with
        | false => rw [and_or_out z, h.rk_keep (inc_and_r b _) (s2 j (by omega) q z)]; exact ih
        | true =>
          have k1 := h.rk_step (loS S j) (i := j) (by omega)
          have k2 := h.rk_mono (s := b &&& (loS S j ||| 2 ^ j)) (inc_and_r _ _)
          have k3 := free (b &&& (loS S j ||| 2 ^ j)) (inc_and_l _ _)
          have k4 := free (b &&& loS S j) (inc_and_l _ _)
          have k5 := cnt_add (m := m) (s := b &&& loS S j) (i := j) (by omega) (by rw [Nat.testBit_and, lo_bit, q]; simp)
          rw [← and_or_in z] at k5
          omega
  refine ⟨b1, fun e he hs => ⟨fun hbe => ?_, fun hne => ?_⟩, fun e he hs => ⟨fun hbe => ?_, fun hne => ?_⟩⟩
  · have k0 := r1 (m - (e + 1)) (e + 1) (by omega)
    have k2 := h.rk_mono (s := b &&& (hiS S (e + 1) ||| 2 ^ e)) (inc_and_r _ _)
    have k3 := free (b &&& (hiS S (e + 1) ||| 2 ^ e)) (inc_and_l _ _)
    have k4 := free (b &&& hiS S (e + 1)) (inc_and_l _ _)
    have k5 := cnt_add (m := m) (s := b &&& hiS S (e + 1)) (i := e) he (by rw [Nat.testBit_and, hi_bit]; simp)
    rw [← and_or_in hbe] at k5
    omega
  · cases z : b.testBit e
    · exact absurd (h.rk_keep (inc_and_r b _) (s1 e he hs z)) hne
    · rfl
  · have k0 := r2 e (by omega)
    have k2 := h.rk_mono (s := b &&& (loS S e ||| 2 ^ e)) (inc_and_r _ _)
    have k3 := free (b &&& (loS S e ||| 2 ^ e)) (inc_and_l _ _)
    have k4 := free (b &&& loS S e) (inc_and_l _ _)
    have k5 := cnt_add (m := m) (s := b &&& loS S e) (i := e) he (by rw [Nat.testBit_and, lo_bit, hs]; simp)
    rw [← and_or_in hbe] at k5
    omega
  · cases z : b.testBit e
    · exact absurd (h.rk_keep (inc_and_r b _) (s2 e he hs z)) hne
    · rfl
/-- What grows so has the set between what is active. -/
theorem Mat.gro_btw {S b : Nat} (hS : S < 2 ^ m) (hg : Gro m B S b) : Btw m B b S := by
  have hb := (h.gro_basis hS hg).1
  obtain ⟨b1, b2, b3⟩ := (h.in_iff b).1 hb
  -- a set that hangs together is in no basis
  have no : ∀ X e k, e < m → X.testBit e = false → rk m B (X ||| 2 ^ e) = cnt m X → Inc (X ||| 2 ^ e) k → k ∉ B := fun X e k he hX hr hk hkB => by
    obtain ⟨k1, _, _⟩ := (h.in_iff k).1 hkB
    have := (h.ind_iff (hk.lt k1)).1 ⟨k, hkB, hk⟩
    have := cnt_add (m := m) he hX
    omega
  constructor
  · intro e he
    rw [testBit_dif, Bool.and_eq_true, Bool.not_eq_true'] at he
    cases q : S.testBit e with
    | true => rfl
    | false =>
      exfalso
      have hem := bit_lt b1 he.1
      have : (ia m B b).testBit e = true := (ia_bit m B b e).2 ⟨hem, he.1, fun k hk hne => by
        have hbk : b.testBit k = false := by rw [he.1] at hne; simpa using hne
        rw [swap_io he.1 hbk]
        have g := h.gro_lo hS hg e (by omega)
        refine no (b &&& loS S e) k _ (by omega) (by rw [Nat.testBit_and, hbk]; rfl) ?_ fun i hi => ?_
        · have e1 : Inc ((b &&& loS S e) ||| 2 ^ k) (loS S e) := inc_or (inc_and_r _ _) (inc_pow (by rw [lo_bit]; simp [hk]))
          have a1 := h.rk_mono e1
          have a2 := h.rk_mono (s := b &&& loS S e) (t := (b &&& loS S e) ||| 2 ^ k) (inc_or_l _ _)
          omega
        · rw [Nat.testBit_or, Nat.testBit_and, lo_bit, testBit_pow] at hi
          rw [Nat.testBit_or, testBit_dif, testBit_pow, testBit_pow]
          by_cases c : k = i
          · simp [c]
          · by_cases d : e = i
            · subst d; simp [q, c] at hi
            · simp [c] at hi; simp [c, d, hi.1]⟩
      rw [this] at he
      cases he.2
  · intro e he
    rw [Nat.testBit_or]
    cases q : b.testBit e with
    | true => rfl
    | false =>
      have hem := bit_lt hS he
      have : (ea m B b).testBit e = true := (ea_bit m B b e).2 ⟨hem, q, fun k hk hne => by
        have hbk : b.testBit k = true := by rw [q] at hne; simpa using hne
        rw [swap_oi q hbk]
        have g := h.gro_hi hS hg (m - (e + 1)) (e + 1) (by omega)
        have hj : rk m B (hiS S (e + 1) ||| 2 ^ e) = rk m B (hiS S (e + 1)) := by
          rcases Nat.decEq (rk m B (hiS S (e + 1) ||| 2 ^ e)) (rk m B (hiS S (e + 1))) with c | c
          · rw [(hg.ins e hem he).2 c] at q; cases q
          · exact c
        refine no (b &&& hiS S (e + 1)) e _ hem (by rw [Nat.testBit_and, q]; rfl) ?_ fun i hi => ?_
        · have e1 : Inc ((b &&& hiS S (e + 1)) ||| 2 ^ e) (hiS S (e + 1) ||| 2 ^ e) := inc_or ((inc_and_r _ _).trans (inc_or_l _ _)) (inc_or_r _ _)
          have a1 := h.rk_mono e1
          have a2 := h.rk_mono (s := b &&& hiS S (e + 1)) (t := (b &&& hiS S (e + 1)) ||| 2 ^ e) (inc_or_l _ _)
          omega
        · rw [Nat.testBit_or, Nat.testBit_and, hi_bit, testBit_pow] at hi
          rw [Nat.testBit_or, testBit_dif, testBit_pow, testBit_pow]
          by_cases c : e = i
          · simp [c]
          · by_cases d : k = i
            · subst d; simp [c] at hi; omega
            · simp [c] at hi; simp [c, d, hi.1]⟩
      rw [this]; simp
/-- CRAPO: between what is active each set is in just one place; there its rank is told. -/
theorem Mat.crapo {S : Nat} (hS : S < 2 ^ m) : ∃ b, b ∈ B ∧ Btw m B b S ∧ rk m B S = cnt m (b &&& S) ∧ ∀ c, c ∈ B → Btw m B c S → c = b := by
  obtain ⟨b, hg⟩ := Gro.ex m B S
  obtain ⟨g1, g2⟩ := h.gro_basis hS hg
  exact ⟨b, g1, h.gro_btw hS hg, g2, fun c hc hb => (h.btw_gro hS hc hb).uniq hg⟩
omit h in
theorem ia_ea {b : Nat} : ∀ x, (ia m B b).testBit x = true → (ea m B b).testBit x = false := fun x hx => by
  cases q : (ea m B b).testBit x
  · rfl
  · have h1 := ((ia_bit m B b x).1 hx).2.1
    have h2 := ((ea_bit m B b x).1 q).2.1
    rw [h1] at h2; cases h2
omit h in
theorem btw_xor {b T : Nat} (hT : T < 2 ^ m) : Btw m B b (T ^^^ b) ↔ ∀ x, x < m → T.testBit x = true → (ia m B b ||| ea m B b).testBit x = true := by
  constructor
  · rintro ⟨h1, h2⟩ x hx hb
    rw [Nat.testBit_or]
    cases q : b.testBit x with
    | true =>
      cases z : (ia m B b).testBit x
      · have := h1 x (by rw [testBit_dif, q, z]; rfl)
        rw [Nat.testBit_xor, hb, q] at this; cases this
      · rfl
    | false =>
      have := h2 x (by rw [Nat.testBit_xor, hb, q]; rfl)
      rw [Nat.testBit_or, q, Bool.false_or] at this
      rw [this]; simp
  · intro h0
    constructor
    · intro x hx
      rw [testBit_dif, Bool.and_eq_true, Bool.not_eq_true'] at hx
      rw [Nat.testBit_xor, hx.1]
      cases q : T.testBit x
      · rfl
      · exfalso
        have := h0 x (bit_lt hT q) q
        rw [Nat.testBit_or, hx.2, Bool.false_or] at this
        have := ((ea_bit m B b x).1 this).2.1
        rw [hx.1] at this; cases this
    · intro x hx
      rw [Nat.testBit_or]
      cases q : b.testBit x with
      | true => rfl
      | false =>
        rw [Nat.testBit_xor, q] at hx
        have hTx : T.testBit x = true := by simpa using hx
        have := h0 x (bit_lt hT hTx) hTx
        rw [Nat.testBit_or] at this
        cases z : (ia m B b).testBit x
        · rw [z] at this; simpa using this
        · have := ((ia_bit m B b x).1 z).2.1
          rw [q] at this; cases this
omit h in
theorem btw_cnt {b T : Nat} (hT : ∀ x, x < m → T.testBit x = true → (ia m B b ||| ea m B b).testBit x = true) : cnt m (dif b (T ^^^ b)) = cnt m (T &&& ia m B b) ∧ cnt m (dif (T ^^^ b) b) = cnt m (T &&& ea m B b) := by
  constructor
  · refine cnt_congr fun x hx => ?_
    rw [testBit_dif, Nat.testBit_xor, Nat.testBit_and]
    cases q : T.testBit x with
    | false => cases b.testBit x <;> rfl
    | true =>
      have := hT x hx q
      rw [Nat.testBit_or] at this
      cases z : b.testBit x with
      | true =>
        cases u : (ia m B b).testBit x
        · rw [u, Bool.false_or] at this
          have := ((ea_bit m B b x).1 this).2.1
          rw [z] at this; cases this
        · rfl
      | false =>
        cases u : (ia m B b).testBit x
        · rfl
        · have := ((ia_bit m B b x).1 u).2.1
          rw [z] at this; cases this
  · refine cnt_congr fun x hx => ?_
    rw [testBit_dif, Nat.testBit_xor, Nat.testBit_and]
    cases q : T.testBit x with
    | false => cases b.testBit x <;> rfl
    | true =>
      have := hT x hx q
      rw [Nat.testBit_or] at this
      cases z : b.testBit x with
      | true =>
        cases u : (ea m B b).testBit x
        · rfl
        · have := ((ea_bit m B b x).1 u).2.1
          rw [z] at this; cases this
      | false =>
        cases u : (ia m B b).testBit x
        · rw [u, Bool.false_or] at this; rw [this]; rfl
        · have := ((ia_bit m B b x).1 u).2.1
          rw [z] at this; cases this
instance (m : Nat) (B : List Nat) (b S : Nat) : Decidable (Btw m B b S) := decidable_of_iff (dif (dif b (ia m B b)) S = 0 ∧ dif S (b ||| ea m B b) = 0) (by unfold Btw; rw [sub_iff_dif, sub_iff_dif])
/-- CRAPO: the polynomial counts bases by what is active. -/
theorem Mat.poly (i j : Nat) : sumN (2 ^ m) (tS m B i j) = sumN B.length (fun k => if cnt m (ia m B (B.getD k 0)) = i ∧ cnt m (ea m B (B.getD k 0)) = j then 1 else 0) := by
  have e1 : ∀ S, S < 2 ^ m → tS m B i j S = sumN B.length (fun k => if Btw m B (B.getD k 0) S then tS m B i j S else 0) := fun S hS => by
    obtain ⟨b, b1, b2, _, b4⟩ := h.crapo hS
    obtain ⟨k0, k1, k2⟩ := mem_getD.1 b1
    rw [sumN_congr (h := fun k => if k = k0 then tS m B i j S else 0) fun k hk => ?_, sumN_single _ _ _ k1]
    by_cases c : k = k0
    · subst c; rw [if_pos rfl, if_pos (by rw [k2]; exact b2)]
    · rw [if_neg c, if_neg fun w => ?_]
      have := b4 _ (mem_getD.2 ⟨k, hk, rfl⟩) w
      rcases Nat.lt_or_gt_of_ne c with d | d
      · have := h.rise k k0 d k1; omega
      · have := h.rise k0 k d hk; omega
  rw [sumN_congr e1, sumN_swap]
  refine sumN_congr fun k hk => ?_
  have hb : B.getD k 0 ∈ B := mem_getD.2 ⟨k, hk, rfl⟩
  generalize B.getD k 0 = b at hb
  obtain ⟨b1, b2, b3⟩ := (h.in_iff b).1 hb
  rw [← tc_sum m (ia m B b) (ea m B b) i j ia_ea, ← sumN_xor b1]
  refine sumN_congr fun T hT => ?_
  by_cases c : Btw m B b (T ^^^ b)
  · have c' := (btw_xor hT).1 c
    rw [if_pos c, if_pos c']
    obtain ⟨d1, d2⟩ := btw_cnt c'
    have hlt : T ^^^ b < 2 ^ m := Nat.xor_lt_two_pow hT b1
    obtain ⟨b', q1, q2, q3, q4⟩ := h.crapo hlt
    have : b = b' := q4 b hb c
    subst this
    have f1 := cnt_split m b (T ^^^ b)
    have f2 := cnt_split m (T ^^^ b) b
    rw [Nat.and_comm (T ^^^ b) b] at f2
    unfold tS
    rw [q3, ← d1, ← d2, ← b3, b2]
    congr 2 <;> omega
  · rw [if_neg c, if_neg fun w => c ((btw_xor hT).2 w)]
end
end Go.SH
