/-
 Tuples of words: the characteristic polynomial counts those that vanish nowhere together. Conditions: none.
-/
import Derived.Test.YtlpikingpnenkaaLcA
set_option linter.unusedSimpArgs false
set_option linter.unusedVariables false
set_option linter.unusedSectionVars false
namespace Go.SH
open Go Go.AX
section
variable {p : Nat} [NeZero p]
/-- The places at which a word is nought. -/
def zr : Nat → (Nat → Fin p) → Nat
 | 0, _ => 0
 | n + 1, x => zr n x ||| (if x n = 0 then 2 ^ n else 0)
theorem zr_bit (x : Nat → Fin p) (j : Nat) : ∀ n, (zr n x).testBit j = (decide (j < n) && decide (x j = 0))
 | 0 => by simp [zr]
 | n + 1 => by
  rw [zr, Nat.testBit_or, zr_bit x j n]
  by_cases c : x n = 0
  ·rw [if_pos c, testBit_pow, Bool.eq_iff_iff]
   simp only [Bool.or_eq_true, Bool.and_eq_true, decide_eq_true_eq]
   constructor
   ·rintro (⟨h1, h2⟩ | rfl)
    ·exact ⟨by omega, h2⟩
    ·exact ⟨by omega, c⟩
   ·rintro ⟨h1, h2⟩
    rcases Classical.em (n = j) with e | e
    ·exact .inr e
    ·exact .inl ⟨by omega, h2⟩
  ·rw [if_neg c, Bool.eq_iff_iff]
   simp only [Bool.or_eq_true, Bool.and_eq_true, decide_eq_true_eq, Nat.zero_testBit, Bool.false_eq_true, or_false]
   constructor
   ·rintro ⟨h1, h2⟩; exact ⟨by omega, h2⟩
   ·rintro ⟨h1, h2⟩
    refine ⟨?_, h2⟩
    rcases Classical.em (j = n) with e | e
    ·subst e; exact absurd h2 c
    ·omega
theorem zr_lt (n : Nat) (x : Nat → Fin p) : zr n x < 2 ^ n := lt_of_bits fun i hi => by
 rw [zr_bit]; simp; omega
variable {k n : Nat} {M : Nat → Nat → Fin p}
theorem inc_zr {S : Nat} (hS : S < 2 ^ n) (a : Nat → Fin p) : Inc S (zr n (cw k M a)) ↔ van k n M S a := by
 constructor
 ·intro h j hj hb
  have := h j hb
  rw [zr_bit] at this
  simpa [hj] using this
 ·intro h j hb
  have hj := bit_lt hS hb
  rw [zr_bit, h j hj hb]; simp [hj]
/-- A sum over all tuples of t words, by where they all vanish. -/
def tS (k n : Nat) (M : Nat → Nat → Fin p) : Nat → Nat → (Nat → Int) → Int
 | 0, Z, G => G Z
 | t + 1, Z, G => vI k fun a => tS k n M t (Z &&& zr n (cw k M a)) G
theorem tS_sum (m : Nat) (G : Nat → Nat → Int) : ∀ t Z, tS k n M t Z (fun W => sumN m fun i => G i W) = sumN m fun i => tS k n M t Z (G i)
 | 0, Z => rfl
 | t + 1, Z => by
  simp only [tS]
  rw [← vI_sum]
  exact vI_congr fun a => tS_sum m G t _
theorem tS_mul (c : Int) (G : Nat → Int) : ∀ t Z, tS k n M t Z (fun W => c * G W) = c * tS k n M t Z G
 | 0, Z => rfl
 | t + 1, Z => by
  simp only [tS]
  rw [← vI_mul]
  exact vI_congr fun a => tS_mul c G t _
theorem tS_congr {Q : Nat → Prop} (hQ : ∀ Z a, Q Z → Q (Z &&& zr n (cw k M a))) {G H : Nat → Int} (h : ∀ W, Q W → G W = H W) : ∀ t Z, Q Z → tS k n M t Z G = tS k n M t Z H
 | 0, Z, hZ => h Z hZ
 | t + 1, Z, hZ => vI_congr fun a => tS_congr hQ h t _ (hQ Z a hZ)
open Classical in
theorem tS_inc {S : Nat} (hS : S < 2 ^ n) : ∀ t Z, tS k n M t Z (fun W => if Inc S W then 1 else 0) = if Inc S Z then (NS k n M S) ^ t else 0
 | 0, Z => by simp [tS]
 | t + 1, Z => by
  simp only [tS]
  rw [vI_congr (G := fun a => (if Inc S Z then (NS k n M S) ^ t else 0) * if van k n M S a then 1 else 0) fun a => ?_, vI_mul]
  ·by_cases c : Inc S Z
   ·rw [if_pos c, if_pos c, Int.pow_succ]; rfl
   ·rw [if_neg c, if_neg c, Int.zero_mul]
  ·rw [tS_inc hS t]
   have e : Inc S (Z &&& zr n (cw k M a)) ↔ Inc S Z ∧ van k n M S a := by
    rw [← inc_zr hS]
    exact ⟨fun h => ⟨h.trans (inc_and_l _ _), h.trans (inc_and_r _ _)⟩, fun h => inc_and h.1 h.2⟩
   by_cases c : Inc S Z <;> by_cases d : van k n M S a <;> simp [e, c, d]
/-- t words vanish nowhere of Z together. -/
def Rc (k n : Nat) (M : Nat → Nat → Fin p) : Nat → Nat → Prop
 | 0, Z => Z = 0
 | t + 1, Z => ∃ a : Nat → Fin p, Rc k n M t (Z &&& zr n (cw k M a))
theorem tS_nn : ∀ t Z, 0 ≤ tS k n M t Z (fun W => if W = 0 then 1 else 0)
 | 0, Z => by simp only [tS]; split <;> omega
 | t + 1, Z => vI_nn fun a => tS_nn t _
theorem tS_pos : ∀ t Z, 0 < tS k n M t Z (fun W => if W = 0 then 1 else 0) ↔ Rc k n M t Z
 | 0, Z => by
  simp only [tS, Rc]
  by_cases c : Z = 0 <;> simp [c]
 | t + 1, Z => by
  simp only [tS, Rc]
  constructor
  ·intro h
   obtain ⟨a, ha⟩ := vI_some h
   exact ⟨a, (tS_pos t _).1 ha⟩
  ·rintro ⟨a, ha⟩
   have h1 := (tS_pos t _).2 ha
   have h2 := vI_at (n := k) (F := fun a => tS k n M t (Z &&& zr n (cw k M a)) fun W => if W = 0 then 1 else 0) (fun v => tS_nn t _) (fun i => if i < k then a i else 0) fun i hi => if_neg (by omega)
   simp only [cw_trunc] at h2
   omega
/-! ### the polynomial -/
theorem pval_app (l : List Int) (x q : Int) : pval (l ++ [x]) q = pval l q + q ^ l.length * x := by
 induction l with
 | nil => simp [pval]
 | cons y r ih =>
  simp only [List.cons_append, pval, ih, List.length_cons, Int.pow_succ, Int.mul_add]
  rw [← Int.mul_assoc q (q ^ r.length) x, Int.mul_comm q (q ^ r.length)]; omega
theorem pval_range (f : Nat → Int) (q : Int) : ∀ n, pval ((List.range n).map f) q = sumN n fun j => q ^ j * f j
 | 0 => rfl
 | n + 1 => by
  rw [List.range_succ, List.map_append, List.map_singleton, pval_app, pval_range f q n]
  simp [sumN]
theorem chr_val {m : Nat} {B : List Nat} (h : Mat m B) (h0 : Flat m B 0) (q : Int) : pval (chr m B) q = sumN (flats m B).length fun i => mob (flats m B) i * q ^ (rk m B (2 ^ m - 1) - rk m B ((flats m B).getD i 0)) := by
 unfold chr
 rw [if_pos (h.flat0.2 h0), pval_range]
 simp only [← sumN_mul]
 rw [sumN_swap']
 refine sumN_congr fun i hi => ?_
 have hle := h.rk_full (mem_flats.1 (mem_getD.2 ⟨i, hi, rfl⟩)).1
 rw [sumN_congr (h := fun j => if j = rk m B (2 ^ m - 1) - rk m B ((flats m B).getD i 0) then mob (flats m B) i * q ^ (rk m B (2 ^ m - 1) - rk m B ((flats m B).getD i 0)) else 0) fun j _ => ?_]
 ·exact sumN_one _ (by omega)
 ·by_cases c : rk m B (2 ^ m - 1) - rk m B ((flats m B).getD i 0) = j
  ·rw [if_pos c, if_pos c.symm, c, Int.mul_comm]
  ·rw [if_neg c, if_neg (Ne.symm c), Int.mul_zero]
theorem sumN_cut (g : Nat → Int) : ∀ {a b : Nat}, a ≤ b → (∀ i, a ≤ i → i < b → g i = 0) → sumN b g = sumN a g
 | a, 0, h, _ => by rw [show a = 0 by omega]
 | a, b + 1, h, hz => by
  rcases Nat.lt_or_ge a (b + 1) with c | c
  ·simp only [sumN]
   rw [hz b (by omega) (by omega), sumN_cut g (by omega) fun i h1 h2 => hz i h1 (by omega)]; omega
  ·rw [show a = b + 1 by omega]
theorem mob_sum {m : Nat} {B : List Nat} (h : Mat m B) (h0 : Flat m B 0) {Z : Nat} (hZ : Z < 2 ^ m) (hf : Flat m B Z) : sumN (flats m B).length (fun i => mob (flats m B) i * if Inc ((flats m B).getD i 0) Z then 1 else 0) = if Z = 0 then 1 else 0 := by
 have hF : Fam m (flats m B) := filter_fam h.m8 _
 obtain ⟨j, hj, rfl⟩ := mem_getD.1 (mem_flats.2 ⟨hZ, hf⟩)
 have z0 := h.flat0.2 h0
 rw [sumN_congr (h := fun i => if Inc ((flats m B).getD i 0) ((flats m B).getD j 0) then mob (flats m B) i else 0) fun i _ => by split <;> simp]
 rw [sumN_cut _ (show j + 1 ≤ (flats m B).length by omega) fun i h1 h2 => if_neg fun hi => ?_]
 ·simp only [sumN]
  rw [if_pos (Inc.refl _), mob_eq (flats m B) j]
  by_cases c : j = 0
  ·subst c
   rw [if_pos rfl, z0, if_pos rfl]; rfl
  ·rw [if_neg c, if_neg fun e => c (by
    have := hF.rise 0 j (by omega) hj
    omega)]
   omega
 ·have := hF.rise j i (by omega) h2
  have h3 := (sub_iff_and _ _).2 hi
  have : (flats m B).getD i 0 ≤ (flats m B).getD j 0 := by rw [← h3]; exact Nat.and_le_right
  omega
/-! ### the matroid of the columns -/
/-- A matroid of a matrix' columns, the rows having heads. -/
structure ColMat (p : Nat) [NeZero p] (k n : Nat) (Y : List (List Int)) (h : Nat → Nat) (B : List Nat) : Prop where
 mat : Mat n B
 ind : ∀ s, s < 2 ^ n → (Ind B s ↔ ColInd p k n Y s)
 red : Rr k n h (MF p Y)
variable {Y : List (List Int)} {h : Nat → Nat} {B : List Nat}
/-- A column that an independent set spans: words that vanish there vanish at it. -/
theorem van_span (hp : Fld p) {I j : Nat} (hj : j < n) (h1 : ColInd p k n Y I) (h2 : I.testBit j = true ∨ ¬ ColInd p k n Y (I ||| 2 ^ j)) {a : Nat → Fin p} (ha : van k n (MF p Y) I a) : cw k (MF p Y) a j = 0 := by
 obtain ⟨l, l1, l2⟩ := col_span hp hj h1 h2
 have e : cw k (MF p Y) a j = Sm n fun i => cw k (MF p Y) a i * l i := by
  have e2 : ∀ i, i < k → a i * MF p Y i j = Sm n fun c => a i * (MF p Y i c * l c) := fun i hi => by rw [Sm_mul, l2 i hi]
  show Sm k _ = _
  rw [Sm_congr e2, Sm_comm]
  refine Sm_congr fun c _ => ?_
  unfold cw
  rw [← Sm_mulr]
  exact Sm_congr fun i _ => (fm _ _ _).symm
 rw [e]
 refine Sm_zero fun i hi => ?_
 cases hb : I.testBit i with
 | true => rw [ha i hi hb]; grind
 | false => rw [l1 i hi hb]; grind
theorem ColMat.size (H : ColMat p k n Y h B) (hp : Fld p) : rk n B (2 ^ n - 1) = k := by
 have hM := H.mat
 have hR := H.red
 obtain ⟨I, i1, i2, i3⟩ := hM.rk_ind (s := 2 ^ n - 1)
 have iI := (H.ind I (hM.ind_lt i1)).1 i1
 refine Nat.le_antisymm ?_ ?_
 ·rw [← i3]
  rcases Nat.lt_or_ge k (cnt n I) with c | c
  ·exfalso
   obtain ⟨v, v1, j, hj, hv⟩ := ker_ex hp c (MF p (cols n I Y k))
   exact hv (colInd_iff.2 iI v v1 j hj)
  ·exact c
 ·have : ∀ t, t ≤ k → ∃ s, s < 2 ^ n ∧ cnt n s = t ∧ ∀ j, s.testBit j = true ↔ ∃ i, i < t ∧ h i = j := by
   intro t
   induction t with
   | zero => exact fun _ => ⟨0, Nat.pow_pos (by omega), cnt_zero n, fun j => by simp⟩
   | succ t ih =>
    intro ht
    obtain ⟨s, s1, s2, s3⟩ := ih (by omega)
    have hb : s.testBit (h t) = false := by
     rw [Bool.eq_false_iff]; intro q
     obtain ⟨i, hi, e⟩ := (s3 _).1 q
     have := hR.inj (by omega) (by omega) e; omega
    refine ⟨s ||| 2 ^ h t, or_lt s1 (pow_lt (hR.lt t (by omega))), by rw [cnt_add (hR.lt t (by omega)) hb, s2], fun j => ?_⟩
    rw [Nat.testBit_or, testBit_pow, Bool.or_eq_true, s3, decide_eq_true_eq]
    constructor
    ·rintro (⟨i, hi, e⟩ | e)
     ·exact ⟨i, by omega, e⟩
     ·exact ⟨t, by omega, e⟩
    ·rintro ⟨i, hi, e⟩
     rcases Classical.em (i = t) with q | q
     ·subst q; exact .inr e
     ·exact .inl ⟨i, by omega, e⟩
  obtain ⟨s, s1, s2, s3⟩ := this k (Nat.le_refl k)
  have hs : ColInd p k n Y s := fun v v1 v2 j hj => by
   cases hb : s.testBit j with
   | false => exact v2 j hj hb
   | true =>
    obtain ⟨i, hi, rfl⟩ := (s3 _).1 hb
    have := v1 i hi
    rw [Sm_one (k := h i) (hR.lt i hi) fun l hl hne => ?_, hR.one i hi] at this
    ·grind
    ·cases hb2 : s.testBit l with
     | false => rw [v2 l hl hb2]; grind
     | true =>
      obtain ⟨i2, hi2, rfl⟩ := (s3 _).1 hb2
      rw [hR.off i i2 hi hi2 fun e => hne (by rw [e])]; grind
  have := hM.ind_le (I := s) (s := 2 ^ n - 1) ((H.ind s s1).2 hs) fun i hi => by
   rw [full_bit]; simpa using bit_lt s1 hi
  omega
open Classical in
theorem ColMat.count (H : ColMat p k n Y h B) (hp : Fld p) {S : Nat} (hS : S < 2 ^ n) : NS k n (MF p Y) S = ((p ^ (k - rk n B S) : Nat) : Int) ∧ rk n B S ≤ k := by
 have hM := H.mat
 have hR := H.red
 have hpp := Nat.pos_of_ne_zero (NeZero.ne p)
 obtain ⟨I, i1, i2, i3⟩ := hM.rk_ind (s := S)
 have hIl := hM.ind_lt i1
 have iI := (H.ind I hIl).1 i1
 -- what vanishes at I vanishes at S
 have e1 : NS k n (MF p Y) S = NS k n (MF p Y) I := vI_congr fun a => by
  have : van k n (MF p Y) S a ↔ van k n (MF p Y) I a := by
   refine ⟨fun q j hj hb => q j hj (i2 j hb), fun q j hj hb => ?_⟩
   cases hbI : I.testBit j with
   | true => exact q j hj hbI
   | false =>
    refine van_span hp hj iI (.inr fun hc => ?_) q
    have := hM.ind_le ((H.ind _ (or_lt hIl (pow_lt hj))).2 hc) (s := S) (inc_or i2 (inc_pow hb))
    rw [cnt_add hj hbI] at this; omega
  by_cases c : van k n (MF p Y) I a
  ·rw [if_pos c, if_pos (this.2 c)]
  ·rw [if_neg c, if_neg fun z => c (this.1 z)]
 obtain ⟨J, j1, j2, j3, j4⟩ := hM.extend (u := 2 ^ n - 1) _ I (Nat.le_refl _) i1 fun i hi => by
  rw [full_bit]; simpa using bit_lt hIl hi
 have hJl := hM.ind_lt j1
 have jJ := (H.ind J hJl).1 j1
 rw [H.size hp] at j4
 -- a word that vanishes at a basis is nought
 have e2 : NS k n (MF p Y) J = 1 := by
  have key : ∀ a, van k n (MF p Y) J a → ∀ i, i < k → a i = 0 := fun a ha i hi => by
   have hc : cw k (MF p Y) a (h i) = 0 := by
    have hj := hR.lt i hi
    cases hb : J.testBit (h i) with
    | true => exact ha _ hj hb
    | false =>
     refine van_span hp hj jJ (.inr fun hc => ?_) ha
     have hl := or_lt hJl (pow_lt hj)
     have := hM.ind_le ((H.ind _ hl).2 hc) (s := 2 ^ n - 1) fun l hl2 => by
      rw [full_bit]; simpa using bit_lt hl hl2
     rw [cnt_add hj hb, H.size hp] at this; omega
   unfold cw at hc
   rw [Sm_one (k := i) hi fun l hl hne => by rw [hR.off l i hl hi hne]; grind, hR.one i hi] at hc
   grind
  have up : NS k n (MF p Y) J ≤ 1 := by
   have : ∀ (m : Nat) (F : (Nat → Fin p) → Int), (∀ v, 0 ≤ F v ∧ F v ≤ 1) → (∀ v, 0 < F v → ∀ i, i < m → v i = 0) → vI m F ≤ 1 := by
    intro m
    induction m with
    | zero => intro F h1 _; exact (h1 _).2
    | succ m ih =>
     intro F h1 h2
     have hz : ∀ c : Fin p, c ≠ 0 → vI m (fun v => F (udv v m c)) = 0 := fun c hc => by
      have : ∀ v, F (udv v m c) = 0 := fun v => by
       rcases Int.lt_or_le 0 (F (udv v m c)) with q | q
       ·exact absurd (by simpa [udv] using h2 _ q m (by omega)) hc
       ·have := (h1 (udv v m c)).1; omega
      rw [vI_congr this, vI_zero]
     have h0 := ih (fun v => F (udv v m 0)) (fun v => h1 _) fun v hv i hi => by
      have := h2 _ hv i (by omega)
      unfold udv at this
      rwa [if_neg (by omega)] at this
     have e : vI (m + 1) F = sumN p fun c => if cF p (c : Int) = 0 then vI m (fun v => F (udv v m 0)) else 0 := sumN_congr fun c _ => by
      by_cases q : cF p (c : Int) = 0
      ·rw [if_pos q, q]
      ·rw [if_neg q, hz _ q]
     rw [e, sum_pick (0 : Fin p) fun _ => vI m fun v => F (udv v m 0)]
     exact h0
   refine this k _ (fun v => by split <;> omega) fun v hv => ?_
   by_cases c : van k n (MF p Y) J v
   ·exact key v c
   ·rw [if_neg c] at hv; omega
  have low := vI_at (n := k) (F := fun a => if van k n (MF p Y) J a then (1 : Int) else 0) (fun v => by split <;> omega) (fun _ => 0) fun _ _ => rfl
  rw [if_pos (show van k n (MF p Y) J fun _ => 0 from fun j _ _ => Sm_zero fun i _ => by grind)] at low
  have : NS k n (MF p Y) J = vI k fun a => if van k n (MF p Y) J a then (1 : Int) else 0 := rfl
  omega
 have c1 := cnt_le_of_inc (m := n) j2
 have lowI := NS_low (k := k) (M := MF p Y) hp I hIl
 have upI := NS_up (k := k) (M := MF p Y) hp I (dif J I) (dif_lt hJl)
 have eJ : I ||| dif J I = J := Nat.eq_of_testBit_eq fun i => by
  rw [Nat.testBit_or, testBit_dif, Bool.eq_iff_iff]
  simp only [Bool.or_eq_true, Bool.and_eq_true, Bool.not_eq_true']
  constructor
  ·rintro (q | q)
   ·exact j2 i q
   ·exact q.1
  ·intro q
   cases hb : I.testBit i with
   | true => exact .inl rfl
   | false => exact .inr ⟨q, rfl⟩
 have cD : cnt n (dif J I) = k - cnt n I := by
  have := cnt_split n J I
  have e : J &&& I = I := by rw [Nat.and_comm]; exact (sub_iff_and I J).2 j2
  rw [e] at this; omega
 rw [eJ, e2, cD, Int.mul_one] at upI
 have hIk : cnt n I ≤ k := by omega
 refine ⟨?_, by omega⟩
 rw [e1, ← i3]
 refine Int.le_antisymm upI ?_
 have hp2 : ((p ^ k : Nat) : Int) = ((p ^ cnt n I : Nat) : Int) * ((p ^ (k - cnt n I) : Nat) : Int) := by
  rw [← Int.natCast_mul, ← Nat.pow_add, Nat.add_sub_cancel' hIk]
 rw [hp2] at lowI
 exact Int.le_of_mul_le_mul_left lowI (by have := Nat.pow_pos (n := cnt n I) hpp; omega)
theorem ColMat.zr_flat (H : ColMat p k n Y h B) (hp : Fld p) (a : Nat → Fin p) : Flat n B (zr n (cw k (MF p Y) a)) := fun i hi hb he => by
 have hM := H.mat
 have hl := zr_lt n (cw k (MF p Y) a)
 obtain ⟨I, i1, i2, i3⟩ := hM.rk_ind (s := zr n (cw k (MF p Y) a))
 have hIl := hM.ind_lt i1
 have : cw k (MF p Y) a i = 0 := by
  refine van_span hp hi ((H.ind I hIl).1 i1) ?_ fun j hj hb => ?_
  ·right
   intro hc
   have hbI : I.testBit i = false := by
    rw [Bool.eq_false_iff]; intro q
    have := i2 i q
    rw [hb] at this; cases this
   have := hM.ind_le ((H.ind _ (or_lt hIl (pow_lt hi))).2 hc) (s := zr n (cw k (MF p Y) a) ||| 2 ^ i) (inc_or (i2.trans (inc_or_l _ _)) (inc_or_r _ _))
   rw [cnt_add hi hbI, he] at this; omega
  ·have := i2 j hb
   rw [zr_bit] at this
   simpa [hj] using this
 rw [zr_bit, this] at hb
 simp [hi] at hb
/-- CRAPO, ROTA. -/
theorem ColMat.critical (H : ColMat p k n Y h B) (hp : Fld p) (h0 : Flat n B 0) (t : Nat) : 0 ≤ pval (chr n B) ((p ^ t : Nat) : Int) ∧ (pval (chr n B) ((p ^ t : Nat) : Int) ≠ 0 ↔ Rc k n (MF p Y) t (2 ^ n - 1)) := by
 have hM := H.mat
 have hpos : 0 < 2 ^ n := Nat.pow_pos (by omega)
 have key : tS k n (MF p Y) t (2 ^ n - 1) (fun W => if W = 0 then 1 else 0) = pval (chr n B) ((p ^ t : Nat) : Int) := by
  rw [← tS_congr (Q := fun Z => Z < 2 ^ n ∧ Flat n B Z) (fun Z a hZ => ⟨and_lt hZ.1, hM.flat_and hZ.2 (H.zr_flat hp a)⟩) (fun W hW => mob_sum hM h0 hW.1 hW.2) t (2 ^ n - 1) ⟨by omega, fun i hi hb => by rw [full_bit] at hb; simp [hi] at hb⟩,
   tS_sum, chr_val hM h0]
  refine sumN_congr fun i hi => ?_
  obtain ⟨f1, f2⟩ := mem_flats.1 (mem_getD.2 ⟨i, hi, rfl⟩)
  have e := tS_inc (k := k) (M := MF p Y) f1 t (2 ^ n - 1)
  rw [if_pos (show Inc ((flats n B).getD i 0) (2 ^ n - 1) from fun j hj => by rw [full_bit]; simpa using bit_lt f1 hj), (H.count hp f1).1] at e
  rw [tS_mul, H.size hp]
  rw [e]
  congr 1
  rw [← Int.natCast_pow, ← Int.natCast_pow, ← Nat.pow_mul, ← Nat.pow_mul, Nat.mul_comm]
 rw [← key]
 have h1 := tS_nn (k := k) (n := n) (M := MF p Y) t (2 ^ n - 1)
 refine ⟨h1, ?_⟩
 rw [← tS_pos]; omega
end
end Go.SH
