/-
  Sets pressed together, the dual of a matroid, what is left of it when elements are taken out; what minors.Dual, Delete and Contract compute. Conditions: none.
-/
import Derived.Test.YthofnmjokdjppaaLA
import Derived.Test.YthofnmjokdjppaaLRj
import Derived.Test.YthofnmjokdjppaaLSt
import Derived.Test.YthofnmjokdjppaaAxP
import Derived.Test.YthofnmjokdjppaaSpsets
import Derived.Test.YthofnmjokdjppaaSpslices
import Derived.Test.YthofnmjokdjppaaSpminors
import Derived.Test.YthofnmjokdjppaaSprotaref
set_option linter.unusedSimpArgs false
set_option linter.unusedVariables false
namespace Go.SH
open Go Go.AX

/-! ### sorted, each but once -/
theorem sortL_sorted (xs : List Int) : (sortL xs).Pairwise (· ≤ ·) := by
  have := List.pairwise_mergeSort (le := fun x y : Int => decide (x ≤ y)) (fun a b c h1 h2 => by simp only [decide_eq_true_eq] at *; omega) (fun a b => by simp only [Bool.or_eq_true, decide_eq_true_eq]; omega) xs
  exact this.imp fun h => of_decide_eq_true h
theorem sortL_mem {xs : List Int} {y : Int} : y ∈ sortL xs ↔ y ∈ xs := (List.mergeSort_perm _ _).mem_iff
theorem uniq_all {zs : List Int} {y : Int} (h : y ∈ zs) : y ∈ uniqL zs := by
  have key : ∀ j, j < zs.length → zs.getD j 0 = y → y ∈ uniqL zs := by
    intro j
    induction j with
    | zero =>
      intro hj e
      unfold uniqL Lib.compact Lib.compactUpTo
      rw [List.mem_map]
      refine ⟨0, List.mem_filter.2 ⟨List.mem_range.2 hj, by simp [Lib.keeps]⟩, ?_⟩
      rw [getElem!_pos zs.toArray 0 (by simpa using hj), ← e, List.getD_eq_getElem?_getD, List.getElem?_eq_getElem hj]; simp
    | succ j ih =>
      intro hj e
      by_cases c : zs.getD j 0 = y
      · exact ih (by omega) c
      · unfold uniqL Lib.compact Lib.compactUpTo
        rw [List.mem_map]
        have e1 : zs.toArray[j + 1]! = y := by
          rw [getElem!_pos zs.toArray (j + 1) (by simpa using hj), ← e, List.getD_eq_getElem?_getD, List.getElem?_eq_getElem hj]; simp
        have e2 : zs.toArray[j]! = zs.getD j 0 := by
          rw [getElem!_pos zs.toArray j (by simp; omega), List.getD_eq_getElem?_getD, List.getElem?_eq_getElem (by omega)]; simp
        refine ⟨j + 1, List.mem_filter.2 ⟨List.mem_range.2 hj, ?_⟩, e1⟩
        unfold Lib.keeps
        refine decide_eq_true (.inr ?_)
        rw [e1, Nat.add_sub_cancel, e2]
        exact fun q => c q.symm
  obtain ⟨j, hj, e⟩ := List.getElem_of_mem h
  exact key j hj (by rw [List.getD_eq_getElem?_getD, List.getElem?_eq_getElem hj]; exact e)
theorem uniq_rise {zs : List Int} (h : zs.Pairwise (· ≤ ·)) : (uniqL zs).Pairwise (· < ·) := by
  unfold uniqL Lib.compact Lib.compactUpTo
  rw [List.pairwise_map]
  refine List.Pairwise.imp_of_mem ?_ (List.Pairwise.filter _ List.pairwise_lt_range)
  intro a b ha hb hab
  have hb1 := List.mem_range.1 (List.mem_filter.1 hb).1
  have hb2 := (List.mem_filter.1 hb).2
  unfold Lib.keeps at hb2
  have hb3 := of_decide_eq_true hb2
  have get : ∀ i (hi : i < zs.length), zs.toArray[i]! = zs[i] := fun i hi => by
    rw [getElem!_pos zs.toArray i (by simpa using hi)]; simp
  rw [List.pairwise_iff_getElem] at h
  rcases hb3 with q | q
  · omega
  · have e1 := get b hb1
    have e2 := get (b - 1) (by omega)
    rw [e1, e2] at q
    rw [e1, get a (by omega)]
    have h1 := h (b - 1) b (by omega) hb1 (by omega)
    rcases Nat.lt_or_ge a (b - 1) with c | c
    · have h2 := h a (b - 1) (by omega) (by omega) c
      have : zs[b] ≠ zs[b - 1] := q
      omega
    · have : a = b - 1 := by omega
      subst this
      have : zs[b] ≠ zs[b - 1] := q
      omega
/-- Sets in whatever order, sorted, each but once: a family of the same sets. -/
theorem sortU {m : Nat} (h8 : m ≤ 8) (N : List Nat) (hlt : ∀ s, s ∈ N → s < 2 ^ m) : ∃ K, uniqL (sortL (cs N)) = cs K ∧ Fam m K ∧ ∀ s, s ∈ K ↔ s ∈ N := by
  have hmem : ∀ y, y ∈ uniqL (sortL (cs N)) ↔ y ∈ cs N := fun y => ⟨fun h => sortL_mem.1 (uniqL_mem h), fun h => uniq_all (sortL_mem.2 h)⟩
  have hri := uniq_rise (sortL_sorted (cs N))
  generalize uniqL (sortL (cs N)) = Z at *
  have hcs : Z = cs (Z.map Int.toNat) := cs_of fun k hk => by
    have : Z.getD k 0 ∈ Z := by rw [List.getD_eq_getElem?_getD, List.getElem?_eq_getElem hk]; exact List.getElem_mem hk
    obtain ⟨a, _, e⟩ := List.mem_map.1 (show Z.getD k 0 ∈ N.map Nat.cast from (hmem _).1 this)
    omega
  have hK : ∀ s : Nat, s ∈ Z.map Int.toNat ↔ s ∈ N := fun s => by
    rw [← cs_mem, ← hcs, hmem, cs_mem]
  refine ⟨Z.map Int.toNat, hcs, ⟨h8, fun s hs => hlt s ((hK s).1 hs), fun i j hij hj => ?_⟩, hK⟩
  rw [List.pairwise_iff_getElem] at hri
  have hj' : j < Z.length := by simpa using hj
  have h1 := hri i j (by omega) hj' hij
  have g : ∀ k (hk : k < Z.length), ((Z.map Int.toNat).getD k 0 : Int) = Z[k] := fun k hk => by
    have := cs_get (Z.map Int.toNat) k
    rw [← hcs] at this
    rw [← this, List.getD_eq_getElem?_getD, List.getElem?_eq_getElem hk]; rfl
  have h2 := g i (by omega)
  have h3 := g j hj'
  omega

/-! ### least sets -/
theorem bitB (s a : Nat) : iand ((s : Int) / ((2 ^ a : Nat) : Int)) 1 = if s.testBit a then 1 else 0 := by
  have := bit_nat s a
  rwa [toNat_nat, shl_nat'] at this

/-! ### pressed sets -/
/-- How many of the first m elements are not gone. -/
def ps : Nat → Nat → Nat
  | 0, _ => 0
  | m + 1, g => ps m g + if g.testBit m then 0 else 1
/-- A set's elements that are not gone, counted anew. -/
def pk : Nat → Nat → Nat → Nat
  | 0, _, _ => 0
  | m + 1, g, s => if g.testBit m then pk m g s else pk m g s ||| (if s.testBit m then 2 ^ ps m g else 0)
theorem ps_cnt (m g : Nat) : ps m g + cnt m g = m := by
  induction m with
  | zero => rfl
  | succ m ih =>
    simp only [ps, cnt]
    split <;> omega
theorem ps_le (m g : Nat) : ps m g ≤ m := by have := ps_cnt m g; omega
theorem ps_mono {i j g : Nat} (h : i ≤ j) : ps i g ≤ ps j g := by
  induction j with
  | zero => have : i = 0 := by omega
            subst this; exact Nat.le_refl _
  | succ j ih =>
    rcases Nat.lt_or_ge i (j + 1) with q | q
    · have := ih (by omega); simp only [ps]; omega
    · have : i = j + 1 := by omega
      subst this; exact Nat.le_refl _
theorem ps_lt {i j g : Nat} (h : i < j) (hi : g.testBit i = false) : ps i g < ps j g := by
  have := ps_mono (g := g) (show i + 1 ≤ j from h)
  simp only [ps, hi] at this
  simp at this; omega
theorem ps_inj {i j g : Nat} (hi : g.testBit i = false) (hj : g.testBit j = false) (e : ps i g = ps j g) : i = j := by
  rcases Nat.lt_trichotomy i j with q | q | q
  · have := ps_lt q hi; omega
  · exact q
  · have := ps_lt q hj; omega
theorem pk_bit (m g s j : Nat) : (pk m g s).testBit j = true ↔ ∃ i, i < m ∧ g.testBit i = false ∧ s.testBit i = true ∧ ps i g = j := by
  induction m with
  | zero => simp [pk]
  | succ m ih =>
    simp only [pk]
    cases hg : g.testBit m with
    | true =>
      simp only [if_true]
      rw [ih]
      constructor
      · rintro ⟨i, h1, h2⟩; exact ⟨i, by omega, h2⟩
      · rintro ⟨i, h1, h2, h3⟩
        rcases Nat.lt_succ_iff_lt_or_eq.1 h1 with q | rfl
        · exact ⟨i, q, h2, h3⟩
        · rw [hg] at h2; cases h2
    | false =>
      simp only [Bool.false_eq_true, if_false]
      rw [Nat.testBit_or, Bool.or_eq_true, ih]
      constructor
      · rintro (⟨i, h1, h2⟩ | h)
        · exact ⟨i, by omega, h2⟩
        · cases hs : s.testBit m with
          | true =>
            rw [hs] at h
            simp only [if_true, testBit_pow, decide_eq_true_eq] at h
            exact ⟨m, by omega, hg, hs, h⟩
          | false => rw [hs] at h; simp at h
      · rintro ⟨i, h1, h2, h3, h4⟩
        rcases Nat.lt_succ_iff_lt_or_eq.1 h1 with q | rfl
        · exact .inl ⟨i, q, h2, h3, h4⟩
        · right; rw [h3]; simp only [if_true, testBit_pow, decide_eq_true_eq]; exact h4
theorem pk_at {m g s i : Nat} (hi : i < m) (hg : g.testBit i = false) : (pk m g s).testBit (ps i g) = s.testBit i := by
  rw [Bool.eq_iff_iff, pk_bit]
  constructor
  · rintro ⟨k, _, h2, h3, h4⟩
    have := ps_inj h2 hg h4
    subst this; exact h3
  · intro h; exact ⟨i, hi, hg, h, rfl⟩
theorem pk_lt (m g s : Nat) : pk m g s < 2 ^ ps m g := lt_of_bits fun j hj => by
  cases h : (pk m g s).testBit j with
  | false => rfl
  | true =>
    obtain ⟨i, h1, h2, _, h4⟩ := (pk_bit m g s j).1 h
    have := ps_lt h1 h2
    omega
theorem pk_congr {m g s g' s' : Nat} (hg : ∀ i, i < m → g.testBit i = g'.testBit i) (hs : ∀ i, i < m → s.testBit i = s'.testBit i) : pk m g s = pk m g' s' ∧ ps m g = ps m g' := by
  induction m with
  | zero => exact ⟨rfl, rfl⟩
  | succ m ih =>
    obtain ⟨h1, h2⟩ := ih (fun i hi => hg i (by omega)) (fun i hi => hs i (by omega))
    simp only [pk, ps, h1, h2, hg m (Nat.lt_succ_self m), hs m (Nat.lt_succ_self m)]
    exact ⟨trivial, trivial⟩
theorem cnt_pk (m g s : Nat) : cnt (ps m g) (pk m g s) = cnt m (dif s g) := by
  induction m with
  | zero => rfl
  | succ m ih =>
    have hd := testBit_dif s g m
    simp only [ps, pk, cnt, hd]
    cases hg : g.testBit m with
    | true => simp [ih]
    | false =>
      simp only [Bool.false_eq_true, if_false, Bool.not_false, Bool.and_true]
      have hlt := pk_lt m g s
      cases hs : s.testBit m with
      | true =>
        simp only [if_true, cnt]
        have h1 : cnt (ps m g) (pk m g s ||| 2 ^ ps m g) = cnt (ps m g) (pk m g s) := cnt_congr fun i hi => by
          rw [Nat.testBit_or, testBit_pow]
          have : ¬ ps m g = i := by omega
          simp [this]
        have h2 : (pk m g s ||| 2 ^ ps m g).testBit (ps m g) = true := by rw [Nat.testBit_or, testBit_pow]; simp
        rw [h1, h2, ih]; simp
      | false =>
        simp only [Bool.false_eq_true, if_false, Nat.or_zero, cnt]
        rw [bit_ge hlt (Nat.le_refl _), ih]; simp
theorem pk_and (m g s t : Nat) : pk m g (s &&& t) = pk m g s &&& pk m g t := by
  apply Nat.eq_of_testBit_eq; intro j
  rw [Bool.eq_iff_iff, Nat.testBit_and, Bool.and_eq_true, pk_bit, pk_bit, pk_bit]
  constructor
  · rintro ⟨i, h1, h2, h3, h4⟩
    rw [Nat.testBit_and, Bool.and_eq_true] at h3
    exact ⟨⟨i, h1, h2, h3.1, h4⟩, ⟨i, h1, h2, h3.2, h4⟩⟩
  · rintro ⟨⟨i, h1, h2, h3, h4⟩, ⟨i', _, h2', h3', h4'⟩⟩
    have : i = i' := ps_inj h2 h2' (by omega)
    subst this
    exact ⟨i, h1, h2, by rw [Nat.testBit_and, h3, h3']; rfl, h4⟩
theorem pk_swap {m g s e f : Nat} (he : e < m) (hf : f < m) (hge : g.testBit e = false) (hgf : g.testBit f = false) : dif (pk m g s) (2 ^ ps e g) ||| 2 ^ ps f g = pk m g (dif s (2 ^ e) ||| 2 ^ f) := by
  apply Nat.eq_of_testBit_eq; intro j
  rw [Bool.eq_iff_iff, Nat.testBit_or, testBit_dif, testBit_pow, testBit_pow, Bool.or_eq_true, Bool.and_eq_true, Bool.not_eq_true', decide_eq_true_eq, decide_eq_false_iff_not, pk_bit, pk_bit]
  constructor
  · rintro (⟨⟨i, h1, h2, h3, h4⟩, h5⟩ | h)
    · refine ⟨i, h1, h2, ?_, h4⟩
      have : ¬ e = i := fun q => h5 (by rw [q]; exact h4)
      rw [Nat.testBit_or, testBit_dif, testBit_pow, h3]; simp [this]
    · exact ⟨f, hf, hgf, by rw [Nat.testBit_or, testBit_pow]; simp, h⟩
  · rintro ⟨i, h1, h2, h3, h4⟩
    rw [Nat.testBit_or, testBit_dif, testBit_pow, testBit_pow, Bool.or_eq_true, Bool.and_eq_true, Bool.not_eq_true', decide_eq_true_eq, decide_eq_false_iff_not] at h3
    rcases h3 with ⟨h5, h6⟩ | h5
    · exact .inl ⟨⟨i, h1, h2, h5, h4⟩, fun q => h6 (ps_inj hge h2 (by omega))⟩
    · subst h5; exact .inr h4
/-- Two sets that are disjoint, taken out one behind the other. -/
theorem pk_pk {s t : Nat} (hd : s &&& t = 0) (b m : Nat) : pk (ps m s) (pk m s t) (pk m s b) = pk (ps m t) (pk m t s) (pk m t b) ∧ ps (ps m s) (pk m s t) = ps (ps m t) (pk m t s) := by
  have disj := (disj_iff s t).1 hd
  have low : ∀ n g x : Nat, n = ps n g → True := fun _ _ _ _ => trivial
  have cut : ∀ (n : Nat) (a b : Nat) (u v : Nat), a < 2 ^ n → b < 2 ^ n → pk n (a ||| u * 2 ^ n) (b ||| v * 2 ^ n) = pk n a b ∧ ps n (a ||| u * 2 ^ n) = ps n a := fun n a b u v _ _ => pk_congr (fun i hi => by
      rw [Nat.testBit_or, Nat.testBit_mul_two_pow]; simp [show ¬ n ≤ i by omega]) (fun i hi => by
      rw [Nat.testBit_or, Nat.testBit_mul_two_pow]; simp [show ¬ n ≤ i by omega])
  induction m with
  | zero => exact ⟨rfl, rfl⟩
  | succ m ih =>
    obtain ⟨ih1, ih2⟩ := ih
    have ls := pk_lt m s t
    have lt := pk_lt m t s
    have lb := pk_lt m s b
    have lc := pk_lt m t b
    have hor : ∀ (n : Nat) (c : Bool), (if c = true then 2 ^ n else 0) = (if c = true then 1 else 0) * 2 ^ n := fun n c => by cases c <;> simp
    cases hs : s.testBit m with
    | true =>
      have ht := disj m hs
      simp only [pk, ps, hs, ht, if_true, Bool.false_eq_true, if_false, Nat.add_zero]
      have hg : (pk m t s ||| 2 ^ ps m t).testBit (ps m t) = true := by rw [Nat.testBit_or, testBit_pow]; simp
      rw [hg]
      simp only [if_true, Nat.add_zero]
      have := cut (ps m t) (pk m t s) (pk m t b) 1 (if b.testBit m = true then 1 else 0) lt lc
      rw [Nat.one_mul, ← hor] at this
      rw [this.1, this.2]
      exact ⟨ih1, ih2⟩
    | false =>
      cases ht : t.testBit m with
      | true =>
        simp only [pk, ps, hs, ht, if_true, Bool.false_eq_true, if_false, Nat.add_zero]
        have hg : (pk m s t ||| 2 ^ ps m s).testBit (ps m s) = true := by rw [Nat.testBit_or, testBit_pow]; simp
        rw [hg]
        simp only [if_true, Nat.add_zero]
        have := cut (ps m s) (pk m s t) (pk m s b) 1 (if b.testBit m = true then 1 else 0) ls lb
        rw [Nat.one_mul, ← hor] at this
        rw [this.1, this.2]
        exact ⟨ih1, ih2⟩
      | false =>
        simp only [pk, ps, hs, ht, Bool.false_eq_true, if_false, Nat.or_zero]
        rw [bit_ge ls (Nat.le_refl _), bit_ge lt (Nat.le_refl _)]
        simp only [Bool.false_eq_true, if_false]
        have hb1 : (pk m s b ||| if b.testBit m = true then 2 ^ ps m s else 0).testBit (ps m s) = b.testBit m := by
          rw [Nat.testBit_or, bit_ge lb (Nat.le_refl _)]
          cases b.testBit m <;> simp [testBit_pow]
        have hb2 : (pk m t b ||| if b.testBit m = true then 2 ^ ps m t else 0).testBit (ps m t) = b.testBit m := by
          rw [Nat.testBit_or, bit_ge lc (Nat.le_refl _)]
          cases b.testBit m <;> simp [testBit_pow]
        rw [hb1, hb2]
        have c1 := cut (ps m s) (pk m s t) (pk m s b) 0 (if b.testBit m = true then 1 else 0) ls lb
        have c2 := cut (ps m t) (pk m t s) (pk m t b) 0 (if b.testBit m = true then 1 else 0) lt lc
        rw [Nat.zero_mul, Nat.or_zero, ← hor] at c1 c2
        rw [c1.1, c2.1, ih1, ih2]
        exact ⟨rfl, rfl⟩

theorem pk_cpl {m g s : Nat} : pk m g (cpl m s) = cpl (ps m g) (pk m g s) := set_ext (pk_lt _ _ _) (cpl_lt _ _) fun j hj => by
  have ex : ∀ n, j < ps n g → ∃ i, i < n ∧ g.testBit i = false ∧ ps i g = j := by
    intro n
    induction n with
    | zero => intro h; simp [ps] at h
    | succ n ih =>
      intro h
      rcases Nat.lt_or_ge j (ps n g) with q | q
      · obtain ⟨i, h1, h2⟩ := ih q; exact ⟨i, by omega, h2⟩
      · simp only [ps] at h
        cases hg : g.testBit n with
        | true => rw [hg] at h; simp at h; omega
        | false => rw [hg] at h; simp at h; exact ⟨n, by omega, hg, by omega⟩
  obtain ⟨i, h1, h2, rfl⟩ := ex m hj
  rw [pk_at h1 h2, cpl_bit, cpl_bit, pk_at h1 h2]
  simp [h1, hj]

/-! ### the dual -/
section
variable {m : Nat} {B : List Nat} (h : Mat m B)
include h
theorem Mat.ind_big {I b : Nat} (hI : Ind B I) (hb : b ∈ B) (hc : cnt m b ≤ cnt m I) : I ∈ B := by
  obtain ⟨b', h1, h2⟩ := hI
  have := inc_eq_of_cnt h2 (h.lt b' h1) (by have := h.eqc b' h1 b hb; omega)
  rw [this]; exact h1
theorem Mat.dual_ex {a b x : Nat} (ha : a ∈ B) (hb : b ∈ B) (hx : b.testBit x = true) (hxa : a.testBit x = false) : ∃ y, a.testBit y = true ∧ b.testBit y = false ∧ dif a (2 ^ y) ||| 2 ^ x ∈ B := by
  have hxm := bit_lt (h.lt b hb) hx
  have ham := h.lt a ha
  have hI : Ind B (a &&& b ||| 2 ^ x) := ⟨b, hb, inc_or (inc_and_r a b) (inc_pow hx)⟩
  obtain ⟨J, j1, j2, j3, j4⟩ := h.extend (u := a ||| 2 ^ x) _ _ (Nat.le_refl _) hI (inc_or ((inc_and_l a b).trans (inc_or_l _ _)) (inc_or_r _ _))
  have hJ : cnt m a ≤ cnt m J := by rw [j4]; exact h.ind_le ⟨a, ha, Inc.refl a⟩ (inc_or_l _ _)
  have hJB := h.ind_big j1 ha hJ
  have hca := cnt_add hxm hxa
  have hce := h.eqc J hJB a ha
  have hne : ¬ Inc (a ||| 2 ^ x) J := fun q => by have := cnt_le_of_inc (m := m) q; omega
  obtain ⟨y, y1, y2⟩ := not_inc hne
  have hJx : J.testBit x = true := j2 x (by rw [Nat.testBit_or, testBit_pow]; simp)
  have hyx : y ≠ x := fun e => by rw [e, hJx] at y2; cases y2
  have hya : a.testBit y = true := by
    rw [Nat.testBit_or, testBit_pow] at y1
    simpa [Ne.symm hyx] using y1
  refine ⟨y, hya, ?_, ?_⟩
  · cases q : b.testBit y with
    | false => rfl
    | true =>
      have := j2 y (by rw [Nat.testBit_or, Nat.testBit_and, hya, q]; rfl)
      rw [y2] at this; cases this
  · have hym := bit_lt ham hya
    have e : dif a (2 ^ y) ||| 2 ^ x = J := by
      refine (inc_eq_of_cnt (m := m) (fun i hi => ?_) (or_lt (dif_lt ham) (pow_lt hxm)) ?_).symm
      · have := j3 i hi
        rw [Nat.testBit_or, testBit_pow, Bool.or_eq_true, decide_eq_true_eq] at this
        rw [testBit_swap hyx]
        rcases this with q | q
        · refine .inr ⟨q, fun e => ?_⟩
          subst e; rw [y2] at hi; cases hi
        · exact .inl q.symm
      · have h1 := cnt_dif ham hya
        have h2 := cnt_add (m := m) (s := dif a (2 ^ y)) hxm (by rw [testBit_dif, hxa]; rfl)
        omega
    rw [e]; exact hJB
/-- THE DUAL is a matroid. -/
theorem Mat.dual {K : List Nat} (hK : Fam m K) (hm : ∀ x, x ∈ K ↔ ∃ b, b ∈ B ∧ x = cpl m b) : Mat m K := by
  refine ⟨hK, ?_, ?_, ?_⟩
  · obtain ⟨b, hb⟩ := h.exists_basis
    intro e
    have := (hm _).2 ⟨b, hb, rfl⟩
    rw [e] at this; simp at this
  · intro x hx y hy
    obtain ⟨a, ha, rfl⟩ := (hm x).1 hx
    obtain ⟨b, hb, rfl⟩ := (hm y).1 hy
    have h1 := cpl_cnt (m := m) (s := a)
    have h2 := cpl_cnt (m := m) (s := b)
    have h3 := h.eqc a ha b hb
    omega
  · intro x hx y hy i hi1 hi2
    obtain ⟨a, ha, rfl⟩ := (hm x).1 hx
    obtain ⟨b, hb, rfl⟩ := (hm y).1 hy
    rw [cpl_bit, Bool.and_eq_true, decide_eq_true_eq, Bool.not_eq_true'] at hi1
    rw [cpl_bit] at hi2
    simp only [hi1.1, decide_true, Bool.true_and, Bool.not_eq_false'] at hi2
    obtain ⟨f, f1, f2, f3⟩ := h.dual_ex ha hb hi2 hi1.2
    have hfm := bit_lt (h.lt a ha) f1
    have hne : f ≠ i := fun e => by rw [e, hi1.2] at f1; cases f1
    refine ⟨f, by rw [cpl_bit, f2]; simpa using hfm, by rw [cpl_bit, f1]; simp, (hm _).2 ⟨_, f3, ?_⟩⟩
    refine set_ext (or_lt (dif_lt (cpl_lt _ _)) (pow_lt hfm)) (cpl_lt _ _) fun j hj => ?_
    rw [Bool.eq_iff_iff, testBit_swap (Ne.symm hne), cpl_bit, cpl_bit, Bool.and_eq_true, Bool.and_eq_true, decide_eq_true_eq, Bool.not_eq_true', Bool.not_eq_true']
    have hsw := testBit_swap (a := a) (x := f) (y := i) (i := j) hne
    constructor
    · rintro (rfl | ⟨⟨_, q⟩, q2⟩)
      · refine ⟨hj, ?_⟩
        cases c : (dif a (2 ^ j) ||| 2 ^ i).testBit j with
        | false => rfl
        | true =>
          rcases hsw.1 c with e | ⟨_, e⟩
          · exact absurd e hne
          · exact absurd rfl e
      · refine ⟨hj, ?_⟩
        cases c : (dif a (2 ^ f) ||| 2 ^ i).testBit j with
        | false => rfl
        | true =>
          rcases hsw.1 c with e | ⟨e, _⟩
          · exact absurd e q2
          · rw [q] at e; cases e
    · rintro ⟨_, q⟩
      rcases Nat.decEq j f with c | c
      · right
        refine ⟨⟨hj, ?_⟩, fun e => ?_⟩
        · cases c2 : a.testBit j with
          | false => rfl
          | true => rw [hsw.2 (.inr ⟨c2, c⟩)] at q; cases q
        · rw [hsw.2 (.inl e)] at q; cases q
      · exact .inl c

/-! ### elements taken out -/
/-- A basis that has most in T. -/
def MaxK (m : Nat) (B : List Nat) (T b : Nat) : Prop := b ∈ B ∧ ∀ b', b' ∈ B → cnt m (b' &&& T) ≤ cnt m (b &&& T)
/-- Inside T as in one, outside as in the other. -/
theorem Mat.mix {T a b : Nat} (ha : MaxK m B T a) (hb : MaxK m B T b) : a &&& T ||| dif b T ∈ B := by
  have hI : Ind B (a &&& T) := ⟨a, ha.1, inc_and_l _ _⟩
  obtain ⟨J, j1, j2, j3, j4⟩ := h.extend (u := a &&& T ||| b) _ _ (Nat.le_refl _) hI (inc_or_l _ _)
  have hJ : cnt m b ≤ cnt m J := by rw [j4]; exact h.ind_le ⟨b, hb.1, Inc.refl b⟩ (inc_or_r _ _)
  have hJB := h.ind_big j1 hb.1 hJ
  have e1 : a &&& T = J &&& T := inc_eq_of_cnt (m := m) (inc_and j2 (inc_and_r _ _)) (and_lt (h.lt J hJB)) (ha.2 J hJB)
  have e2 : dif J T = dif b T := by
    refine inc_eq_of_cnt (m := m) (fun i hi => ?_) (dif_lt (h.lt b hb.1)) ?_
    · rw [testBit_dif, Bool.and_eq_true, Bool.not_eq_true'] at hi ⊢
      refine ⟨?_, hi.2⟩
      have := j3 i hi.1
      rw [Nat.testBit_or, Nat.testBit_and, hi.2, Bool.and_false, Bool.false_or] at this
      exact this
    · have h1 := cnt_split m J T
      have h2 := cnt_split m b T
      have h3 := ha.2 b hb.1
      have h4 := hb.2 J hJB
      have h5 := h.eqc J hJB b hb.1
      omega
  have : a &&& T ||| dif b T = J := by
    rw [e1, ← e2]
    apply Nat.eq_of_testBit_eq; intro i
    rw [Nat.testBit_or, Nat.testBit_and, testBit_dif]
    cases J.testBit i <;> cases T.testBit i <;> rfl
  rw [this]; exact hJB
/-- Exchange outside s, for bases that have most in s, or most outside. -/
theorem Mat.exch_out {s T a b e : Nat} (hT : T = s ∨ T = cpl m s) (hs : s < 2 ^ m) (ha : MaxK m B T a) (hb : MaxK m B T b) (h1 : a.testBit e = true) (h2 : s.testBit e = false) (h3 : b.testBit e = false) :
    ∃ f, b.testBit f = true ∧ s.testBit f = false ∧ a.testBit f = false ∧ MaxK m B T (dif a (2 ^ e) ||| 2 ^ f) := by
  have ham := h.lt a ha.1
  have hbm := h.lt b hb.1
  have hem := bit_lt ham h1
  -- inside s as a, outside as b
  have hc : a &&& s ||| dif b s ∈ B := by
    rcases hT with rfl | rfl
    · exact h.mix ha hb
    · have := h.mix hb ha
      rw [and_cpl hbm] at this
      have e2 : dif a (cpl m s) = a &&& s := by
        apply Nat.eq_of_testBit_eq; intro i
        rw [testBit_dif, cpl_bit, Nat.testBit_and]
        cases hi : a.testBit i with
        | false => rfl
        | true => simp [bit_lt ham hi]
      rw [e2, Nat.or_comm] at this
      exact this
  obtain ⟨f, f1, f2, f3⟩ := h.ex a ha.1 _ hc e h1 (by rw [Nat.testBit_or, Nat.testBit_and, testBit_dif, h2, h3]; simp)
  rw [Nat.testBit_or, Nat.testBit_and, testBit_dif, f2] at f1
  simp only [Bool.false_and, Bool.false_or, Bool.and_eq_true, Bool.not_eq_true'] at f1
  have hne : e ≠ f := fun q => by rw [q, f2] at h1; cases h1
  refine ⟨f, f1.1, f1.2, f2, f3, fun b' hb' => ?_⟩
  have hin : (dif a (2 ^ e) ||| 2 ^ f) &&& s = a &&& s := by
    apply Nat.eq_of_testBit_eq; intro i
    rw [Bool.eq_iff_iff, Nat.testBit_and, Nat.testBit_and, Bool.and_eq_true, Bool.and_eq_true, testBit_swap hne]
    constructor
    · rintro ⟨rfl | ⟨q, _⟩, q2⟩
      · rw [f1.2] at q2; cases q2
      · exact ⟨q, q2⟩
    · rintro ⟨q, q2⟩
      refine ⟨.inr ⟨q, fun r => ?_⟩, q2⟩
      subst r; rw [h2] at q2; cases q2
  have key : cnt m (a &&& T) = cnt m ((dif a (2 ^ e) ||| 2 ^ f) &&& T) := by
    rcases hT with rfl | rfl
    · rw [hin]
    · rw [and_cpl ham, and_cpl (h.lt _ f3)]
      have q1 := cnt_split m a s
      have q2 := cnt_split m (dif a (2 ^ e) ||| 2 ^ f) s
      have q3 := h.eqc a ha.1 _ f3
      rw [hin] at q2
      omega
  rw [← key]
  exact ha.2 b' hb'
theorem Mat.maxK_ex (T : Nat) : ∃ b, MaxK m B T b := by
  obtain ⟨b, hb, e⟩ := h.rk_mem T
  refine ⟨b, hb, fun b' hb' => ?_⟩
  have := le_rk (m := m) (s := T) hb'
  rw [Nat.and_comm b', Nat.and_comm b, ← e]; exact this
/-- WHAT IS LEFT is a matroid. -/
theorem Mat.minor {s T : Nat} {K : List Nat} (hT : T = s ∨ T = cpl m s) (hs : s < 2 ^ m) (hK : Fam (ps m s) K) (hm : ∀ x, x ∈ K ↔ ∃ b, MaxK m B T b ∧ x = pk m s b) : Mat (ps m s) K := by
  refine ⟨hK, ?_, ?_, ?_⟩
  · obtain ⟨b, hb⟩ := h.maxK_ex T
    intro e
    have := (hm _).2 ⟨b, hb, rfl⟩
    rw [e] at this; simp at this
  · intro x hx y hy
    obtain ⟨a, ha, rfl⟩ := (hm x).1 hx
    obtain ⟨b, hb, rfl⟩ := (hm y).1 hy
    rw [cnt_pk, cnt_pk]
    have h1 := h.eqc a ha.1 b hb.1
    have h2 := ha.2 b hb.1
    have h3 := hb.2 a ha.1
    have q1 := cnt_split m a s
    have q2 := cnt_split m b s
    rcases hT with rfl | rfl
    · omega
    · rw [and_cpl (h.lt a ha.1), and_cpl (h.lt b hb.1)] at h2 h3
      omega
  · intro x hx y hy i hi1 hi2
    obtain ⟨a, ha, rfl⟩ := (hm x).1 hx
    obtain ⟨b, hb, rfl⟩ := (hm y).1 hy
    obtain ⟨e, e1, e2, e3, rfl⟩ := (pk_bit m s a i).1 hi1
    rw [pk_at e1 e2] at hi2
    obtain ⟨f, f1, f2, f3, f4⟩ := h.exch_out hT hs ha hb e3 e2 hi2
    have hfm := bit_lt (h.lt b hb.1) f1
    refine ⟨ps f s, by rw [pk_at hfm f2]; exact f1, by rw [pk_at hfm f2]; exact f3, (hm _).2 ⟨_, f4, ?_⟩⟩
    exact pk_swap e1 hfm e2 f2
/-- One basis with most in t and most outside s. -/
theorem Mat.both {s t : Nat} (hs : s < 2 ^ m) (ht : t < 2 ^ m) (hd : s &&& t = 0) : ∃ b, MaxK m B (cpl m s) b ∧ MaxK m B t b := by
  have hts : Inc t (cpl m s) := fun i hi => by
    have := (disj_iff t s).1 (by rw [Nat.and_comm]; exact hd) i hi
    rw [cpl_bit, this]; simpa using bit_lt ht hi
  obtain ⟨I, i1, i2, i3⟩ := h.rk_ind (s := t)
  obtain ⟨J, j1, j2, j3, j4⟩ := h.extend (u := cpl m s) _ I (Nat.le_refl _) i1 (i2.trans hts)
  obtain ⟨b, hb, hJb⟩ := j1
  refine ⟨b, ⟨hb, fun b' hb' => ?_⟩, ⟨hb, fun b' hb' => ?_⟩⟩
  · have q1 : cnt m J ≤ cnt m (b &&& cpl m s) := cnt_le_of_inc (inc_and hJb j3)
    have q2 := le_rk (m := m) (s := cpl m s) hb'
    rw [Nat.and_comm] at q2
    omega
  · have q1 : cnt m I ≤ cnt m (b &&& t) := cnt_le_of_inc (inc_and (j2.trans hJb) i2)
    have q2 := le_rk (m := m) (s := t) hb'
    rw [Nat.and_comm] at q2
    omega
end


theorem minors_size_nat {a : Nat} (h : a < 256) : minors_size (a : Int) = some ((size a : Nat) : Int) := by
  unfold minors_size
  rw [chk_pos (by omega)]
  simp [bits_OnesCount, oc_size h]
theorem shl_tab : ∀ p : Fin 9, shlOk .i64 1 (p.val : Int) = true ∧ shlOk .i64 0 (p.val : Int) = true := by decide
theorem shl_small {p : Nat} (h : p ≤ 8) (b : Bool) : shlOk .i64 (if b = true then 1 else 0) (p : Int) = true := by
  have := shl_tab ⟨p, by omega⟩
  cases b
  · exact this.2
  · exact this.1
theorem pressed_nat {m : Nat} (h8 : m ≤ 8) (s g : Nat) : minors_pressed m s g = some ((pk m g s : Nat) : Int) := by
  refine Gets.eq ?_
  unfold minors_pressed
  refine gBind (R := fun o => o = ((pk m g s : Nat) : Int)) (gFor m (fun k (x : Int × Int × Int) => x.1 = ((pk k g s : Nat) : Int) ∧ x.2.1 = ((ps k g : Nat) : Int) ∧ x.2.2 = (k : Int)) (Nat.zero_le _) ⟨rfl, rfl, rfl⟩ ?_) fun o ho => gSome ho
  rintro k ⟨_, _, _⟩ hk ⟨rfl, rfl, rfl⟩
  have hp := ps_le k g
  simp only [toNat_nat, shl_nat', bitB]
  refine gIte (fun h1 => gChk (by omega) ?_) fun h1 => gSome (by have : k = m := by omega
                                                                 subst this; rfl)
  have hk' : k < m := by omega
  cases hg : g.testBit k with
  | true => exact gIte (fun _ => gSome ⟨hk', by simp [pk, hg], by simp [ps, hg], by simp⟩) fun q => absurd (by simp) q
  | false =>
    refine gIte (fun q => absurd q (by simp)) fun _ => gChk ⟨by omega, shl_small (by omega) _⟩ (gChk (by omega) (gSome ⟨hk', ?_, by simp [ps, hg], by simp⟩))
    have e : (if s.testBit k = true then (1 : Int) else 0) * ((2 ^ ps k g : Nat) : Int) = (((if s.testBit k = true then 2 ^ ps k g else 0 : Nat)) : Int) := by
      cases s.testBit k <;> simp
    simp only [e, or_nat, pk, hg, Bool.false_eq_true, if_false]
/-- What a basis counts for. -/
def kval (m s : Nat) (most : Bool) (b : Nat) : Nat := if most then cnt m (b &&& s) else m - cnt m (b &&& s)
theorem kval_le (m s : Nat) (most : Bool) (b : Nat) : kval m s most b ≤ m := by
  have := cnt_le m (b &&& s)
  unfold kval; split <;> omega
theorem kept_spec {m : Nat} {B : List Nat} (hf : Fam m B) {s : Nat} (hs : s < 2 ^ m) (most : Bool) :
    Gets (minors_kept m (cs B) s most) (fun r => ∃ L, r = cs L ∧ L.length ≤ 256 ∧ ∀ b, b ∈ L ↔ b ∈ B ∧ ∀ b', b' ∈ B → kval m s most b' ≤ kval m s most b) := by
  have h8 := hf.m8
  have h256 := pow_le8 h8
  have hlen := hf.len
  unfold minors_kept
  refine gBind (R := fun o => ∃ L, o = cs L ∧ L.length ≤ 256 ∧ ∀ b, b ∈ L ↔ b ∈ B ∧ ∀ b', b' ∈ B → kval m s most b' ≤ kval m s most b) (gFor B.length (fun k (x : Int × List Int × Int) => x.2.2 = (k : Int) ∧ -1 ≤ x.1 ∧ x.1 ≤ 8 ∧ (x.1 = -1 ∨ ∃ b, b ∈ B.take k ∧ ((kval m s most b : Nat) : Int) = x.1) ∧ (∀ b, b ∈ B.take k → ((kval m s most b : Nat) : Int) ≤ x.1) ∧
    ∃ L, x.2.1 = cs L ∧ L.length ≤ k ∧ ∀ b, b ∈ L ↔ b ∈ B.take k ∧ ((kval m s most b : Nat) : Int) = x.1) (Nat.zero_le _) ⟨rfl, by omega, by omega, .inl rfl, fun b hb => by simp at hb, [], rfl, by simp, fun b => by simp⟩ ?_) fun o ho => gSome ho
  rintro k ⟨best, _, _⟩ hk ⟨rfl, i1, i2, i3, i4, L, rfl, i5, i6⟩
  simp only [cs_len, cs_get, toNat_nat, and_nat] at i1 i2 i3 i4 i6 ⊢
  refine gIte (fun h1 => gChk (by omega) ?_) fun h1 => ?_
  · have hk' : k < B.length := by omega
    have hmem := mem_getD.2 ⟨k, hk', rfl⟩
    have hbm := hf.lt _ hmem
    have etake : B.take (k + 1) = B.take k ++ [B.getD k 0] := by
      rw [List.take_add_one, List.getD_eq_getElem?_getD, List.getElem?_eq_getElem hk']; rfl
    have hlt : B.getD k 0 &&& s < 2 ^ m := and_lt hbm
    rw [minors_size_nat (by omega), Option.bind_some, size_of_lt hlt h8]
    have hc := cnt_le m (B.getD k 0 &&& s)
    refine gJoin (R := fun v => v = ((kval m s most (B.getD k 0) : Nat) : Int)) ?_ ?_
    · rintro v rfl
      have hv := kval_le m s most (B.getD k 0)
      generalize hvv : kval m s most (B.getD k 0) = kv at *
      refine gJoin (R := fun x => (best < (kv : Int) ∧ x = ((kv : Int), [])) ∨ ((kv : Int) ≤ best ∧ x = (best, cs L))) ?_ ?_
      · rintro ⟨_, _⟩ (⟨hlt, e⟩ | ⟨hle, e⟩)
        · cases e
          refine gIte (fun _ => gChk (by simp) (gSome ⟨hk', by simp, by omega, by omega, .inr ⟨B.getD k 0, by rw [etake]; exact List.mem_append.2 (.inr (List.mem_singleton.2 rfl)), by rw [hvv]⟩, fun b hb => ?_, [B.getD k 0], rfl, by simp, fun b => ?_⟩)) fun q => absurd rfl q
          · rw [etake] at hb
            rcases List.mem_append.1 hb with q | q
            · have := i4 b q; omega
            · rw [List.mem_singleton.1 q, hvv]; exact Int.le_refl _
          · rw [etake, List.mem_append, List.mem_singleton]
            constructor
            · rintro rfl; exact ⟨.inr rfl, by rw [hvv]⟩
            · rintro ⟨q | q, q2⟩
              · have := i4 b q; omega
              · exact q
        · cases e
          refine gIte (fun q => gChk (by rw [List.length_append, cs_len]; simp only [List.length_cons, List.length_nil]; omega) (gSome ⟨hk', by simp, i1, i2, .inr ⟨B.getD k 0, by rw [etake]; exact List.mem_append.2 (.inr (List.mem_singleton.2 rfl)), by rw [hvv]; exact q⟩, fun b hb => ?_, L ++ [B.getD k 0], cs_app _ _, by rw [List.length_append]; simp only [List.length_cons, List.length_nil]; omega, fun b => ?_⟩)) fun q => gSome ⟨hk', by simp, i1, i2, ?_, fun b hb => ?_, L, rfl, by omega, fun b => ?_⟩
          · rw [etake] at hb
            rcases List.mem_append.1 hb with q | q
            · exact i4 b q
            · rw [List.mem_singleton.1 q, hvv]; exact hle
          · rw [etake, List.mem_append, List.mem_append, List.mem_singleton, i6 b]
            constructor
            · rintro (⟨q1, q2⟩ | rfl)
              · exact ⟨.inl q1, q2⟩
              · exact ⟨.inr rfl, by rw [hvv]; exact q⟩
            · rintro ⟨q1 | q1, q2⟩
              · exact .inl ⟨q1, q2⟩
              · exact .inr q1
          · rcases i3 with e | ⟨b, b1, b2⟩
            · exact .inl e
            · exact .inr ⟨b, by rw [etake]; exact List.mem_append.2 (.inl b1), b2⟩
          · rw [etake] at hb
            rcases List.mem_append.1 hb with q | q
            · exact i4 b q
            · rw [List.mem_singleton.1 q, hvv]; exact hle
          · rw [etake, List.mem_append, List.mem_singleton, i6 b]
            constructor
            · rintro ⟨q1, q2⟩; exact ⟨.inl q1, q2⟩
            · rintro ⟨q1 | q1, q2⟩
              · exact ⟨q1, q2⟩
              · rw [q1, hvv] at q2; exact absurd q2 q
      · intro j hj
        exact gIte (fun q => hj _ (.inl ⟨q, rfl⟩)) fun q => hj _ (.inr ⟨by omega, rfl⟩)
    · intro j hj
      cases most with
      | true => exact gIte (fun q => absurd rfl q) fun _ => hj _ rfl
      | false => exact gIte (fun _ => gChk (by omega) (hj _ (by unfold kval; simp only [Bool.false_eq_true, if_false]; omega))) fun q => absurd (by simp) q
  · have hkl : k = B.length := by omega
    subst hkl
    rw [List.take_length] at i3 i4 i6
    refine gSome ⟨L, rfl, by omega, fun b => ?_⟩
    rw [i6 b]
    constructor
    · rintro ⟨q1, q2⟩; exact ⟨q1, fun b' hb' => by have := i4 b' hb'; omega⟩
    · rintro ⟨q1, q2⟩
      refine ⟨q1, ?_⟩
      have h1 := i4 b q1
      rcases i3 with e | ⟨b', b1, b2⟩
      · omega
      · have := q2 b' b1; omega

theorem made_spec {n : Nat} (h8 : n ≤ 8) (N : List Nat) (hlt : ∀ s, s ∈ N → s < 2 ^ n) (hl : N.length ≤ 2048) : ∃ K, minors_made n (cs N) = some ((n : Int), cs K) ∧ Fam n K ∧ ∀ s, s ∈ K ↔ s ∈ N := by
  obtain ⟨K, k1, k2, k3⟩ := sortU h8 N hlt
  have hKl := k2.len
  refine ⟨K, ?_, k2, k3⟩
  unfold minors_made
  rw [k1, chk_pos (by simp; omega), chk_pos (by simp; omega)]
theorem map_loop {m : Nat} (h8 : m ≤ 8) (L : List Nat) (s : Nat) (hl : L.length ≤ 256) {f : List Int × Int → Option ((List Int × Int) ⊕ List Int)}
    (hf : ∀ (l : List Int) (k : Nat), k < L.length → l.length ≤ 256 → f (l, (k : Int)) = some (.inl (l ++ [((pk m s (L.getD k 0) : Nat) : Int)], (k : Int) + 1))) (he : ∀ l : List Int, f (l, (L.length : Int)) = some (.inr l)) :
    loopM (ρ := List Int) f ([], 0) = some (cs (L.map (pk m s))) := by
  refine Gets.eq (gFor L.length (fun k (x : List Int × Int) => x.2 = (k : Int) ∧ x.1 = cs ((L.take k).map (pk m s))) (Nat.zero_le _) ⟨rfl, rfl⟩ ?_)
  rintro k ⟨_, _⟩ hk ⟨rfl, rfl⟩
  rcases Nat.lt_or_ge k L.length with q | q
  · rw [hf _ k q (by simp; omega)]
    refine gSome ⟨q, by simp, ?_⟩
    show cs _ ++ [_] = _
    rw [cs_app, List.take_add_one, List.map_append, List.getD_eq_getElem?_getD, List.getElem?_eq_getElem q]; rfl
  · have : k = L.length := by omega
    subst this
    rw [he]
    exact gSome (by rw [List.take_length])

section
variable {m : Nat} {B : List Nat} (h : Mat m B)
include h
theorem Mat.right (a : Int) : minors_right m (cs B) a = sets_Check m a := by
  unfold minors_right
  rw [h.check, Option.bind_some, if_neg (by simp)]
  cases sets_Check m a <;> rfl
theorem Mat.size_ps {s : Nat} (hs : s < 2 ^ m) : ((m : Int) - ((size s : Nat) : Int)) = ((ps m s : Nat) : Int) := by
  have := ps_cnt m s
  rw [size_of_lt hs h.m8]; omega
theorem Mat.Dual_ok : ∃ K, minors_Dual m (cs B) = some ((m : Int), cs K, 0) ∧ Mat m K ∧ ∀ x, x ∈ K ↔ ∃ b, b ∈ B ∧ x = cpl m b := by
  have h8 := h.m8
  have h256 := pow_le8 h8
  have hlen := h.len
  have hpos : 0 < 2 ^ m := Nat.pow_pos (by omega)
  have e : (((2 ^ m : Nat) : Int) - 1) = ((2 ^ m - 1 : Nat) : Int) := by omega
  obtain ⟨K, k1, k2, k3⟩ := made_spec h8 (B.map (cpl m)) (fun s hs => by
    obtain ⟨b, _, rfl⟩ := List.mem_map.1 hs
    exact cpl_lt m b) (by simp; omega)
  have k4 : ∀ x, x ∈ K ↔ ∃ b, b ∈ B ∧ x = cpl m b := fun x => by
    rw [k3 x, List.mem_map]
    exact ⟨fun ⟨b, h1, h2⟩ => ⟨b, h1, h2.symm⟩, fun ⟨b, h1, h2⟩ => ⟨b, h1, h2.symm⟩⟩
  refine ⟨K, ?_, h.dual k2 k4, k4⟩
  refine Gets.eq ?_
  unfold minors_Dual
  refine gBindE h.check (gIte (fun q => absurd rfl q) fun _ => ?_)
  refine gBind (R := fun o => o = cs (B.map (cpl m))) (gFor B.length (fun k (x : List Int × Int) => x.2 = (k : Int) ∧ x.1 = cs ((B.take k).map (cpl m))) (Nat.zero_le _) ⟨rfl, rfl⟩ ?_) ?_
  · rintro k ⟨_, _⟩ hk ⟨rfl, rfl⟩
    simp only [cs_len, cs_get, toNat_nat, shl_nat', e, dif_nat]
    refine gIte (fun h1 => gChk (by omega) (gChk ⟨by omega, by omega, ?_⟩ (gSome ⟨by omega, by simp, ?_⟩))) fun h1 => gSome (by rw [List.take_of_length_le (by omega)])
    · rw [List.length_append, cs_len, List.length_map]
      simp only [List.length_cons, List.length_nil, List.length_take]; omega
    · have q : k < B.length := by omega
      show cs _ ++ [_] = _
      rw [cs_app, List.take_add_one, List.map_append, List.getD_eq_getElem?_getD, List.getElem?_eq_getElem q]; rfl
  · rintro o rfl
    exact gBindE k1 (gSome rfl)
theorem Mat.kval_most {s b : Nat} : (b ∈ B ∧ ∀ b', b' ∈ B → kval m s true b' ≤ kval m s true b) ↔ MaxK m B s b := by
  have _ := h
  unfold kval MaxK; simp
theorem Mat.kval_least {s b : Nat} : (b ∈ B ∧ ∀ b', b' ∈ B → kval m s false b' ≤ kval m s false b) ↔ MaxK m B (cpl m s) b := by
  unfold kval MaxK
  simp only [Bool.false_eq_true, if_false]
  constructor
  · rintro ⟨h1, h2⟩
    refine ⟨h1, fun b' hb' => ?_⟩
    have q := h2 b' hb'
    rw [and_cpl (h.lt b' hb'), and_cpl (h.lt b h1)]
    have q1 := cnt_split m b s
    have q2 := cnt_split m b' s
    have q3 := h.eqc b h1 b' hb'
    have q4 := cnt_le m (b &&& s)
    have q5 := cnt_le m (b' &&& s)
    omega
  · rintro ⟨h1, h2⟩
    refine ⟨h1, fun b' hb' => ?_⟩
    have q := h2 b' hb'
    rw [and_cpl (h.lt b' hb'), and_cpl (h.lt b h1)] at q
    have q1 := cnt_split m b s
    have q2 := cnt_split m b' s
    have q3 := h.eqc b h1 b' hb'
    omega
theorem Mat.Check_set {a : Int} (hm : m ≤ 8) : (∃ s : Nat, a = (s : Int) ∧ s < 2 ^ m ∧ sets_Check m a = some 0) ∨ sets_Check m a = some 1 := by
  have _ := h
  unfold sets_Check
  rw [chk_pos (fun _ => by omega)]
  simp only [toNat_nat, shl_nat']
  by_cases q : ((((m : Int) < 0 ∨ 8 < (m : Int)) ∨ a < 0) ∨ ((2 ^ m : Nat) : Int) ≤ a)
  · right; rw [if_pos q]
  · left
    rw [if_neg q]
    exact ⟨a.toNat, by omega, by omega, rfl⟩
theorem Mat.Delete_bad {a : Int} (hc : sets_Check m a = some 1) : minors_Delete m (cs B) a = some (0, [], 1) ∧ minors_Contract m (cs B) a = some (0, [], 1) := by
  unfold minors_Delete minors_Contract
  rw [h.right a, hc]
  exact ⟨rfl, rfl⟩
theorem Mat.Delete_ok {s : Nat} (hs : s < 2 ^ m) (hc : sets_Check m s = some 0) : ∃ K, minors_Delete m (cs B) s = some (((ps m s : Nat) : Int), cs K, 0) ∧ Mat (ps m s) K ∧ ∀ x, x ∈ K ↔ ∃ b, MaxK m B (cpl m s) b ∧ x = pk m s b := by
  have h8 := h.m8
  have h256 := pow_le8 h8
  have hp := ps_le m s
  obtain ⟨_, e1, L, rfl, l1, l2⟩ := kept_spec h.toFam hs false
  obtain ⟨K, k1, k2, k3⟩ := made_spec (n := ps m s) (by omega) (L.map (pk m s)) (fun x hx => by
    obtain ⟨b, _, rfl⟩ := List.mem_map.1 hx
    exact pk_lt m s b) (by simp; omega)
  have k4 : ∀ x, x ∈ K ↔ ∃ b, MaxK m B (cpl m s) b ∧ x = pk m s b := fun x => by
    rw [k3 x, List.mem_map]
    exact ⟨fun ⟨b, h1, h2⟩ => ⟨b, h.kval_least.1 ((l2 b).1 h1), h2.symm⟩, fun ⟨b, h1, h2⟩ => ⟨b, (l2 b).2 (h.kval_least.2 h1), h2.symm⟩⟩
  refine ⟨K, ?_, h.minor (.inr rfl) hs k2 k4, k4⟩
  unfold minors_Delete
  rw [h.right s, hc, Option.bind_some, if_neg (by simp), e1, Option.bind_some]
  simp only []
  rw [map_loop (m := m) (s := s) h8 L l1 (fun l k hk hl => ?_) (fun l => ?_), Option.bind_some, minors_size_nat (by omega), Option.bind_some, h.size_ps hs, chk_pos (by omega), k1]
  · rfl
  · simp only [cs_len, cs_get, toNat_nat]
    rw [if_pos (by omega), chk_pos (by omega), pressed_nat h8, Option.bind_some, chk_pos (by rw [List.length_append]; simp only [List.length_cons, List.length_nil]; omega)]
  · simp only [cs_len]
    rw [if_neg (by omega)]
theorem Mat.Contract_ok {s : Nat} (hs : s < 2 ^ m) (hc : sets_Check m s = some 0) : ∃ K, minors_Contract m (cs B) s = some (((ps m s : Nat) : Int), cs K, 0) ∧ Mat (ps m s) K ∧ ∀ x, x ∈ K ↔ ∃ b, MaxK m B s b ∧ x = pk m s b := by
  have h8 := h.m8
  have h256 := pow_le8 h8
  have hp := ps_le m s
  obtain ⟨_, e1, L, rfl, l1, l2⟩ := kept_spec h.toFam hs true
  obtain ⟨K, k1, k2, k3⟩ := made_spec (n := ps m s) (by omega) (L.map (pk m s)) (fun x hx => by
    obtain ⟨b, _, rfl⟩ := List.mem_map.1 hx
    exact pk_lt m s b) (by simp; omega)
  have k4 : ∀ x, x ∈ K ↔ ∃ b, MaxK m B s b ∧ x = pk m s b := fun x => by
    rw [k3 x, List.mem_map]
    exact ⟨fun ⟨b, h1, h2⟩ => ⟨b, h.kval_most.1 ((l2 b).1 h1), h2.symm⟩, fun ⟨b, h1, h2⟩ => ⟨b, (l2 b).2 (h.kval_most.2 h1), h2.symm⟩⟩
  refine ⟨K, ?_, h.minor (.inl rfl) hs k2 k4, k4⟩
  unfold minors_Contract
  rw [h.right s, hc, Option.bind_some, if_neg (by simp), e1, Option.bind_some]
  simp only []
  rw [map_loop (m := m) (s := s) h8 L l1 (fun l k hk hl => ?_) (fun l => ?_), Option.bind_some, minors_size_nat (by omega), Option.bind_some, h.size_ps hs, chk_pos (by omega), k1]
  · rfl
  · simp only [cs_len, cs_get, toNat_nat]
    rw [if_pos (by omega), chk_pos (by omega), pressed_nat h8, Option.bind_some, chk_pos (by rw [List.length_append]; simp only [List.length_cons, List.length_nil]; omega)]
  · simp only [cs_len]
    rw [if_neg (by omega)]
end
def upS' (m s X : Nat) : Nat := mkset m fun i => !s.testBit i && X.testBit (ps i s)
theorem pk_full (m s : Nat) : pk m s (2 ^ m - 1) = 2 ^ ps m s - 1 := by
  have e0 : cpl m 0 = 2 ^ m - 1 := Nat.eq_of_testBit_eq fun i => by rw [cpl_bit, full_bit]; simp
  have e1 : pk m s 0 = 0 := Nat.eq_of_testBit_eq fun j => by
    rw [Nat.zero_testBit]
    cases q : (pk m s 0).testBit j
    · rfl
    · obtain ⟨i, _, _, h3, _⟩ := (pk_bit m s 0 j).1 q
      simp at h3
  have := pk_cpl (m := m) (g := s) (s := 0)
  rw [e0, e1] at this
  rw [this]
  exact Nat.eq_of_testBit_eq fun i => by rw [cpl_bit, full_bit]; simp
theorem pk_up {m s X : Nat} (hX : X < 2 ^ ps m s) : pk m s (upS' m s X) = X := set_ext (pk_lt _ _ _) hX fun j hj => by
  rw [Bool.eq_iff_iff, pk_bit]
  constructor
  · rintro ⟨i, h1, h2, h3, rfl⟩
    unfold upS' at h3
    rw [mkset_bit] at h3
    simpa [h1, h2] using h3
  · intro hb
    have : (pk m s (2 ^ m - 1)).testBit j = true := by rw [pk_full, full_bit]; simpa using hj
    obtain ⟨i, h1, h2, _, h4⟩ := (pk_bit m s _ j).1 this
    exact ⟨i, h1, h2, by unfold upS'; rw [mkset_bit, h4]; simp [h1, h2, hb], h4⟩
theorem up_inc (m s X : Nat) : Inc (upS' m s X) (cpl m s) := fun i hi => by
  unfold upS' at hi
  rw [mkset_bit] at hi
  rw [cpl_bit]
  simp only [Bool.and_eq_true] at hi
  simp [hi.1, hi.2.1]
section
variable {m : Nat} {B : List Nat} (h : Mat m B)
include h
theorem Mat.maxK_rk {T b : Nat} (hb : MaxK m B T b) : cnt m (b &&& T) = rk m B T := by
  obtain ⟨c, hc, e⟩ := h.rk_mem T
  have h1 := hb.2 c hc
  have h2 := le_rk (m := m) (s := T) hb.1
  rw [Nat.and_comm] at e
  rw [Nat.and_comm] at h2
  omega
theorem Mat.maxK_of {T b : Nat} (hb : b ∈ B) (h1 : rk m B T ≤ cnt m (b &&& T)) : MaxK m B T b := have _ := h; ⟨hb, fun b' hb' => by
  have h2 := le_rk (m := m) (s := T) hb'
  rw [Nat.and_comm] at h2
  omega⟩
theorem Mat.del_rk {s X : Nat} {K : List Nat} (hm : ∀ x, x ∈ K ↔ ∃ b, MaxK m B (cpl m s) b ∧ x = pk m s b) : rk (ps m s) K (pk m s X) = rk m B (dif X s) := by
  have eq1 : ∀ b, cnt (ps m s) (pk m s X &&& pk m s b) = cnt m (dif X s &&& b) := fun b => by
    rw [← pk_and, cnt_pk]
    congr 1
    exact Nat.eq_of_testBit_eq fun i => by
      rw [testBit_dif, Nat.testBit_and, Nat.testBit_and, testBit_dif]
      cases X.testBit i <;> cases b.testBit i <;> cases s.testBit i <;> rfl
  refine Nat.le_antisymm (rk_le.2 fun x hx => ?_) ?_
  · obtain ⟨b, hb, rfl⟩ := (hm x).1 hx
    rw [eq1]
    exact le_rk hb.1
  · obtain ⟨I, i1, i2, i3⟩ := h.rk_ind (s := dif X s)
    have hI := h.ind_lt i1
    obtain ⟨J, j1, j2, j3, j4⟩ := h.extend (u := cpl m s) _ I (Nat.le_refl _) i1 fun i hi => by
      have := i2 i hi
      rw [testBit_dif] at this
      simp only [Bool.and_eq_true, Bool.not_eq_true'] at this
      rw [cpl_bit, this.2]; simp [bit_lt hI hi]
    obtain ⟨b, b1, b2⟩ := j1
    have hK := h.maxK_of (T := cpl m s) b1 (by rw [← j4]; exact cnt_le_of_inc (inc_and b2 j3))
    have := le_rk (m := ps m s) (s := pk m s X) ((hm _).2 ⟨b, hK, rfl⟩)
    rw [eq1] at this
    rw [← i3]
    exact Nat.le_trans (cnt_le_of_inc (inc_and i2 (j2.trans b2))) this
theorem Mat.con_rk {s X : Nat} {K : List Nat} (hX : X < 2 ^ m) (hs : s < 2 ^ m) (hm : ∀ x, x ∈ K ↔ ∃ b, MaxK m B s b ∧ x = pk m s b) : rk (ps m s) K (pk m s X) + rk m B s = rk m B (X ||| s) := by
  have hmono := h.rk_mono (inc_or_r X s)
  have eq1 : ∀ b, cnt (ps m s) (pk m s X &&& pk m s b) = cnt m (dif (X &&& b) s) := fun b => by rw [← pk_and, cnt_pk]
  have eq2 : ∀ b, cnt m ((X ||| s) &&& b) = cnt m (b &&& s) + cnt m (dif (X &&& b) s) := fun b => by
    rw [cnt_split m ((X ||| s) &&& b) s]
    congr 2
    · exact Nat.eq_of_testBit_eq fun i => by
        rw [Nat.testBit_and, Nat.testBit_and, Nat.testBit_or, Nat.testBit_and]
        cases X.testBit i <;> cases b.testBit i <;> cases s.testBit i <;> rfl
    · exact Nat.eq_of_testBit_eq fun i => by
        rw [testBit_dif, testBit_dif, Nat.testBit_and, Nat.testBit_or, Nat.testBit_and]
        cases X.testBit i <;> cases b.testBit i <;> cases s.testBit i <;> rfl
  have up : rk (ps m s) K (pk m s X) ≤ rk m B (X ||| s) - rk m B s := rk_le.2 fun x hx => by
    obtain ⟨b, hb, rfl⟩ := (hm x).1 hx
    have h1 := h.maxK_rk hb
    have h2 := le_rk (m := m) (s := X ||| s) hb.1
    rw [eq2] at h2
    rw [eq1]
    omega
  obtain ⟨I, i1, i2, i3⟩ := h.rk_ind (s := s)
  obtain ⟨J, j1, j2, j3, j4⟩ := h.extend (u := X ||| s) _ I (Nat.le_refl _) i1 (i2.trans (inc_or_r _ _))
  have c1 := cnt_split m J s
  have c2 := h.ind_le (j1.mono (inc_and_l J s)) (inc_and_r J s)
  obtain ⟨b, b1, b2⟩ := j1
  have hK := h.maxK_of (T := s) b1 (by rw [← i3]; exact cnt_le_of_inc (inc_and (j2.trans b2) i2))
  have h3 := le_rk (m := ps m s) (s := pk m s X) ((hm _).2 ⟨b, hK, rfl⟩)
  rw [eq1] at h3
  have h4 : cnt m (dif J s) ≤ cnt m (dif (X &&& b) s) := cnt_le_of_inc fun i hi => by
    rw [testBit_dif] at hi ⊢
    simp only [Bool.and_eq_true, Bool.not_eq_true'] at hi
    have q1 := j3 i hi.1
    rw [Nat.testBit_or, hi.2, Bool.or_false] at q1
    rw [Nat.testBit_and, q1, b2 i hi.1, hi.2]; rfl
  omega
end


theorem rotaref_All_nat {m : Nat} (h : m ≤ 8) : rotaref_All m = some ((2 ^ m - 1 : Nat) : Int) := by
  have h256 := pow_le8 h
  have hpos : 0 < 2 ^ m := Nat.pow_pos (by omega)
  have e : (((2 ^ m : Nat) : Int) - 1) = ((2 ^ m - 1 : Nat) : Int) := by omega
  unfold rotaref_All
  simp only [toNat_nat, shl_nat', e]
  exact chk_pos (by omega)
theorem rotaref_In_nat (s i : Nat) : rotaref_In s i = some (s.testBit i) := by
  unfold rotaref_In
  rw [chk_pos (by omega)]
  simp only [toNat_nat, shr_nat']
  congr 1
  rw [Nat.testBit_eq_decide_div_mod_eq]
  have : (((s / 2 ^ i : Nat) : Int)).tmod 2 = ((s / 2 ^ i % 2 : Nat) : Int) := tmod_two _
  rw [this]
  rw [Bool.eq_iff_iff, decide_eq_true_eq, decide_eq_true_eq]; omega
theorem Shifted_nat {m : Nat} (h8 : m ≤ 8) (g s : Nat) : rotaref_Shifted m g s = some ((pk m g s : Nat) : Int) := by
  refine Gets.eq ?_
  unfold rotaref_Shifted
  refine gBind (R := fun o => o = ((pk m g s : Nat) : Int)) (gFor m (fun k (x : Int × Int × Int) => x.1 = ((pk k g s : Nat) : Int) ∧ x.2.1 = (k : Int) ∧ x.2.2 = ((ps k g : Nat) : Int)) (Nat.zero_le _) ⟨rfl, rfl, rfl⟩ ?_) fun o ho => gSome ho
  rintro k ⟨_, _, _⟩ hk ⟨rfl, rfl, rfl⟩
  have hp := ps_le k g
  simp only [toNat_nat, shl_nat', rotaref_In_nat, Option.bind_some]
  refine gIte (fun h1 => ?_) fun h1 => gSome (by have : k = m := by omega
                                                 subst this; rfl)
  have hk' : k < m := by omega
  cases hg : g.testBit k with
  | true => exact gIte (fun _ => gSome ⟨hk', by simp [pk, hg], by simp, by simp [ps, hg]⟩) fun q => absurd rfl q
  | false =>
    refine gIte (fun q => absurd q (by simp)) fun _ => ?_
    cases hs : s.testBit k with
    | true => exact gIte (fun _ => gChk (by omega) (gChk (by omega) (gSome ⟨hk', by simp only [or_nat, pk, hg, hs, Bool.false_eq_true, if_false, if_true], by simp, by simp [ps, hg]⟩))) fun q => absurd rfl q
    | false => exact gIte (fun q => absurd q (by simp)) fun _ => gChk (by omega) (gSome ⟨hk', by simp [pk, hg, hs], by simp, by simp [ps, hg]⟩)

theorem IsSet_nat {m : Nat} (h8 : m ≤ 8) (s : Int) : Gets (rotaref_IsSet m s) (fun r => r = true ↔ ∃ t : Nat, s = (t : Int) ∧ t < 2 ^ m) := by
  have hpos : 0 < 2 ^ m := Nat.pow_pos (by omega)
  unfold rotaref_IsSet
  by_cases c : ((0 ≤ (m : Int) ∧ (m : Int) ≤ 8) ∧ 0 ≤ s)
  · rw [if_pos c, rotaref_All_nat h8, Option.bind_some]
    refine gSome ?_
    rw [decide_eq_true_eq]
    constructor
    · rintro ⟨_, h⟩; exact ⟨s.toNat, by omega, by omega⟩
    · rintro ⟨t, rfl, ht⟩; exact ⟨c, by omega⟩
  · rw [if_neg c, Option.bind_some]
    refine gSome ?_
    rw [decide_eq_true_eq]
    constructor
    · rintro ⟨h, _⟩; exact absurd h c
    · rintro ⟨t, rfl, ht⟩; exact absurd ⟨⟨by omega, by omega⟩, by omega⟩ c
theorem set_ok {m : Nat} (h8 : m ≤ 8) {s : Nat} (hs : s < 2 ^ m) : sets_Check m s = some 0 := by
  unfold sets_Check
  rw [chk_pos (fun _ => by omega)]
  simp only [toNat_nat, shl_nat']
  rw [if_neg (by omega)]
end Go.SH
