/-
  Orders of the elements, what lies ahead in them; numbers cut in layers. Sets in whatever order, sorted: each but once, or all.  Conditions: none.
-/
import Derived.Test.YtabhcjpjoknihaaLM
import Derived.Test.YtabhcjpjoknihaaAxP

set_option linter.unusedSimpArgs false
set_option linter.unusedVariables false
namespace Go.SH
open Go Go.AX

/-! ### sets by a test -/
def mkset : Nat → (Nat → Bool) → Nat
  | 0, _ => 0
  | m + 1, p => mkset m p ||| (if p m = true then 2 ^ m else 0)
theorem mkset_bit (m : Nat) (p : Nat → Bool) (i : Nat) : (mkset m p).testBit i = (decide (i < m) && p i) := by
  induction m with
  | zero => simp [mkset]
  | succ m ih =>
    rw [mkset, Nat.testBit_or, ih]
    rcases Nat.lt_trichotomy i m with c | c | c
    · have : (if p m = true then 2 ^ m else 0).testBit i = false := by
        split
        · rw [testBit_pow]; simp; omega
        · simp
      rw [this, Bool.or_false]
      simp [c, show i < m + 1 by omega]
    · subst c
      cases h : p i
      · simp
      · simp [testBit_pow]
    · have : (if p m = true then 2 ^ m else 0).testBit i = false := by
        split
        · rw [testBit_pow]; simp; omega
        · simp
      rw [this, Bool.or_false]
      simp [show ¬ i < m by omega, show ¬ i < m + 1 by omega]
theorem mkset_lt (m : Nat) (p : Nat → Bool) : mkset m p < 2 ^ m := lt_of_bits fun i hi => by rw [mkset_bit]; simp; omega
theorem mkset_eq {m s : Nat} (hs : s < 2 ^ m) {p : Nat → Bool} (h : ∀ i, i < m → p i = s.testBit i) : mkset m p = s := set_ext (mkset_lt m p) hs fun i hi => by rw [mkset_bit, h i hi]; simp [hi]

/-! ### layers -/
theorem layer_nat (c : Nat) : ∀ N : Nat, sumN N (fun j => if j < c then 1 else 0) = ((min N c : Nat) : Int) := by
  intro N
  induction N with
  | zero => simp [sumN]
  | succ N ih =>
    rw [sumN, ih]
    by_cases h : N < c
    · rw [if_pos h]; omega
    · rw [if_neg h]; omega
/-- A number from -1000 to 1000 is -1000 and how many of the layers it reaches. -/
theorem layer {x : Int} (h1 : -1000 ≤ x) (h2 : x ≤ 1000) : x = -1000 + sumN 2000 (fun j => if (j : Int) - 999 ≤ x then 1 else 0) := by
  have := layer_nat (x + 1000).toNat 2000
  rw [sumN_congr (n := 2000) (g := fun j : Nat => if (j : Int) - 999 ≤ x then (1 : Int) else 0) (h := fun j => if j < (x + 1000).toNat then 1 else 0) fun j hj => by
    by_cases c : (j : Int) - 999 ≤ x
    · rw [if_pos c, if_pos (by omega)]
    · rw [if_neg c, if_neg (by omega)]]
  rw [this]
  omega
/-- The elements of a layer. -/
def upS (m : Nat) (w : Nat → Int) (j : Nat) : Nat := mkset m fun i => decide ((j : Int) - 999 ≤ w i)
theorem upS_bit {m : Nat} {w : Nat → Int} {j i : Nat} (hi : i < m) : (upS m w j).testBit i = decide ((j : Int) - 999 ≤ w i) := by unfold upS; rw [mkset_bit]; simp [hi]
theorem upS_lt (m : Nat) (w : Nat → Int) (j : Nat) : upS m w j < 2 ^ m := mkset_lt m _
/-- Numbers with weights, by layers. -/
theorem dot_layer {m : Nat} {w x : Nat → Int} (hw : ∀ i, i < m → -1000 ≤ w i ∧ w i ≤ 1000) : sumN m (fun i => x i * w i) = -1000 * sumN m x + sumN 2000 (fun j => wsum m x (upS m w j)) := by
  have e : sumN 2000 (fun j => wsum m x (upS m w j)) = sumN m (fun i => x i * sumN 2000 (fun j => if (j : Int) - 999 ≤ w i then 1 else 0)) := by
    unfold wsum
    rw [sumN_swap]
    refine sumN_congr fun i hi => ?_
    rw [← sumN_mul]
    refine sumN_congr fun j _ => ?_
    rw [upS_bit hi]
    by_cases c : (j : Int) - 999 ≤ w i <;> simp [c]
  rw [e, ← sumN_mul, ← sumN_add]
  refine sumN_congr fun i hi => ?_
  have := layer (hw i hi).1 (hw i hi).2
  generalize sumN 2000 _ = q at this ⊢
  rw [this, Int.mul_add, Int.mul_comm (x i) (-1000)]
theorem wsum_eq (m : Nat) (w : Nat → Int) (s : Nat) : wsum m w s = sumN m (fun i => (if s.testBit i = true then 1 else 0) * w i) := by
  unfold wsum
  refine sumN_congr fun i _ => ?_
  cases s.testBit i <;> simp
theorem cnt_sum (m s : Nat) : ((cnt m s : Nat) : Int) = sumN m (fun i => if s.testBit i = true then 1 else 0) := by
  induction m with
  | zero => rfl
  | succ m ih =>
    rw [cnt, sumN, ← ih]
    cases s.testBit m <;> simp
/-- A set's weight, by layers. -/
theorem wsum_layer {m : Nat} {w : Nat → Int} (hw : ∀ i, i < m → -1000 ≤ w i ∧ w i ≤ 1000) (s : Nat) : wsum m w s = -1000 * (cnt m s : Nat) + sumN 2000 (fun j => ((cnt m (s &&& upS m w j) : Nat) : Int)) := by
  have e : sumN 2000 (fun j => ((cnt m (s &&& upS m w j) : Nat) : Int)) = sumN 2000 (fun j => wsum m (fun i => if s.testBit i = true then 1 else 0) (upS m w j)) := sumN_congr fun j _ => by
    rw [cnt_sum]
    unfold wsum
    refine sumN_congr fun i _ => ?_
    rw [Nat.testBit_and]
    cases h1 : s.testBit i <;> cases (upS m w j).testBit i <;> simp [h1]
  rw [wsum_eq, dot_layer hw, cnt_sum, e]

/-! ### orders of all elements -/
/-- The first k of a list, as a set. -/
def pre (L : List Nat) : Nat → Nat
  | 0 => 0
  | k + 1 => pre L k ||| 2 ^ L.getD k 0
theorem pre_bit (L : List Nat) (k i : Nat) : (pre L k).testBit i = true ↔ ∃ j, j < k ∧ L.getD j 0 = i := by
  induction k with
  | zero => simp [pre]
  | succ k ih =>
    rw [pre, Nat.testBit_or, testBit_pow, Bool.or_eq_true, ih, decide_eq_true_eq]
    constructor
    · rintro (⟨j, h1, h2⟩ | h)
      · exact ⟨j, by omega, h2⟩
      · exact ⟨k, by omega, h⟩
    · rintro ⟨j, h1, h2⟩
      rcases Nat.lt_succ_iff_lt_or_eq.1 h1 with c | rfl
      · exact .inl ⟨j, c, h2⟩
      · exact .inr h2
/-- A list of all elements, each once. -/
structure Ord (m : Nat) (L : List Nat) : Prop where
  len : L.length = m
  lt : ∀ j, j < m → L.getD j 0 < m
  inj : ∀ i j, i < j → j < m → L.getD i 0 ≠ L.getD j 0
  onto : ∀ i, i < m → ∃ j, j < m ∧ L.getD j 0 = i
theorem Ord.of_perm {m : Nat} {L : List Nat} (h : List.Perm L (List.range m)) : Ord m L := by
  have hl : L.length = m := by rw [h.length_eq, List.length_range]
  have get : ∀ j (hj : j < m), L.getD j 0 = L[j]'(by omega) := fun j hj => by rw [List.getD_eq_getElem?_getD, List.getElem?_eq_getElem (by omega)]; rfl
  refine ⟨hl, fun j hj => ?_, fun i j hij hj => ?_, fun i hi => ?_⟩
  · rw [get j hj]
    exact List.mem_range.1 (h.mem_iff.1 (List.getElem_mem _))
  · rw [get j hj, get i (by omega)]
    exact List.pairwise_iff_getElem.1 (h.nodup_iff.2 List.nodup_range) i j (by omega) (by omega) hij
  · obtain ⟨j, hj, e⟩ := List.getElem_of_mem (h.mem_iff.2 (List.mem_range.2 hi))
    exact ⟨j, by omega, by rw [get j (by omega)]; exact e⟩
section
variable {m : Nat} {L : List Nat} (h : Ord m L)
include h
theorem Ord.pre_lt {k : Nat} (hk : k ≤ m) : pre L k < 2 ^ m := lt_of_bits fun i hi => by
  cases hb : (pre L k).testBit i
  · rfl
  · obtain ⟨j, h1, h2⟩ := (pre_bit L k i).1 hb
    have := h.lt j (by omega)
    omega
theorem Ord.pre_new {k : Nat} (hk : k < m) : (pre L k).testBit (L.getD k 0) = false := by
  cases hb : (pre L k).testBit (L.getD k 0)
  · rfl
  · obtain ⟨j, h1, h2⟩ := (pre_bit L k _).1 hb
    exact absurd h2 (h.inj j k h1 hk)
theorem Ord.pre_all : pre L m = 2 ^ m - 1 := by
  refine set_ext (h.pre_lt (Nat.le_refl m)) (by have : 0 < 2 ^ m := Nat.pow_pos (by omega); omega) fun i hi => ?_
  have h1 : (pre L m).testBit i = true := (pre_bit L m i).2 (h.onto i hi)
  rw [h1, Nat.testBit_two_pow_sub_one]
  simp [hi]
/-- What an order adds, place by place. -/
theorem Ord.wsum_pre (x : Nat → Int) (k : Nat) (hk : k ≤ m) : wsum m x (pre L k) = sumN k fun j => x (L.getD j 0) := by
  induction k with
  | zero =>
    simp only [pre, sumN]
    unfold wsum
    rw [sumN_congr (h := fun _ => 0) fun i _ => by simp, sumN_zero]
  | succ k ih =>
    rw [pre, wsum_add (h.lt k (by omega)) (h.pre_new (by omega)), ih (by omega), sumN]
theorem Ord.sum (x : Nat → Int) : sumN m x = sumN m fun j => x (L.getD j 0) := by
  rw [← h.wsum_pre x m (Nat.le_refl m), h.pre_all]
  unfold wsum
  refine sumN_congr fun i hi => ?_
  rw [Nat.testBit_two_pow_sub_one]
  simp [hi]
/-- Where the numbers fall along the order, a layer is what lies ahead of some place. -/
theorem Ord.layer_pre {w : Nat → Int} (hs : ∀ i j, i < j → j < m → w (L.getD j 0) ≤ w (L.getD i 0)) (t : Nat) : ∃ k, k ≤ m ∧ upS m w t = pre L k := by
  have key : ∀ n, n ≤ m → ∃ k, k ≤ n ∧ (∀ j, j < k → (t : Int) - 999 ≤ w (L.getD j 0)) ∧ ∀ j, k ≤ j → j < n → ¬ (t : Int) - 999 ≤ w (L.getD j 0) := by
    intro n
    induction n with
    | zero => intro _; exact ⟨0, Nat.le_refl _, fun j hj => absurd hj (Nat.not_lt_zero j), fun j _ hj => absurd hj (Nat.not_lt_zero j)⟩
    | succ n ih =>
      intro hn
      obtain ⟨k, h1, h2, h3⟩ := ih (by omega)
      by_cases c : (t : Int) - 999 ≤ w (L.getD n 0)
      · have hkn : k = n := by
          rcases Nat.lt_or_ge k n with q | q
          · have := h3 k (Nat.le_refl _) q
            have := hs k n q (by omega)
            omega
          · omega
        subst hkn
        refine ⟨k + 1, Nat.le_refl _, fun j hj => ?_, fun j q1 q2 => by omega⟩
        rcases Nat.lt_succ_iff_lt_or_eq.1 hj with q | rfl
        · exact h2 j q
        · exact c
      · refine ⟨k, by omega, h2, fun j q1 q2 => ?_⟩
        rcases Nat.lt_succ_iff_lt_or_eq.1 q2 with q | rfl
        · exact h3 j q1 q
        · exact c
  obtain ⟨k, h1, h2, h3⟩ := key m (Nat.le_refl _)
  refine ⟨k, h1, set_ext (upS_lt _ _ _) (h.pre_lt h1) fun i hi => ?_⟩
  obtain ⟨j, hj, rfl⟩ := h.onto i hi
  rw [upS_bit hi, Bool.eq_iff_iff, decide_eq_true_eq, pre_bit]
  constructor
  · intro q
    rcases Nat.lt_or_ge j k with c | c
    · exact ⟨j, c, rfl⟩
    · exact absurd q (h3 j c hj)
  · rintro ⟨j', q1, q2⟩
    rw [← q2]; exact h2 j' q1
/-- A function whose numbers are the steps along an order. -/
theorem Ord.steps (g : Nat → Int) : ∃ y : Nat → Int, ∀ j, j < m → y (L.getD j 0) = g j := by
  refine ⟨fun i => sumN m fun j => if L.getD j 0 = i then g j else 0, fun j hj => ?_⟩
  show sumN m (fun j' => if L.getD j' 0 = L.getD j 0 then g j' else 0) = g j
  rw [sumN_congr (h := fun j' => if j' = j then g j else 0) fun j' hj' => ?_, sumN_single m j _ hj]
  by_cases c : j' = j
  · subst c; simp
  · rw [if_neg c, if_neg]
    rcases Nat.lt_or_ge j' j with q | q
    · exact h.inj j' j q hj
    · exact fun e => h.inj j j' (by omega) hj' e.symm
end
theorem tele (f : Nat → Int) (k : Nat) : sumN k (fun j => f (j + 1) - f j) = f k - f 0 := by
  induction k with
  | zero => simp [sumN]
  | succ k ih => rw [sumN, ih]; omega
end Go.SH

set_option linter.unusedSimpArgs false
set_option linter.unusedVariables false
namespace Go.SH
open Go Go.AX


/-! ### sorted, each but once -/
theorem sortL_sorted (xs : List Int) : (sortL xs).Pairwise (· ≤ ·) := by
  have := List.pairwise_mergeSort (le := fun x y : Int => decide (x ≤ y)) (fun a b c h1 h2 => by simp only [decide_eq_true_eq] at *; omega) (fun a b => by simp only [Bool.or_eq_true, decide_eq_true_eq]; omega) xs
  exact this.imp fun h => of_decide_eq_true h
theorem sortL_mem {xs : List Int} {y : Int} : y ∈ sortL xs ↔ y ∈ xs := (List.mergeSort_perm _ _).mem_iff
theorem uniq_all {zs : List Int} {y : Int} (h : y ∈ zs) : y ∈ uniqL zs := by
  have key : ∀ j, j < zs.length → zs.getD j 0 = y → y ∈ uniqL zs := by
    intro j
    induction j with
    | zero =>
      intro hj e
      unfold uniqL Lib.compact Lib.compactUpTo
      rw [List.mem_map]
      refine ⟨0, List.mem_filter.2 ⟨List.mem_range.2 hj, by simp [Lib.keeps]⟩, ?_⟩
      rw [getElem!_pos zs.toArray 0 (by simpa using hj), ← e, List.getD_eq_getElem?_getD, List.getElem?_eq_getElem hj]; simp
    | succ j ih =>
      intro hj e
      by_cases c : zs.getD j 0 = y
      · exact ih (by omega) c
      · unfold uniqL Lib.compact Lib.compactUpTo
        rw [List.mem_map]
        have e1 : zs.toArray[j + 1]! = y := by
          rw [getElem!_pos zs.toArray (j + 1) (by simpa using hj), ← e, List.getD_eq_getElem?_getD, List.getElem?_eq_getElem hj]; simp
        have e2 : zs.toArray[j]! = zs.getD j 0 := by
          rw [getElem!_pos zs.toArray j (by simp; omega), List.getD_eq_getElem?_getD, List.getElem?_eq_getElem (by omega)]; simp
        refine ⟨j + 1, List.mem_filter.2 ⟨List.mem_range.2 hj, ?_⟩, e1⟩
        unfold Lib.keeps
        refine decide_eq_true (.inr ?_)
        rw [e1, Nat.add_sub_cancel, e2]
        exact fun q => c q.symm
  obtain ⟨j, hj, e⟩ := List.getElem_of_mem h
  exact key j hj (by rw [List.getD_eq_getElem?_getD, List.getElem?_eq_getElem hj]; exact e)
theorem uniq_rise {zs : List Int} (h : zs.Pairwise (· ≤ ·)) : (uniqL zs).Pairwise (· < ·) := by
  unfold uniqL Lib.compact Lib.compactUpTo
  rw [List.pairwise_map]
  refine List.Pairwise.imp_of_mem ?_ (List.Pairwise.filter _ List.pairwise_lt_range)
  intro a b ha hb hab
  have hb1 := List.mem_range.1 (List.mem_filter.1 hb).1
  have hb2 := (List.mem_filter.1 hb).2
  unfold Lib.keeps at hb2
  have hb3 := of_decide_eq_true hb2
  have get : ∀ i (hi : i < zs.length), zs.toArray[i]! = zs[i] := fun i hi => by
    rw [getElem!_pos zs.toArray i (by simpa using hi)]; simp
  rw [List.pairwise_iff_getElem] at h
  rcases hb3 with q | q
  · omega
  · have e1 := get b hb1
    have e2 := get (b - 1) (by omega)
    rw [e1, e2] at q
    rw [e1, get a (by omega)]
    have h1 := h (b - 1) b (by omega) hb1 (by omega)
    rcases Nat.lt_or_ge a (b - 1) with c | c
    · have h2 := h a (b - 1) (by omega) (by omega) c
      have : zs[b] ≠ zs[b - 1] := q
      omega
    · have : a = b - 1 := by omega
      subst this
      have : zs[b] ≠ zs[b - 1] := q
      omega
/-- Sets in whatever order, sorted, each but once: a family of the same sets. -/
theorem sortU {m : Nat} (h8 : m ≤ 8) (N : List Nat) (hlt : ∀ s, s ∈ N → s < 2 ^ m) : ∃ K, uniqL (sortL (cs N)) = cs K ∧ Fam m K ∧ ∀ s, s ∈ K ↔ s ∈ N := by
  have hmem : ∀ y, y ∈ uniqL (sortL (cs N)) ↔ y ∈ cs N := fun y => ⟨fun h => sortL_mem.1 (uniqL_mem h), fun h => uniq_all (sortL_mem.2 h)⟩
  have hri := uniq_rise (sortL_sorted (cs N))
  generalize uniqL (sortL (cs N)) = Z at *
  have hcs : Z = cs (Z.map Int.toNat) := cs_of fun k hk => by
    have : Z.getD k 0 ∈ Z := by rw [List.getD_eq_getElem?_getD, List.getElem?_eq_getElem hk]; exact List.getElem_mem hk
    obtain ⟨a, _, e⟩ := List.mem_map.1 (show Z.getD k 0 ∈ N.map Nat.cast from (hmem _).1 this)
    omega
  have hK : ∀ s : Nat, s ∈ Z.map Int.toNat ↔ s ∈ N := fun s => by
    rw [← cs_mem, ← hcs, hmem, cs_mem]
  refine ⟨Z.map Int.toNat, hcs, ⟨h8, fun s hs => hlt s ((hK s).1 hs), fun i j hij hj => ?_⟩, hK⟩
  rw [List.pairwise_iff_getElem] at hri
  have hj' : j < Z.length := by simpa using hj
  have h1 := hri i j (by omega) hj' hij
  have g : ∀ k (hk : k < Z.length), ((Z.map Int.toNat).getD k 0 : Int) = Z[k] := fun k hk => by
    have := cs_get (Z.map Int.toNat) k
    rw [← hcs] at this
    rw [← this, List.getD_eq_getElem?_getD, List.getElem?_eq_getElem hk]; rfl
  have h2 := g i (by omega)
  have h3 := g j hj'
  omega

/-- Sets told apart, sorted. -/
theorem sortF {m : Nat} {N K : List Nat} (hn : N.Nodup) (hK : Fam m K) (h : ∀ s, s ∈ K ↔ s ∈ N) : sortL (cs N) = cs K := by
  have hs := sortL_sorted (cs N)
  have hp : List.Perm (sortL (cs N)) (cs N) := List.mergeSort_perm _ _
  have hcn : (cs N).Nodup := by
    refine List.pairwise_map.2 (List.Pairwise.imp ?_ hn)
    intro a b q e
    exact q (Int.ofNat.inj e)
  have hnd : (sortL (cs N)).Nodup := hp.nodup_iff.2 hcn
  have hri : (sortL (cs N)).Pairwise (· < ·) := List.Pairwise.imp (by intro a b q; have := q.1; have := q.2; omega) (hs.and hnd)
  have hmem : ∀ y, y ∈ sortL (cs N) ↔ y ∈ cs N := fun y => sortL_mem
  generalize sortL (cs N) = Z at *
  have hcs : Z = cs (Z.map Int.toNat) := cs_of fun k hk => by
    have : Z.getD k 0 ∈ Z := by rw [List.getD_eq_getElem?_getD, List.getElem?_eq_getElem hk]; exact List.getElem_mem hk
    obtain ⟨a, _, e⟩ := List.mem_map.1 (show Z.getD k 0 ∈ N.map Nat.cast from (hmem _).1 this)
    omega
  have hK2 : ∀ s : Nat, s ∈ Z.map Int.toNat ↔ s ∈ K := fun s => by
    rw [← cs_mem, ← hcs, hmem, cs_mem, h]
  have hf : Fam m (Z.map Int.toNat) := ⟨hK.m8, fun s hs => hK.lt s ((hK2 s).1 hs), fun i j hij hj => ?_⟩
  · rw [hcs, hf.ext hK hK2]
  rw [List.pairwise_iff_getElem] at hri
  have hj' : j < Z.length := by simpa using hj
  have h1 := hri i j (by omega) hj' hij
  have g : ∀ k (hk : k < Z.length), ((Z.map Int.toNat).getD k 0 : Int) = Z[k] := fun k hk => by
    have := cs_get (Z.map Int.toNat) k
    rw [← hcs] at this
    rw [← this, List.getD_eq_getElem?_getD, List.getElem?_eq_getElem hk]; rfl
  have h2 := g i (by omega)
  have h3 := g j hj'
  omega
end Go.SH
