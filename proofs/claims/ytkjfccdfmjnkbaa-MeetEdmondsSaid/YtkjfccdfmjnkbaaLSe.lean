/-
  Package sub as it computes: forms, submodular functions. Submodular numbers of sets: their least values are a lattice. Package sub as it computes: vertices, and the function at weights ('Extended'), by layers; what is within the function.  Conditions: none.
-/
import Derived.Test.YtkjfccdfmjnkbaaLS
import Derived.Test.YtkjfccdfmjnkbaaLM
import Derived.Test.YtkjfccdfmjnkbaaSpslices
import Derived.Test.YtkjfccdfmjnkbaaLSt
import Derived.Test.YtkjfccdfmjnkbaaLA
import Derived.Test.YtkjfccdfmjnkbaaAxY

set_option linter.unusedSimpArgs false
set_option linter.unusedVariables false
namespace Go.SH
open Go Go.AX

structure Form (n : Nat) (f : List Int) : Prop where
  n8 : n ≤ 8
  len : f.length = 2 ^ n
  bd : ∀ k, k < 2 ^ n → -1000 ≤ f.getD k 0 ∧ f.getD k 0 ≤ 1000
  z : f.getD 0 0 = 0

structure Subm (n : Nat) (f : List Int) : Prop extends Form n f where
  sub : ∀ s, s < 2 ^ n → ∀ i, i < n → ∀ k, k < i → s &&& (2 ^ i ||| 2 ^ k) = 0 → f.getD (s ||| 2 ^ i ||| 2 ^ k) 0 + f.getD s 0 ≤ f.getD (s ||| 2 ^ i) 0 + f.getD (s ||| 2 ^ k) 0


end Go.SH

set_option linter.unusedSimpArgs false
set_option linter.unusedVariables false
namespace Go.SH
open Go Go.AX

/-- The least value, and of the sets that have it what all have and what any has. -/
structure LeastOf (m : Nat) (f : List Int) (r : Int × Int × Int × Int) : Prop where
  ok : r.2.2.2 = 0
  at_ : ∃ k, k < 2 ^ m ∧ f.getD k 0 = r.1
  least : ∀ k, k < 2 ^ m → r.1 ≤ f.getD k 0
  low : ∃ l : Nat, r.2.1 = (l : Int) ∧ l < 2 ^ m ∧ ∀ i, i < m → (l.testBit i = true ↔ ∀ k, k < 2 ^ m → f.getD k 0 = r.1 → k.testBit i = true)
  high : ∃ l : Nat, r.2.2.1 = (l : Int) ∧ l < 2 ^ m ∧ ∀ i, i < m → (l.testBit i = true ↔ ∃ k, k < 2 ^ m ∧ f.getD k 0 = r.1 ∧ k.testBit i = true)
theorem subm1 (a : Int) (h1 : -1000 ≤ a) (h2 : a ≤ 1000) : Subm 1 [0, a] := by
  refine ⟨⟨by omega, rfl, fun k hk => ?_, rfl⟩, fun s hs i hi k hk => by omega⟩
  match k, hk with
  | 0, _ => simp
  | 1, _ => simpa using ⟨h1, h2⟩

theorem Subm.less {m : Nat} {f : List Int} (hf : Subm m f) {i : Nat} (hi : i < m) : ∀ s, s < 2 ^ m → ∀ t, t < 2 ^ m → Inc t s → s.testBit i = false → f.getD (s ||| 2 ^ i) 0 - f.getD s 0 ≤ f.getD (t ||| 2 ^ i) 0 - f.getD t 0 := by
  -- from t to t ||| d, element by element of d
  have key : ∀ t, t < 2 ^ m → ∀ d, d < 2 ^ m → (t ||| d).testBit i = false → f.getD (t ||| d ||| 2 ^ i) 0 - f.getD (t ||| d) 0 ≤ f.getD (t ||| 2 ^ i) 0 - f.getD t 0 := by
    intro t ht
    refine set_ind (m := m) _ (fun _ => by rw [Nat.or_zero]; exact Int.le_refl _) fun d k hd hk hdk ih h => ?_
    rw [← Nat.or_assoc] at h ⊢
    have h' : (t ||| d).testBit i = false := by
      rw [Nat.testBit_or] at h
      simp only [Bool.or_eq_false_iff] at h
      exact h.1
    have hki : k ≠ i := by
      rintro rfl
      rw [Nat.testBit_or, testBit_pow] at h; simp at h
    have ih := ih h'
    have hs := or_lt ht hd
    cases hb : (t ||| d).testBit k
    · -- the two elements are new
      have e0 : (t ||| d) &&& (2 ^ i ||| 2 ^ k) = 0 := by
        rw [disj_iff]; intro j hj
        rw [Nat.testBit_or, testBit_pow, testBit_pow]
        have h1 : i ≠ j := by rintro rfl; rw [hj] at h'; cases h'
        have h2 : k ≠ j := by rintro rfl; rw [hj] at hb; cases hb
        simp [h1, h2]
      have e1 : (t ||| d) &&& (2 ^ k ||| 2 ^ i) = 0 := by rw [Nat.or_comm (2 ^ k)]; exact e0
      have c : t ||| d ||| 2 ^ k ||| 2 ^ i = t ||| d ||| 2 ^ i ||| 2 ^ k := by rw [Nat.or_assoc, Nat.or_comm (2 ^ k), ← Nat.or_assoc]
      rcases Nat.lt_or_gt_of_ne hki with q | q
      · have := hf.sub _ hs i hi k q e0
        rw [c]; omega
      · have := hf.sub _ hs k hk i q e1
        rw [c] at this ⊢; omega
    · have : t ||| d ||| 2 ^ k = t ||| d := by
        apply Nat.eq_of_testBit_eq; intro j
        rw [Nat.testBit_or (t ||| d), testBit_pow]
        by_cases q : k = j
        · subst q; rw [hb]; rfl
        · simp [q]
      rw [this]; exact ih
  intro s hs t ht hts hsi
  have e : t ||| s = s := by
    apply Nat.eq_of_testBit_eq; intro j
    rw [Nat.testBit_or]
    cases h : t.testBit j
    · rfl
    · rw [hts j h]; rfl
  have := key t ht s hs (by rw [e]; exact hsi)
  rwa [e] at this

theorem Subm.modular {m : Nat} {f : List Int} (hf : Subm m f) {s t : Nat} (hs : s < 2 ^ m) (ht : t < 2 ^ m) : f.getD (s ||| t) 0 + f.getD (s &&& t) 0 ≤ f.getD s 0 + f.getD t 0 := by
  have key : ∀ d, d < 2 ^ m → (∀ i, d.testBit i = true → s.testBit i = false) → f.getD (s ||| d) 0 - f.getD s 0 ≤ f.getD ((s &&& t) ||| d) 0 - f.getD (s &&& t) 0 := by
    refine set_ind (m := m) _ (fun _ => by rw [Nat.or_zero, Nat.or_zero]; omega) fun d k hd hk hdk ih h => ?_
    have h1 := ih fun i hi => h i (by rw [Nat.testBit_or, hi]; rfl)
    have hsk : s.testBit k = false := h k (by rw [Nat.testBit_or, testBit_pow]; simp)
    have h2 := hf.less hk (s ||| d) (or_lt hs hd) ((s &&& t) ||| d) (or_lt (and_lt hs) hd) (inc_or ((inc_and_l s t).trans (inc_or_l _ _)) (inc_or_r _ _)) (by rw [Nat.testBit_or, hsk, hdk]; rfl)
    rw [← Nat.or_assoc, ← Nat.or_assoc]
    omega
  have := key (dif t s) (dif_lt ht) fun i hi => by
    rw [testBit_dif, Bool.and_eq_true, Bool.not_eq_true'] at hi; exact hi.2
  have e1 : s ||| dif t s = s ||| t := by
    apply Nat.eq_of_testBit_eq; intro i
    rw [Nat.testBit_or, Nat.testBit_or, testBit_dif]
    cases s.testBit i <;> cases t.testBit i <;> rfl
  have e2 : (s &&& t) ||| dif t s = t := by
    apply Nat.eq_of_testBit_eq; intro i
    rw [Nat.testBit_or, Nat.testBit_and, testBit_dif]
    cases s.testBit i <;> cases t.testBit i <;> rfl
  rw [e1, e2] at this
  omega

/-- Of the sets that have the least number: what all have has it, what any has has it. -/
theorem LeastOf.lattice {m : Nat} {f : List Int} (hf : Subm m f) {r : Int × Int × Int × Int} (h : LeastOf m f r) : ∃ a b : Nat, r.2.1 = (a : Int) ∧ r.2.2.1 = (b : Int) ∧ a < 2 ^ m ∧ b < 2 ^ m ∧ f.getD a 0 = r.1 ∧ f.getD b 0 = r.1 ∧ Inc a b := by
  obtain ⟨a, ea, a1, a2⟩ := h.low
  obtain ⟨b, eb, b1, b2⟩ := h.high
  obtain ⟨k0, k1, k2⟩ := h.at_
  have lat : ∀ s t, s < 2 ^ m → t < 2 ^ m → f.getD s 0 = r.1 → f.getD t 0 = r.1 → f.getD (s ||| t) 0 = r.1 ∧ f.getD (s &&& t) 0 = r.1 := fun s t hs ht e1 e2 => by
    have h1 := hf.modular hs ht
    have h2 := h.least _ (or_lt hs ht)
    have h3 := h.least _ (and_lt (b := t) hs)
    omega
  -- one with fewest, one with most
  have low : ∀ d s, cnt m s ≤ d → s < 2 ^ m → f.getD s 0 = r.1 → f.getD a 0 = r.1 := by
    intro d
    induction d with
    | zero =>
      intro s hd hs e
      have : s = a := by
        refine set_ext hs a1 fun i hi => ?_
        rw [Bool.eq_iff_iff, a2 i hi]
        constructor
        · intro q
          have := cnt_pos hs q; omega
        · intro q; exact q s hs e
      rw [← this]; exact e
    | succ d ih =>
      intro s hd hs e
      rcases Classical.em (∃ t, t < 2 ^ m ∧ f.getD t 0 = r.1 ∧ ¬ Inc s t) with ⟨t, t1, t2, t3⟩ | q
      · obtain ⟨i, i1, i2⟩ := not_inc t3
        have h1 := (lat s t hs t1 e t2).2
        have h2 : cnt m (s &&& t) < cnt m s := cnt_lt_of (inc_and_l s t) hs i1 (by rw [Nat.testBit_and, i2, Bool.and_false])
        exact ih (s &&& t) (by omega) (and_lt hs) h1
      · have : s = a := by
          refine set_ext hs a1 fun i hi => ?_
          rw [Bool.eq_iff_iff, a2 i hi]
          constructor
          · intro q1 t t1 t2
            rcases Classical.em (Inc s t) with c | c
            · exact c i q1
            · exact absurd ⟨t, t1, t2, c⟩ q
          · intro q1; exact q1 s hs e
        rw [← this]; exact e
  have high : ∀ d s, m - cnt m s ≤ d → s < 2 ^ m → f.getD s 0 = r.1 → f.getD b 0 = r.1 := by
    intro d
    induction d with
    | zero =>
      intro s hd hs e
      have hc := cnt_le m s
      have hall := cnt_full (m := m) (s := s) (by omega)
      have : s = b := by
        refine set_ext hs b1 fun i hi => ?_
        rw [hall i hi]
        exact ((b2 i hi).2 ⟨s, hs, e, hall i hi⟩).symm
      rw [← this]; exact e
    | succ d ih =>
      intro s hd hs e
      rcases Classical.em (∃ t, t < 2 ^ m ∧ f.getD t 0 = r.1 ∧ ¬ Inc t s) with ⟨t, t1, t2, t3⟩ | q
      · obtain ⟨i, i1, i2⟩ := not_inc t3
        have h1 := (lat s t hs t1 e t2).1
        have h2 : cnt m s < cnt m (s ||| t) := cnt_lt_of (inc_or_l s t) (or_lt hs t1) (by rw [Nat.testBit_or, i1, Bool.or_true]) i2
        exact ih (s ||| t) (by omega) (or_lt hs t1) h1
      · have : s = b := by
          refine set_ext hs b1 fun i hi => ?_
          rw [Bool.eq_iff_iff, b2 i hi]
          constructor
          · intro q1; exact ⟨s, hs, e, q1⟩
          · rintro ⟨t, t1, t2, t3⟩
            rcases Classical.em (Inc t s) with c | c
            · exact c i t3
            · exact absurd ⟨t, t1, t2, c⟩ q
        rw [← this]; exact e
  refine ⟨a, b, ea, eb, a1, b1, low _ k0 (Nat.le_refl _) k1 k2, high _ k0 (Nat.le_refl _) k1 k2, fun i hi => ?_⟩
  have him := bit_lt a1 hi
  exact (b2 i him).2 ⟨k0, k1, k2, (a2 i him).1 hi k0 k1 k2⟩
end Go.SH

set_option linter.unusedSimpArgs false
set_option linter.unusedVariables false
namespace Go.SH
open Go Go.AX

theorem sumN_abs8 {n : Nat} {g : Nat → Int} {c : Int} (hn : n ≤ 8) (hg : ∀ i, i < n → -c ≤ g i ∧ g i ≤ c) : -(8 * c.natAbs : Int) ≤ sumN n g ∧ sumN n g ≤ 8 * c.natAbs := by
  have key : ∀ k, k ≤ n → -(k * c.natAbs : Int) ≤ sumN k g ∧ sumN k g ≤ k * c.natAbs := by
    intro k
    induction k with
    | zero => intro _; simp [sumN]
    | succ k ih =>
      intro hk
      have h1 := ih (by omega)
      have h2 := hg k (by omega)
      have h3 : ((k + 1 : Nat) : Int) * (c.natAbs : Int) = k * c.natAbs + c.natAbs := by rw [Int.natCast_add, Int.add_mul]; simp
      rw [sumN, h3]
      omega
  have h1 := key n (Nat.le_refl n)
  have h2 : n * c.natAbs ≤ 8 * c.natAbs := Nat.mul_le_mul_right _ hn
  have h3 : (n : Int) * (c.natAbs : Int) = ((n * c.natAbs : Nat) : Int) := by simp
  have h4 : 8 * (c.natAbs : Int) = ((8 * c.natAbs : Nat) : Int) := by simp
  omega
/-- An order of all elements. -/
structure OrdP (n : Nat) (p : List Int) : Prop where
  len : p.length = n
  bd : ∀ k, k < n → 0 ≤ p.getD k 0 ∧ p.getD k 0 < n
  ne : ∀ k, k < n → ∀ j, j < k → p.getD j 0 ≠ p.getD k 0

theorem cmpC (x y : Int) : ∃ r, cmp_Compare_int x y = some r ∧ (r < 0 ↔ x < y) := by
  unfold cmp_Compare_int
  simp [cmp_isNaN_int]
  by_cases h1 : x < y
  · exact ⟨-1, by simp [h1], by omega⟩
  · by_cases h2 : y < x
    · exact ⟨1, by simp [h1, h2], by omega⟩
    · exact ⟨0, by simp [h1, h2], by omega⟩
theorem cs_range_mem {m : Nat} {x : Int} : x ∈ cs (List.range m) ↔ ∃ i : Nat, x = (i : Int) ∧ i < m := by
  unfold cs
  rw [List.mem_map]
  constructor
  · rintro ⟨i, h1, h2⟩; exact ⟨i, h2.symm, List.mem_range.1 h1⟩
  · rintro ⟨i, h1, h2⟩; exact ⟨i, List.mem_range.2 h2, h1.symm⟩
/-- The elements, put in order by a comparison of weights: the greatest first. -/
theorem sorted_order {m : Nat} {w : List Int} (hw : w.length = m) {f : Int → Int → Option Int} (hf : ∀ a b : Nat, a < m → b < m → f a b = cmp_Compare_int (w.getD b 0) (w.getD a 0)) :
    OrdL f (cs (List.range m)) ∧ ∃ L, stabL f (cs (List.range m)) = cs L ∧ Ord m L ∧ ∀ i j, i < j → j < m → w.getD (L.getD j 0) 0 ≤ w.getD (L.getD i 0) 0 := by
  have ho : OrdL f (cs (List.range m)) := OrdL.of_key (fun x => - w.getD x.toNat 0) fun x hx y hy => by
    obtain ⟨a, rfl, ha⟩ := cs_range_mem.1 hx
    obtain ⟨b, rfl, hb⟩ := cs_range_mem.1 hy
    obtain ⟨r, h1, h2⟩ := cmpC (w.getD b 0) (w.getD a 0)
    refine ⟨r, (hf a b ha hb).trans h1, ?_⟩
    rw [h2]
    simp only [toNat_nat]
    omega
  refine ⟨ho, ?_⟩
  have hp := ho.perm
  have hl := ho.len
  rw [cs_len, List.length_range] at hl
  have hK := cs_of (l := stabL f (cs (List.range m))) fun k hk => by
    have hm : (stabL f (cs (List.range m))).getD k 0 ∈ stabL f (cs (List.range m)) := by
      rw [List.getD_eq_getElem?_getD, List.getElem?_eq_getElem hk]; exact List.getElem_mem hk
    obtain ⟨i, h1, _⟩ := cs_range_mem.1 (hp.mem_iff.1 hm)
    omega
  generalize hL : (stabL f (cs (List.range m))).map Int.toNat = L at hK
  have hpL : List.Perm L (List.range m) := by
    rw [← hL]
    have := hp.map Int.toNat
    have e : (cs (List.range m)).map Int.toNat = List.range m := by
      unfold cs
      rw [List.map_map]
      exact (List.map_congr_left fun x _ => rfl).trans (List.map_id _)
    rwa [e] at this
  have hO := Ord.of_perm hpL
  refine ⟨L, hK, hO, fun i j hij hj => ?_⟩
  have h1 := ho.sorted hij (by rw [cs_len, List.length_range]; exact hj)
  rw [hK, cs_get, cs_get, hf _ _ (hO.lt j hj) (hO.lt i (by omega))] at h1
  obtain ⟨r, h2, h3⟩ := cmpC (w.getD (L.getD i 0) 0) (w.getD (L.getD j 0) 0)
  rw [h2] at h1
  have h4 : ¬ r < 0 := h1
  rw [h3] at h4
  omega
theorem iota {m : Nat} {v : List Int} (h1 : v.length = m) (h2 : ∀ j, j < m → v.getD j 0 = (j : Int)) : v = cs (List.range m) := by
  refine list_ext_getD (by rw [cs_len, List.length_range, h1]) fun i hi => ?_
  rw [h2 i (by omega), cs_get, List.getD_eq_getElem?_getD, List.getElem?_range (by omega)]
  rfl

/-! ### Extended -/
def wf (w : List Int) (i : Nat) : Int := w.getD i 0
def WOk (m : Nat) (w : List Int) : Prop := w.length = m ∧ ∀ i, i < m → -1000 ≤ wf w i ∧ wf w i ≤ 1000
/-- The function at weights, layer by layer. -/
def extV (m : Nat) (f w : List Int) : Int := -1000 * f.getD (2 ^ m - 1) 0 + sumN 2000 (fun j => f.getD (upS m (wf w) j) 0)
/-- The steps of the function along an order. -/
theorem ext_order {m : Nat} {f w : List Int} (hf : f.getD 0 0 = 0) (hw : WOk m w) {L : List Nat} (hO : Ord m L) (hs : ∀ i j, i < j → j < m → w.getD (L.getD j 0) 0 ≤ w.getD (L.getD i 0) 0)
    {y : Nat → Int} (hy : ∀ j, j < m → y (L.getD j 0) = f.getD (pre L (j + 1)) 0 - f.getD (pre L j) 0) : sumN m (fun i => y i * wf w i) = extV m f w := by
  have hpre : ∀ k, k ≤ m → wsum m y (pre L k) = f.getD (pre L k) 0 := fun k hk => by
    rw [hO.wsum_pre y k hk, sumN_congr (h := fun j => f.getD (pre L (j + 1)) 0 - f.getD (pre L j) 0) fun j hj => hy j (by omega), tele (fun j => f.getD (pre L j) 0)]
    show f.getD (pre L k) 0 - f.getD 0 0 = _
    rw [hf]; omega
  rw [dot_layer hw.2]
  unfold extV
  have e1 : sumN m y = f.getD (2 ^ m - 1) 0 := by
    have h1 := hpre m (Nat.le_refl m)
    rw [hO.wsum_pre y m (Nat.le_refl m), ← hO.sum y, hO.pre_all] at h1
    exact h1
  have e2 : sumN 2000 (fun j => wsum m y (upS m (wf w) j)) = sumN 2000 (fun j => f.getD (upS m (wf w) j) 0) := sumN_congr fun j _ => by
    obtain ⟨k, hk, e⟩ := hO.layer_pre (w := wf w) hs j
    rw [e, hpre k hk]
  rw [e1, e2]
/-- What is within the function has no more. -/
theorem within_le {m : Nat} {f w : List Int} (hw : WOk m w) {x : Nat → Int} (hx : ∀ a, a < 2 ^ m → wsum m x a ≤ f.getD a 0) (he : sumN m x = f.getD (2 ^ m - 1) 0) : sumN m (fun i => x i * wf w i) ≤ extV m f w := by
  rw [dot_layer hw.2, he]
  unfold extV
  have := sumN_le (n := 2000) (g := fun j => wsum m x (upS m (wf w) j)) (h := fun j => f.getD (upS m (wf w) j) 0) fun j _ => hx _ (upS_lt _ _ _)
  omega
theorem wsum_all (m : Nat) (x : Nat → Int) : wsum m x (2 ^ m - 1) = sumN m x := by
  unfold wsum
  refine sumN_congr fun i hi => ?_
  rw [Nat.testBit_two_pow_sub_one]
  simp [hi]
/-- A vertex is within. -/
theorem vertex_within {m : Nat} {f : List Int} (hf : Subm m f) {L : List Nat} (hO : Ord m L) {y : Nat → Int} (hy : ∀ j, j < m → y (L.getD j 0) = f.getD (pre L (j + 1)) 0 - f.getD (pre L j) 0) {a : Nat} (ha : a < 2 ^ m) : wsum m y a ≤ f.getD a 0 := by
  have key : ∀ k, k ≤ m → wsum m y (a &&& pre L k) ≤ f.getD (a &&& pre L k) 0 := by
    intro k
    induction k with
    | zero =>
      intro _
      simp only [pre, Nat.and_zero]
      have : wsum m y 0 = 0 := by unfold wsum; rw [sumN_congr (h := fun _ => 0) fun i _ => by simp, sumN_zero]
      rw [this, hf.z]; exact Int.le_refl _
    | succ k ih =>
      intro hk
      have ih := ih (by omega)
      have hnew := hO.pre_new (show k < m by omega)
      have hlt := hO.lt k (by omega)
      have hpl := hO.pre_lt (show k ≤ m by omega)
      simp only [pre]
      cases hba : a.testBit (L.getD k 0)
      · have e : a &&& (pre L k ||| 2 ^ L.getD k 0) = a &&& pre L k := Nat.eq_of_testBit_eq fun j => by
          rw [Nat.testBit_and, Nat.testBit_and, Nat.testBit_or, testBit_pow]
          by_cases q : L.getD k 0 = j
          · rw [← q, hba]; rfl
          · rw [decide_eq_false q, Bool.or_false]
        rw [e]; exact ih
      · have e : a &&& (pre L k ||| 2 ^ L.getD k 0) = (a &&& pre L k) ||| 2 ^ L.getD k 0 := Nat.eq_of_testBit_eq fun j => by
          rw [Nat.testBit_and, Nat.testBit_or, Nat.testBit_or, Nat.testBit_and, testBit_pow]
          by_cases q : L.getD k 0 = j
          · rw [← q, hba, hnew, decide_eq_true rfl]; rfl
          · rw [decide_eq_false q, Bool.or_false, Bool.or_false]
        rw [e, wsum_add hlt (by rw [Nat.testBit_and, hnew, Bool.and_false])]
        have h6 := hf.less hlt (pre L k) hpl (a &&& pre L k) (and_lt ha) (inc_and_r _ _) hnew
        have h7 := hy k (by omega)
        simp only [pre] at h7
        omega
  have := key m (Nat.le_refl m)
  have e : a &&& pre L m = a := by
    rw [hO.pre_all]
    exact (sub_iff_and _ _).2 fun i hi => by rw [Nat.testBit_two_pow_sub_one]; simp [bit_lt ha hi]
  rwa [e] at this
end Go.SH
