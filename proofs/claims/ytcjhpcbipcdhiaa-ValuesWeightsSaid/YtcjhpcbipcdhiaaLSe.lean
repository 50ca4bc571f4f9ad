/-
  Package sub as it computes: vertices, and the function at weights ('Extended'), by layers; what is within the function. Conditions: none.
-/
import Derived.Test.YtcjhpcbipcdhiaaLX
import Derived.Test.YtcjhpcbipcdhiaaLSt
import Derived.Test.YtcjhpcbipcdhiaaLR
import Derived.Test.YtcjhpcbipcdhiaaLA
import Derived.Test.YtcjhpcbipcdhiaaAxY
set_option linter.unusedSimpArgs false
set_option linter.unusedVariables false
namespace Go.SH
open Go Go.AX

theorem sumN_abs8 {n : Nat} {g : Nat → Int} {c : Int} (hn : n ≤ 8) (hg : ∀ i, i < n → -c ≤ g i ∧ g i ≤ c) : -(8 * c.natAbs : Int) ≤ sumN n g ∧ sumN n g ≤ 8 * c.natAbs := by
  have key : ∀ k, k ≤ n → -(k * c.natAbs : Int) ≤ sumN k g ∧ sumN k g ≤ k * c.natAbs := by
    intro k
    induction k with
    | zero => intro _; simp [sumN]
    | succ k ih =>
      intro hk
      have h1 := ih (by omega)
      have h2 := hg k (by omega)
      have h3 : ((k + 1 : Nat) : Int) * (c.natAbs : Int) = k * c.natAbs + c.natAbs := by rw [Int.natCast_add, Int.add_mul]; simp
      rw [sumN, h3]
      omega
  have h1 := key n (Nat.le_refl n)
  have h2 : n * c.natAbs ≤ 8 * c.natAbs := Nat.mul_le_mul_right _ hn
  have h3 : (n : Int) * (c.natAbs : Int) = ((n * c.natAbs : Nat) : Int) := by simp
  have h4 : 8 * (c.natAbs : Int) = ((8 * c.natAbs : Nat) : Int) := by simp
  omega
/-- An order of all elements. -/
structure OrdP (n : Nat) (p : List Int) : Prop where
  len : p.length = n
  bd : ∀ k, k < n → 0 ≤ p.getD k 0 ∧ p.getD k 0 < n
  ne : ∀ k, k < n → ∀ j, j < k → p.getD j 0 ≠ p.getD k 0

theorem sub_order_spec (n : Nat) (p : List Int) (hn : n ≤ 8) : Gets (sub_order n p) (fun r => r = true → OrdP n p) := by
  unfold sub_order
  refine gBind (R := fun z => match z with | .inl _ => (∀ k, k < p.length → 0 ≤ p.getD k 0 ∧ p.getD k 0 < n) ∧ (∀ k, k < p.length → ∀ j, j < k → p.getD j 0 ≠ p.getD k 0) | .inr r => r = false)
    (gFor p.length (fun k s => s.2 = (k : Int) ∧ (∃ t : Nat, s.1 = (t : Int) ∧ ∀ i, t.testBit i = true ↔ ∃ j, j < k ∧ p.getD j 0 = (i : Int)) ∧ (∀ k', k' < k → 0 ≤ p.getD k' 0 ∧ p.getD k' 0 < n) ∧ (∀ k', k' < k → ∀ j, j < k' → p.getD j 0 ≠ p.getD k' 0)) (Nat.zero_le _) ?_ ?_) ?_
  · exact ⟨rfl, ⟨0, rfl, fun i => by simp⟩, fun j hj => by omega, fun j hj => by omega⟩
  · rintro k ⟨sn, i⟩ hk ⟨rfl, ⟨t, rfl, ht⟩, h2, h3⟩
    simp only at h2 h3 ⊢
    refine gIte (fun h4 => gChk (by omega) (gChk (by simp only [toNat_nat]; omega) (gIte (fun h5 => gSome rfl) fun h5 => ?_))) fun h4 => gSome ⟨fun j hj => h2 j (by omega), fun j hj => h3 j (by omega)⟩
    simp only [toNat_nat] at h5 ⊢
    obtain ⟨a, ha⟩ := Int.eq_ofNat_of_zero_le (show 0 ≤ p.getD k 0 by omega)
    rw [ha, bit_nat] at h5
    simp only [ha, toNat_nat, shl_nat', or_nat]
    have hb : t.testBit a = false := by
      cases h : t.testBit a
      · rfl
      · rw [h] at h5; simp at h5
    refine gChk (by omega) (gSome ⟨by omega, by simp, ⟨_, rfl, fun i => ?_⟩, fun j hj => ?_, fun j hj l hl => ?_⟩)
    · rw [Nat.testBit_or, testBit_pow, Bool.or_eq_true, ht, decide_eq_true_eq]
      constructor
      · rintro (⟨j, h6, h7⟩ | rfl)
        · exact ⟨j, by omega, h7⟩
        · exact ⟨k, by omega, ha⟩
      · rintro ⟨j, h6, h7⟩
        rcases Nat.lt_or_ge j k with q | q
        · exact .inl ⟨j, q, h7⟩
        · have : j = k := by omega
          subst this; right; omega
    · rcases Nat.lt_or_ge j k with q | q
      · exact h2 j q
      · have : j = k := by omega
        subst this; omega
    · rcases Nat.lt_or_ge j k with q | q
      · exact h3 j q l hl
      · have : j = k := by omega
        subst this
        intro e
        have := (ht a).2 ⟨l, hl, by omega⟩
        rw [hb] at this; cases this
  · rintro (u | rr) hz
    · refine gSome fun hd => ?_
      have hd := of_decide_eq_true hd
      have : p.length = n := by omega
      subst this
      exact ⟨rfl, hz.1, hz.2⟩
    · exact gSome fun h => by rw [hz] at h; cases h


theorem sub_Vertex_spec (n : Int) (f p : List Int) : Gets (sub_Vertex n f p) (fun r => (r.2 ≠ 0 ∧ r.1 = []) ∨ (r.2 = 0 ∧ ∃ m : Nat, n = m ∧ Subm m f ∧ r.1.length = m ∧ (∀ i, i < m → -2000 ≤ r.1.getD i 0 ∧ r.1.getD i 0 ≤ 2000) ∧
    (∀ a, a < 2 ^ m → wsum m (fun i => r.1.getD i 0) a ≤ f.getD a 0) ∧ wsum m (fun i => r.1.getD i 0) (2 ^ m - 1) = f.getD (2 ^ m - 1) 0)) := by
  unfold sub_Vertex
  refine gBind (sub_Check_spec n f) fun y hy => gIte (fun h1 => gSome (.inl ⟨h1, rfl⟩)) fun h1 => ?_
  obtain ⟨m, rfl, hf⟩ : ∃ m : Nat, n = m ∧ Subm m f := by
    rcases hy with ⟨_, q⟩ | ⟨q, _⟩
    · exact q
    · omega
  have h256 := pow_le8 hf.n8
  have h8 := hf.n8
  have hlf := hf.len
  refine gBind (sub_order_spec m p hf.n8) fun y1 hy1 => gIte (fun h2 => gSome (.inl ⟨by simp, rfl⟩)) fun h2 => ?_
  have ho : OrdP m p := hy1 (by simpa using h2)
  have hlp := ho.len
  refine gChk (by omega) ?_
  refine gBind (R := fun x => x.length = m ∧ (∀ i, i < m → -2000 ≤ x.getD i 0 ∧ x.getD i 0 ≤ 2000) ∧ (∀ a, a < 2 ^ m → wsum m (fun i => x.getD i 0) a ≤ f.getD a 0) ∧ wsum m (fun i => x.getD i 0) (2 ^ m - 1) = f.getD (2 ^ m - 1) 0)
    (gFor p.length (fun k s => s.2.2 = (k : Int) ∧ s.1.length = m ∧ (∀ i, i < m → -2000 ≤ s.1.getD i 0 ∧ s.1.getD i 0 ≤ 2000) ∧ ∃ t : Nat, s.2.1 = (t : Int) ∧ t < 2 ^ m ∧ cnt m t = k ∧ (∀ i, t.testBit i = true → ∃ j, j < k ∧ p.getD j 0 = (i : Int)) ∧
      (∀ a, a < 2 ^ m → wsum m (fun i => s.1.getD i 0) (a &&& t) ≤ f.getD (a &&& t) 0) ∧ wsum m (fun i => s.1.getD i 0) t = f.getD t 0) (Nat.zero_le _) ?_ ?_) fun x hx => gSome (.inr ⟨rfl, m, rfl, hf, hx⟩)
  · have w0 : ∀ g, wsum m g 0 = 0 := fun g => by
      unfold wsum; rw [sumN_congr (h := fun _ => 0) fun i hi => by simp, sumN_zero]
    refine ⟨rfl, by simp, fun i hi => by simp [List.getD_eq_getElem?_getD, List.getElem?_replicate, hi], 0, rfl, Nat.pow_pos (by omega), cnt_zero m, fun i hi => by simp at hi, fun a ha => ?_, ?_⟩
    · rw [Nat.and_zero, w0, hf.z]; exact Int.le_refl _
    · rw [w0, hf.z]
  · rintro k ⟨x, s, i⟩ hk ⟨rfl, hlx, hbx, t, rfl, ht, hc, hin, hA, hE⟩
    simp only at hlx hbx hin hA hE ⊢
    refine gIte (fun h4 => gChk (by omega) ?_) fun h4 => gSome ⟨hlx, hbx, ?_⟩
    · simp only [toNat_nat]
      have hkm : k < m := by omega
      have hb := ho.bd k hkm
      obtain ⟨a, ha⟩ := Int.eq_ofNat_of_zero_le hb.1
      have ham : a < m := by omega
      have hta : t.testBit a = false := by
        cases h : t.testBit a
        · rfl
        · obtain ⟨j, hj, e⟩ := hin a h
          exact absurd (e.trans ha.symm) (ho.ne k hkm j hj)
      simp only [ha, toNat_nat, shl_nat', or_nat]
      have hal := pow_lt ham
      have ht' := or_lt ht hal
      have b1 := hf.bd _ ht'
      have b2 := hf.bd _ ht
      have hget : ∀ j, (x.set a (f.getD (t ||| 2 ^ a) 0 - f.getD t 0)).getD j 0 = if j = a then f.getD (t ||| 2 ^ a) 0 - f.getD t 0 else x.getD j 0 := fun j => by
        simp only [List.getD_eq_getElem?_getD, List.getElem?_set]
        by_cases e : a = j
        · subst e; simp [hlx, ham]
        · rw [if_neg e, if_neg (fun e' => e e'.symm)]
      have hw : ∀ b, b.testBit a = false → wsum m (fun i => (x.set a (f.getD (t ||| 2 ^ a) 0 - f.getD t 0)).getD i 0) b = wsum m (fun i => x.getD i 0) b := fun b hb => by
        refine sumN_congr fun j hj => ?_
        simp only [hget]
        by_cases e : j = a
        · subst e; simp [hb]
        · rw [if_neg e]
      refine gChk (by omega) (gChk (by omega) (gSome ⟨by omega, by simp, by simpa using hlx, fun j hj => ?_, _, rfl, ht', by rw [cnt_add ham hta, hc], fun j hj => ?_, fun b hb => ?_, ?_⟩))
      · rw [hget]; have := hbx j hj; split <;> omega
      · rw [Nat.testBit_or, testBit_pow, Bool.or_eq_true, decide_eq_true_eq] at hj
        rcases hj with hj | rfl
        · obtain ⟨l, h5, h6⟩ := hin j hj
          exact ⟨l, by omega, h6⟩
        · exact ⟨k, by omega, ha⟩
      · have hbt : b &&& t < 2 ^ m := and_lt hb
        have hbta : (b &&& t).testBit a = false := by rw [Nat.testBit_and, hta, Bool.and_false]
        cases hba : b.testBit a
        · have e : b &&& (t ||| 2 ^ a) = b &&& t := by
            apply Nat.eq_of_testBit_eq; intro j
            rw [Nat.testBit_and, Nat.testBit_and, Nat.testBit_or, testBit_pow]
            by_cases q : a = j
            · subst q; rw [hba]; rfl
            · simp [q]
          rw [e, hw _ hbta]; exact hA b hb
        · have e : b &&& (t ||| 2 ^ a) = (b &&& t) ||| 2 ^ a := by
            apply Nat.eq_of_testBit_eq; intro j
            rw [Nat.testBit_and, Nat.testBit_or, Nat.testBit_or, Nat.testBit_and, testBit_pow]
            by_cases q : a = j
            · subst q; rw [hba]; simp
            · simp [q]
          rw [e, wsum_add ham hbta, hw _ hbta]
          have h5 := hA b hb
          have h6 := hf.less ham t ht (b &&& t) hbt (fun j hj => by rw [Nat.testBit_and, Bool.and_eq_true] at hj; exact hj.2) hta
          simp only [hget, if_true]
          omega
      · rw [wsum_add ham hta, hw _ hta]
        simp only [hget, if_true]
        omega
    · have hk' : k = m := by omega
      have hfull := cnt_full (hc.trans hk')
      have htE : t = 2 ^ m - 1 := by
        refine set_ext ht (by have : 0 < 2 ^ m := Nat.pow_pos (by omega)
                              omega) fun i hi => ?_
        rw [hfull i hi, Nat.testBit_two_pow_sub_one]; simp [hi]
      refine ⟨fun a ha => ?_, by rw [← htE]; exact hE⟩
      have e : a &&& t = a := (sub_iff_and a t).2 fun i hi => hfull i (bit_lt ha hi)
      have := hA a ha
      rwa [e] at this


/-! ### an order by weights -/
theorem cmpC (x y : Int) : ∃ r, cmp_Compare_int x y = some r ∧ (r < 0 ↔ x < y) := by
  unfold cmp_Compare_int
  simp [cmp_isNaN_int]
  by_cases h1 : x < y
  · exact ⟨-1, by simp [h1], by omega⟩
  · by_cases h2 : y < x
    · exact ⟨1, by simp [h1, h2], by omega⟩
    · exact ⟨0, by simp [h1, h2], by omega⟩
theorem cs_range_mem {m : Nat} {x : Int} : x ∈ cs (List.range m) ↔ ∃ i : Nat, x = (i : Int) ∧ i < m := by
  unfold cs
  rw [List.mem_map]
  constructor
  · rintro ⟨i, h1, h2⟩; exact ⟨i, h2.symm, List.mem_range.1 h1⟩
  · rintro ⟨i, h1, h2⟩; exact ⟨i, List.mem_range.2 h2, h1.symm⟩
/-- The elements, put in order by a comparison of weights: the greatest first. -/
theorem sorted_order {m : Nat} {w : List Int} (hw : w.length = m) {f : Int → Int → Option Int} (hf : ∀ a b : Nat, a < m → b < m → f a b = cmp_Compare_int (w.getD b 0) (w.getD a 0)) :
    OrdL f (cs (List.range m)) ∧ ∃ L, stabL f (cs (List.range m)) = cs L ∧ Ord m L ∧ ∀ i j, i < j → j < m → w.getD (L.getD j 0) 0 ≤ w.getD (L.getD i 0) 0 := by
  have ho : OrdL f (cs (List.range m)) := OrdL.of_key (fun x => - w.getD x.toNat 0) fun x hx y hy => by
    obtain ⟨a, rfl, ha⟩ := cs_range_mem.1 hx
    obtain ⟨b, rfl, hb⟩ := cs_range_mem.1 hy
    obtain ⟨r, h1, h2⟩ := cmpC (w.getD b 0) (w.getD a 0)
    refine ⟨r, (hf a b ha hb).trans h1, ?_⟩
    rw [h2]
    simp only [toNat_nat]
    omega
  refine ⟨ho, ?_⟩
  have hp := ho.perm
  have hl := ho.len
  rw [cs_len, List.length_range] at hl
  have hK := cs_of (l := stabL f (cs (List.range m))) fun k hk => by
    have hm : (stabL f (cs (List.range m))).getD k 0 ∈ stabL f (cs (List.range m)) := by
      rw [List.getD_eq_getElem?_getD, List.getElem?_eq_getElem hk]; exact List.getElem_mem hk
    obtain ⟨i, h1, _⟩ := cs_range_mem.1 (hp.mem_iff.1 hm)
    omega
  generalize hL : (stabL f (cs (List.range m))).map Int.toNat = L at hK
  have hpL : List.Perm L (List.range m) := by
    rw [← hL]
    have := hp.map Int.toNat
    have e : (cs (List.range m)).map Int.toNat = List.range m := by
      unfold cs
      rw [List.map_map]
      exact (List.map_congr_left fun x _ => rfl).trans (List.map_id _)
    rwa [e] at this
  have hO := Ord.of_perm hpL
  refine ⟨L, hK, hO, fun i j hij hj => ?_⟩
  have h1 := ho.sorted hij (by rw [cs_len, List.length_range]; exact hj)
  rw [hK, cs_get, cs_get, hf _ _ (hO.lt j hj) (hO.lt i (by omega))] at h1
  obtain ⟨r, h2, h3⟩ := cmpC (w.getD (L.getD i 0) 0) (w.getD (L.getD j 0) 0)
  rw [h2] at h1
  have h4 : ¬ r < 0 := h1
  rw [h3] at h4
  omega
theorem iota {m : Nat} {v : List Int} (h1 : v.length = m) (h2 : ∀ j, j < m → v.getD j 0 = (j : Int)) : v = cs (List.range m) := by
  refine list_ext_getD (by rw [cs_len, List.length_range, h1]) fun i hi => ?_
  rw [h2 i (by omega), cs_get, List.getD_eq_getElem?_getD, List.getElem?_range (by omega)]
  rfl

/-! ### Extended -/
def wf (w : List Int) (i : Nat) : Int := w.getD i 0
def WOk (m : Nat) (w : List Int) : Prop := w.length = m ∧ ∀ i, i < m → -1000 ≤ wf w i ∧ wf w i ≤ 1000
/-- The function at weights, layer by layer. -/
def extV (m : Nat) (f w : List Int) : Int := -1000 * f.getD (2 ^ m - 1) 0 + sumN 2000 (fun j => f.getD (upS m (wf w) j) 0)
/-- The steps of the function along an order. -/
theorem ext_order {m : Nat} {f w : List Int} (hf : f.getD 0 0 = 0) (hw : WOk m w) {L : List Nat} (hO : Ord m L) (hs : ∀ i j, i < j → j < m → w.getD (L.getD j 0) 0 ≤ w.getD (L.getD i 0) 0)
    {y : Nat → Int} (hy : ∀ j, j < m → y (L.getD j 0) = f.getD (pre L (j + 1)) 0 - f.getD (pre L j) 0) : sumN m (fun i => y i * wf w i) = extV m f w := by
  have hpre : ∀ k, k ≤ m → wsum m y (pre L k) = f.getD (pre L k) 0 := fun k hk => by
    rw [hO.wsum_pre y k hk, sumN_congr (h := fun j => f.getD (pre L (j + 1)) 0 - f.getD (pre L j) 0) fun j hj => hy j (by omega), tele (fun j => f.getD (pre L j) 0)]
    show f.getD (pre L k) 0 - f.getD 0 0 = _
    rw [hf]; omega
  rw [dot_layer hw.2]
  unfold extV
  have e1 : sumN m y = f.getD (2 ^ m - 1) 0 := by
    have h1 := hpre m (Nat.le_refl m)
    rw [hO.wsum_pre y m (Nat.le_refl m), ← hO.sum y, hO.pre_all] at h1
    exact h1
  have e2 : sumN 2000 (fun j => wsum m y (upS m (wf w) j)) = sumN 2000 (fun j => f.getD (upS m (wf w) j) 0) := sumN_congr fun j _ => by
    obtain ⟨k, hk, e⟩ := hO.layer_pre (w := wf w) hs j
    rw [e, hpre k hk]
  rw [e1, e2]
/-- What is within the function has no more. -/
theorem within_le {m : Nat} {f w : List Int} (hw : WOk m w) {x : Nat → Int} (hx : ∀ a, a < 2 ^ m → wsum m x a ≤ f.getD a 0) (he : sumN m x = f.getD (2 ^ m - 1) 0) : sumN m (fun i => x i * wf w i) ≤ extV m f w := by
  rw [dot_layer hw.2, he]
  unfold extV
  have := sumN_le (n := 2000) (g := fun j => wsum m x (upS m (wf w) j)) (h := fun j => f.getD (upS m (wf w) j) 0) fun j _ => hx _ (upS_lt _ _ _)
  omega
theorem wsum_all (m : Nat) (x : Nat → Int) : wsum m x (2 ^ m - 1) = sumN m x := by
  unfold wsum
  refine sumN_congr fun i hi => ?_
  rw [Nat.testBit_two_pow_sub_one]
  simp [hi]
/-- A vertex is within. -/
theorem vertex_within {m : Nat} {f : List Int} (hf : Subm m f) {L : List Nat} (hO : Ord m L) {y : Nat → Int} (hy : ∀ j, j < m → y (L.getD j 0) = f.getD (pre L (j + 1)) 0 - f.getD (pre L j) 0) {a : Nat} (ha : a < 2 ^ m) : wsum m y a ≤ f.getD a 0 := by
  have key : ∀ k, k ≤ m → wsum m y (a &&& pre L k) ≤ f.getD (a &&& pre L k) 0 := by
    intro k
    induction k with
    | zero =>
      intro _
      simp only [pre, Nat.and_zero]
      have : wsum m y 0 = 0 := by unfold wsum; rw [sumN_congr (h := fun _ => 0) fun i _ => by simp, sumN_zero]
      rw [this, hf.z]; exact Int.le_refl _
    | succ k ih =>
      intro hk
      have ih := ih (by omega)
      have hnew := hO.pre_new (show k < m by omega)
      have hlt := hO.lt k (by omega)
      have hpl := hO.pre_lt (show k ≤ m by omega)
      simp only [pre]
      cases hba : a.testBit (L.getD k 0)
      · have e : a &&& (pre L k ||| 2 ^ L.getD k 0) = a &&& pre L k := Nat.eq_of_testBit_eq fun j => by
          rw [Nat.testBit_and, Nat.testBit_and, Nat.testBit_or, testBit_pow]
          by_cases q : L.getD k 0 = j
          · rw [← q, hba]; rfl
          · rw [decide_eq_false q, Bool.or_false]
        rw [e]; exact ih
      · have e : a &&& (pre L k ||| 2 ^ L.getD k 0) = (a &&& pre L k) ||| 2 ^ L.getD k 0 := Nat.eq_of_testBit_eq fun j => by
          rw [Nat.testBit_and, Nat.testBit_or, Nat.testBit_or, Nat.testBit_and, testBit_pow]
          by_cases q : L.getD k 0 = j
          · rw [← q, hba, hnew, decide_eq_true rfl]; rfl
          · rw [decide_eq_false q, Bool.or_false, Bool.or_false]
        rw [e, wsum_add hlt (by rw [Nat.testBit_and, hnew, Bool.and_false])]
        have h6 := hf.less hlt (pre L k) hpl (a &&& pre L k) (and_lt ha) (inc_and_r _ _) hnew
        have h7 := hy k (by omega)
        simp only [pre] at h7
        omega
  have := key m (Nat.le_refl m)
  have e : a &&& pre L m = a := by
    rw [hO.pre_all]
    exact (sub_iff_and _ _).2 fun i hi => by rw [Nat.testBit_two_pow_sub_one]; simp [bit_lt ha hi]
  rwa [e] at this
theorem sub_Extended_spec (n : Int) (f w : List Int) : Gets (sub_Extended n f w) (fun r => (r.2 ≠ 0 ∧ r.1 = 0 ∧ ¬ ∃ m : Nat, n = m ∧ Form m f ∧ WOk m w) ∨ (r.2 = 0 ∧ ∃ m : Nat, n = m ∧ Form m f ∧ WOk m w ∧ r.1 = extV m f w)) := by
  unfold sub_Extended
  refine gBind (sub_form_spec n f) ?_
  rintro y (⟨rfl, m, rfl, hf⟩ | ⟨rfl, hn⟩)
  rotate_left
  · exact gIte (fun _ => gSome (.inl ⟨by simp, rfl, fun ⟨m, h1, h2, _⟩ => hn ⟨m, h1, h2⟩⟩)) fun q => absurd (by simp) q
  have h8 := hf.n8
  have h256 := pow_le8 h8
  have hlf := hf.len
  refine gIte (fun q => absurd rfl q) fun _ => gIte (fun q => gSome (.inl ⟨by simp, rfl, fun ⟨m', h1, _, h2⟩ => q (by have := h2.1; omega)⟩)) fun q => ?_
  have hlw : w.length = m := by omega
  refine gChk (by omega) (gBind (R := fun z => match z with | .inl v => v = cs (List.range m) ∧ WOk m w | .inr r => r = (0, 1) ∧ ¬ WOk m w) (gFor m (fun k (x : List Int × Int) => x.2 = (k : Int) ∧ x.1.length = m ∧ (∀ j, j < k → x.1.getD j 0 = (j : Int)) ∧ ∀ j, j < k → -1000 ≤ wf w j ∧ wf w j ≤ 1000) (Nat.zero_le _) ⟨rfl, by simp, fun j hj => absurd hj (Nat.not_lt_zero j), fun j hj => absurd hj (Nat.not_lt_zero j)⟩ ?_) ?_)
  · rintro k ⟨v, _⟩ hk ⟨rfl, h1, h2, h3⟩
    simp only at h1 h2
    simp only [toNat_nat]
    refine gIte (fun h4 => gChk (by omega) (gIte (fun h5 => gSome ⟨rfl, fun h6 => ?_⟩) fun h5 => gChk (by omega) (gSome ⟨by omega, by simp, by simpa using h1, fun j hj => ?_, fun j hj => ?_⟩))) fun h4 => gSome ⟨iota h1 fun j hj => h2 j (by omega), hlw, fun j hj => h3 j (by omega)⟩
    · have := h6.2 k (by omega)
      unfold wf at this
      omega
    · rw [set_getD _ (by omega)]
      by_cases c : j = k
      · rw [if_pos c, c]
      · rw [if_neg c]; exact h2 j (by omega)
    · rcases Nat.lt_succ_iff_lt_or_eq.1 hj with c | rfl
      · exact h3 j c
      · unfold wf; omega
  rintro (v | rr) hz
  rotate_left
  · obtain ⟨rfl, hn⟩ := hz
    exact gSome (.inl ⟨by simp, rfl, fun ⟨m', h1, _, h2⟩ => hn (by have e : m = m' := by omega
                                                                   subst e; exact h2)⟩)
  obtain ⟨rfl, hW⟩ := hz
  have hcl : ∀ a b : Nat, a < m → b < m → sub_Extended_1 (a : Int) (b : Int) w = cmp_Compare_int (w.getD b 0) (w.getD a 0) := fun a b ha hb => by
    unfold sub_Extended_1
    rw [chk_pos (by omega)]
    simp only [toNat_nat]
    cases cmp_Compare_int (w.getD b 0) (w.getD a 0) <;> rfl
  obtain ⟨ho, L, hL, hO, hs⟩ := sorted_order hlw (f := fun x0 x1 => sub_Extended_1 x0 x1 w) hcl
  obtain ⟨y, hy⟩ := hO.steps fun j => f.getD (pre L (j + 1)) 0 - f.getD (pre L j) 0
  refine gChk ⟨ho, by rw [cs_len, List.length_range]; omega⟩ ?_
  rw [hL]
  simp only [cs_len, hO.len]
  refine gBind (R := fun o => o = extV m f w) (gFor m (fun k (x : Int × Int × Int) => x.2.2 = (k : Int) ∧ x.2.1 = ((pre L k : Nat) : Int) ∧ x.1 = sumN k fun j => y (L.getD j 0) * wf w (L.getD j 0)) (Nat.zero_le _) ⟨rfl, rfl, rfl⟩ ?_) fun o ho => gSome (.inr ⟨rfl, m, rfl, hf, hW, ho⟩)
  rintro k ⟨_, _, _⟩ hk ⟨rfl, rfl, rfl⟩
  simp only [toNat_nat, cs_get, shl_nat', or_nat]
  have hy' := hy
  refine gIte (fun h4 => ?_) fun h4 => gSome ?_
  · have hk' : k < m := by omega
    have hlt := hO.lt k hk'
    have hp1 := hO.pre_lt (show k ≤ m by omega)
    have hp2 := hO.pre_lt (show k + 1 ≤ m by omega)
    have b1 := hf.bd _ hp1
    have b2 := hf.bd _ hp2
    have b3 := hW.2 _ hlt
    simp only [pre] at hp2 b2
    have e1 : w.getD (L.getD k 0) 0 * (f.getD (pre L k ||| 2 ^ L.getD k 0) 0 - f.getD (pre L k) 0) = y (L.getD k 0) * wf w (L.getD k 0) := by
      rw [hy k hk', Int.mul_comm]
      rfl
    have hyb : ∀ j, j < m → -2000000 ≤ y (L.getD j 0) * wf w (L.getD j 0) ∧ y (L.getD j 0) * wf w (L.getD j 0) ≤ 2000000 := fun j hj => by
      have c1 := hf.bd _ (hO.pre_lt (show j ≤ m by omega))
      have c2 := hf.bd _ (hO.pre_lt (show j + 1 ≤ m by omega))
      have c3 := hW.2 _ (hO.lt j hj)
      have c4 : -2000 ≤ y (L.getD j 0) ∧ y (L.getD j 0) ≤ 2000 := by rw [hy j hj]; omega
      generalize y (L.getD j 0) = p at c4
      generalize wf w (L.getD j 0) = q at c3
      have d1 : (p.natAbs * q.natAbs) ≤ 2000 * 1000 := Nat.mul_le_mul (by omega) (by omega)
      rw [← Int.natAbs_mul] at d1
      omega
    have b4 := hyb k hk'
    have b5 := sumN_abs8 (n := k) (c := 2000000) (g := fun j => y (L.getD j 0) * wf w (L.getD j 0)) (by omega) fun j hj => hyb j (by omega)
    rw [e1]
    refine gChk (by omega) (gChk (by omega) (gChk (by omega) (gSome ⟨hk', by simp, rfl, rfl⟩)))
  · have e : k = m := by omega
    subst e
    rw [← hO.sum fun i => y i * wf w i]
    exact ext_order hf.z hW hO hs hy
end Go.SH
