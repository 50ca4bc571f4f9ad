/-
  The vertices of a submodular function are within it; the statement SubWeak as a plain law. Conditions: none.
-/
import Derived.Test.YthmmjfjlnadojaaHS
import Derived.Test.YthmmjfjlnadojaaL1
import Derived.Test.YthmmjfjlnadojaaSkSubWeak
set_option linter.unusedSimpArgs false
set_option linter.unusedVariables false
namespace Go.SH
open Go Go.AX

/-- An order of all elements. -/
structure Ord (n : Nat) (p : List Int) : Prop where
  len : p.length = n
  bd : ∀ k, k < n → 0 ≤ p.getD k 0 ∧ p.getD k 0 < n
  ne : ∀ k, k < n → ∀ j, j < k → p.getD j 0 ≠ p.getD k 0

theorem sub_order_spec (n : Nat) (p : List Int) (hn : n ≤ 8) : Gets (sub_order n p) (fun r => r = true → Ord n p) := by
  unfold sub_order
  refine gBind (R := fun z => match z with | .inl _ => (∀ k, k < p.length → 0 ≤ p.getD k 0 ∧ p.getD k 0 < n) ∧ (∀ k, k < p.length → ∀ j, j < k → p.getD j 0 ≠ p.getD k 0) | .inr r => r = false)
    (gFor p.length (fun k s => s.2 = (k : Int) ∧ (∃ t : Nat, s.1 = (t : Int) ∧ ∀ i, t.testBit i = true ↔ ∃ j, j < k ∧ p.getD j 0 = (i : Int)) ∧ (∀ k', k' < k → 0 ≤ p.getD k' 0 ∧ p.getD k' 0 < n) ∧ (∀ k', k' < k → ∀ j, j < k' → p.getD j 0 ≠ p.getD k' 0)) (Nat.zero_le _) ?_ ?_) ?_
  · exact ⟨rfl, ⟨0, rfl, fun i => by simp⟩, fun j hj => by omega, fun j hj => by omega⟩
  · rintro k ⟨sn, i⟩ hk ⟨rfl, ⟨t, rfl, ht⟩, h2, h3⟩
    simp only at h2 h3 ⊢
    refine gIte (fun h4 => gChk (by omega) (gChk (by simp only [toNat_nat]; omega) (gIte (fun h5 => gSome rfl) fun h5 => ?_))) fun h4 => gSome ⟨fun j hj => h2 j (by omega), fun j hj => h3 j (by omega)⟩
    simp only [toNat_nat] at h5 ⊢
    obtain ⟨a, ha⟩ := Int.eq_ofNat_of_zero_le (show 0 ≤ p.getD k 0 by omega)
    rw [ha, bit_nat] at h5
    simp only [ha, toNat_nat, shl_nat', or_nat]
    have hb : t.testBit a = false := by
      cases h : t.testBit a
      · rfl
      · rw [h] at h5; simp at h5
    refine gChk (by omega) (gSome ⟨by omega, by simp, ⟨_, rfl, fun i => ?_⟩, fun j hj => ?_, fun j hj l hl => ?_⟩)
    · rw [Nat.testBit_or, testBit_pow, Bool.or_eq_true, ht, decide_eq_true_eq]
      constructor
      · rintro (⟨j, h6, h7⟩ | rfl)
        · exact ⟨j, by omega, h7⟩
        · exact ⟨k, by omega, ha⟩
      · rintro ⟨j, h6, h7⟩
        rcases Nat.lt_or_ge j k with q | q
        · exact .inl ⟨j, q, h7⟩
        · have : j = k := by omega
          subst this; right; omega
    · rcases Nat.lt_or_ge j k with q | q
      · exact h2 j q
      · have : j = k := by omega
        subst this; omega
    · rcases Nat.lt_or_ge j k with q | q
      · exact h3 j q l hl
      · have : j = k := by omega
        subst this
        intro e
        have := (ht a).2 ⟨l, hl, by omega⟩
        rw [hb] at this; cases this
  · rintro (u | rr) hz
    · refine gSome fun hd => ?_
      have hd := of_decide_eq_true hd
      have : p.length = n := by omega
      subst this
      exact ⟨rfl, hz.1, hz.2⟩
    · exact gSome fun h => by rw [hz] at h; cases h

/-- What an element brings grows less. -/
theorem Subm.less {m : Nat} {f : List Int} (hf : Subm m f) {i : Nat} (hi : i < m) : ∀ s, s < 2 ^ m → ∀ t, t < 2 ^ m → Inc t s → s.testBit i = false → f.getD (s ||| 2 ^ i) 0 - f.getD s 0 ≤ f.getD (t ||| 2 ^ i) 0 - f.getD t 0 := by
  -- from t to t ||| d, element by element of d
  have key : ∀ t, t < 2 ^ m → ∀ d, d < 2 ^ m → (t ||| d).testBit i = false → f.getD (t ||| d ||| 2 ^ i) 0 - f.getD (t ||| d) 0 ≤ f.getD (t ||| 2 ^ i) 0 - f.getD t 0 := by
    intro t ht
    refine set_ind (m := m) _ (fun _ => by rw [Nat.or_zero]; exact Int.le_refl _) fun d k hd hk hdk ih h => ?_
    rw [← Nat.or_assoc] at h ⊢
    have h' : (t ||| d).testBit i = false := by
      rw [Nat.testBit_or] at h
      simp only [Bool.or_eq_false_iff] at h
      exact h.1
    have hki : k ≠ i := by
      rintro rfl
      rw [Nat.testBit_or, testBit_pow] at h; simp at h
    have ih := ih h'
    have hs := or_lt ht hd
    cases hb : (t ||| d).testBit k
    · -- the two elements are new
      have e0 : (t ||| d) &&& (2 ^ i ||| 2 ^ k) = 0 := by
        rw [disj_iff]; intro j hj
        rw [Nat.testBit_or, testBit_pow, testBit_pow]
        have h1 : i ≠ j := by rintro rfl; rw [hj] at h'; cases h'
        have h2 : k ≠ j := by rintro rfl; rw [hj] at hb; cases hb
        simp [h1, h2]
      have e1 : (t ||| d) &&& (2 ^ k ||| 2 ^ i) = 0 := by rw [Nat.or_comm (2 ^ k)]; exact e0
      have c : t ||| d ||| 2 ^ k ||| 2 ^ i = t ||| d ||| 2 ^ i ||| 2 ^ k := by rw [Nat.or_assoc, Nat.or_comm (2 ^ k), ← Nat.or_assoc]
      rcases Nat.lt_or_gt_of_ne hki with q | q
      · have := hf.sub _ hs i hi k q e0
        rw [c]; omega
      · have := hf.sub _ hs k hk i q e1
        rw [c] at this ⊢; omega
    · have : t ||| d ||| 2 ^ k = t ||| d := by
        apply Nat.eq_of_testBit_eq; intro j
        rw [Nat.testBit_or (t ||| d), testBit_pow]
        by_cases q : k = j
        · subst q; rw [hb]; rfl
        · simp [q]
      rw [this]; exact ih
  intro s hs t ht hts hsi
  have e : t ||| s = s := by
    apply Nat.eq_of_testBit_eq; intro j
    rw [Nat.testBit_or]
    cases h : t.testBit j
    · rfl
    · rw [hts j h]; rfl
  have := key t ht s hs (by rw [e]; exact hsi)
  rwa [e] at this

theorem sub_Vertex_spec (n : Int) (f p : List Int) : Gets (sub_Vertex n f p) (fun r => (r.2 ≠ 0 ∧ r.1 = []) ∨ (r.2 = 0 ∧ ∃ m : Nat, n = m ∧ Subm m f ∧ r.1.length = m ∧ (∀ i, i < m → -2000 ≤ r.1.getD i 0 ∧ r.1.getD i 0 ≤ 2000) ∧
    (∀ a, a < 2 ^ m → wsum m (fun i => r.1.getD i 0) a ≤ f.getD a 0) ∧ wsum m (fun i => r.1.getD i 0) (2 ^ m - 1) = f.getD (2 ^ m - 1) 0)) := by
  unfold sub_Vertex
  refine gBind (sub_Check_spec n f) fun y hy => gIte (fun h1 => gSome (.inl ⟨h1, rfl⟩)) fun h1 => ?_
  obtain ⟨m, rfl, hf⟩ : ∃ m : Nat, n = m ∧ Subm m f := by
    rcases hy with ⟨_, q⟩ | ⟨q, _⟩
    · exact q
    · omega
  have h256 := pow_le8 hf.n8
  have h8 := hf.n8
  have hlf := hf.len
  refine gBind (sub_order_spec m p hf.n8) fun y1 hy1 => gIte (fun h2 => gSome (.inl ⟨by simp, rfl⟩)) fun h2 => ?_
  have ho : Ord m p := hy1 (by simpa using h2)
  have hlp := ho.len
  refine gChk (by omega) ?_
  refine gBind (R := fun x => x.length = m ∧ (∀ i, i < m → -2000 ≤ x.getD i 0 ∧ x.getD i 0 ≤ 2000) ∧ (∀ a, a < 2 ^ m → wsum m (fun i => x.getD i 0) a ≤ f.getD a 0) ∧ wsum m (fun i => x.getD i 0) (2 ^ m - 1) = f.getD (2 ^ m - 1) 0)
    (gFor p.length (fun k s => s.2.2 = (k : Int) ∧ s.1.length = m ∧ (∀ i, i < m → -2000 ≤ s.1.getD i 0 ∧ s.1.getD i 0 ≤ 2000) ∧ ∃ t : Nat, s.2.1 = (t : Int) ∧ t < 2 ^ m ∧ cnt m t = k ∧ (∀ i, t.testBit i = true → ∃ j, j < k ∧ p.getD j 0 = (i : Int)) ∧
      (∀ a, a < 2 ^ m → wsum m (fun i => s.1.getD i 0) (a &&& t) ≤ f.getD (a &&& t) 0) ∧ wsum m (fun i => s.1.getD i 0) t = f.getD t 0) (Nat.zero_le _) ?_ ?_) fun x hx => gSome (.inr ⟨rfl, m, rfl, hf, hx⟩)
  · have w0 : ∀ g, wsum m g 0 = 0 := fun g => by
      unfold wsum; rw [sumN_congr (h := fun _ => 0) fun i hi => by simp, sumN_zero]
    refine ⟨rfl, by simp, fun i hi => by simp [List.getD_eq_getElem?_getD, List.getElem?_replicate, hi], 0, rfl, Nat.pow_pos (by omega), cnt_zero m, fun i hi => by simp at hi, fun a ha => ?_, ?_⟩
    · rw [Nat.and_zero, w0, hf.z]; exact Int.le_refl _
    · rw [w0, hf.z]
  · rintro k ⟨x, s, i⟩ hk ⟨rfl, hlx, hbx, t, rfl, ht, hc, hin, hA, hE⟩
    simp only at hlx hbx hin hA hE ⊢
    refine gIte (fun h4 => gChk (by omega) ?_) fun h4 => gSome ⟨hlx, hbx, ?_⟩
    · simp only [toNat_nat]
      have hkm : k < m := by omega
      have hb := ho.bd k hkm
      obtain ⟨a, ha⟩ := Int.eq_ofNat_of_zero_le hb.1
      have ham : a < m := by omega
      have hta : t.testBit a = false := by
        cases h : t.testBit a
        · rfl
        · obtain ⟨j, hj, e⟩ := hin a h
          exact absurd (e.trans ha.symm) (ho.ne k hkm j hj)
      simp only [ha, toNat_nat, shl_nat', or_nat]
      have hal := pow_lt ham
      have ht' := or_lt ht hal
      have b1 := hf.bd _ ht'
      have b2 := hf.bd _ ht
      have hget : ∀ j, (x.set a (f.getD (t ||| 2 ^ a) 0 - f.getD t 0)).getD j 0 = if j = a then f.getD (t ||| 2 ^ a) 0 - f.getD t 0 else x.getD j 0 := fun j => by
        simp only [List.getD_eq_getElem?_getD, List.getElem?_set]
        by_cases e : a = j
        · subst e; simp [hlx, ham]
        · rw [if_neg e, if_neg (fun e' => e e'.symm)]
      have hw : ∀ b, b.testBit a = false → wsum m (fun i => (x.set a (f.getD (t ||| 2 ^ a) 0 - f.getD t 0)).getD i 0) b = wsum m (fun i => x.getD i 0) b := fun b hb => by
        refine sumN_congr fun j hj => ?_
        simp only [hget]
        by_cases e : j = a
        · subst e; simp [hb]
        · rw [if_neg e]
      refine gChk (by omega) (gChk (by omega) (gSome ⟨by omega, by simp, by simpa using hlx, fun j hj => ?_, _, rfl, ht', by rw [cnt_add ham hta, hc], fun j hj => ?_, fun b hb => ?_, ?_⟩))
      · rw [hget]; have := hbx j hj; split <;> omega
      · rw [Nat.testBit_or, testBit_pow, Bool.or_eq_true, decide_eq_true_eq] at hj
        rcases hj with hj | rfl
        · obtain ⟨l, h5, h6⟩ := hin j hj
          exact ⟨l, by omega, h6⟩
        · exact ⟨k, by omega, ha⟩
      · have hbt : b &&& t < 2 ^ m := and_lt hb
        have hbta : (b &&& t).testBit a = false := by rw [Nat.testBit_and, hta, Bool.and_false]
        cases hba : b.testBit a
        · have e : b &&& (t ||| 2 ^ a) = b &&& t := by
            apply Nat.eq_of_testBit_eq; intro j
            rw [Nat.testBit_and, Nat.testBit_and, Nat.testBit_or, testBit_pow]
            by_cases q : a = j
            · subst q; rw [hba]; rfl
            · simp [q]
          rw [e, hw _ hbta]; exact hA b hb
        · have e : b &&& (t ||| 2 ^ a) = (b &&& t) ||| 2 ^ a := by
            apply Nat.eq_of_testBit_eq; intro j
            rw [Nat.testBit_and, Nat.testBit_or, Nat.testBit_or, Nat.testBit_and, testBit_pow]
            by_cases q : a = j
            · subst q; rw [hba]; simp
            · simp [q]
          rw [e, wsum_add ham hbta, hw _ hbta]
          have h5 := hA b hb
          have h6 := hf.less ham t ht (b &&& t) hbt (fun j hj => by rw [Nat.testBit_and, Bool.and_eq_true] at hj; exact hj.2) hta
          simp only [hget, if_true]
          omega
      · rw [wsum_add ham hta, hw _ hta]
        simp only [hget, if_true]
        omega
    · have hk' : k = m := by omega
      have hfull := cnt_full (hc.trans hk')
      have htE : t = 2 ^ m - 1 := by
        refine set_ext ht (by have : 0 < 2 ^ m := Nat.pow_pos (by omega)
                              omega) fun i hi => ?_
        rw [hfull i hi, Nat.testBit_two_pow_sub_one]; simp [hi]
      refine ⟨fun a ha => ?_, by rw [← htE]; exact hE⟩
      have e : a &&& t = a := (sub_iff_and a t).2 fun i hi => hfull i (bit_lt ha hi)
      have := hA a ha
      rwa [e] at this

/-- What is left of numbers without those above 0 is no more than any part. -/
theorem wsum_min (m : Nat) (g : Nat → Int) (a : Nat) : sumN m (fun i => min (g i) 0) ≤ wsum m g a :=
  sumN_le fun i hi => by split <;> omega

theorem rotakeep_SubWeak_law (n : Int) (f p : List Int) : rotakeep_SubWeak n f p = some true := by
  refine Gets.eq ?_
  unfold rotakeep_SubWeak
  refine gBind (R := fun r => r.2.2.2 = 0 ∧ r.1 = -5 ∧ r.2.1 = 1 ∧ r.2.2.1 = 1) ((sub_Least_spec 1 _ (subm1 (-5) (by omega) (by omega))).mono ?_) fun y hy => gIte (fun h => by omega) fun _ => ?_
  · rintro r ⟨h1, ⟨k, h2, h3⟩, h4, ⟨l, h5, h6, h7⟩, ⟨u, h8, h9, h10⟩⟩
    have e : r.1 = -5 := by
      have h5 : r.1 ≤ -5 := h4 1 (by omega)
      match k, h2 with
      | 0, _ => have : (0 : Int) = r.1 := h3
                omega
      | 1, _ => exact h3.symm
    refine ⟨h1, e, ?_, ?_⟩
    · have : l.testBit 0 = true := (h7 0 (by omega)).2 fun k hk hk' => by
        match k, hk with
        | 0, _ => rw [e] at hk'; exact absurd hk' (by decide)
        | 1, _ => rfl
      match l, h6 with
      | 0, _ => cases this
      | 1, _ => exact h5
    · have : u.testBit 0 = true := (h10 0 (by omega)).2 ⟨1, by omega, e.symm ▸ rfl, rfl⟩
      match u, h9 with
      | 0, _ => cases this
      | 1, _ => exact h8
  refine gBind (sub_Vertex_spec n f p) fun x hx => gIte (fun h1 => gSome ?_) fun h1 => ?_
  · rcases hx with ⟨_, h2⟩ | ⟨h2, _⟩
    · rw [h2]; rfl
    · exact absurd h2 h1
  obtain ⟨m, rfl, hf, hl, hb, hA, _⟩ : ∃ m : Nat, n = m ∧ Subm m f ∧ x.1.length = m ∧ (∀ i, i < m → -2000 ≤ x.1.getD i 0 ∧ x.1.getD i 0 ≤ 2000) ∧ (∀ a, a < 2 ^ m → wsum m (fun i => x.1.getD i 0) a ≤ f.getD a 0) ∧ wsum m (fun i => x.1.getD i 0) (2 ^ m - 1) = f.getD (2 ^ m - 1) 0 := by
    rcases hx with ⟨h2, _⟩ | ⟨_, h2⟩
    · exact absurd h2 h1
    · exact h2
  have h8 := hf.n8
  refine gBind (sub_Least_spec m f hf) fun y2 h2 => ?_
  refine gBind (R := fun r => r = sumN m (fun i => min (x.1.getD i 0) 0)) (gFor x.1.length (fun k s => s.2 = (k : Int) ∧ s.1 = sumN k (fun i => min (x.1.getD i 0) 0) ∧ -2000 * (k : Int) ≤ s.1 ∧ s.1 ≤ 0) (Nat.zero_le _) ⟨rfl, rfl, by simp, by simp⟩ ?_) ?_
  · rintro k ⟨v, i⟩ hk ⟨rfl, rfl, h3, h4⟩
    simp only at h3 h4 ⊢
    refine gIte (fun h5 => gChk (by omega) ?_) fun h5 => gSome (by have : k = m := by omega
                                                                   subst this; rfl)
    simp only [toNat_nat]
    have := hb k (by omega)
    refine gChk (by omega) (gSome ⟨by omega, by simp, rfl, by omega, by omega⟩)
  · rintro v rfl
    refine gSome (decide_eq_true ⟨h2.ok, ?_⟩)
    obtain ⟨k, h3, h4⟩ := h2.at_
    have := wsum_min m (fun i => x.1.getD i 0) k
    have := hA k h3
    omega
end Go.SH
