/-
  Package sub as it computes: forms, submodular functions, least values, vertices. Conditions: none.
-/
import Derived.Test.YthmmjfjlnadojaaHK
import Derived.Test.YthmmjfjlnadojaaSkSubAdds
set_option linter.unusedSimpArgs false
set_option linter.unusedVariables false
namespace Go.SH
open Go Go.AX

structure Form (n : Nat) (f : List Int) : Prop where
  n8 : n ≤ 8
  len : f.length = 2 ^ n
  bd : ∀ k, k < 2 ^ n → -1000 ≤ f.getD k 0 ∧ f.getD k 0 ≤ 1000
  z : f.getD 0 0 = 0

theorem sub_form_spec (n : Int) (f : List Int) : Gets (sub_form n f) (fun r => (r = 0 ∧ ∃ m : Nat, n = m ∧ Form m f) ∨ (r = 1 ∧ ¬ ∃ m : Nat, n = m ∧ Form m f)) := by
  unfold sub_form
  refine gChk (by omega) (gIte (fun h => gSome (.inr ⟨rfl, ?_⟩)) fun h => ?_)
  · rintro ⟨m, rfl, hf⟩
    have := hf.n8; have := hf.len
    rw [toNat_nat] at h
    rcases h with h | h
    · omega
    · exact h (by rw [this]; simp)
  · obtain ⟨m, rfl⟩ := Int.eq_ofNat_of_zero_le (show 0 ≤ n by omega)
    have hl : f.length = 2 ^ m := by
      rw [shl_nat] at h; omega
    have hpos : 0 < 2 ^ m := Nat.pow_pos (by omega)
    refine gBind (R := fun z => match z with | .inl _ => ∀ k, k < 2 ^ m → -1000 ≤ f.getD k 0 ∧ f.getD k 0 ≤ 1000 | .inr r => r = 1 ∧ ¬ ∀ k, k < 2 ^ m → -1000 ≤ f.getD k 0 ∧ f.getD k 0 ≤ 1000)
      (gFor f.length (fun k v => v = (k : Int) ∧ ∀ j, j < k → -1000 ≤ f.getD j 0 ∧ f.getD j 0 ≤ 1000) (Nat.zero_le _) ⟨rfl, fun j hj => absurd hj (Nat.not_lt_zero _)⟩ ?_) ?_
    · rintro k _ hk ⟨rfl, hb⟩
      refine gIte (fun h1 => gChk (by omega) (gIte (fun h2 => gSome ⟨rfl, fun h3 => ?_⟩) fun h2 => gSome ⟨by omega, by simp, fun j hj => ?_⟩)) fun h1 => gSome fun j hj => hb j (by omega)
      · have := h3 k (by omega)
        rw [toNat_nat] at h2
        omega
      · rw [toNat_nat] at h2
        rcases Nat.lt_or_ge j k with q | q
        · exact hb j q
        · have : j = k := by omega
          subst this; omega
    · rintro (u | rr) hz
      · refine gChk (by omega) (gIte (fun h2 => gSome (.inr ⟨rfl, ?_⟩)) fun h2 => gSome (.inl ⟨rfl, m, rfl, by omega, hl, hz, by simpa using h2⟩))
        rintro ⟨m', _, hf⟩
        exact h2 hf.z
      · refine gSome (.inr ⟨hz.1, ?_⟩)
        rintro ⟨m', he, hf⟩
        have : m' = m := by omega
        subst this
        exact hz.2 hf.bd

structure Subm (n : Nat) (f : List Int) : Prop extends Form n f where
  sub : ∀ s, s < 2 ^ n → ∀ i, i < n → ∀ k, k < i → s &&& (2 ^ i ||| 2 ^ k) = 0 → f.getD (s ||| 2 ^ i ||| 2 ^ k) 0 + f.getD s 0 ≤ f.getD (s ||| 2 ^ i) 0 + f.getD (s ||| 2 ^ k) 0

/-- Three counts, one in the other, till something is found. -/
theorem sub_Check_spec (n : Int) (f : List Int) : Gets (sub_Check n f) (fun r => (r = 0 ∧ ∃ m : Nat, n = m ∧ Subm m f) ∨ ((r = 1 ∨ r = 3) ∧ ¬ ∃ m : Nat, n = m ∧ Subm m f)) := by
  unfold sub_Check
  refine gBind (sub_form_spec n f) fun y hy => gIte (fun h => gSome ?_) fun h => ?_
  · rcases hy with ⟨rfl, _⟩ | ⟨rfl, hn⟩
    · exact absurd rfl h
    · exact .inr ⟨.inl rfl, fun ⟨m, h1, h2⟩ => hn ⟨m, h1, h2.toForm⟩⟩
  · obtain ⟨m, rfl, hf⟩ : ∃ m : Nat, n = m ∧ Form m f := by
      rcases hy with ⟨_, h1⟩ | ⟨h1, _⟩
      · exact h1
      · omega
    have h8 := hf.n8
    have hl := hf.len
    have h256 := pow_le8 h8
    let P : Nat → Nat → Nat → Prop := fun s i k => s &&& (2 ^ i ||| 2 ^ k) = 0 → f.getD (s ||| 2 ^ i ||| 2 ^ k) 0 + f.getD s 0 ≤ f.getD (s ||| 2 ^ i) 0 + f.getD (s ||| 2 ^ k) 0
    have step : ∀ {p : Nat → Prop} {k : Nat}, (∀ j, j < k → p j) → p k → ∀ j, j < k + 1 → p j := fun {p k} h1 h2 j hj => by
      rcases Nat.lt_or_ge j k with q | q
      · exact h1 j q
      · have : j = k := by omega
        subst this; exact h2
    refine gBind (R := fun z => match z with | .inl _ => ∀ s, s < 2 ^ m → ∀ i, i < m → ∀ k, k < i → P s i k | .inr r => r = 3 ∧ ¬ ∀ s, s < 2 ^ m → ∀ i, i < m → ∀ k, k < i → P s i k)
      (gFor f.length (fun s v => v = (s : Int) ∧ ∀ s', s' < s → ∀ i, i < m → ∀ k, k < i → P s' i k) (Nat.zero_le _) ⟨rfl, fun j hj => absurd hj (Nat.not_lt_zero _)⟩ ?_) ?_
    · rintro s _ hs ⟨rfl, hb⟩
      refine gIte (fun h1 => ?_) fun h1 => gSome fun j hj => hb j (by omega)
      refine gBind (R := fun z => match z with | .inl _ => ∀ i, i < m → ∀ k, k < i → P s i k | .inr r => r = 3 ∧ ¬ ∀ i, i < m → ∀ k, k < i → P s i k)
        (gFor m (fun i v => v = (i : Int) ∧ ∀ i', i' < i → ∀ k, k < i' → P s i' k) (Nat.zero_le _) ⟨rfl, fun j hj => absurd hj (Nat.not_lt_zero _)⟩ ?_) ?_
      · rintro i _ hi ⟨rfl, hbi⟩
        refine gIte (fun h2 => ?_) fun h2 => gSome fun j hj => hbi j (by omega)
        refine gBind (R := fun z => match z with | .inl _ => ∀ k, k < i → P s i k | .inr r => r = 3 ∧ ¬ ∀ k, k < i → P s i k)
          (gFor i (fun k v => v = (k : Int) ∧ ∀ k', k' < k → P s i k') (Nat.zero_le _) ⟨rfl, fun j hj => absurd hj (Nat.not_lt_zero _)⟩ ?_) ?_
        · rintro k _ hk ⟨rfl, hbk⟩
          refine gIte (fun h3 => ?_) fun h3 => gSome fun j hj => hbk j (by omega)
          have hsl : s < 2 ^ m := by omega
          have hil : 2 ^ i < 2 ^ m := pow_lt (by omega)
          have hkl : 2 ^ k < 2 ^ m := pow_lt (by omega)
          have q1 := or_lt hsl hil
          have q2 := or_lt hsl hkl
          have q3 := or_lt q1 hkl
          have b1 := hf.bd _ q1
          have b2 := hf.bd _ q2
          have b3 := hf.bd _ q3
          have b4 := hf.bd _ hsl
          refine gChk (by omega) ?_
          simp only [toNat_nat, shl_nat', or_nat, and_nat]
          refine gChk (by omega) (gIte (fun h4 => gSome ⟨rfl, fun h5 => ?_⟩) fun h4 => gSome ⟨by omega, by simp, step hbk fun h5 => ?_⟩)
          · have := h5 k (by omega) (by omega)
            omega
          · omega
        · rintro (u | rr) hz
          · exact gSome ⟨by omega, by simp, step hbi hz⟩
          · exact gSome ⟨hz.1, fun h4 => hz.2 fun k hk => h4 i (by omega) k hk⟩
      · rintro (u | rr) hz
        · exact gSome ⟨by omega, by simp, step hb hz⟩
        · exact gSome ⟨hz.1, fun h4 => hz.2 fun i hi => h4 s (by omega) i hi⟩
    · rintro (u | rr) hz
      · exact gSome (.inl ⟨rfl, m, rfl, hf, hz⟩)
      · refine gSome (.inr ⟨.inr hz.1, ?_⟩)
        rintro ⟨m', he, h5⟩
        have : m' = m := by omega
        subst this
        exact hz.2 h5.sub

theorem Subm.check {m : Nat} {f : List Int} (h : Subm m f) : sub_Check m f = some 0 := by
  obtain ⟨r, h1, h2⟩ := sub_Check_spec m f
  rcases h2 with ⟨rfl, _⟩ | ⟨_, hn⟩
  · exact h1
  · exact absurd ⟨m, rfl, h⟩ hn

theorem slices_Min_spec (l : List Int) (h : l ≠ []) : Gets (slices_Min_int_int l) (fun r => (∃ k, k < l.length ∧ l.getD k 0 = r) ∧ ∀ k, k < l.length → r ≤ l.getD k 0) := by
  have hp : 0 < l.length := List.length_pos_iff.2 h
  unfold slices_Min_int_int
  refine gIte (fun h => by omega) fun _ => gChk (by omega) (gBind (R := fun r => (∃ k, k < l.length ∧ l.getD k 0 = r) ∧ ∀ k, k < l.length → r ≤ l.getD k 0) (gFor l.length (k0 := 1) (fun k s => s.2 = (k : Int) ∧ (∃ j, j < l.length ∧ l.getD j 0 = s.1) ∧ ∀ j, j < k → s.1 ≤ l.getD j 0) hp ?_ ?_) fun r hr => gSome hr)
  · exact ⟨rfl, ⟨0, hp, rfl⟩, fun j hj => by have : j = 0 := by omega
                                             subst this; exact Int.le_refl _⟩
  · rintro k ⟨v, i⟩ hk ⟨rfl, ⟨j0, hj0, rfl⟩, h2⟩
    simp only at h2 ⊢
    refine gIte (fun h3 => gChk (by omega) (gSome ⟨by omega, by simp, ?_, fun j hj => ?_⟩)) fun h3 => gSome ⟨⟨j0, hj0, rfl⟩, fun j hj => h2 j (by omega)⟩
    · simp only [toNat_nat]
      rcases Int.le_total (l.getD j0 0) (l.getD k 0) with q | q
      · exact ⟨j0, hj0, by rw [Int.min_eq_left q]⟩
      · exact ⟨k, by omega, by rw [Int.min_eq_right q]⟩
    · simp only [toNat_nat]
      rcases Nat.lt_or_ge j k with q | q
      · have := h2 j q; omega
      · have : j = k := by omega
        subst this; omega

/-- The least value, and of the sets that have it what all have and what any has. -/
structure LeastOf (m : Nat) (f : List Int) (r : Int × Int × Int × Int) : Prop where
  ok : r.2.2.2 = 0
  at_ : ∃ k, k < 2 ^ m ∧ f.getD k 0 = r.1
  least : ∀ k, k < 2 ^ m → r.1 ≤ f.getD k 0
  low : ∃ l : Nat, r.2.1 = (l : Int) ∧ l < 2 ^ m ∧ ∀ i, i < m → (l.testBit i = true ↔ ∀ k, k < 2 ^ m → f.getD k 0 = r.1 → k.testBit i = true)
  high : ∃ l : Nat, r.2.2.1 = (l : Int) ∧ l < 2 ^ m ∧ ∀ i, i < m → (l.testBit i = true ↔ ∃ k, k < 2 ^ m ∧ f.getD k 0 = r.1 ∧ k.testBit i = true)
theorem sub_Least_spec (m : Nat) (f : List Int) (hf : Subm m f) : Gets (sub_Least m f) (LeastOf m f) := by
  have h8 := hf.n8
  have h256 := pow_le8 h8
  have hl := hf.len
  have hpos : 0 < 2 ^ m := Nat.pow_pos (by omega)
  unfold sub_Least
  refine gBindE hf.check (gIte (fun h => absurd rfl h) fun _ => gBind (slices_Min_spec f (by intro e; subst e; simp at hl; omega)) fun y hy => gChk (by simp only [toNat_nat, shl_nat']; omega) ?_)
  rw [hl] at hy
  refine gBind (R := fun r => (∃ l : Nat, r.1 = (l : Int) ∧ l < 2 ^ m ∧ ∀ i, i < m → (l.testBit i = true ↔ ∀ k, k < 2 ^ m → f.getD k 0 = y → k.testBit i = true)) ∧ (∃ l : Nat, r.2 = (l : Int) ∧ l < 2 ^ m ∧ ∀ i, i < m → (l.testBit i = true ↔ ∃ k, k < 2 ^ m ∧ f.getD k 0 = y ∧ k.testBit i = true)))
    (gFor f.length (fun j s => s.2.2 = (j : Int) ∧ (∃ l : Nat, s.1 = (l : Int) ∧ l < 2 ^ m ∧ ∀ i, i < m → (l.testBit i = true ↔ ∀ k, k < j → f.getD k 0 = y → k.testBit i = true)) ∧ (∃ l : Nat, s.2.1 = (l : Int) ∧ l < 2 ^ m ∧ ∀ i, i < m → (l.testBit i = true ↔ ∃ k, k < j ∧ f.getD k 0 = y ∧ k.testBit i = true))) (Nat.zero_le _) ?_ ?_) fun r hr => gSome ⟨rfl, hy.1, hy.2, hr.1, hr.2⟩
  · refine ⟨rfl, ⟨2 ^ m - 1, ?_, by omega, fun i hi => ?_⟩, ⟨0, rfl, hpos, fun i hi => ?_⟩⟩
    · simp only [toNat_nat, shl_nat']; omega
    · rw [Nat.testBit_two_pow_sub_one]; simp [hi]
    · simp
  · rintro k ⟨l, h, i⟩ hk ⟨rfl, ⟨a, rfl, ha, ha'⟩, ⟨b, rfl, hb, hb'⟩⟩
    simp only
    have hk2 : k < f.length → k < 2 ^ m := by omega
    refine gIte (fun h3 => gChk (by omega) ?_) fun h3 => gSome ?_
    · simp only [toNat_nat, and_nat, or_nat]
      refine gIte (fun h4 => gSome ⟨by omega, by simp, ⟨_, rfl, and_lt ha, fun i hi => ?_⟩, ⟨_, rfl, or_lt hb (hk2 (by omega)), fun i hi => ?_⟩⟩) fun h4 => gSome ⟨by omega, by simp, ⟨_, rfl, ha, fun i hi => ?_⟩, ⟨_, rfl, hb, fun i hi => ?_⟩⟩
      · rw [Nat.testBit_and, Bool.and_eq_true, ha' i hi]
        refine ⟨fun h5 j hj e => ?_, fun h5 => ⟨fun j hj e => h5 j (by omega) e, h5 k (by omega) h4⟩⟩
        rcases Nat.lt_or_ge j k with q | q
        · exact h5.1 j q e
        · have : j = k := by omega
          subst this; exact h5.2
      · rw [Nat.testBit_or, Bool.or_eq_true, hb' i hi]
        constructor
        · rintro (⟨j, h5, h6, h7⟩ | h5)
          · exact ⟨j, by omega, h6, h7⟩
          · exact ⟨k, by omega, h4, h5⟩
        · rintro ⟨j, h5, h6, h7⟩
          rcases Nat.lt_or_ge j k with q | q
          · exact .inl ⟨j, q, h6, h7⟩
          · have : j = k := by omega
            subst this; exact .inr h7
      · rw [ha' i hi]
        refine ⟨fun h5 j hj e => ?_, fun h5 j hj e => h5 j (by omega) e⟩
        rcases Nat.lt_or_ge j k with q | q
        · exact h5 j q e
        · have : j = k := by omega
          subst this; exact absurd e h4
      · rw [hb' i hi]
        constructor
        · rintro ⟨j, h5, h6⟩; exact ⟨j, by omega, h6⟩
        · rintro ⟨j, h5, h6, h7⟩
          rcases Nat.lt_or_ge j k with q | q
          · exact ⟨j, q, h6, h7⟩
          · have : j = k := by omega
            subst this; exact absurd h6 h4
    · have : k = 2 ^ m := by omega
      subst this
      exact ⟨⟨a, rfl, ha, ha'⟩, ⟨b, rfl, hb, hb'⟩⟩

theorem sub_Least_bad (n : Int) (f : List Int) (h : ¬ ∃ m : Nat, n = m ∧ Subm m f) : Gets (sub_Least n f) (fun r => (r.2.2.2 = 1 ∨ r.2.2.2 = 3)) := by
  unfold sub_Least
  refine gBind (sub_Check_spec n f) fun y hy => ?_
  rcases hy with ⟨_, h1⟩ | ⟨h1, _⟩
  · exact absurd h1 h
  · exact gIte (fun _ => gSome h1) fun h2 => by omega

theorem Subm.add {m : Nat} {f h g : List Int} (hf : Subm m f) (hh : Subm m h) (hl : g.length = 2 ^ m) (hg : ∀ k, k < 2 ^ m → g.getD k 0 = f.getD k 0 + h.getD k 0) (hb : ∀ k, k < 2 ^ m → -1000 ≤ g.getD k 0 ∧ g.getD k 0 ≤ 1000) : Subm m g := by
  refine ⟨⟨hf.n8, hl, hb, ?_⟩, fun s hs i hi k hk h0 => ?_⟩
  · rw [hg 0 (Nat.pow_pos (by omega)), hf.z, hh.z]; rfl
  · have hil : 2 ^ i < 2 ^ m := pow_lt hi
    have hkl : 2 ^ k < 2 ^ m := pow_lt (by omega)
    rw [hg _ (or_lt (or_lt hs hil) hkl), hg _ (or_lt hs hil), hg _ (or_lt hs hkl), hg _ hs]
    have := hf.sub s hs i hi k hk h0
    have := hh.sub s hs i hi k hk h0
    omega
theorem subm1 (a : Int) (h1 : -1000 ≤ a) (h2 : a ≤ 1000) : Subm 1 [0, a] := by
  refine ⟨⟨by omega, rfl, fun k hk => ?_, rfl⟩, fun s hs i hi k hk => by omega⟩
  match k, hk with
  | 0, _ => simp
  | 1, _ => simpa using ⟨h1, h2⟩

theorem rotakeep_SubAdds_law (n : Int) (f h : List Int) : rotakeep_SubAdds n f h = some true := by
  refine Gets.eq ?_
  unfold rotakeep_SubAdds
  refine gBind (R := fun r => r.2.2.2 = 0 ∧ r.1 = -2) ((sub_Least_spec 1 _ (subm1 (-2) (by omega) (by omega))).mono ?_) fun y hy => gIte (fun h => ?_) fun _ => ?_
  · rintro r ⟨h1, ⟨k, h2, h3⟩, h4, _, _⟩
    have h5 : r.1 ≤ -2 := h4 1 (by omega)
    match k, h2 with
    | 0, _ => have : (0 : Int) = r.1 := h3
              omega
    | 1, _ => exact ⟨h1, h3.symm⟩
  · rcases h with h | h
    · exact absurd hy.1 h
    · exact absurd hy.2 h
  refine gBind (sub_Check_spec n f) fun y1 hy1 => ?_
  refine gBind (R := fun r => (y1 = 0 → (r = 0 → ∃ m : Nat, n = m ∧ Subm m h))) (gIte (fun h1 => (sub_Check_spec n h).mono fun r hr _ h0 => ?_) fun h1 => gSome fun h2 => absurd h2 (by omega)) fun y2 hy2 => gIte (fun h1 => gSome rfl) fun h1 => ?_
  · rcases hr with ⟨_, q⟩ | ⟨q, _⟩
    · exact q
    · omega
  obtain ⟨m, rfl, hf⟩ : ∃ m : Nat, n = m ∧ Subm m f := by
    rcases hy1 with ⟨_, q⟩ | ⟨q, _⟩
    · exact q
    · omega
  obtain ⟨m', he, hh⟩ := hy2 (by omega) (by omega)
  have : m' = m := by omega
  subst this
  have h256 := pow_le8 hf.n8
  have hlf := hf.len
  have hlh := hh.len
  refine gBind (R := fun z => match z with | .inl v => v.length = 2 ^ m' ∧ (∀ k, k < 2 ^ m' → v.getD k 0 = f.getD k 0 + h.getD k 0) ∧ ∀ k, k < 2 ^ m' → -1000 ≤ v.getD k 0 ∧ v.getD k 0 ≤ 1000 | .inr rr => rr = true)
    (gFor f.length (fun k s => s.2 = (k : Int) ∧ s.1.length = k ∧ (∀ j, j < k → s.1.getD j 0 = f.getD j 0 + h.getD j 0) ∧ ∀ j, j < k → -1000 ≤ s.1.getD j 0 ∧ s.1.getD j 0 ≤ 1000) (Nat.zero_le _) ⟨rfl, rfl, fun j hj => by omega, fun j hj => by omega⟩ ?_) ?_
  · rintro k ⟨v, i⟩ hk ⟨rfl, hl, h2, h3⟩
    simp only at hl h2 h3 ⊢
    refine gIte (fun h4 => ?_) fun h4 => gSome ⟨by omega, fun j hj => h2 j (by omega), fun j hj => h3 j (by omega)⟩
    have b1 := hf.bd k (by omega)
    have b2 := hh.bd k (by omega)
    simp only [toNat_nat]
    have get : ∀ j, j < k + 1 → (v ++ [f.getD k 0 + h.getD k 0]).getD j 0 = f.getD j 0 + h.getD j 0 := fun j hj => by
      rw [List.getD_eq_getElem?_getD]
      rcases Nat.lt_or_ge j k with q | q
      · rw [List.getElem?_append_left (by omega), ← List.getD_eq_getElem?_getD, h2 j q]
      · have : j = k := by omega
        subst this
        rw [List.getElem?_append_right (by omega)]
        simp [hl]
    refine gChk (by omega) (gIte (fun h5 => gSome rfl) fun h5 => gChk (by simp; omega) (gSome ⟨by omega, by simp, by simp [hl], get, fun j hj => ?_⟩))
    simp only
    rw [get j hj]
    rcases Nat.lt_or_ge j k with q | q
    · rw [← h2 j q]; exact h3 j q
    · have : j = k := by omega
      subst this; omega
  · rintro (v | rr) hz
    · have hv := hf.add hh hz.1 hz.2.1 hz.2.2
      refine gBind (sub_Least_spec m' f hf) fun y3 h3 => gBind (sub_Least_spec m' h hh) fun y4 h4 => gBind (sub_Least_spec m' v hv) fun y5 h5 => ?_
      obtain ⟨e3, ⟨k3, l3, g3⟩, a3, _, _⟩ := h3
      obtain ⟨e4, ⟨k4, l4, g4⟩, a4, _, _⟩ := h4
      obtain ⟨e5, ⟨k5, l5, g5⟩, a5, _, _⟩ := h5
      have b3 := hf.bd k3 l3
      have b4 := hh.bd k4 l4
      refine gChk (by omega) (gSome (decide_eq_true ⟨⟨⟨e3, e4⟩, e5⟩, ?_⟩))
      have := hz.2.1 k5 l5
      have := a3 k5 l5
      have := a4 k5 l5
      omega
    · exact gSome hz
end Go.SH
