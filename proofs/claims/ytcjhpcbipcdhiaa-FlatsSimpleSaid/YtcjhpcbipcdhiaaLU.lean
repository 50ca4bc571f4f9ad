/-
  Package sub as it computes: forms, submodular functions. Conditions: none.
-/
import Derived.Test.YtcjhpcbipcdhiaaHK
import Derived.Test.YtcjhpcbipcdhiaaSpsub
set_option linter.unusedSimpArgs false
set_option linter.unusedVariables false
namespace Go.SH
open Go Go.AX

structure Form (n : Nat) (f : List Int) : Prop where
  n8 : n ≤ 8
  len : f.length = 2 ^ n
  bd : ∀ k, k < 2 ^ n → -1000 ≤ f.getD k 0 ∧ f.getD k 0 ≤ 1000
  z : f.getD 0 0 = 0

theorem sub_form_spec (n : Int) (f : List Int) : Gets (sub_form n f) (fun r => (r = 0 ∧ ∃ m : Nat, n = m ∧ Form m f) ∨ (r = 1 ∧ ¬ ∃ m : Nat, n = m ∧ Form m f)) := by
  unfold sub_form
  refine gChk (by omega) (gIte (fun h => gSome (.inr ⟨rfl, ?_⟩)) fun h => ?_)
  · rintro ⟨m, rfl, hf⟩
    have := hf.n8; have := hf.len
    rw [toNat_nat] at h
    rcases h with h | h
    · omega
    · exact h (by rw [this]; simp)
  · obtain ⟨m, rfl⟩ := Int.eq_ofNat_of_zero_le (show 0 ≤ n by omega)
    have hl : f.length = 2 ^ m := by
      rw [shl_nat] at h; omega
    have hpos : 0 < 2 ^ m := Nat.pow_pos (by omega)
    refine gBind (R := fun z => match z with | .inl _ => ∀ k, k < 2 ^ m → -1000 ≤ f.getD k 0 ∧ f.getD k 0 ≤ 1000 | .inr r => r = 1 ∧ ¬ ∀ k, k < 2 ^ m → -1000 ≤ f.getD k 0 ∧ f.getD k 0 ≤ 1000)
      (gFor f.length (fun k v => v = (k : Int) ∧ ∀ j, j < k → -1000 ≤ f.getD j 0 ∧ f.getD j 0 ≤ 1000) (Nat.zero_le _) ⟨rfl, fun j hj => absurd hj (Nat.not_lt_zero _)⟩ ?_) ?_
    · rintro k _ hk ⟨rfl, hb⟩
      refine gIte (fun h1 => gChk (by omega) (gIte (fun h2 => gSome ⟨rfl, fun h3 => ?_⟩) fun h2 => gSome ⟨by omega, by simp, fun j hj => ?_⟩)) fun h1 => gSome fun j hj => hb j (by omega)
      · have := h3 k (by omega)
        rw [toNat_nat] at h2
        omega
      · rw [toNat_nat] at h2
        rcases Nat.lt_or_ge j k with q | q
        · exact hb j q
        · have : j = k := by omega
          subst this; omega
    · rintro (u | rr) hz
      · refine gChk (by omega) (gIte (fun h2 => gSome (.inr ⟨rfl, ?_⟩)) fun h2 => gSome (.inl ⟨rfl, m, rfl, by omega, hl, hz, by simpa using h2⟩))
        rintro ⟨m', _, hf⟩
        exact h2 hf.z
      · refine gSome (.inr ⟨hz.1, ?_⟩)
        rintro ⟨m', he, hf⟩
        have : m' = m := by omega
        subst this
        exact hz.2 hf.bd

structure Subm (n : Nat) (f : List Int) : Prop extends Form n f where
  sub : ∀ s, s < 2 ^ n → ∀ i, i < n → ∀ k, k < i → s &&& (2 ^ i ||| 2 ^ k) = 0 → f.getD (s ||| 2 ^ i ||| 2 ^ k) 0 + f.getD s 0 ≤ f.getD (s ||| 2 ^ i) 0 + f.getD (s ||| 2 ^ k) 0

/-- Three counts, one in the other, till something is found. -/
theorem sub_Check_spec (n : Int) (f : List Int) : Gets (sub_Check n f) (fun r => (r = 0 ∧ ∃ m : Nat, n = m ∧ Subm m f) ∨ ((r = 1 ∨ r = 3) ∧ ¬ ∃ m : Nat, n = m ∧ Subm m f)) := by
  unfold sub_Check
  refine gBind (sub_form_spec n f) fun y hy => gIte (fun h => gSome ?_) fun h => ?_
  · rcases hy with ⟨rfl, _⟩ | ⟨rfl, hn⟩
    · exact absurd rfl h
    · exact .inr ⟨.inl rfl, fun ⟨m, h1, h2⟩ => hn ⟨m, h1, h2.toForm⟩⟩
  · obtain ⟨m, rfl, hf⟩ : ∃ m : Nat, n = m ∧ Form m f := by
      rcases hy with ⟨_, h1⟩ | ⟨h1, _⟩
      · exact h1
      · omega
    have h8 := hf.n8
    have hl := hf.len
    have h256 := pow_le8 h8
    let P : Nat → Nat → Nat → Prop := fun s i k => s &&& (2 ^ i ||| 2 ^ k) = 0 → f.getD (s ||| 2 ^ i ||| 2 ^ k) 0 + f.getD s 0 ≤ f.getD (s ||| 2 ^ i) 0 + f.getD (s ||| 2 ^ k) 0
    have step : ∀ {p : Nat → Prop} {k : Nat}, (∀ j, j < k → p j) → p k → ∀ j, j < k + 1 → p j := fun {p k} h1 h2 j hj => by
      rcases Nat.lt_or_ge j k with q | q
      · exact h1 j q
      · have : j = k := by omega
        subst this; exact h2
    refine gBind (R := fun z => match z with | .inl _ => ∀ s, s < 2 ^ m → ∀ i, i < m → ∀ k, k < i → P s i k | .inr r => r = 3 ∧ ¬ ∀ s, s < 2 ^ m → ∀ i, i < m → ∀ k, k < i → P s i k)
      (gFor f.length (fun s v => v = (s : Int) ∧ ∀ s', s' < s → ∀ i, i < m → ∀ k, k < i → P s' i k) (Nat.zero_le _) ⟨rfl, fun j hj => absurd hj (Nat.not_lt_zero _)⟩ ?_) ?_
    · rintro s _ hs ⟨rfl, hb⟩
      refine gIte (fun h1 => ?_) fun h1 => gSome fun j hj => hb j (by omega)
      refine gBind (R := fun z => match z with | .inl _ => ∀ i, i < m → ∀ k, k < i → P s i k | .inr r => r = 3 ∧ ¬ ∀ i, i < m → ∀ k, k < i → P s i k)
        (gFor m (fun i v => v = (i : Int) ∧ ∀ i', i' < i → ∀ k, k < i' → P s i' k) (Nat.zero_le _) ⟨rfl, fun j hj => absurd hj (Nat.not_lt_zero _)⟩ ?_) ?_
      · rintro i _ hi ⟨rfl, hbi⟩
        refine gIte (fun h2 => ?_) fun h2 => gSome fun j hj => hbi j (by omega)
        refine gBind (R := fun z => match z with | .inl _ => ∀ k, k < i → P s i k | .inr r => r = 3 ∧ ¬ ∀ k, k < i → P s i k)
          (gFor i (fun k v => v = (k : Int) ∧ ∀ k', k' < k → P s i k') (Nat.zero_le _) ⟨rfl, fun j hj => absurd hj (Nat.not_lt_zero _)⟩ ?_) ?_
        · rintro k _ hk ⟨rfl, hbk⟩
          refine gIte (fun h3 => ?_) fun h3 => gSome fun j hj => hbk j (by omega)
          have hsl : s < 2 ^ m := by omega
          have hil : 2 ^ i < 2 ^ m := pow_lt (by omega)
          have hkl : 2 ^ k < 2 ^ m := pow_lt (by omega)
          have q1 := or_lt hsl hil
          have q2 := or_lt hsl hkl
          have q3 := or_lt q1 hkl
          have b1 := hf.bd _ q1
          have b2 := hf.bd _ q2
          have b3 := hf.bd _ q3
          have b4 := hf.bd _ hsl
          refine gChk (by omega) ?_
          simp only [toNat_nat, shl_nat', or_nat, and_nat]
          refine gChk (by omega) (gIte (fun h4 => gSome ⟨rfl, fun h5 => ?_⟩) fun h4 => gSome ⟨by omega, by simp, step hbk fun h5 => ?_⟩)
          · have := h5 k (by omega) (by omega)
            omega
          · omega
        · rintro (u | rr) hz
          · exact gSome ⟨by omega, by simp, step hbi hz⟩
          · exact gSome ⟨hz.1, fun h4 => hz.2 fun k hk => h4 i (by omega) k hk⟩
      · rintro (u | rr) hz
        · exact gSome ⟨by omega, by simp, step hb hz⟩
        · exact gSome ⟨hz.1, fun h4 => hz.2 fun i hi => h4 s (by omega) i hi⟩
    · rintro (u | rr) hz
      · exact gSome (.inl ⟨rfl, m, rfl, hf, hz⟩)
      · refine gSome (.inr ⟨.inr hz.1, ?_⟩)
        rintro ⟨m', he, h5⟩
        have : m' = m := by omega
        subst this
        exact hz.2 h5.sub

theorem Subm.check {m : Nat} {f : List Int} (h : Subm m f) : sub_Check m f = some 0 := by
  obtain ⟨r, h1, h2⟩ := sub_Check_spec m f
  rcases h2 with ⟨rfl, _⟩ | ⟨_, hn⟩
  · exact h1
  · exact absurd ⟨m, rfl, h⟩ hn
end Go.SH
