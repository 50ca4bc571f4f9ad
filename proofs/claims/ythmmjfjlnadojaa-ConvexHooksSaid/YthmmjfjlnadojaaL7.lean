/-
  The statement ConvexHooks as a plain law. Conditions: the integers are those of 64 bits.
-/
import Derived.Test.YthmmjfjlnadojaaL6
set_option linter.unusedSimpArgs false
set_option linter.unusedVariables false
namespace Go.SH
open Go Go.AX

theorem ways_congr {m : Nat} {P Q : Nat → Bool} (h : ∀ s, s < 2 ^ m → P s = Q s) : ∀ s, s < 2 ^ m → ways m P s = ways m Q s := by
  intro s
  induction s using Nat.strongRecOn with
  | ind s ih =>
    intro hs
    by_cases h0 : s = 0
    · subst h0; rw [ways_zero, ways_zero]
    · rw [ways_ne h0, ways_ne h0]
      refine sumN_congr fun i _ => ?_
      rw [h _ (dif_lt hs)]
      by_cases c : s.testBit i = true ∧ Q (dif s (2 ^ i)) = true
      · rw [if_pos c, if_pos c, ih _ (dif_lt_self c.1) (dif_lt hs)]
      · rw [if_neg c, if_neg c]
theorem pow8 {k : Nat} (h : k ≤ 8) : (8 : Int) ^ k ≤ 16777216 := by
  have : (8 : Int) ^ k ≤ 8 ^ 8 := by
    have := Nat.pow_le_pow_right (n := 8) (by omega) h
    exact_mod_cast this
  simpa using this
theorem fac_bd : ∀ k : Nat, k ≤ 8 → 0 ≤ fac k ∧ fac k ≤ 8 ^ k := by
  intro k
  induction k with
  | zero => intro _; decide
  | succ k ih =>
    intro h
    obtain ⟨h1, h2⟩ := ih (by omega)
    simp only [fac]
    refine ⟨Int.mul_nonneg h1 (by omega), ?_⟩
    rw [Int.pow_succ]
    exact Int.mul_le_mul h2 (by omega) (by omega) (Int.le_of_lt (Int.pow_pos (by omega)))
theorem mulS_bd {g : Nat → Int} {s n : Nat} (hg : ∀ i, i < n → 1 ≤ g i ∧ g i ≤ 8) : ∀ k, k ≤ n → 0 ≤ mulS g k s ∧ mulS g k s ≤ 8 ^ k := by
  intro k
  induction k with
  | zero => intro _; simp [mulS]
  | succ k ih =>
    intro h
    obtain ⟨h1, h2⟩ := ih (by omega)
    have h3 := hg k (by omega)
    simp only [mulS]
    have h4 : 1 ≤ (if s.testBit k = true then g k else 1) ∧ (if s.testBit k = true then g k else 1) ≤ 8 := by
      split
      · exact h3
      · omega
    refine ⟨Int.mul_nonneg h1 (by omega), ?_⟩
    rw [Int.pow_succ]
    exact Int.mul_le_mul h2 h4.2 (by omega) (Int.le_of_lt (Int.pow_pos (by omega)))

/-- What an element hangs below. -/
noncomputable def pk (above : List Int) (i : Nat) : Nat := if i = 0 then 0 else ((rotaref_Pick (above.getD i 0) ((i : Int) + 1)).getD 0).toNat

theorem rotakeep_ConvexHooks_law (above : List Int) (hb : ∀ x, x ∈ above → -9223372036854775808 ≤ x ∧ x ≤ 9223372036854775807) (hl : above.length ≤ 9223372036854775807) : rotakeep_ConvexHooks above = some true := by
  refine Gets.eq ?_
  unfold rotakeep_ConvexHooks
  have w1 : ways 1 (mb [0, 1]) (2 ^ 1 - 1) = 1 := by
    have e : dif (2 ^ 1 - 1) (2 ^ 0) = 0 := by decide
    rw [ways_ne (by decide)]
    simp only [sumN]
    rw [e, if_pos ⟨by decide, by decide⟩, ways_zero]; rfl
  have c1 := convex_Orders_ok anti1
  rw [w1] at c1
  refine gBindE (a := (1, 0)) c1 (gIte (fun q => by simp at q) fun _ => ?_)
  have hmin : min (above.length : Int) 8 = ((min above.length 8 : Nat) : Int) := by omega
  simp only [hmin, toNat_nat]
  obtain ⟨n, hn⟩ : ∃ n, min above.length 8 = n := ⟨_, rfl⟩
  rw [hn]
  have h8 : n ≤ 8 := by omega
  have hna : n ≤ above.length := by omega
  have hpk : ∀ i, 0 < i → i < n → rotaref_Pick (above.getD i 0) ((i : Int) + 1) = some ((pk above i : Nat) : Int) ∧ pk above i ≤ i := fun i h0 hi => by
    have hm : above.getD i 0 ∈ above := by
      rw [List.getD_eq_getElem?_getD, List.getElem?_eq_getElem (show i < above.length by omega)]
      exact List.getElem_mem _
    obtain ⟨r, q1, a, q2, q3⟩ := Pick_spec (above.getD i 0) (i + 1) (by omega) (hb _ hm).1 (hb _ hm).2
    have e : ((i + 1 : Nat) : Int) = (i : Int) + 1 := by omega
    rw [e] at q1
    have : pk above i = a := by
      unfold pk
      rw [if_neg (by omega), q1]
      simp [q2]
    rw [q1, q2, this]
    exact ⟨rfl, by omega⟩
  have hp : ∀ i, i < n → pk above i ≤ i := fun i hi => by
    rcases Nat.eq_zero_or_pos i with c | c
    · subst c; simp [pk]
    · exact (hpk i c hi).2
  generalize pk above = p at *
  have hhk : ∀ i, i < n → 1 ≤ hook n p i ∧ hook n p i ≤ 8 := fun i hi => ⟨hook_nn i, by have := hook_le hp hi; omega⟩
  refine gChk (by omega) (gChk (by omega) ?_)
  refine gBind (R := fun x : List (Int × Int) × List Int => ∃ is, x.1 = edges p is ∧ (∀ i, i ∈ is ↔ i < n ∧ p i < i) ∧ is.length ≤ 8 ∧ x.2.length = n ∧ ∀ i, i < n → x.2.getD i 0 = hook n p i)
    (gFor n (fun k (x : List (Int × Int) × List Int × Int) => x.2.2 = ((n - k : Nat) : Int) - 1 ∧ ∃ is, x.1 = edges p is ∧ (∀ i, i ∈ is ↔ i < n ∧ n - k ≤ i ∧ p i < i) ∧ is.length ≤ k ∧ x.2.1.length = n ∧ ∀ i, i < n → x.2.1.getD i 0 = if n - k ≤ i then hook n p i else pb n p (n - k) i)
      (Nat.zero_le _) ⟨rfl, [], rfl, fun i => ⟨fun q => (by cases q), fun q => (by omega)⟩, Nat.le_refl _, by simp, fun i hi => ?_⟩ ?_) ?_
  · rw [if_neg (by omega), replD, Nat.sub_zero, pb_top]
  · rintro k ⟨v, b, w⟩ hk ⟨hw, is, hv, his, hil, hbl, hbd⟩
    simp only at hw hv hbl hbd ⊢
    subst hv
    refine gIte (fun h1 => ?_) fun h1 => gSome ⟨is, rfl, fun i => ?_, by omega, hbl, fun i hi => ?_⟩
    · have hkn : k < n := by omega
      obtain ⟨c, hc⟩ : ∃ c, n - k = c + 1 := ⟨n - k - 1, by omega⟩
      have hcn : c < n := by omega
      have hck : n - (k + 1) = c := by omega
      rw [hc] at hw his hbd
      have hw' : w = (c : Int) := by omega
      subst hw'
      have hbc : b.getD c 0 = pb n p (c + 1) c := by rw [hbd c hcn, if_neg (by omega)]
      have hself := pb_self n p c
      have hpc := pb_bd hp hcn (c + 1)
      have hhc := hhk c hcn
      have e1 : b.getD c 0 + 1 = hook n p c := by rw [hbc]; omega
      simp only [toNat_nat, e1, edges_len]
      have hb1 : ∀ i, i < n → (b.set c (hook n p c)).getD i 0 = if c ≤ i then hook n p i else pb n p (c + 1) i := fun i hi => by
        rw [setD _ (by omega)]
        by_cases q : i = c
        · subst q; rw [if_pos rfl, if_pos (Nat.le_refl _)]
        · rw [if_neg q, hbd i hi]
          by_cases q2 : c + 1 ≤ i
          · rw [if_pos q2, if_pos (by omega)]
          · rw [if_neg q2, if_neg (by omega)]
      refine gChk (by omega) (gIte (fun q => gSome ⟨is, rfl, fun i => ?_, by omega, by simp [hbl], fun i hi => ?_⟩) fun q => gChk (by omega) ?_)
      · have hc0 : c = 0 := by omega
        subst hc0
        rw [his]
        constructor
        · rintro ⟨a1, a2, a3⟩; exact ⟨a1, a3⟩
        · rintro ⟨a1, a3⟩; exact ⟨a1, by omega, a3⟩
      · have hc0 : c = 0 := by omega
        subst hc0
        rw [hb1 i hi, if_pos (Nat.zero_le i)]
      · obtain ⟨a1, a2⟩ := hpk c (by omega) hcn
        refine gBindE a1 (gIte (fun q2 => ?_) fun q2 => gChk (by omega) (gSome ⟨hkn, by simp only; omega, is, rfl, fun i => ?_, by omega, by simp [hbl], fun i hi => ?_⟩))
        · have hpn : p c < n := by omega
          have hpp := pb_bd hp hpn (c + 1)
          have hpp2 := pb_bd hp hpn c
          have hst := pb_step (p := p) hcn (p c)
          rw [if_pos ⟨rfl, by omega⟩] at hst
          have e2 : (b.set c (hook n p c)).getD (p c) 0 = pb n p (c + 1) (p c) := by rw [hb1 _ hpn, if_neg (by omega)]
          have e3 : (b.set c (hook n p c)).getD c 0 = hook n p c := by rw [hb1 _ hcn, if_pos (Nat.le_refl _)]
          simp only [toNat_nat, e2, e3]
          refine gChk (by simp [edges_len]; omega) (gChk (by omega) (gChk (by omega) (gSome ⟨hkn, by simp only; omega, is ++ [c], by simp [edges], fun i => ?_, by simp; omega, by simp [hbl], fun i hi => ?_⟩)))
          · rw [hck, List.mem_append, his, List.mem_singleton]
            constructor
            · rintro (⟨b1, b2, b3⟩ | rfl)
              · exact ⟨b1, by omega, b3⟩
              · exact ⟨hcn, Nat.le_refl _, by omega⟩
            · rintro ⟨b1, b2, b3⟩
              by_cases q3 : i = c
              · exact .inr q3
              · exact .inl ⟨b1, by omega, b3⟩
          · simp only
            rw [hck, setD _ (by simp; omega)]
            by_cases q3 : i = p c
            · subst q3
              rw [if_pos rfl, if_neg (by omega), hst]
            · have hs : pb n p c i = pb n p (c + 1) i := by rw [pb_step (p := p) hcn i, if_neg (c := p c = i ∧ i < c) (fun q4 => q3 q4.1.symm), Int.add_zero]
              rw [if_neg q3, hb1 i hi, hs]
        · rw [hck, his]
          constructor
          · rintro ⟨b1, b2, b3⟩; exact ⟨b1, by omega, b3⟩
          · rintro ⟨b1, b2, b3⟩
            refine ⟨b1, ?_, b3⟩
            have : i ≠ c := fun q3 => by subst q3; omega
            omega
        · simp only
          have hs : i < c → pb n p c i = pb n p (c + 1) i := fun q3 => by rw [pb_step (p := p) hcn i, if_neg (c := p c = i ∧ i < c) (by omega), Int.add_zero]
          rw [hck, hb1 i hi]
          by_cases q3 : c ≤ i
          · rw [if_pos q3, if_pos q3]
          · rw [if_neg q3, if_neg q3, hs (by omega)]
    · have hkn : n - k = 0 := by omega
      rw [hkn] at his
      rw [his]
      constructor
      · rintro ⟨a1, a2, a3⟩; exact ⟨a1, a3⟩
      · rintro ⟨a1, a3⟩; exact ⟨a1, by omega, a3⟩
    · rw [hbd i hi, if_pos (by omega)]
  · rintro ⟨v3, v4⟩ ⟨is, hv, his, hil, hbl, hbd⟩
    simp only at hv hbl hbd ⊢
    subst hv
    have hA := ups_anti h8 hp
    have hpos : 0 < 2 ^ n := Nat.pow_pos (by omega)
    refine gBindE (convex_Ordered_ok h8 hp his hil) (gBindE (convex_Orders_ok hA) ?_)
    have hF := forest_hook hp
    have hw : ways n (mb (ups n p)) (2 ^ n - 1) = ways n (upB n p) (2 ^ n - 1) := ways_congr (fun s hs => by
      rw [Bool.eq_iff_iff]
      show decide (s ∈ ups n p) = true ↔ _
      rw [decide_eq_true_eq, mem_ups]
      exact ⟨fun q => q.2, fun q => ⟨hs, q⟩⟩) _ (by omega)
    have hcount := hF.count (mem_ups.1 hA.z).2 (mem_ups.1 hA.full).2
    rw [← hw] at hcount
    have hfull : ∀ k, k < n → (2 ^ n - 1).testBit k = true := fun k hk => by rw [Nat.testBit_two_pow_sub_one]; exact decide_eq_true hk
    refine gBind (R := fun x : Int × Int => x.1 = fac n ∧ x.2 = mulS (hook n p) n (2 ^ n - 1)) (gFor n (fun k (x : Int × Int × Int) => x.2.2 = (k : Int) ∧ x.1 = fac k ∧ x.2.1 = mulS (hook n p) k (2 ^ n - 1)) (Nat.zero_le _) ⟨rfl, rfl, rfl⟩ ?_) ?_
    · rintro k ⟨v7, v8, v9⟩ hk ⟨h1, h2, h3⟩
      simp only at h1 h2 h3 ⊢
      subst h1 h2 h3
      refine gIte (fun q => ?_) fun q => gSome ?_
      rotate_left
      · have : k = n := by omega
        subst this; exact ⟨rfl, rfl⟩
      have hkn : k < n := by omega
      have b1 := fac_bd (k + 1) (by omega)
      have b2 := mulS_bd (s := 2 ^ n - 1) hhk (k + 1) (by omega)
      have b3 := pow8 (show k + 1 ≤ 8 by omega)
      have e1 : fac (k + 1) = fac k * ((k : Int) + 1) := rfl
      have e2 : mulS (hook n p) (k + 1) (2 ^ n - 1) = mulS (hook n p) k (2 ^ n - 1) * hook n p k := by simp only [mulS, hfull k hkn, if_true]
      simp only [toNat_nat, hbd k hkn, ← e1, ← e2]
      exact gChk (by omega) (gChk (by omega) (gSome ⟨hkn, by simp, rfl, rfl⟩))
    · rintro ⟨v5, v6⟩ ⟨h1, h2⟩
      simp only at h1 h2 ⊢
      subst h1 h2
      have b1 := fac_bd n h8
      have b3 := pow8 h8
      rw [hcount]
      exact gChk (by omega) (gSome (by simp))
end Go.SH
