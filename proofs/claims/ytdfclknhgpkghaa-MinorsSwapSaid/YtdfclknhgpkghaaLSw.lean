/-
  A minor is a minor: taking out s, then contracting t, is contracting t, then taking out s; the statement MinorsSwap as a plain law. Conditions: lists are no longer than 2^63 - 1.
-/
import Derived.Test.YtdfclknhgpkghaaLQ
import Derived.Test.YtdfclknhgpkghaaSkMinorsSwap
set_option linter.unusedSimpArgs false
set_option linter.unusedVariables false
namespace Go.SH
open Go Go.AX

theorem IsSet_nat {m : Nat} (h8 : m ≤ 8) (s : Int) : Gets (rotaref_IsSet m s) (fun r => r = true ↔ ∃ t : Nat, s = (t : Int) ∧ t < 2 ^ m) := by
  have hpos : 0 < 2 ^ m := Nat.pow_pos (by omega)
  unfold rotaref_IsSet
  by_cases c : ((0 ≤ (m : Int) ∧ (m : Int) ≤ 8) ∧ 0 ≤ s)
  · rw [if_pos c, rotaref_All_nat h8, Option.bind_some]
    refine gSome ?_
    rw [decide_eq_true_eq]
    constructor
    · rintro ⟨_, h⟩; exact ⟨s.toNat, by omega, by omega⟩
    · rintro ⟨t, rfl, ht⟩; exact ⟨c, by omega⟩
  · rw [if_neg c, Option.bind_some]
    refine gSome ?_
    rw [decide_eq_true_eq]
    constructor
    · rintro ⟨h, _⟩; exact absurd h c
    · rintro ⟨t, rfl, ht⟩; exact absurd ⟨⟨by omega, by omega⟩, by omega⟩ c
theorem set_ok {m : Nat} (h8 : m ≤ 8) {s : Nat} (hs : s < 2 ^ m) : sets_Check m s = some 0 := by
  unfold sets_Check
  rw [chk_pos (fun _ => by omega)]
  simp only [toNat_nat, shl_nat']
  rw [if_neg (by omega)]
theorem SameM' (n : Int) (l : List Int) : rotalaw_SameMatroid n l n l = some true := by
  unfold rotalaw_SameMatroid
  rw [if_pos rfl, SameB, Option.bind_some]
  simp
theorem two_del : minors_Delete 4 (cs twoB) 1 = some (3, cs [3, 5, 6], 0) := by
  obtain ⟨K, h1, h2, h3⟩ := mat_two.Delete_ok (s := 1) (by decide) (set_ok (by omega) (by decide))
  have e : ps 4 1 = 3 := by decide
  have f : Fam 3 [3, 5, 6] := ⟨by omega, by decide, rise_small (by decide)⟩
  have : K = [3, 5, 6] := h2.toFam.ext f fun x => by
    rw [h3]
    have key : ∀ b, b ∈ twoB → (∀ b', b' ∈ twoB → cnt 4 (b' &&& cpl 4 1) ≤ cnt 4 (b &&& cpl 4 1)) → pk 4 1 b ∈ [3, 5, 6] := by decide
    constructor
    · rintro ⟨b, hb, rfl⟩; exact key b hb.1 hb.2
    · intro hx
      have k6 : MaxK 4 twoB (cpl 4 1) 6 := ⟨by decide, by decide⟩
      have k10 : MaxK 4 twoB (cpl 4 1) 10 := ⟨by decide, by decide⟩
      have k12 : MaxK 4 twoB (cpl 4 1) 12 := ⟨by decide, by decide⟩
      simp only [List.mem_cons, List.not_mem_nil, or_false] at hx
      rcases hx with rfl | rfl | rfl
      · exact ⟨6, k6, by decide⟩
      · exact ⟨10, k10, by decide⟩
      · exact ⟨12, k12, by decide⟩
  rw [this, e] at h1
  exact h1

theorem rotakeep_MinorsSwap_law (n : Int) (l : List Int) (a b : Int) (hl : l.length ≤ 9223372036854775807) : rotakeep_MinorsSwap n l a b = some true := by
  refine Gets.eq ?_
  unfold rotakeep_MinorsSwap
  simp only [two_eq, Option.bind_some]
  refine gBindE two_del ?_
  refine gIte (fun q => absurd q (by simp)) fun _ => ?_
  obtain ⟨e, he, hs⟩ := axioms_Check_spec n l hl
  refine gBindE he ?_
  rcases hs with ⟨rfl, m, B, rfl, rfl, hM⟩ | ⟨hne, _⟩
  rotate_left
  · refine gBindE (a := false) (by rw [if_neg (by simpa using hne)]) (gBindE (a := false) (by rw [if_neg (by simp)]) (gIte (fun _ => gSome rfl) fun q => absurd (.inl (.inl (.inl hne))) q))
  have h8 := hM.m8
  rw [if_pos (by simp)]
  refine gBind (IsSet_nat h8 a) fun r1 hr1 => ?_
  cases r1 with
  | false => exact gBindE (a := false) (by rw [if_neg (by simp)]) (gIte (fun _ => gSome rfl) fun q => absurd (by simp) q)
  | true =>
    rw [if_pos (by simp)]
    refine gBind (IsSet_nat h8 b) fun r2 hr2 => ?_
    refine gIte (fun _ => gSome rfl) fun q => ?_
    have q2 : r2 = true := by
      cases r2 with
      | false => exact absurd (.inl (.inr (by simp))) q
      | true => rfl
    subst q2
    obtain ⟨s, rfl, hs⟩ := hr1.1 rfl
    obtain ⟨t, rfl, ht⟩ := hr2.1 rfl
    have hd : s &&& t = 0 := by
      have : ¬ iand (s : Int) (t : Int) ≠ 0 := fun h => q (.inr h)
      rw [and_nat] at this; omega
    have hd' : t &&& s = 0 := by rw [Nat.and_comm]; exact hd
    obtain ⟨D, d1, hD, d3⟩ := hM.Delete_ok hs (set_ok h8 hs)
    obtain ⟨C, c1, hC, c3⟩ := hM.Contract_ok ht (set_ok h8 ht)
    refine gBindE d1 (gBindE c1 (gIte (fun q => absurd q (by simp)) fun _ => ?_))
    refine gBindE (Shifted_nat h8 s t) ?_
    have p8 := ps_le m s
    have p8' := ps_le m t
    have h8s : ps m s ≤ 8 := by omega
    have h8t : ps m t ≤ 8 := by omega
    obtain ⟨C2, c21, hC2, c23⟩ := hD.Contract_ok (pk_lt m s t) (set_ok h8s (pk_lt m s t))
    refine gBindE c21 (gBindE (Shifted_nat h8 t s) ?_)
    obtain ⟨D2, d21, hD2, d23⟩ := hC.Delete_ok (pk_lt m t s) (set_ok h8t (pk_lt m t s))
    refine gBindE d21 ?_
    obtain ⟨b0, b1, b2⟩ := hM.both hs ht hd
    -- counts behind one step are counts ahead of it
    have cs1 : ∀ x, x < 2 ^ m → cnt (ps m s) (pk m s x &&& pk m s t) = cnt m (x &&& t) := fun x hx => by
      rw [← pk_and, cnt_pk]
      exact cnt_congr fun i hi => by
        rw [testBit_dif, Nat.testBit_and]
        cases h1 : t.testBit i with
        | false => simp
        | true => rw [(disj_iff t s).1 hd' i h1]; simp
    have cs2 : ∀ x, x ∈ B → cnt (ps m t) (pk m t x &&& cpl (ps m t) (pk m t s)) + cnt m (x &&& t) = cnt m (x &&& cpl m s) := fun x hx => by
      have hxm := hM.lt x hx
      rw [← pk_cpl, ← pk_and, cnt_pk, and_cpl hxm]
      have q1 := cnt_split m (dif x s) t
      have q2 : cnt m (dif x s &&& t) = cnt m (x &&& t) := cnt_congr fun i hi => by
        rw [Nat.testBit_and, Nat.testBit_and, testBit_dif]
        cases h1 : t.testBit i with
        | false => simp
        | true => rw [(disj_iff t s).1 hd' i h1]; simp
      omega
    have key : ∀ x, x ∈ C2 ↔ x ∈ D2 := fun x => by
      rw [c23, d23]
      constructor
      · rintro ⟨y, hy, rfl⟩
        obtain ⟨u, hu, rfl⟩ := (d3 y).1 hy.1
        have hum := hM.lt u hu.1
        have hut : MaxK m B t u := ⟨hu.1, fun b' hb' => by
          have r1 := hy.2 _ ((d3 _).2 ⟨b0, b1, rfl⟩)
          rw [cs1 u hum, cs1 b0 (hM.lt b0 b1.1)] at r1
          have r2 := b2.2 b' hb'
          omega⟩
        refine ⟨pk m t u, ⟨(c3 _).2 ⟨u, hut, rfl⟩, fun z hz => ?_⟩, (pk_pk hd u m).1⟩
        obtain ⟨v, hv, rfl⟩ := (c3 z).1 hz
        have r1 := cs2 u hu.1
        have r2 := cs2 v hv.1
        have r3 := hu.2 v hv.1
        have r4 := hv.2 u hu.1
        have r5 := hut.2 v hv.1
        omega
      · rintro ⟨y, hy, rfl⟩
        obtain ⟨u, hu, rfl⟩ := (c3 y).1 hy.1
        have hum := hM.lt u hu.1
        have hus : MaxK m B (cpl m s) u := ⟨hu.1, fun b' hb' => by
          have r1 := hy.2 _ ((c3 _).2 ⟨b0, b2, rfl⟩)
          have r2 := cs2 u hu.1
          have r3 := cs2 b0 b1.1
          have r4 := b1.2 b' hb'
          have r5 := hu.2 b0 b1.1
          have r6 := b2.2 u hu.1
          omega⟩
        refine ⟨pk m s u, ⟨(d3 _).2 ⟨u, hus, rfl⟩, fun z hz => ?_⟩, (pk_pk hd u m).1.symm⟩
        obtain ⟨v, hv, rfl⟩ := (d3 z).1 hz
        rw [cs1 v (hM.lt v hv.1), cs1 u hum]
        exact hu.2 v hv.1
    have e1 : C2 = D2 := hC2.toFam.ext hD2.toFam key
    subst e1
    rw [(pk_pk hd 0 m).2]
    refine gBindE (a := true) (by rw [if_pos (by simp)]; exact SameM' _ _) (gSome (by simp))
end Go.SH
