/-
  Orders, as they are counted; what is ordered; the statement ConvexHooks as a plain law. Conditions: lists are no longer than 2^63 - 1.
-/
import Derived.Test.YthmmjfjlnadojaaL3
import Derived.Test.YthmmjfjlnadojaaL4
import Derived.Test.YthmmjfjlnadojaaSkConvexHooks
set_option linter.unusedSimpArgs false
set_option linter.unusedVariables false
namespace Go.SH
open Go Go.AX

theorem setD {l : List Int} {k : Nat} (v : Int) (hk : k < l.length) (j : Nat) : (l.set k v).getD j 0 = if j = k then v else l.getD j 0 := by
  simp only [List.getD_eq_getElem?_getD, List.getElem?_set]
  by_cases c : k = j
  · subst c; simp [hk]
  · rw [if_neg c, if_neg fun q => c q.symm]
theorem replD (n j : Nat) : (List.replicate n (0 : Int)).getD j 0 = 0 := by
  simp only [List.getD_eq_getElem?_getD, List.getElem?_replicate]
  split <;> rfl
theorem Anti.check {m : Nat} {L : List Nat} (h : Anti m L) : convex_Check m (cs L) = some 0 := by
  obtain ⟨r, h1, h2⟩ := convex_Check_spec m (cs L) (by have := h.len; simp; omega)
  rcases h2 with ⟨rfl, _⟩ | ⟨_, hn⟩
  · exact h1
  · exact absurd ⟨m, L, rfl, rfl, h⟩ hn
def mb (L : List Nat) (s : Nat) : Bool := decide (s ∈ L)
theorem ways_bd {m : Nat} (h8 : m ≤ 8) (P : Nat → Bool) : ∀ s, s < 2 ^ m → 0 ≤ ways m P s ∧ ways m P s ≤ 8 ^ cnt m s := by
  intro s
  induction s using Nat.strongRecOn with
  | ind s ih =>
    intro hs
    by_cases h0 : s = 0
    · subst h0; rw [ways_zero, cnt_zero]; exact ⟨by omega, by simp⟩
    · rw [ways_ne h0]
      obtain ⟨i0, hi0⟩ := exists_bit h0
      have hc0 := cnt_dif hs hi0
      obtain ⟨c, hc⟩ : ∃ c, cnt m s = c + 1 := ⟨_, hc0⟩
      have each : ∀ i, i < m → 0 ≤ (if s.testBit i = true ∧ P (dif s (2 ^ i)) = true then ways m P (dif s (2 ^ i)) else 0) ∧ (if s.testBit i = true ∧ P (dif s (2 ^ i)) = true then ways m P (dif s (2 ^ i)) else 0) ≤ 8 ^ c := fun i hi => by
        by_cases q : s.testBit i = true ∧ P (dif s (2 ^ i)) = true
        · rw [if_pos q]
          have hq := ih _ (dif_lt_self q.1) (dif_lt hs)
          have e := cnt_dif hs q.1
          have hq2 : cnt m (dif s (2 ^ i)) = c := by omega
          rwa [hq2] at hq
        · rw [if_neg q]
          exact ⟨Int.le_refl _, Int.le_of_lt (Int.pow_pos (by omega))⟩
      constructor
      · have := sumN_le (n := m) (g := fun _ => 0) fun i hi => (each i hi).1
        rwa [sumN_zero] at this
      · have := sumN_le (n := m) (h := fun _ => 8 ^ c * 1) fun i hi => by rw [Int.mul_one]; exact (each i hi).2
        rw [sumN_mul, sum_one] at this
        refine Int.le_trans this ?_
        rw [hc, Int.pow_succ]
        exact Int.mul_le_mul_of_nonneg_left (by omega) (Int.le_of_lt (Int.pow_pos (by omega)))
theorem ways_small {m : Nat} (h8 : m ≤ 8) (P : Nat → Bool) {s : Nat} (hs : s < 2 ^ m) : 0 ≤ ways m P s ∧ ways m P s ≤ 16777216 := by
  obtain ⟨h1, h2⟩ := ways_bd h8 P s hs
  refine ⟨h1, Int.le_trans h2 ?_⟩
  have hc : cnt m s ≤ 8 := Nat.le_trans (cnt_le m s) h8
  have : (8 : Int) ^ cnt m s ≤ 8 ^ 8 := by
    have := Nat.pow_le_pow_right (n := 8) (by omega) hc
    exact_mod_cast this
  simpa using this

/-- Ways by the elements that are not left. -/
def part (m : Nat) (L : List Nat) (s t : Nat) : Int := sumN m fun i => if s.testBit i = true ∧ t.testBit i = false ∧ mb L (dif s (2 ^ i)) = true then ways m (mb L) (dif s (2 ^ i)) else 0
theorem part_all {m : Nat} {L : List Nat} {s : Nat} (h : s ≠ 0) : part m L s 0 = ways m (mb L) s := by
  rw [ways_ne h]
  exact sumN_congr fun i _ => by simp
theorem part_self (m : Nat) (L : List Nat) (s : Nat) : part m L s s = 0 := by
  refine (sumN_congr fun i _ => ?_).trans (sumN_zero m)
  rw [if_neg]
  rintro ⟨q, q2, _⟩
  rw [q] at q2; cases q2
theorem part_step {m : Nat} {L : List Nat} {s t i : Nat} (hi : i < m) (h1 : s.testBit i = true) (h2 : t.testBit i = true) : part m L s (dif t (2 ^ i)) = part m L s t + if mb L (dif s (2 ^ i)) = true then ways m (mb L) (dif s (2 ^ i)) else 0 := by
  refine sumN_upd hi fun j hj => ?_
  rw [testBit_dif, testBit_pow]
  by_cases c : j = i
  · subst c
    simp [h1, h2]
  · have : ¬ i = j := fun q => c q.symm
    simp [c, this]
theorem part_le {m : Nat} (h8 : m ≤ 8) {L : List Nat} {s t : Nat} (hs : s < 2 ^ m) (h0 : s ≠ 0) : 0 ≤ part m L s t ∧ part m L s t ≤ 16777216 := by
  have nn : ∀ i, i < m → ∀ c : Prop, [Decidable c] → 0 ≤ (if c then ways m (mb L) (dif s (2 ^ i)) else 0) := fun i _ c _ => by
    split
    · exact (ways_small h8 _ (dif_lt hs)).1
    · exact Int.le_refl _
  constructor
  · have := sumN_le (n := m) (g := fun _ => 0) (h := fun i => if s.testBit i = true ∧ t.testBit i = false ∧ mb L (dif s (2 ^ i)) = true then ways m (mb L) (dif s (2 ^ i)) else 0) fun i hi => nn i hi _
    rwa [sumN_zero] at this
  · refine Int.le_trans ?_ (ways_small h8 (mb L) hs).2
    rw [ways_ne h0]
    refine sumN_le fun i hi => ?_
    by_cases q : s.testBit i = true ∧ t.testBit i = false ∧ mb L (dif s (2 ^ i)) = true
    · rw [if_pos q, if_pos ⟨q.1, q.2.2⟩]; exact Int.le_refl _
    · rw [if_neg q]; exact nn i hi _

theorem convex_Orders_ok {m : Nat} {L : List Nat} (h : Anti m L) : convex_Orders m (cs L) = some (ways m (mb L) (2 ^ m - 1), 0) := by
  refine Gets.eq ?_
  have h8 := h.m8
  have h256 := pow_le8 h8
  have hpos : 0 < 2 ^ m := Nat.pow_pos (by omega)
  have hlen := h.len
  unfold convex_Orders
  simp only [toNat_nat, shl_nat', cs_len]
  refine gBindE h.check (gIte (fun q => absurd rfl q) fun _ => gChk (by omega) (gChk (by simp; omega) ?_))
  refine gBind (R := fun a : List Int => a.length = 2 ^ m ∧ ∀ s, s ∈ L → a.getD s 0 = ways m (mb L) s)
    (gFor L.length (fun k (x : List Int × Int) => x.2 = (k : Int) ∧ x.1.length = 2 ^ m ∧ x.1.getD 0 0 = 1 ∧ (∀ j, j < k → x.1.getD (L.getD j 0) 0 = ways m (mb L) (L.getD j 0)) ∧ ∀ s, s < 2 ^ m → s ≠ 0 → (∀ j, j < k → L.getD j 0 ≠ s) → x.1.getD s 0 = 0)
      (Nat.zero_le _) ⟨rfl, by simp, ?_, fun j hj => absurd hj (Nat.not_lt_zero j), fun s hs h0 _ => ?_⟩ ?_) ?_
  · rw [setD _ (by simp; omega), if_pos rfl]
  · rw [setD _ (by simp; omega), if_neg h0, replD]
  · rintro k ⟨a, v⟩ hk ⟨hv, hal, ha0, hdone, hz⟩
    simp only at hv hal ha0 hdone hz ⊢
    subst hv
    simp only [cs_get, toNat_nat]
    refine gIte (fun h1 => gChk (by omega) ?_) fun h1 => gSome ⟨hal, fun s hs => ?_⟩
    · have hk' : k < L.length := by omega
      have hmem : L.getD k 0 ∈ L := mem_getD.2 ⟨k, hk', rfl⟩
      have hs := h.lt _ hmem
      have hrise := h.rise
      have hdone' : ∀ u, u ∈ L → u < L.getD k 0 → a.getD u 0 = ways m (mb L) u := fun u hu hlt => by
        obtain ⟨j, hj, rfl⟩ := mem_getD.1 hu
        refine hdone j ?_
        rcases Nat.lt_trichotomy j k with c | c | c
        · exact c
        · subst c; omega
        · have := hrise k j c hj; omega
      have hne : ∀ j, j < k → L.getD j 0 ≠ L.getD k 0 := fun j hj => by have := hrise j k hj hk'; omega
      generalize hsk : L.getD k 0 = s at *
      refine gBind (R := fun b : List Int => b.length = 2 ^ m ∧ (∀ u, u ≠ s → b.getD u 0 = a.getD u 0) ∧ b.getD s 0 = ways m (mb L) s)
        (gLoop (fun y : List Int × Int => ∃ t : Nat, y.2 = (t : Int) ∧ Inc t s ∧ y.1.length = 2 ^ m ∧ (∀ u, u ≠ s → y.1.getD u 0 = a.getD u 0) ∧ y.1.getD s 0 = if s = 0 then 1 else part m L s t) (fun y => y.2.toNat) ⟨s, rfl, Inc.refl s, hal, fun _ _ => rfl, ?_⟩ ?_) ?_
      · by_cases c : s = 0
        · rw [if_pos c]; subst c; exact ha0
        · rw [if_neg c, part_self]; exact hz s hs c hne
      · rintro ⟨b, w⟩ ⟨t, hw, ht, hbl, hbo, hbs⟩
        simp only at hw hbl hbo hbs ⊢
        subst hw
        refine gIte (fun h2 => ?_) fun h2 => gSome ⟨hbl, hbo, ?_⟩
        · have htm := ht.lt hs
          have hlow := low_spec (show t < 256 by omega) (show t ≠ 0 by omega)
          have hless := hlow.less
          have hbit := ht _ hlow.bit
          have him := bit_lt hs hbit
          have hs0 : s ≠ 0 := fun q => by subst q; simp at hbit
          rw [if_neg hs0] at hbs
          have hstep := part_step (L := L) him hbit hlow.bit
          have hpl := part_le (L := L) (t := t) h8 hs hs0
          have hdl := dif_lt_self hbit
          have hdm : dif s (2 ^ lo1 t) < 2 ^ m := dif_lt hs
          rw [hlow.neg, hlow.rest, dif_nat]
          refine gChk (by omega) (gBindE (h.has _) ?_)
          simp only [toNat_nat]
          refine gIte (fun q => ?_) fun q => gChk (by omega) (gSome ⟨⟨_, rfl, (inc_dif _ _).trans ht, hbl, hbo, ?_⟩, by simp only [toNat_nat]; omega⟩)
          · have hin : dif s (2 ^ lo1 t) ∈ L := of_decide_eq_true q
            have hval : b.getD (dif s (2 ^ lo1 t)) 0 = ways m (mb L) (dif s (2 ^ lo1 t)) := by
              rw [hbo _ (by omega)]; exact hdone' _ hin hdl
            have hws := ways_small h8 (mb L) hdm
            simp only [hval, hbs]
            refine gChk (by omega) (gChk (by omega) (gSome ⟨⟨_, rfl, (inc_dif _ _).trans ht, by simp [hbl], fun u hu => ?_, ?_⟩, by simp only [toNat_nat]; omega⟩))
            · simp only
              rw [setD _ (by omega), if_neg hu]; exact hbo u hu
            · simp only
              rw [setD _ (by omega), if_pos rfl, if_neg hs0, hstep, if_pos (show mb L (dif s (2 ^ lo1 t)) = true from q)]
          · simp only
            rw [if_neg hs0, hstep, if_neg (show ¬ mb L (dif s (2 ^ lo1 t)) = true from q), hbs]; omega
        · have : t = 0 := by omega
          subst this
          rw [hbs]
          by_cases c : s = 0
          · rw [if_pos c]; subst c; rw [ways_zero]
          · rw [if_neg c, part_all c]
      · rintro b ⟨hbl, hbo, hbs⟩
        refine gSome ⟨hk', by simp, hbl, ?_, fun j hj => ?_, fun u hu h0 hno => ?_⟩
        · by_cases c : s = 0
          · subst c; simp only; rw [hbs, ways_zero]
          · simp only; rw [hbo 0 (fun q => c q.symm), ha0]
        · rcases Nat.lt_succ_iff_lt_or_eq.1 hj with c | rfl
          · simp only; rw [hbo _ (hne j c)]; exact hdone j c
          · simp only; rw [hsk]; exact hbs
        · have : u ≠ s := fun q => hno k (Nat.lt_succ_self k) (by rw [hsk, q])
          simp only
          rw [hbo u this]
          exact hz u hu h0 fun j hj => hno j (by omega)
    · obtain ⟨j, hj, rfl⟩ := mem_getD.1 hs
      exact hdone j (by omega)
  · rintro a ⟨hal, ha⟩
    have e1 : ((2 ^ m : Nat) : Int) - 1 = ((2 ^ m - 1 : Nat) : Int) := by omega
    rw [e1, toNat_nat, ha _ h.full]
    exact gChk (by omega) (gSome rfl)
end Go.SH
