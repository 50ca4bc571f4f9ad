/-
  The game's functions: what they answer. Conditions: none.
-/
import Derived.Test.YthofnmjokdjppaaLGm
import Derived.Test.YthofnmjokdjppaaSpgame
set_option linter.unusedSimpArgs false
set_option linter.unusedVariables false
namespace Go.SH
open Go Go.AX

/-- A graph as the program takes it. -/
structure Gra (N : Nat) (E : List (Int × Int)) : Prop where
  n1 : 1 ≤ N
  n7 : N ≤ 7
  e8 : E.length ≤ 8
  ends : ∀ k, k < E.length → 0 ≤ (E.getD k (0, 0)).1 ∧ 0 ≤ (E.getD k (0, 0)).2 ∧ (E.getD k (0, 0)).1 < N ∧ (E.getD k (0, 0)).2 < N
theorem CheckGraph_spec (n : Int) (E : List (Int × Int)) : Gets (kinds_CheckGraph n E) (fun r => r = 0 → ∃ N : Nat, n = N ∧ Gra N E) := by
  unfold kinds_CheckGraph
  refine gIte (fun _ => gSome (by simp)) fun h => ?_
  obtain ⟨N, rfl⟩ := Int.eq_ofNat_of_zero_le (show 0 ≤ n by omega)
  refine gBind (R := fun z => match z with | .inl _ => ∀ k, k < E.length → 0 ≤ (E.getD k (0, 0)).1 ∧ 0 ≤ (E.getD k (0, 0)).2 ∧ (E.getD k (0, 0)).1 < N ∧ (E.getD k (0, 0)).2 < N | .inr r => r ≠ 0)
    (gFor E.length (fun k v => v = (k : Int) ∧ ∀ j, j < k → 0 ≤ (E.getD j (0, 0)).1 ∧ 0 ≤ (E.getD j (0, 0)).2 ∧ (E.getD j (0, 0)).1 < N ∧ (E.getD j (0, 0)).2 < N) (Nat.zero_le _) ⟨rfl, none_all⟩ ?_) ?_
  · rintro k _ hk ⟨rfl, hb⟩
    simp only [toNat_nat]
    refine gIte (fun h1 => gChk (by omega) (gIte (fun _ => gSome (show (1 : Int) ≠ 0 by omega)) fun h2 => gSome ⟨by omega, by simp, step_all hb (by omega)⟩)) fun h1 => gSome fun j hj => hb j (by omega)
  · rintro (u | rr) hz
    · exact gSome fun _ => ⟨N, rfl, by omega, by omega, by omega, hz⟩
    · exact gSome fun e => absurd e hz

theorem Gra.eA {N : Nat} {E : List (Int × Int)} (h : Gra N E) {k : Nat} (hk : k < E.length) : (E.getD k (0, 0)).1 = ((hA E k : Nat) : Int) ∧ hA E k < N := by
  have := h.ends k hk
  unfold hA
  omega
theorem Gra.eB {N : Nat} {E : List (Int × Int)} (h : Gra N E) {k : Nat} (hk : k < E.length) : (E.getD k (0, 0)).2 = ((hB E k : Nat) : Int) ∧ hB E k < N := by
  have := h.ends k hk
  unfold hB
  omega

theorem bit_iff (a i : Nat) : iand ((a : Int) / 2 ^ ((i : Int)).toNat) 1 = 1 ↔ a.testBit i = true := by
  rw [bit_nat]
  cases a.testBit i <;> simp

theorem hangs_spec {N : Nat} {E : List (Int × Int)} (hG : Gra N E) {s t : Nat} (hs : s < N) (ht : t < N) (J : Nat) : Gets (game_hangs N E s t J) (fun r => r = true ↔ Hang N E s t J) := by
  have h7 := hG.n7
  unfold game_hangs
  refine gChk (by omega) ?_
  refine gBind (R := fun r => r = ((hrn E J (2 ^ s) N : Nat) : Int)) (gFor N (fun k st => st = (((hrn E J (2 ^ s) k : Nat) : Int), (k : Int))) (Nat.zero_le _) (by simp [hrn, shl_nat]) ?_) ?_
  · rintro k ⟨a, b⟩ hk hst
    simp only [Prod.mk.injEq] at hst
    obtain ⟨rfl, rfl⟩ := hst
    simp only
    refine gIte (fun h1 => ?_) fun h1 => gSome ?_
    · refine gBind (R := fun r => r = ((hps E J (hrn E J (2 ^ s) k) E.length : Nat) : Int)) (gFor E.length (fun i st => st = (((hps E J (hrn E J (2 ^ s) k) i : Nat) : Int), (i : Int))) (Nat.zero_le _) rfl ?_) ?_
      · rintro i ⟨c, d⟩ hi hst
        simp only [Prod.mk.injEq] at hst
        obtain ⟨rfl, rfl⟩ := hst
        simp only
        refine gIte (fun h2 => ?_) fun h2 => gSome ?_
        · have hi2 : i < E.length := by omega
          obtain ⟨eA, lA⟩ := hG.eA hi2
          obtain ⟨eB, lB⟩ := hG.eB hi2
          simp only [show ((i : Int)).toNat = i from rfl, eA, eB]
          refine gChk (by omega) (gChk ⟨by omega, fun _ => by omega, fun _ => by omega⟩ ?_)
          have cc : ∀ (x : Nat), iand ((x : Int) / 2 ^ i) 1 = 1 ↔ x.testBit i = true := fun x => bit_iff x i
          refine gIte (fun h3 => gChk (by omega) (gSome ⟨by omega, ?_⟩)) fun h3 => gSome ⟨by omega, ?_⟩
          · rw [cc, bit_iff, bit_iff] at h3
            simp only [Prod.mk.injEq]
            refine ⟨?_, by simp⟩
            simp only [hps, hst, if_pos h3]
            rw [shl_nat, shl_nat, or_nat, or_nat]
          · rw [cc, bit_iff, bit_iff] at h3
            simp only [Prod.mk.injEq]
            refine ⟨?_, by simp⟩
            simp only [hps, hst, if_neg h3]
        · have : i = E.length := by omega
          subst this; rfl
      · rintro _ rfl
        exact gSome ⟨by omega, by simp [hrn]⟩
    · have : k = N := by omega
      subst this; rfl
  · rintro _ rfl
    refine gChk (by omega) (gSome ?_)
    rw [decide_eq_true_eq, bit_iff]
    exact Iff.rfl

/-! ### the table -/
def wi : Bool → Int | true => 1 | false => 0
theorem wi_inj {a b : Bool} (h : wi a = wi b) : a = b := by cases a <;> cases b <;> simp [wi] at h ⊢
def Dis (J C : Nat) : Prop := ∀ i, J.testBit i = true → C.testBit i = false
def MemOK (H : Nat → Prop) (m : Nat) (q : Memo) : Prop := ∀ (J C : Nat) (w : Bool), J < 2 ^ m → C < 2 ^ m → 0 < q.2 [(J : Int), (C : Int), wi w] → (q.2 [(J : Int), (C : Int), wi w] = 1 ↔ Win H m (cnt m (Fr m J C)) J C w)
theorem MemOK.put {H : Nat → Prop} {m : Nat} {q : Memo} (h : MemOK H m q) {J C : Nat} {w : Bool} {y : Int} (hy : y = 1 ↔ Win H m (cnt m (Fr m J C)) J C w) (n : Nat) : MemOK H m (n, putF q.2 [(J : Int), (C : Int), wi w] y) := fun J' C' w' hJ hC hp => by
  simp only [putF] at hp ⊢
  split
  · rename_i e
    simp only [List.cons.injEq, and_true] at e
    obtain ⟨e1, e2, e3⟩ := e
    have e1' : J' = J := by omega
    have e2' : C' = C := by omega
    have e3' := wi_inj e3
    subst e1' e2' e3'
    exact hy
  · rename_i e
    rw [if_neg e] at hp
    exact h J' C' w' hJ hC hp
def Tn : Nat → Nat
  | 0 => 1
  | k + 1 => 1 + (k + 1) * Tn k
theorem Tn_pos (k : Nat) : 1 ≤ Tn k := by cases k <;> simp [Tn]

theorem all_nat (m : Nat) : ((2 : Int) ^ ((m : Nat) : Int).toNat) - 1 = ((2 ^ m - 1 : Nat) : Int) := by
  have := Nat.two_pow_pos m
  rw [shl_nat]; omega

theorem wins_spec {N : Nat} {E : List (Int × Int)} (hG : Gra N E) {s t : Nat} (hs : s < N) (ht : t < N) : ∀ (fuel k J C : Nat) (w : Bool) (q : Memo), k < fuel → cnt E.length (Fr E.length J C) = k → J < 2 ^ E.length → C < 2 ^ E.length → MemOK (Hang N E s t) E.length q → q.1 + Tn k ≤ 1000000 →
    Gets (game_table_wins fuel N E s t q J C (wi w)) (fun r => (r.1 = true ↔ Win (Hang N E s t) E.length k J C w) ∧ MemOK (Hang N E s t) E.length r.2 ∧ r.2.1 ≤ q.1 + Tn k) := by
  have h8 := hG.e8
  have hp8 : 2 ^ E.length ≤ 256 := pow_le8 h8
  have hp0 := Nat.two_pow_pos E.length
  generalize hm : E.length = m at h8 hp8 hp0 ⊢
  intro fuel
  induction fuel with
  | zero => intro k _ _ _ _ hk; omega
  | succ fuel ih =>
    intro k J C w q hf hk hJ hC hq hn
    have hT := Tn_pos k
    rw [game_table_wins.eq_2]
    simp only [hm]
    refine gIte (fun h => gSome ⟨?_, hq, by simp⟩) fun h => ?_
    · have := hq J C w hJ hC h
      rw [hk] at this
      rw [decide_eq_true_eq]; exact this
    rw [all_nat]
    refine gChk (by omega) ?_
    refine gJoin (R := fun v : Memo × Bool => (v.2 = true ↔ Win (Hang N E s t) m k J C w) ∧ MemOK (Hang N E s t) m v.1 ∧ v.1.1 + 1 ≤ q.1 + Tn k) ?_ ?_
    · rintro ⟨q1, v⟩ ⟨c1, c2, c3⟩
      simp only at c1 c2 c3 ⊢
      refine gIte (fun hv => gChk (by omega) (gSome ⟨c1, c2.put ?_ _, by simpa using c3⟩)) fun hv => gChk (by omega) (gSome ⟨c1, c2.put ?_ _, by simpa using c3⟩)
      · rw [hk]; simp [← c1, hv]
      · rw [hk]; simp [← c1, hv]
    · intro j hj
      refine gBind (hangs_spec hG hs ht J) fun y hy => ?_
      refine gIte (fun h1 => hj _ ⟨by simp [win_H (hy.1 h1)], hq, by simpa using hT⟩) fun h1 => ?_
      rw [dif_nat]
      refine gBind (hangs_spec hG hs ht _) fun y1 hy1 => ?_
      have hnJ : ¬ Hang N E s t J := fun c => h1 (hy.2 c)
      obtain ⟨k', rfl⟩ | hk0 : (∃ k', k = k' + 1) ∨ k = 0 := by cases k <;> simp
      rotate_left 1
      · -- no edge is free
        subst hk0
        have hno : ¬ Hang N E s t (dif (2 ^ m - 1) C) := fun c => hnJ (Hang_mono _ _ (Fr_none hk) c)
        refine gIte (fun _ => hj _ ⟨by simpa [Win] using hnJ, hq, by simpa using hT⟩) fun h2 => absurd (hy1.1 (by simpa using h2)) hno
      refine gIte (fun h2 => hj _ ⟨?_, hq, by simpa using hT⟩) fun h2 => ?_
      · have hno : ¬ Hang N E s t (dif (2 ^ m - 1) C) := fun c => h2 (hy1.2 c)
        cases w <;> simp [Win, hnJ, hno]
      have hHA : Hang N E s t (dif (2 ^ m - 1) C) := hy1.1 (by simpa using h2)
      rw [or_nat, dif_nat]
      have eF : dif (2 ^ m - 1) (J ||| C) = Fr m J C := rfl
      rw [eF]
      have hFl := Fr_lt m J C
      have hTk : Tn (k' + 1) = 1 + (k' + 1) * Tn k' := rfl
      cases w with
      | true =>
        refine gIte (fun _ => ?_) fun hw => absurd rfl hw
        refine gBind (R := fun v : Memo × Bool => (v.2 = true ↔ ∃ i, (Fr m J C).testBit i = true ∧ Win (Hang N E s t) m k' (J ||| 2 ^ i) C false) ∧ MemOK (Hang N E s t) m v.1 ∧ v.1.1 + 1 ≤ q.1 + Tn (k' + 1))
          (gLoop (fun st : Memo × Bool × Int => ∃ X : Nat, st.2.2 = X ∧ Inc X (Fr m J C) ∧ MemOK (Hang N E s t) m st.1 ∧ st.1.1 + cnt m X * Tn k' ≤ q.1 + (k' + 1) * Tn k' ∧ (st.2.1 = true → ∃ i, (Fr m J C).testBit i = true ∧ Win (Hang N E s t) m k' (J ||| 2 ^ i) C false) ∧ (st.2.1 = false → ∀ i, (Fr m J C).testBit i = true → X.testBit i = false → ¬ Win (Hang N E s t) m k' (J ||| 2 ^ i) C false))
            (fun st => st.2.2.toNat) ⟨Fr m J C, rfl, fun _ hi => hi, hq, by simp [hk], fun c => absurd c (by simp), fun _ i hi hx => by rw [hi] at hx; cases hx⟩ ?_) ?_
        · rintro ⟨q1, v, x⟩ ⟨X, rfl, hX, c1, c2, c3, c4⟩
          simp only at c1 c2 c3 c4 ⊢
          have hXl : X < 2 ^ m := lt_of_bits fun i hi => by
            cases hb : X.testBit i with
            | false => rfl
            | true => have := hX i hb; rw [bit_ge hFl hi] at this; cases this
          refine gIte (fun h3 => ?_) fun h3 => gSome ?_
          · have hX0 : X ≠ 0 := by have := h3.1; omega
            have L := low_spec (show X < 256 by omega) hX0
            generalize lo1 X = i at L
            have hiF := hX i L.bit
            have him : i < m := bit_lt hXl L.bit
            have hcX := cnt_dif hXl L.bit
            have h2i : 2 ^ i < 2 ^ m := pow_lt him
            refine gChk (by omega) ?_
            rw [L.neg, or_nat]
            have hmul : cnt m X * Tn k' = cnt m (dif X (2 ^ i)) * Tn k' + Tn k' := by rw [hcX, Nat.add_mul, Nat.one_mul]
            refine gBind (ih k' (J ||| 2 ^ i) C false q1 (by omega) (Fr_cJ hiF hk) (or_lt hJ h2i) hC c1 (by rw [hTk] at hn; omega)) fun y2 hy2 => ?_
            obtain ⟨d1, d2, d3⟩ := hy2
            refine gChk (by omega) (gSome ⟨⟨dif X (2 ^ i), L.rest, fun j hj => hX j (by rw [testBit_dif, Bool.and_eq_true] at hj; exact hj.1), d2, by simp only; omega, fun c => ⟨i, hiF, d1.1 c⟩, fun c j hj hx => ?_⟩, ?_⟩)
            · by_cases e : i = j
              · subst e
                intro hw
                have := d1.2 hw
                simp only at c
                rw [c] at this; cases this
              · refine c4 (by have := h3.2; simpa using this) j hj ?_
                rw [testBit_dif, testBit_pow] at hx
                simpa [e] using hx
            · simp only
              rw [L.rest]
              have := L.less
              omega
          · refine ⟨⟨fun hv => c3 hv, fun ⟨i, hi, hw⟩ => ?_⟩, c1, ?_⟩
            · cases hv : v with
              | true => rfl
              | false =>
                have hx0 : X = 0 := by
                  by_cases c : X = 0
                  · exact c
                  · exact absurd ⟨by omega, by simp [hv]⟩ h3
                subst hx0
                exact absurd hw (c4 hv i hi (Nat.zero_testBit i))
            · simp only
              rw [hTk]; omega
        · rintro ⟨q1, v⟩ ⟨c1, c2, c3⟩
          refine hj _ ⟨?_, c2, c3⟩
          rw [show (v = true ↔ Win (Hang N E s t) m (k' + 1) J C true) ↔ (v = true ↔ (Hang N E s t J ∨ (Hang N E s t (dif (2 ^ m - 1) C) ∧ ∃ i, (Fr m J C).testBit i = true ∧ Win (Hang N E s t) m k' (J ||| 2 ^ i) C false))) from Iff.rfl]
          simp only at c1
          rw [c1]
          simp only [hnJ, hHA, false_or, true_and]
      | false =>
        refine gIte (fun hw => absurd hw (by decide)) fun _ => ?_
        refine gBind (R := fun v : Memo × Bool => (v.2 = true ↔ ∀ i, (Fr m J C).testBit i = true → Win (Hang N E s t) m k' J (C ||| 2 ^ i) true) ∧ MemOK (Hang N E s t) m v.1 ∧ v.1.1 + 1 ≤ q.1 + Tn (k' + 1))
          (gLoop (fun st : Memo × Bool × Int => ∃ X : Nat, st.2.2 = X ∧ Inc X (Fr m J C) ∧ MemOK (Hang N E s t) m st.1 ∧ st.1.1 + cnt m X * Tn k' ≤ q.1 + (k' + 1) * Tn k' ∧ (st.2.1 = false → ∃ i, (Fr m J C).testBit i = true ∧ ¬ Win (Hang N E s t) m k' J (C ||| 2 ^ i) true) ∧ (st.2.1 = true → ∀ i, (Fr m J C).testBit i = true → X.testBit i = false → Win (Hang N E s t) m k' J (C ||| 2 ^ i) true))
            (fun st => st.2.2.toNat) ⟨Fr m J C, rfl, fun _ hi => hi, hq, by simp [hk], fun c => absurd c (by simp), fun _ i hi hx => by rw [hi] at hx; cases hx⟩ ?_) ?_
        · rintro ⟨q1, v, x⟩ ⟨X, rfl, hX, c1, c2, c3, c4⟩
          simp only at c1 c2 c3 c4 ⊢
          have hXl : X < 2 ^ m := lt_of_bits fun i hi => by
            cases hb : X.testBit i with
            | false => rfl
            | true => have := hX i hb; rw [bit_ge hFl hi] at this; cases this
          refine gIte (fun h3 => ?_) fun h3 => gSome ?_
          · have hX0 : X ≠ 0 := by have := h3.1; omega
            have L := low_spec (show X < 256 by omega) hX0
            generalize lo1 X = i at L
            have hiF := hX i L.bit
            have him : i < m := bit_lt hXl L.bit
            have hcX := cnt_dif hXl L.bit
            have h2i : 2 ^ i < 2 ^ m := pow_lt him
            refine gChk (by omega) ?_
            rw [L.neg, or_nat]
            have hmul : cnt m X * Tn k' = cnt m (dif X (2 ^ i)) * Tn k' + Tn k' := by rw [hcX, Nat.add_mul, Nat.one_mul]
            refine gBind (ih k' J (C ||| 2 ^ i) true q1 (by omega) (Fr_cC hiF hk) hJ (or_lt hC h2i) c1 (by rw [hTk] at hn; omega)) fun y2 hy2 => ?_
            obtain ⟨d1, d2, d3⟩ := hy2
            refine gChk (by omega) (gSome ⟨⟨dif X (2 ^ i), L.rest, fun j hj => hX j (by rw [testBit_dif, Bool.and_eq_true] at hj; exact hj.1), d2, by simp only; omega, fun c => ⟨i, hiF, fun hw => ?_⟩, fun c j hj hx => ?_⟩, ?_⟩)
            · have := d1.2 hw
              simp only at c
              rw [c] at this; cases this
            · by_cases e : i = j
              · subst e
                exact d1.1 c
              · refine c4 h3.2 j hj ?_
                rw [testBit_dif, testBit_pow] at hx
                simpa [e] using hx
            · simp only
              rw [L.rest]
              have := L.less
              omega
          · refine ⟨⟨fun hv i hi => ?_, fun hall => ?_⟩, c1, ?_⟩
            · have hx0 : X = 0 := by
                by_cases c : X = 0
                · exact c
                · exact absurd ⟨by omega, hv⟩ h3
              subst hx0
              exact c4 hv i hi (Nat.zero_testBit i)
            · cases hv : v with
              | true => rfl
              | false =>
                obtain ⟨i, hi, hw⟩ := c3 hv
                exact absurd (hall i hi) hw
            · simp only
              rw [hTk]; omega
        · rintro ⟨q1, v⟩ ⟨c1, c2, c3⟩
          refine hj _ ⟨?_, c2, c3⟩
          rw [show (v = true ↔ Win (Hang N E s t) m (k' + 1) J C false) ↔ (v = true ↔ (Hang N E s t J ∨ (Hang N E s t (dif (2 ^ m - 1) C) ∧ ∀ i, (Fr m J C).testBit i = true → Win (Hang N E s t) m k' J (C ||| 2 ^ i) true))) from Iff.rfl]
          simp only at c1
          rw [c1]
          simp only [hnJ, hHA, false_or, true_and]
end Go.SH
